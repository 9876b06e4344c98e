/- Families: what Check says, and the reference's. -/
import Derived.Test.YtkfbfgcflnkllaaGreatDoorProg
import Derived.KernelRfl
import Derived.Test.YtkfbfgcflnkllaaGreatDoorSyF
import Derived.Test.YtkfbfgcflnkllaaGreatDoorSxC
import Derived.Test.YtkfbfgcflnkllaaGreatDoorSyD
import Derived.ChangeSlices
import Derived.ChangeArms
namespace Go.Proofs.YtkfbfgcflnkllaaGreatDoor
open Go Go.Eng Nim
set_option maxRecDepth 100000
set_option maxHeartbeats 8000000
theorem rdI {h : Hp} {rv : Value} {zs : List Int} (hr : Rds h rv (zs.map I)) {k : Nat} (hk : k < zs.length) : ∃ p, indexAddrOp Tryz.prog 28 rv (J k) = some p ∧ loadT Tryz.prog h 3 p = some (I zs[k]) :=
  hr.read (e := 3) (by kernel_rfl) (by kernel_rfl) (by kernel_rfl) (by rw [List.getElem?_map, List.getElem?_eq_getElem hk]; rfl)
theorem rdN {h : Hp} {rv : Value} {r : List Nat} (hr : Rds h rv (r.map J)) {k : Nat} (hk : k < r.length) : ∃ p, indexAddrOp Tryz.prog 28 rv (J k) = some p ∧ loadT Tryz.prog h 3 p = some (J r[k]) :=
  hr.read (e := 3) (by kernel_rfl) (by kernel_rfl) (by kernel_rfl) (by rw [List.getElem?_map, List.getElem?_eq_getElem hk]; rfl)
theorem all_I (l : List Int) : (l.map I).all scalar = true := List.all_eq_true.2 fun v hv => by obtain ⟨n, _, rfl⟩ := List.mem_map.1 hv; rfl
theorem all_J (l : List Nat) : (l.map J).all scalar = true := List.all_eq_true.2 fun v hv => by obtain ⟨n, _, rfl⟩ := List.mem_map.1 hv; rfl
/-- What a cut of an argument, appended to none, comes to. -/
theorem raw_of (lf m : Nat) (k : Nat) (hk : k < 16777216) (zs : List Int) (x : Value) (h : Hp) (hx : Rds h x (zs.map I)) (hwf : WfS x) :
    ∃ v h', Ev lf (m + 1) 46 [x, J k] h = some (v, h') ∧ Rds h' v ((zs.take k).map I) ∧ h.Ext h' := by
  refine fnS_ok (Q := fun v h' => Rds h' v ((zs.take k).map I) ∧ h.Ext h') ?_
  have W := Sto.start h
  obtain ⟨xa, xc, hxs⟩ := hx.shape
  rw [List.length_map] at hxs
  subst hxs
  obtain ⟨K, hK, hK1, hK2, hK3⟩ : ∃ K : Nat, (if Int.ofNat k < Int.ofNat zs.length then Int.ofNat k else Int.ofNat zs.length) = Int.ofNat K ∧ K ≤ zs.length ∧ zs.take K = zs.take k ∧ K ≤ k := by
    by_cases h20 : k < zs.length
    · exact ⟨k, if_pos (by show (k : Int) < (zs.length : Int); omega), by omega, rfl, Nat.le_refl _⟩
    · exact ⟨zs.length, if_neg (by show ¬ (k : Int) < (zs.length : Int); omega), Nat.le_refl _, by rw [List.take_length, List.take_of_length_le (by omega)], by omega⟩
  obtain ⟨y, hy1, hy2⟩ := cut_row hwf hx (K := K) (by rw [List.length_map]; exact hK1)
  rw [← List.map_take, hK2] at hy2
  have hy1 : sliceOp Tryz.prog 28 (.slice xa zs.length xc) none (some (.int .i64 (Int.ofNat K))) none = some y := hy1
  rw [← hK] at hy1
  refine ok_go 2 ?_
  refine sy_any 0 (p := fun y => Rds h y ((zs.take k).map I)) (h' := h) ?_ ?_
  · cases xa with
    | none =>
      obtain ⟨h1, h2⟩ := hwf
      obtain rfl : zs = [] := List.eq_nil_of_length_eq_zero h1
      subst h2
      exact ⟨.slice none 0 0, .inl ⟨⟨_, rfl⟩, by rw [List.take_nil]; rfl⟩, by kernel_rfl⟩
    | some ra =>
      refine ⟨y, hy2, (by kernel_rfl : _ = (sliceOp Tryz.prog 28 (.slice (some ra) zs.length xc) none (some (.int .i64 (if Int.ofNat k < Int.ofNat zs.length then Int.ofNat k else Int.ofNat zs.length))) none).map (·, h)).trans ?_⟩
      rw [hy1]
      rfl
  intro y hy2
  obtain ⟨ya, yc, rfl⟩ := hy2.shape
  refine ok_go 0 ?_
  refine ow_rds 0 W slz28 hy2 (all_I _) (by rw [List.length_map, List.length_take]; omega) (by kernel_rfl) fun g2 sl2 ng2 hsl2 hsc2 W => ?_
  have RV : Rds g2 sl2 ((zs.take k).map I) := by
    rw [hsl2]
    exact osl_rd fun p hp => W.hold p (List.mem_append_right _ hp)
  obtain ⟨oa, oc, hos⟩ := RV.shape
  subst hos
  refine ok_go 0 ?_
  exact sy_done 0 (v := _) (h := g2) (by kernel_rfl) ⟨RV, W.ext⟩
/-- The number ahead of number i. -/
def lastI (zs : List Int) (i : Nat) : Int := if i = 0 then -1 else zs.getD (i - 1) 0
def badAt (n : Nat) (zs : List Int) (i : Nat) : Prop := zs.getD i 0 ≤ lastI zs i ∨ zs.getD i 0 ≥ 2 ^ n
def GoodTo (n : Nat) (zs : List Int) (k : Nat) : Prop := ∀ i, i < k → ¬ badAt n zs i
/-- What Check says: the first bad place, or none. -/
def FamR (n : Int) (zs : List Int) (e : Nat) : Prop := ((n < 0 ∨ 10 < n) ∧ e = 1) ∨ ∃ N : Nat, n = Int.ofNat N ∧ N ≤ 10 ∧ ((e = 80 ∧ ∃ i, i < zs.length ∧ GoodTo N zs i ∧ badAt N zs i) ∨ (e = 0 ∧ GoodTo N zs zs.length))
theorem FamR.uniq {n : Int} {zs : List Int} {e f : Nat} (h1 : FamR n zs e) (h2 : FamR n zs f) : e = f := by
  rcases h1 with ⟨a, rfl⟩ | ⟨N, rfl, hN, h1⟩ <;> rcases h2 with ⟨b, rfl⟩ | ⟨M, hM, hM2, h2⟩
  · rfl
  · subst hM
    have : ¬ ((Int.ofNat M) < 0 ∨ 10 < Int.ofNat M) := by rintro (h | h) <;> simp at h <;> omega
    exact absurd a this
  · have : ¬ ((Int.ofNat N) < 0 ∨ 10 < Int.ofNat N) := by rintro (h | h) <;> simp at h <;> omega
    exact absurd b this
  · cases hM
    rcases h1 with ⟨rfl, i, hi, _, hb⟩ | ⟨rfl, hg⟩ <;> rcases h2 with ⟨rfl, j, hj, _, hb2⟩ | ⟨rfl, hg2⟩
    · rfl
    · exact absurd hb (hg2 i hi)
    · exact absurd hb2 (hg j hj)
    · rfl
theorem FamR.ex (n : Int) (zs : List Int) : ∃ e, FamR n zs e := by
  by_cases h : n < 0 ∨ 10 < n
  · exact ⟨1, .inl ⟨h, rfl⟩⟩
  · obtain ⟨N, rfl⟩ := Int.eq_ofNat_of_zero_le (show 0 ≤ n by omega)
    have hN : N ≤ 10 := by simp at h; omega
    by_cases hg : GoodTo N zs zs.length
    · exact ⟨0, .inr ⟨N, rfl, hN, .inr ⟨rfl, hg⟩⟩⟩
    · have key : ∀ k, k ≤ zs.length → GoodTo N zs k ∨ ∃ i, i < k ∧ GoodTo N zs i ∧ badAt N zs i := fun k => by
        induction k with
        | zero => exact fun _ => .inl fun i hi => absurd hi (Nat.not_lt_zero i)
        | succ k ih =>
          intro hk
          rcases ih (by omega) with h | ⟨i, h1, h2, h3⟩
          · by_cases hb : badAt N zs k
            · exact .inr ⟨k, Nat.lt_succ_self k, h, hb⟩
            · refine .inl fun i hi => ?_
              rcases Nat.lt_succ_iff_lt_or_eq.1 hi with h' | rfl
              · exact h i h'
              · exact hb
          · exact .inr ⟨i, by omega, h2, h3⟩
      rcases key _ (Nat.le_refl _) with h | ⟨i, h1, h2, h3⟩
      · exact absurd h hg
      · exact ⟨80, .inr ⟨N, rfl, hN, .inl ⟨rfl, i, h1, h2, h3⟩⟩⟩
theorem chk_of (lf m : Nat) (n : Int) (zs : List Int) (hz : zs.length < 100000) (hlf : zs.length < lf) (x : Value) (h : Hp) (hx : Rds h x (zs.map I)) :
    ∃ e, FamR n zs e ∧ Ev lf (m + 1) 57 [I n, x] h = some (J e, h) := by
  suffices ∃ v h', Ev lf (m + 1) 57 [I n, x] h = some (v, h') ∧ ∃ e, FamR n zs e ∧ v = J e ∧ h' = h by
    obtain ⟨v, h', e1, e, e2, rfl, rfl⟩ := this
    exact ⟨e, e2, e1⟩
  refine fnS_ok (Q := fun v h' => ∃ e, FamR n zs e ∧ v = J e ∧ h' = h) ?_
  obtain ⟨xa, xc, hxs⟩ := hx.shape
  rw [List.length_map] at hxs
  subst hxs
  have W := Sto.start h
  by_cases h0 : n < 0
  · refine ok_go 1 ?_
    refine sy_yes 0 (b := decide (n < 0)) (by kernel_rfl) (decide_eq_true h0) ?_
    refine ok_go 3 ?_
    exact sy_done 0 (v := J 1) (h := h) (by kernel_rfl) ⟨1, .inl ⟨.inl h0, rfl⟩, rfl, rfl⟩
  refine ok_go 1 ?_
  refine sy_no 0 (b := decide (n < 0)) (by kernel_rfl) (decide_eq_false h0) ?_
  refine ok_go 3 ?_
  by_cases h10 : n > 10
  · refine sy_yes 0 (b := decide (n > 10)) (by kernel_rfl) (decide_eq_true h10) ?_
    refine ok_go 0 ?_
    exact sy_done 0 (v := J 1) (h := h) (by kernel_rfl) ⟨1, .inl ⟨.inr h10, rfl⟩, rfl, rfl⟩
  refine sy_no 0 (b := decide (n > 10)) (by kernel_rfl) (decide_eq_false h10) ?_
  obtain ⟨N, rfl⟩ := Int.eq_ofNat_of_zero_le (show 0 ≤ n by omega)
  have hN : N ≤ 10 := by have : ¬ (10 : Int) < (N : Int) := h10; omega
  have hsh := one_shl N (by omega)
  have hpw : Int.ofNat (2 ^ N) = (2 : Int) ^ N := by simp
  refine ok_go 1 ?_
  refine sy_loop 0 lf h (α := Nat) (fun i => [(0, J N), (5, I (lastI zs i)), (14, .slice xa zs.length xc), (15, J zs.length), (16, J i)]) (fun i g => i ≤ zs.length ∧ GoodTo N zs i ∧ g = h) (fun i _ => zs.length - i) 0 (by kernel_rfl) (by kernel_rfl)
    ⟨by kernel_rfl, by kernel_rfl, by kernel_rfl, by kernel_rfl, by kernel_rfl, trivial⟩ (show zs.length - 0 < lf by omega) ⟨Nat.zero_le _, fun i hi => absurd hi (Nat.not_lt_zero i), rfl⟩ ?_
  rintro m1 i F1 g ⟨hi, hG, rfl⟩ ih
  have hw : IntKind.wrap .i64 (Int.ofNat (i + 1)) = Int.ofNat (i + 1) := wrap_nat (by omega)
  refine ok_go 1 ?_
  refine sy_test 0 (decide (Int.ofNat i < Int.ofNat zs.length)) (by kernel_rfl) ?_ ?_
  · intro hlt
    have hlt : i < zs.length := ok_nat hlt
    obtain ⟨p, hp1, hp2⟩ := rdI hx hlt
    have hgd : zs.getD i 0 = zs[i] := by rw [List.getD_eq_getElem?_getD, List.getElem?_eq_getElem hlt]; rfl
    have hla : lastI zs (i + 1) = zs[i] := by unfold lastI; rw [if_neg (by omega), Nat.add_sub_cancel, hgd]
    refine ok_go 0 ?_
    refine sy_load 0 (r := indexAddrOp Tryz.prog 28 (.slice xa zs.length xc) (J i)) (h' := g) (by kernel_rfl) hp1 ?_
    refine ok_go 0 ?_
    refine sy_load 0 (r := loadT Tryz.prog g 3 p) (h' := g) (by kernel_rfl) hp2 ?_
    refine ok_go 1 ?_
    by_cases hb1 : zs[i] ≤ lastI zs i
    · refine sy_yes 0 (b := decide (zs[i] ≤ lastI zs i)) (by kernel_rfl) (decide_eq_true hb1) ?_
      refine ok_go 6 ?_
      exact sy_done 0 (v := J 80) (h := g) (by kernel_rfl) ⟨80, .inr ⟨N, rfl, hN, .inl ⟨rfl, i, hlt, hG, .inl (by rw [hgd]; exact hb1)⟩⟩, rfl, rfl⟩
    · refine sy_no 0 (b := decide (zs[i] ≤ lastI zs i)) (by kernel_rfl) (decide_eq_false hb1) ?_
      refine ok_go 8 ?_
      by_cases hb2 : zs[i] ≥ Int.ofNat (2 ^ N)
      · refine sy_yes 0 (b := decide (zs[i] ≥ IntKind.i64.wrap (1 * 2 ^ min (IntKind.u64.wrap (Int.ofNat N)).toNat IntKind.i64.bits))) (by kernel_rfl) (by rw [hsh]; exact decide_eq_true hb2) ?_
        refine ok_go 0 ?_
        exact sy_done 0 (v := J 80) (h := g) (by kernel_rfl) ⟨80, .inr ⟨N, rfl, hN, .inl ⟨rfl, i, hlt, hG, .inr (by rw [hgd, ← hpw]; exact hb2)⟩⟩, rfl, rfl⟩
      · refine sy_no 0 (b := decide (zs[i] ≥ IntKind.i64.wrap (1 * 2 ^ min (IntKind.u64.wrap (Int.ofNat N)).toNat IntKind.i64.bits))) (by kernel_rfl) (by rw [hsh]; exact decide_eq_false hb2) ?_
        refine ok_go 1 ?_
        refine sy_next 0 _ g (by kernel_rfl) (by kernel_rfl) (ih (i + 1) _ g ⟨hlt, fun j hj => ?_, rfl⟩ (show zs.length - (i + 1) < zs.length - i by omega) ⟨by kernel_rfl, (by kernel_rfl : _ = I zs[i]).trans (by rw [hla]), by kernel_rfl, by kernel_rfl, (by kernel_rfl : _ = Value.int .i64 (IntKind.wrap .i64 (Int.ofNat (i + 1)))).trans (by rw [hw]), trivial⟩)
        rcases Nat.lt_succ_iff_lt_or_eq.1 hj with h | rfl
        · exact hG j h
        · rintro (h | h)
          · rw [hgd] at h; exact hb1 h
          · rw [hgd, ← hpw] at h
            exact hb2 h
  · intro hlt
    have hlt : i = zs.length := Nat.le_antisymm hi (no_nat hlt)
    subst hlt
    refine ok_go 0 ?_
    exact sy_done 0 (v := J 0) (h := g) (by kernel_rfl) ⟨0, .inr ⟨N, rfl, hN, .inr ⟨rfl, hG⟩⟩, rfl, rfl⟩
end Go.Proofs.YtkfbfgcflnkllaaGreatDoor
namespace Go.Proofs.YtkfbfgcflnkllaaGreatDoor
open Go Go.Eng Nim
set_option maxRecDepth 100000
set_option maxHeartbeats 8000000
theorem rchk_of (lf m : Nat) (n : Int) (zs : List Int) (hz : zs.length < 100000) (hlf : zs.length < lf) (x : Value) (h : Hp) (hx : Rds h x (zs.map I)) :
    ∃ e, FamR n zs e ∧ Ev lf (m + 1) 54 [I n, x] h = some (J e, h) := by
  suffices ∃ v h', Ev lf (m + 1) 54 [I n, x] h = some (v, h') ∧ ∃ e, FamR n zs e ∧ v = J e ∧ h' = h by
    obtain ⟨v, h', e1, e, e2, rfl, rfl⟩ := this
    exact ⟨e, e2, e1⟩
  refine fnS_ok (Q := fun v h' => ∃ e, FamR n zs e ∧ v = J e ∧ h' = h) ?_
  obtain ⟨xa, xc, hxs⟩ := hx.shape
  rw [List.length_map] at hxs
  subst hxs
  have W := Sto.start h
  by_cases h0 : n < 0
  · refine ok_go 1 ?_
    refine sy_yes 0 (b := decide (n < 0)) (by kernel_rfl) (decide_eq_true h0) ?_
    refine ok_go 3 ?_
    exact sy_done 0 (v := J 1) (h := h) (by kernel_rfl) ⟨1, .inl ⟨.inl h0, rfl⟩, rfl, rfl⟩
  refine ok_go 1 ?_
  refine sy_no 0 (b := decide (n < 0)) (by kernel_rfl) (decide_eq_false h0) ?_
  refine ok_go 3 ?_
  by_cases h10 : n > 10
  · refine sy_yes 0 (b := decide (n > 10)) (by kernel_rfl) (decide_eq_true h10) ?_
    refine ok_go 0 ?_
    exact sy_done 0 (v := J 1) (h := h) (by kernel_rfl) ⟨1, .inl ⟨.inr h10, rfl⟩, rfl, rfl⟩
  refine sy_no 0 (b := decide (n > 10)) (by kernel_rfl) (decide_eq_false h10) ?_
  obtain ⟨N, rfl⟩ := Int.eq_ofNat_of_zero_le (show 0 ≤ n by omega)
  have hN : N ≤ 10 := by have : ¬ (10 : Int) < (N : Int) := h10; omega
  have hsh := one_shl N (by omega)
  have hpw : Int.ofNat (2 ^ N) = (2 : Int) ^ N := by simp
  refine ok_go 0 ?_
  refine sy_loop 0 lf h (α := Nat) (fun i => [(0, J N), (1, .slice xa zs.length xc), (5, J i)]) (fun i g => i ≤ zs.length ∧ GoodTo N zs i ∧ g = h) (fun i _ => zs.length - i) 0 (by kernel_rfl) (by kernel_rfl)
    ⟨by kernel_rfl, by kernel_rfl, by kernel_rfl, trivial⟩ (show zs.length - 0 < lf by omega) ⟨Nat.zero_le _, fun i hi => absurd hi (Nat.not_lt_zero i), rfl⟩ ?_
  rintro m1 i F1 g ⟨hi, hG, rfl⟩ ih
  have hw : IntKind.wrap .i64 (Int.ofNat (i + 1)) = Int.ofNat (i + 1) := wrap_nat (by omega)
  refine ok_go 2 ?_
  refine sy_test 0 (decide (Int.ofNat i < Int.ofNat zs.length)) (by kernel_rfl) ?_ ?_
  · intro hlt
    have hlt : i < zs.length := ok_nat hlt
    obtain ⟨p, hp1, hp2⟩ := rdI hx hlt
    have hgd : zs.getD i 0 = zs[i] := by rw [List.getD_eq_getElem?_getD, List.getElem?_eq_getElem hlt]; rfl
    have bad : ∀ {t : SA}, badAt N zs i → doneP (goS 0 t) = some (J 80, g) → Ok (fun v h' => ∃ e, FamR (Int.ofNat N) zs e ∧ v = J e ∧ h' = g) t := fun hb hd =>
      sy_done 0 (v := J 80) (h := g) hd ⟨80, .inr ⟨N, rfl, hN, .inl ⟨rfl, i, hlt, hG, hb⟩⟩, rfl, rfl⟩
    have hb0 : zs[i] < 0 → badAt N zs i := fun hz0 => by
      refine .inl ?_
      rw [hgd]
      unfold lastI
      split
      · omega
      · have := hG (i - 1) (by omega)
        have h3 : ¬ zs.getD (i - 1) 0 < 0 := fun hneg => by
          refine this (.inl ?_)
          have hne := fun k (_ : k < i) => hG k
          unfold lastI
          split
          · omega
          · have := hG (i - 1 - 1) (by omega)
            exact absurd hneg (by
              have key : ∀ k, k < i → 0 ≤ zs.getD k 0 := fun k => by
                induction k with
                | zero =>
                  intro hk
                  have := hG 0 hk
                  unfold badAt lastI at this
                  simp only [if_true] at this
                  omega
                | succ k ihk =>
                  intro hk
                  have h1 := ihk (by omega)
                  have := hG (k + 1) hk
                  unfold badAt lastI at this
                  rw [if_neg (by omega), Nat.add_sub_cancel] at this
                  omega
              have := key (i - 1) (by omega)
              omega)
        omega
    refine ok_go 0 ?_
    refine sy_load 0 (r := indexAddrOp Tryz.prog 28 (.slice xa zs.length xc) (J i)) (h' := g) (by kernel_rfl) hp1 ?_
    refine ok_go 0 ?_
    refine sy_load 0 (r := loadT Tryz.prog g 3 p) (h' := g) (by kernel_rfl) hp2 ?_
    refine ok_go 1 ?_
    by_cases hz0 : zs[i] < 0
    · refine sy_yes 0 (b := decide (zs[i] < 0)) (by kernel_rfl) (decide_eq_true hz0) ?_
      refine ok_go 14 ?_
      exact bad (hb0 hz0) (by kernel_rfl)
    refine sy_no 0 (b := decide (zs[i] < 0)) (by kernel_rfl) (decide_eq_false hz0) ?_
    refine ok_go 2 ?_
    refine sy_load 0 (r := indexAddrOp Tryz.prog 28 (.slice xa zs.length xc) (J i)) (h' := g) (by kernel_rfl) hp1 ?_
    refine ok_go 1 ?_
    refine sy_load 0 (r := loadT Tryz.prog g 3 p) (h' := g) (by kernel_rfl) hp2 ?_
    refine ok_go 8 ?_
    by_cases hb2 : zs[i] ≥ Int.ofNat (2 ^ N)
    · refine sy_yes 0 (b := decide (zs[i] ≥ IntKind.i64.wrap (1 * 2 ^ min (IntKind.u64.wrap (Int.ofNat N)).toNat IntKind.i64.bits))) (by kernel_rfl) (by rw [hsh]; exact decide_eq_true hb2) ?_
      refine ok_go 5 ?_
      exact bad (.inr (by rw [hgd, ← hpw]; exact hb2)) (by kernel_rfl)
    refine sy_no 0 (b := decide (zs[i] ≥ IntKind.i64.wrap (1 * 2 ^ min (IntKind.u64.wrap (Int.ofNat N)).toNat IntKind.i64.bits))) (by kernel_rfl) (by rw [hsh]; exact decide_eq_false hb2) ?_
    refine ok_go 3 ?_
    have next : badAt N zs i ∨ GoodTo N zs (i + 1) := by
      by_cases hb : badAt N zs i
      · exact .inl hb
      · refine .inr fun j hj => ?_
        rcases Nat.lt_succ_iff_lt_or_eq.1 hj with h | rfl
        · exact hG j h
        · exact hb
    by_cases hi0 : i = 0
    · subst hi0
      refine ok_go 15 ?_
      refine sy_next 0 _ g (by kernel_rfl) (by kernel_rfl) (ih 1 _ g ⟨hlt, next.resolve_left ?_, rfl⟩ (show zs.length - 1 < zs.length - 0 by omega) ⟨by kernel_rfl, by kernel_rfl, by kernel_rfl, trivial⟩)
      rintro (h | h)
      · rw [hgd] at h
        exact hz0 (by have h : zs[0] ≤ -1 := h; omega)
      · rw [hgd, ← hpw] at h
        exact hb2 h
    · obtain ⟨k, rfl⟩ : ∃ k, i = k + 1 := ⟨i - 1, by omega⟩
      have hk1 : IntKind.wrap .i64 (Int.ofNat (k + 1) - 1) = Int.ofNat k := wrap_sub (a := k + 1) (b := 1) (by omega) (by omega)
      obtain ⟨p2, hp3, hp4⟩ := rdI hx (show k < zs.length by omega)
      have hla : lastI zs (k + 1) = zs[k] := by unfold lastI; rw [if_neg (by omega), Nat.add_sub_cancel, List.getD_eq_getElem?_getD, List.getElem?_eq_getElem (by omega)]; rfl
      refine sy_yes 0 (b := decide (Int.ofNat (k + 1) > 0)) (by kernel_rfl) (decide_eq_true (by show (0 : Int) < ((k + 1 : Nat) : Int); omega)) ?_
      refine ok_go 4 ?_
      refine sy_load 0 (r := indexAddrOp Tryz.prog 28 (.slice xa zs.length xc) (I (IntKind.wrap .i64 (Int.ofNat (k + 1) - 1)))) (h' := g) (by kernel_rfl) (by rw [hk1]; exact hp3) ?_
      refine ok_go 1 ?_
      refine sy_load 0 (r := loadT Tryz.prog g 3 p2) (h' := g) (by kernel_rfl) hp4 ?_
      refine ok_go 3 ?_
      refine sy_load 0 (r := indexAddrOp Tryz.prog 28 (.slice xa zs.length xc) (J (k + 1))) (h' := g) (by kernel_rfl) hp1 ?_
      refine ok_go 1 ?_
      refine sy_load 0 (r := loadT Tryz.prog g 3 p) (h' := g) (by kernel_rfl) hp2 ?_
      refine ok_go 5 ?_
      by_cases hb3 : zs[k] ≥ zs[k + 1]
      · refine sy_yes 0 (b := decide (zs[k] ≥ zs[k + 1])) (by kernel_rfl) (decide_eq_true hb3) ?_
        refine ok_go 0 ?_
        exact bad (.inl (by rw [hgd, hla]; exact hb3)) (by kernel_rfl)
      · refine sy_no 0 (b := decide (zs[k] ≥ zs[k + 1])) (by kernel_rfl) (decide_eq_false hb3) ?_
        refine ok_go 1 ?_
        refine sy_next 0 _ g (by kernel_rfl) (by kernel_rfl) (ih (k + 1 + 1) _ g ⟨hlt, next.resolve_left ?_, rfl⟩ (show zs.length - (k + 1 + 1) < zs.length - (k + 1) by omega) ⟨by kernel_rfl, by kernel_rfl, (by kernel_rfl : _ = Value.int .i64 (IntKind.wrap .i64 (Int.ofNat (k + 1 + 1)))).trans (by rw [hw]), trivial⟩)
        rintro (h | h)
        · rw [hgd, hla] at h; exact hb3 h
        · rw [hgd, ← hpw] at h; exact hb2 h
  · intro hlt
    have hlt : i = zs.length := Nat.le_antisymm hi (no_nat hlt)
    subst hlt
    refine ok_go 0 ?_
    exact sy_done 0 (v := J 0) (h := g) (by kernel_rfl) ⟨0, .inr ⟨N, rfl, hN, .inr ⟨rfl, hG⟩⟩, rfl, rfl⟩
end Go.Proofs.YtkfbfgcflnkllaaGreatDoor
namespace Go.Proofs.YtkfbfgcflnkllaaGreatDoor
open Go Go.Eng Nim
set_option maxRecDepth 100000
set_option maxHeartbeats 8000000
theorem same_of (lf m : Nat) (xs ys : List Int) (hlf : xs.length < lf) (hx1 : xs.length < 2 ^ 62) (x y : Value) (g : Hp) (hx : Rds g x (xs.map I)) (hy : Rds g y (ys.map I)) : Ev lf (m + 1) 16 [x, y] g = some (.bool (decide (xs = ys)), g) := by
  refine fn_eq ?_
  obtain ⟨xa, xc, hxs⟩ := hx.shape
  obtain ⟨ya, yc, hys⟩ := hy.shape
  rw [List.length_map] at hxs hys
  subst hxs hys
  have W := Sto.start g
  refine ok_go 3 ?_
  by_cases hne : xs.length = ys.length
  · refine sy_no 0 (b := Int.ofNat xs.length != Int.ofNat ys.length) (by kernel_rfl) (by rw [hne]; exact bne_self_eq_false _) ?_
    refine ok_go 0 ?_
    refine sy_loop 0 lf g (α := Nat) (fun i => [(0, .slice xa xs.length xc), (1, .slice ya ys.length yc), (5, J i)]) (fun i g' => i ≤ xs.length ∧ xs.take i = ys.take i ∧ g' = g) (fun i _ => xs.length - i) 0 (by kernel_rfl) (by kernel_rfl)
      ⟨by kernel_rfl, by kernel_rfl, by kernel_rfl, trivial⟩ (show xs.length - 0 < lf by omega) ⟨Nat.zero_le _, rfl, rfl⟩ ?_
    rintro m1 i F1 g ⟨hi, hpre, rfl⟩ ih
    have hw : IntKind.wrap .i64 (Int.ofNat (i + 1)) = Int.ofNat (i + 1) := wrap_nat (by omega)
    refine ok_go 2 ?_
    refine sy_test 0 (decide (Int.ofNat i < Int.ofNat xs.length)) (by kernel_rfl) ?_ ?_
    · intro hlt
      have hlt : i < xs.length := ok_nat hlt
      obtain ⟨p, hp1, hp2⟩ := rdI hx hlt
      obtain ⟨q, hq1, hq2⟩ := rdI hy (show i < ys.length by omega)
      refine ok_go 0 ?_
      refine sy_load 0 (r := indexAddrOp Tryz.prog 28 (.slice xa xs.length xc) (J i)) (h' := g) (by kernel_rfl) hp1 ?_
      refine ok_go 0 ?_
      refine sy_load 0 (r := loadT Tryz.prog g 3 p) (h' := g) (by kernel_rfl) hp2 ?_
      refine ok_go 0 ?_
      refine sy_load 0 (r := indexAddrOp Tryz.prog 28 (.slice ya ys.length yc) (J i)) (h' := g) (by kernel_rfl) hq1 ?_
      refine ok_go 0 ?_
      refine sy_load 0 (r := loadT Tryz.prog g 3 q) (h' := g) (by kernel_rfl) hq2 ?_
      refine ok_go 1 ?_
      by_cases he : xs[i] = ys[i]
      · refine sy_no 0 (b := xs[i] != ys[i]) (by kernel_rfl) (by rw [he]; exact bne_self_eq_false _) ?_
        refine ok_go 1 ?_
        exact sy_next 0 _ g (by kernel_rfl) (by kernel_rfl) (ih (i + 1) _ g ⟨hlt, by rw [List.take_succ_eq_append_getElem hlt, List.take_succ_eq_append_getElem (by omega), hpre, he], rfl⟩ (show xs.length - (i + 1) < xs.length - i by omega) ⟨by kernel_rfl, by kernel_rfl, (by kernel_rfl : _ = Value.int .i64 (IntKind.wrap .i64 (Int.ofNat (i + 1)))).trans (by rw [hw]), trivial⟩)
      · refine sy_yes 0 (b := xs[i] != ys[i]) (by kernel_rfl) (bne_iff_ne.2 he) ?_
        refine ok_go 0 ?_
        refine sy_done 0 (v := .bool false) (h := g) (by kernel_rfl) ⟨?_, rfl⟩
        rw [decide_eq_false fun h => he (by subst h; rfl)]
    · intro hlt
      have hlt : i = xs.length := Nat.le_antisymm hi (no_nat hlt)
      subst hlt
      refine ok_go 0 ?_
      refine sy_done 0 (v := .bool true) (h := g) (by kernel_rfl) ⟨?_, rfl⟩
      rw [List.take_length, hne, List.take_length] at hpre
      rw [decide_eq_true hpre]
  · refine sy_yes 0 (b := Int.ofNat xs.length != Int.ofNat ys.length) (by kernel_rfl) (bne_iff_ne.2 fun h => hne (Int.ofNat.inj h)) ?_
    refine ok_go 0 ?_
    refine sy_done 0 (v := .bool false) (h := g) (by kernel_rfl) ⟨?_, rfl⟩
    rw [decide_eq_false fun h => hne (by rw [h])]
theorem x_rem {k : IntKind} {t : TypeId} {a b : Int} (hb : b ≠ 0) : pureX (binOp .rem t (.int k a) (.int k b)) = some (.int k (a.tmod b)) := by
  refine pureX_of ?_ rfl
  simp only [binOp, ne_eq, not_true_eq_false, if_false, Op.intDiv, hb]
  rfl
theorem size_of (lf m : Nat) (z : Int) (k : Nat) (hk : k < 1000000) : ∃ r : Nat, r ≤ k ∧ ∀ h, Ev lf (m + 1) 17 [I z, J k] h = some (J r, h) := by
  obtain ⟨u, hu⟩ : ∃ u : Nat, IntKind.wrap .u64 z = Int.ofNat u := Int.eq_ofNat_of_zero_le (by
    show 0 ≤ z % 2 ^ 64
    exact Int.emod_nonneg _ (by decide))
  have hk1 : IntKind.wrap .i64 (Int.ofNat k + 1) = Int.ofNat (k + 1) := wrap_add (a := k) (b := 1) (by omega)
  have hk2 : IntKind.wrap .u64 (Int.ofNat (k + 1)) = Int.ofNat (k + 1) := Int.emod_eq_of_lt (Int.natCast_nonneg _) (show ((k + 1 : Nat) : Int) < 18446744073709551616 by omega)
  have hr : u % (k + 1) ≤ k := Nat.le_of_lt_succ (Nat.mod_lt _ (Nat.succ_pos k))
  refine ⟨u % (k + 1), hr, fun h => fn_eq ?_⟩
  have hv : IntKind.wrap .i64 ((IntKind.wrap .u64 z).tmod (IntKind.wrap .u64 (IntKind.wrap .i64 (Int.ofNat k + 1)))) = Int.ofNat (u % (k + 1)) := by
    rw [hk1, hk2, hu]
    exact wrap_nat (n := u % (k + 1)) (by omega)
  refine ok_go 3 ?_
  refine sy_load 0 (r := pureX (binOp .rem 36 (.int .u64 (IntKind.wrap .u64 z)) (.int .u64 (IntKind.wrap .u64 (IntKind.wrap .i64 (Int.ofNat k + 1)))))) (h' := h) (by kernel_rfl) (x_rem (by rw [hk1, hk2]; exact fun h => absurd (Int.ofNat.inj h) (Nat.succ_ne_zero k))) ?_
  refine ok_go 1 ?_
  refine sy_done 0 (v := I (IntKind.wrap .i64 ((IntKind.wrap .u64 z).tmod (IntKind.wrap .u64 (IntKind.wrap .i64 (Int.ofNat k + 1)))))) (h := h) (by kernel_rfl) ⟨by rw [hv], rfl⟩
end Go.Proofs.YtkfbfgcflnkllaaGreatDoor
namespace Go.Proofs.YtkfbfgcflnkllaaGreatDoor
open Go Go.Eng Nim Ch
set_option maxRecDepth 100000
set_option maxHeartbeats 8000000
/-- Open elements, and partners. -/
def pmS (n s : Nat) : Nat → List Nat × List Int
  | 0 => ([], List.replicate n 0)
  | i + 1 => if s.testBit i = false then ((pmS n s i).1 ++ [i], (pmS n s i).2.set i (-1)) else match (pmS n s i).1.getLast? with
    | none => ((pmS n s i).1, (pmS n s i).2.set i (-1))
    | some k => ((pmS n s i).1.dropLast, (((pmS n s i).2.set i (-1)).set i (Int.ofNat k)).set k (Int.ofNat i))
theorem pmS_len (n s : Nat) : ∀ i, (pmS n s i).2.length = n
  | 0 => by simp [pmS]
  | i + 1 => by
    have := pmS_len n s i
    unfold pmS
    split
    · simpa using this
    · split <;> simpa using this
theorem pmS_lt (n s : Nat) : ∀ i, (∀ k ∈ (pmS n s i).1, k < i) ∧ (pmS n s i).1.length ≤ i
  | 0 => by simp [pmS]
  | i + 1 => by
    obtain ⟨h3, h4⟩ := pmS_lt n s i
    unfold pmS
    split
    · refine ⟨fun k hk => ?_, by simp; omega⟩
      rcases List.mem_append.1 hk with hk | hk
      · have := h3 k hk; omega
      · rw [List.mem_singleton.1 hk]; exact Nat.lt_succ_self i
    · split
      · exact ⟨fun k hk => by have := h3 k hk; omega, by dsimp only; omega⟩
      · exact ⟨fun x hx => by have := h3 x (List.dropLast_subset _ hx); omega, by simp; omega⟩
def pm (n s : Nat) : List Int := (pmS n s n).2
theorem make_sl {t e : TypeId} {z : Value} {inf : TypeInfo} (hu : Tryz.prog.underlying t = some (.slice e)) (hz : zeroOf Tryz.prog e = some z) (hi : Tryz.prog.info? e = some inf) (hb : Nat.ble inf.bytes 4096 = true) (hc : z.cells.toList = [z]) (hs : Nat.beq z.cells.size inf.size = true) (hsc : scalar z = true) (n : Nat) (hn : n ≤ most) (h : Hp) :
    makeSliceOp Tryz.prog h t (J n) (J n) = some (.slice (some ⟨h.next, 0, none⟩) n (2 * n), h.new (.cells (List.replicate n z) e false)) := by
  have hzz : ∀ k, zeros [z] k = List.replicate k z := fun k => by
    induction k with
    | zero => rfl
    | succ k ih => rw [zeros, ih]; rfl
  have hnn : natOf (J n) = some n := rfl
  simp only [makeSliceOp, hu, hnn, hz, hi, Nat.ble_eq_true_of_le (Nat.le_refl n), Nat.ble_eq_true_of_le hn, hb, hs, hc, List.all_cons, hsc, List.all_nil, Bool.and_true, hzz]
theorem mk28 (n : Nat) (hn : n ≤ most) (h : Hp) : makeSliceOp Tryz.prog h 28 (J n) (J n) = some (.slice (some ⟨h.next, 0, none⟩) n (2 * n), h.new (.cells (List.replicate n (J 0)) 3 false)) :=
  make_sl (by kernel_rfl) (by kernel_rfl) rfl (by kernel_rfl) rfl (by kernel_rfl) rfl n hn h
theorem mk37 (n : Nat) (hn : n ≤ most) (h : Hp) : makeSliceOp Tryz.prog h 37 (J n) (J n) = some (.slice (some ⟨h.next, 0, none⟩) n (2 * n), h.new (.cells (List.replicate n (.bool false)) 4 false)) :=
  make_sl (by kernel_rfl) (by kernel_rfl) rfl (by kernel_rfl) rfl (by kernel_rfl) rfl n hn h
theorem rmat_of (lf m : Nat) (hlf : 2000 ≤ lf) (n s : Nat) (hn : n ≤ 10) (_ : s < 1024) (h : Hp) :
    ∃ v h', Ev lf (m + 1) 61 [J n, J s] h = some (v, h') ∧ Rds h' v ((pm n s).map I) ∧ h.Ext h' := by
  refine fnS_ok (Q := fun v h' => Rds h' v ((pm n s).map I) ∧ h.Ext h') ?_
  have W := Sto.start h
  refine ok_go 0 ?_
  refine sy_call 0 (by kernel_rfl) (mk28 n (by unfold most; omega) h) ?_
  have W := W.new (.cells (List.replicate n (J 0)) 3 false)
  generalize hg1 : h.new (.cells (List.replicate n (J 0)) 3 false) = g1 at *
  have W : Sto h g1 [(h.next, .cells ((List.replicate n (0 : Int)).map I) 3 false)] := by rw [List.map_replicate]; exact W
  clear hg1
  generalize h.next = b5 at *
  have hout : ∀ (g : Hp) (cs : List Value) (R : List (Nat × AObj)), Sto h g ((b5, .cells cs 3 false) :: R) → b5 < g.next ∧ g.get b5 = some (.cells cs 3 false) := fun g cs R W => ⟨W.lt 0 rfl, W.get 0 rfl⟩
  refine ok_go 0 ?_
  refine sy_loop 0 lf g1 (α := Nat × Nat × List Value × Option Addr × Nat) (fun x => [(0, J n), (1, J s), (5, .slice (some ⟨b5, 0, none⟩) n (2 * n)), (6, .slice x.2.2.2.1 (pmS n s x.1).1.length x.2.2.2.2), (7, J x.1)]) (fun x g => x.1 ≤ n ∧ OSv x.2.1 x.2.2.1.length (pmS n s x.1).1.length (.slice x.2.2.2.1 (pmS n s x.1).1.length x.2.2.2.2) ∧ x.2.2.1.length ≤ x.1 ∧ x.2.2.1.take (pmS n s x.1).1.length = (pmS n s x.1).1.map J ∧ Sto h g ((b5, .cells ((pmS n s x.1).2.map I) 3 false) :: oent x.2.1 3 x.2.2.1)) (fun x _ => n - x.1) (0, 0, [], none, 0) (by kernel_rfl) (by kernel_rfl)
    ⟨by kernel_rfl, by kernel_rfl, by kernel_rfl, by kernel_rfl, by kernel_rfl, trivial⟩ (show n - 0 < lf by omega) ⟨Nat.zero_le n, .inl ⟨rfl, rfl, rfl⟩, Nat.le_refl _, rfl, W⟩ ?_
  clear W
  rintro m1 ⟨i, q, cs, oa, oc⟩ F1 g ⟨hi, hO, hcl, hct, W⟩ ih
  dsimp only at hi hO hcl hct W
  obtain ⟨hob, hol⟩ := pmS_lt n s i
  have hpl := pmS_len n s i
  have hw : IntKind.wrap .i64 (Int.ofNat (i + 1)) = Int.ofNat (i + 1) := wrap_nat (by omega)
  have hstep : pmS n s (i + 1) = if s.testBit i = false then ((pmS n s i).1 ++ [i], (pmS n s i).2.set i (-1)) else match (pmS n s i).1.getLast? with
    | none => ((pmS n s i).1, (pmS n s i).2.set i (-1))
    | some k => ((pmS n s i).1.dropLast, (((pmS n s i).2.set i (-1)).set i (Int.ofNat k)).set k (Int.ofNat i)) := rfl
  refine ok_go 1 ?_
  refine sy_test 0 (decide (Int.ofNat i < Int.ofNat n)) (by kernel_rfl) ?_ ?_
  · intro hlt
    have hlt : i < n := ok_nat hlt
    have hbit : s.testBit i = decide (s / 2 ^ i % 2 = 1) := Nat.testBit_eq_decide_div_mod_eq
    refine ok_go 0 ?_
    refine sy_load 0 (r := indexAddrOp Tryz.prog 28 (.slice (some ⟨b5, 0, none⟩) n (2 * n)) (J i)) (h' := g) (v := ptr b5 i) (by kernel_rfl) (idxS0 (e := 3) (by kernel_rfl) (by kernel_rfl) hlt) ?_
    refine ok_go 0 ?_
    refine ow_store (P := Tryz.prog) (T := 3) (off := i) (v := I (-1)) 0 0 W rfl (by rw [List.length_map, hpl]; exact hlt) (by kernel_rfl) rfl (by kernel_rfl) fun g2 ng2 W => ?_
    rw [← List.map_set] at W
    have W : Sto h g2 ((b5, .cells (((pmS n s i).2.set i (-1)).map I) 3 false) :: oent q 3 cs) := W
    have hdv : ((Int.ofNat s).fdiv (2 ^ min (IntKind.u64.wrap (Int.ofNat i)).toNat IntKind.i64.bits)).tmod 2 = Int.ofNat (s / 2 ^ i % 2) := by
      rw [min_v i (by omega), show (Int.ofNat s).fdiv (2 ^ i) = Int.ofNat (s / 2 ^ i) from shr_nat _ _]
      rfl
    generalize hbb : s / 2 ^ i % 2 = bb at hbit hdv
    have hbb2 : bb < 2 := by rw [← hbb]; exact Nat.mod_lt _ (by decide)
    refine ok_go 4 ?_
    refine sy_test 0 (((Int.ofNat s).fdiv (2 ^ min (IntKind.u64.wrap (Int.ofNat i)).toNat IntKind.i64.bits)).tmod 2 == 0) (by kernel_rfl) ?_ ?_
    · intro h0
      rw [hdv] at h0
      have h0 : bb = 0 := Int.ofNat.inj (eq_of_beq h0)
      have hbit : s.testBit i = false := by rw [hbit, h0]; rfl
      rw [if_pos hbit] at hstep
      refine ow_new 0 W (AObj.cells [Value.int IntKind.i64 (Int.ofNat (Prod.fst (i, q, cs, oa, oc)))] 3 false) (fun q => Value.slice (some { block := q, off := 0 }) 1 2) (by kernel_rfl) fun k1 nk1 Wk1 => ?_
      have W := Wk1
      have W : Sto h k1 ((g2.next, .cells [J i] 3 false) :: ([(b5, .cells (((pmS n s i).2.set i (-1)).map I) 3 false)] ++ oent q 3 cs)) := W
      obtain ⟨v', k2, q', cs', e2, hO', hcl', hct', hsv, W⟩ := os_app W hO rfl (by omega)
      obtain ⟨oa', oc', rfl⟩ := hO'.shape
      refine sy_call 0 (by kernel_rfl) e2 ?_
      refine ok_go 1 ?_
      exact sy_next 0 _ k2 (by kernel_rfl) (by kernel_rfl) (ih (i + 1, q', cs', oa', oc') _ k2 ⟨hlt, by dsimp only; rw [hstep, List.length_append]; exact hO', by dsimp only; omega, by dsimp only; rw [hstep, List.length_append, List.map_append, ← hct]; exact hct', by dsimp only; rw [hstep]; exact W⟩ (show n - (i + 1) < n - i by omega) ⟨by kernel_rfl, by kernel_rfl, by kernel_rfl, (by kernel_rfl : _ = Value.slice oa' ((pmS n s i).1.length + 1) oc').trans (by dsimp only; rw [hstep, List.length_append]; rfl), (by kernel_rfl : _ = Value.int .i64 (IntKind.wrap .i64 (Int.ofNat (i + 1)))).trans (by rw [hw]), trivial⟩)
    · intro h0
      rw [hdv] at h0
      have h0 : bb ≠ 0 := fun e => by rw [e] at h0; cases h0
      have hbit : s.testBit i = true := by rw [hbit]; exact decide_eq_true (by omega)
      rw [if_neg (by rw [hbit]; decide)] at hstep
      refine ok_go 2 ?_
      by_cases hlen : (pmS n s i).1.length = 0
      · have hnil : (pmS n s i).1 = [] := List.eq_nil_of_length_eq_zero hlen
        rw [show (pmS n s i).1.getLast? = none by rw [hnil]; rfl] at hstep
        refine sy_no 0 (b := decide (Int.ofNat (pmS n s i).1.length > 0)) (by kernel_rfl) (by rw [hlen]; rfl) ?_
        refine ok_go 1 ?_
        have hstep : pmS n s (i + 1) = ((pmS n s i).1, (pmS n s i).2.set i (-1)) := hstep
        exact sy_next 0 _ g2 (by kernel_rfl) (by kernel_rfl) (ih (i + 1, q, cs, oa, oc) _ g2 ⟨hlt, by dsimp only; rw [hstep]; exact hO, by dsimp only; omega, by dsimp only; rw [hstep]; exact hct, by dsimp only; rw [hstep]; exact W⟩ (show n - (i + 1) < n - i by omega) ⟨by kernel_rfl, by kernel_rfl, by kernel_rfl, (by kernel_rfl : _ = Value.slice oa (pmS n s i).1.length oc).trans (by rw [hstep]), (by kernel_rfl : _ = Value.int .i64 (IntKind.wrap .i64 (Int.ofNat (i + 1)))).trans (by rw [hw]), trivial⟩)
      · obtain ⟨L, hL⟩ : ∃ L, (pmS n s i).1.length = L + 1 := ⟨(pmS n s i).1.length - 1, by omega⟩
        have hk1 : IntKind.i64.wrap (Int.ofNat (pmS n s i).1.length - 1) = Int.ofNat L := by rw [hL]; exact wrap_sub (a := L + 1) (b := 1) (by omega) (by omega)
        obtain ⟨k, hk⟩ : ∃ k, (pmS n s i).1[L]? = some k := ⟨_, List.getElem?_eq_getElem (by omega)⟩
        have hlast : (pmS n s i).1.getLast? = some k := by rw [List.getLast?_eq_getElem?, hL]; exact hk
        have hki := hob k (List.mem_of_getElem? hk)
        rw [hlast] at hstep
        have hstep : pmS n s (i + 1) = ((pmS n s i).1.dropLast, (((pmS n s i).2.set i (-1)).set i (Int.ofNat k)).set k (Int.ofNat i)) := hstep
        obtain ⟨hc0, hlc, hv⟩ : 0 < cs.length ∧ (pmS n s i).1.length ≤ cs.length ∧ Value.slice oa (pmS n s i).1.length oc = .slice (some ⟨q, 0, none⟩) (pmS n s i).1.length (2 * cs.length + 1) := by
          rcases hO with ⟨a, b, _⟩ | hh
          · omega
          · exact hh
        cases hv
        have hcL : cs[L]? = some (J k) := by
          have : (cs.take (pmS n s i).1.length)[L]? = ((pmS n s i).1.map J)[L]? := by rw [hct]
          rw [List.getElem?_take, if_pos (by omega), List.getElem?_map, hk] at this
          exact this
        have hone : oent q 3 cs = [(q, .cells cs 3 true)] := by
          cases cs with
          | nil => cases hc0
          | cons a r => rfl
        rw [hone] at W
        refine sy_yes 0 (b := decide (Int.ofNat (pmS n s i).1.length > 0)) (by kernel_rfl) (decide_eq_true (by rw [hL]; show (0 : Int) < ((L + 1 : Nat) : Int); omega)) ?_
        refine ok_go 2 ?_
        refine sy_load 0 (r := indexAddrOp Tryz.prog 28 (.slice (some ⟨q, 0, none⟩) (pmS n s i).1.length (2 * cs.length + 1)) (I (IntKind.i64.wrap (Int.ofNat (pmS n s i).1.length - 1)))) (h' := g2) (v := ptr q L) (by kernel_rfl) (by rw [hk1]; exact idxS0 (e := 3) (by kernel_rfl) (by kernel_rfl) (by omega)) ?_
        refine ok_go 0 ?_
        refine ow_load (P := Tryz.prog) (T := 3) (off := L) 0 1 W rfl hcL (by kernel_rfl) (by kernel_rfl) ?_
        refine ok_go 2 ?_
        refine sy_load 0 (r := sliceOp Tryz.prog 28 (.slice (some ⟨q, 0, none⟩) (pmS n s i).1.length (2 * cs.length + 1)) none (some (I (IntKind.i64.wrap (Int.ofNat (pmS n s i).1.length - 1)))) none) (h' := g2) (v := .slice (some ⟨q, 0, none⟩) L (2 * cs.length + 1)) (by kernel_rfl) (by rw [hk1]; exact gl_hi (e := 3) (by kernel_rfl) (by kernel_rfl) (by omega) hc0) ?_
        refine ok_go 0 ?_
        refine sy_load 0 (r := indexAddrOp Tryz.prog 28 (.slice (some ⟨b5, 0, none⟩) n (2 * n)) (J i)) (h' := g2) (v := ptr b5 i) (by kernel_rfl) (idxS0 (e := 3) (by kernel_rfl) (by kernel_rfl) hlt) ?_
        refine ok_go 0 ?_
        refine ow_store (P := Tryz.prog) (T := 3) (off := i) (v := J k) 0 0 W rfl (by rw [List.length_map, List.length_set, hpl]; exact hlt) (by kernel_rfl) rfl (by kernel_rfl) fun g3 ng3 W => ?_
        have W : Sto h g3 [(b5, .cells ((((pmS n s i).2.set i (-1)).map I).set i (I (Int.ofNat k))) 3 false), (q, .cells cs 3 true)] := W
        rw [← List.map_set] at W
        refine ok_go 0 ?_
        refine sy_load 0 (r := indexAddrOp Tryz.prog 28 (.slice (some ⟨b5, 0, none⟩) n (2 * n)) (J k)) (h' := g3) (v := ptr b5 k) (by kernel_rfl) (idxS0 (e := 3) (by kernel_rfl) (by kernel_rfl) (by omega)) ?_
        refine ok_go 0 ?_
        refine ow_store (P := Tryz.prog) (T := 3) (off := k) (v := J i) 0 0 W rfl (by rw [List.length_map, List.length_set, List.length_set, hpl]; omega) (by kernel_rfl) rfl (by kernel_rfl) fun g4 ng4 W => ?_
        have W : Sto h g4 [(b5, .cells (((((pmS n s i).2.set i (-1)).set i (Int.ofNat k)).map I).set k (I (Int.ofNat i))) 3 false), (q, .cells cs 3 true)] := W
        rw [← List.map_set, ← hone] at W
        have hdl : (pmS n s i).1.dropLast.length = L := by rw [List.length_dropLast]; omega
        refine ok_go 1 ?_
        exact sy_next 0 _ g4 (by kernel_rfl) (by kernel_rfl) (ih (i + 1, q, cs, some ⟨q, 0, none⟩, 2 * cs.length + 1) _ g4 ⟨hlt, by dsimp only; rw [hstep]; dsimp only; rw [hdl]; exact .inr ⟨hc0, by omega, rfl⟩, by dsimp only; omega, by
          dsimp only
          rw [hstep]
          dsimp only
          rw [hdl, List.dropLast_eq_take, hL, Nat.add_sub_cancel, List.map_take, ← hct, List.take_take, Nat.min_eq_left (by omega)], by dsimp only; rw [hstep]; exact W⟩ (show n - (i + 1) < n - i by omega) ⟨by kernel_rfl, by kernel_rfl, by kernel_rfl, (by kernel_rfl : _ = Value.slice (some ⟨q, 0, none⟩) L (2 * cs.length + 1)).trans (by rw [hstep]; dsimp only; rw [hdl]), (by kernel_rfl : _ = Value.int .i64 (IntKind.wrap .i64 (Int.ofNat (i + 1)))).trans (by rw [hw]), trivial⟩)
  · intro hlt
    have hlt : i = n := Nat.le_antisymm hi (no_nat hlt)
    subst hlt
    refine ok_go 0 ?_
    refine sy_done 0 (v := .slice (some ⟨b5, 0, none⟩) i (2 * i)) (h := g) (by kernel_rfl) ⟨?_, W.ext⟩
    obtain ⟨h1, h2⟩ := hout g _ _ W
    refine .inr ⟨b5, 0, _, by rw [List.length_map]; unfold pm; rw [hpl], fun _ => ⟨h1, ?_⟩⟩
    unfold loadN
    rw [h2]
    exact takeN_all _
end Go.Proofs.YtkfbfgcflnkllaaGreatDoor
namespace Go.Proofs.YtkfbfgcflnkllaaGreatDoor
open Go Go.Eng Nim Ch
set_option maxRecDepth 100000
/-- Partners out of brackets. -/
def decS (n M C : Nat) : Nat → List Nat × List Int
  | 0 => ([], List.replicate n 0)
  | i + 1 => (fun p : List Nat × List Int => if M.testBit i = false then (p.1, p.2.set i (-1)) else if C.testBit i = false then (p.1 ++ [i], p.2.set i (-1)) else match p.1.getLast? with
    | none => (p.1, p.2.set i (-1))
    | some k => (p.1.dropLast, ((p.2.set i (-1)).set i (Int.ofNat k)).set k (Int.ofNat i))) (decS n M C i)
def decP (n M C : Nat) : List Int := (decS n M C n).2
def encM : Nat → List Int → Nat
  | _, [] => 0
  | i, x :: l => (if x = -1 then 0 else 2 ^ i) + encM (i + 1) l
def encC : Nat → List Int → Nat
  | _, [] => 0
  | i, x :: l => (if x = -1 ∨ x > Int.ofNat i then 0 else 2 ^ i) + encC (i + 1) l
theorem same_all : (allB 8 fun n => allB (2 ^ n) fun s => decide (pm n s = decP n (matM n s) (matC n s)) && decide (matM n s = encM 0 (pm n s)) && decide (matC n s = encC 0 (pm n s))) = true := by kernel_rfl
theorem pm_iff {n s t : Nat} (hn : n ≤ 7) (hs : s < 2 ^ n) (ht : t < 2 ^ n) : pm n s = pm n t ↔ matM n s = matM n t ∧ matC n s = matC n t := by
  have h := allB_ok same_all n (by omega)
  have h1 := allB_ok h s hs
  have h2 := allB_ok h t ht
  simp only [Bool.and_eq_true, decide_eq_true_eq] at h1 h2
  obtain ⟨⟨a1, a2⟩, a3⟩ := h1
  obtain ⟨⟨b1, b2⟩, b3⟩ := h2
  constructor
  · intro h
    exact ⟨by rw [a2, b2, h], by rw [a3, b3, h]⟩
  · rintro ⟨h1, h2⟩
    rw [a1, b1, h1, h2]
end Go.Proofs.YtkfbfgcflnkllaaGreatDoor
namespace Go.Proofs.YtkfbfgcflnkllaaGreatDoor
open Go Go.Eng Nim Ch
set_option maxRecDepth 100000
set_option maxHeartbeats 8000000
theorem idx_none {M C : Nat} : ∀ {gs : List Grp}, (∀ j (hj : j < gs.length), ¬ (gs[j].1 = M ∧ gs[j].2.1 = C)) → idxG gs M C = none
  | [], _ => rfl
  | g :: r, h => by
    rw [idxG_cons, if_neg (show ¬ (g.1 = M ∧ g.2.1 = C) from h 0 (by simp)), idx_none fun j hj => h (j + 1) (by simpa using hj)]
    rfl
theorem idx_some {M C : Nat} : ∀ {gs : List Grp} {k : Nat} (hk : k < gs.length), (∀ j (_ : j < k) (hj : j < gs.length), ¬ (gs[j].1 = M ∧ gs[j].2.1 = C)) → (gs[k].1 = M ∧ gs[k].2.1 = C) → idxG gs M C = some k
  | [], k, hk, _, _ => by cases hk
  | g :: r, 0, _, _, h => by rw [idxG_cons, if_pos (show g.1 = M ∧ g.2.1 = C from h)]
  | g :: r, k + 1, hk, h, h2 => by
    rw [idxG_cons, if_neg (show ¬ (g.1 = M ∧ g.2.1 = C) from h 0 (Nat.succ_pos k) (by simp)), idx_some (gs := r) (k := k) (by simpa using hk) (fun j hj hl => h (j + 1) (by omega) (by simpa using hl)) h2]
    rfl
/-- The reference's rows: one made by a literal, the longer ones by append. -/
def rvV (i n : Nat) : Value := .slice (some ⟨i, 0, none⟩) n (bif Nat.beq n 1 then 2 else 2 * n + 1)
def robj (row : List Nat) : AObj := .cells (row.map J) 3 (!Nat.beq row.length 1)
def rvals (ids : List Nat) (gs : List Grp) : List Value := List.zipWith (fun i (g : Grp) => rvV i g.2.2.length) ids gs
def rblks (ids : List Nat) (gs : List Grp) : List (Nat × AObj) := List.zipWith (fun i (g : Grp) => (i, robj g.2.2)) ids gs
theorem zip_set {α β γ : Type} (f : α → β → γ) : ∀ (l1 : List α) (l2 : List β) (i : Nat) (a : α) (b : β), List.zipWith f (l1.set i a) (l2.set i b) = (List.zipWith f l1 l2).set i (f a b)
  | [], _, _, _, _ => rfl
  | _ :: _, [], i, _, _ => by cases i <;> rfl
  | _ :: _, _ :: _, 0, _, _ => rfl
  | x :: l1, y :: l2, i + 1, a, b => by
    simp only [List.set_cons_succ, List.zipWith_cons_cons, zip_set f l1 l2 i a b]
theorem zip_get {α β γ : Type} (f : α → β → γ) {l1 : List α} {l2 : List β} {i : Nat} {a : α} {b : β} (h1 : l1[i]? = some a) (h2 : l2[i]? = some b) : (List.zipWith f l1 l2)[i]? = some (f a b) := by
  rw [List.getElem?_zipWith, h1, h2]
theorem perm_at {α : Type} : ∀ {l : List α} {i : Nat} {x : α}, l[i]? = some x → l.Perm (l.eraseIdx i ++ [x])
  | [], _, _, h => by simp at h
  | y :: l, 0, x, h => by cases h; exact (List.perm_append_comm (l₁ := [y]) (l₂ := l))
  | y :: l, i + 1, x, h => (perm_at (l := l) (i := i) (by simpa using h)).cons y
theorem perm_set {α : Type} : ∀ {l : List α} {i : Nat} (y : α), i < l.length → (l.eraseIdx i ++ [y]).Perm (l.set i y)
  | [], _, _, h => by cases h
  | z :: l, 0, y, _ => (List.perm_append_comm (l₁ := l) (l₂ := [y]))
  | z :: l, i + 1, y, h => (perm_set (l := l) (i := i) y (by simpa using h)).cons z
theorem rblks_len {ids : List Nat} {gs : List Grp} (h : ids.length = gs.length) : (rblks ids gs).length = gs.length := by
  unfold rblks
  rw [List.length_zipWith, h, Nat.min_self]
theorem rvals_len {ids : List Nat} {gs : List Grp} (h : ids.length = gs.length) : (rvals ids gs).length = gs.length := by
  unfold rvals
  rw [List.length_zipWith, h, Nat.min_self]
theorem rv_sc (i n : Nat) : scalar (rvV i n) = true := rfl
theorem app_row {h H : Hp} {l : List (Nat × AObj)} {i j s : Nat} {row : List Nat} (W : Sto h H ((j, .cells [J s] 3 false) :: (l ++ [(i, robj row)]))) (hr : row ≠ []) (hl : row.length ≤ 2000) :
    ∃ H', appendOp Tryz.prog H 28 (rvV i row.length) (.slice (some ⟨j, 0, none⟩) 1 2) = some (rvV H.next (row ++ [s]).length, H') ∧ Sto h H' (l ++ [(H.next, robj (row ++ [s]))]) := by
  have hj : H.get j = some (.cells [J s] 3 false) := W.get 0 rfl
  have hel : elems H 1 (0 + 1) (.slice (some ⟨j, 0, none⟩) 1 2) = some [J s] := by
    simp only [elems, loadN, hj]; rfl
  have W := W.sub (List.sublist_cons_self ..)
  cases row with
  | nil => exact absurd rfl hr
  | cons a r =>
  cases r with
  | nil =>
    have hi : H.get i = some (.cells [J a] 3 false) := W.get l.length (by rw [List.getElem?_append_right (Nat.le_refl _), Nat.sub_self]; rfl)
    obtain ⟨inf, hi1, hi2⟩ := slz28.i
    obtain ⟨zv, hz1, hz2⟩ := slz28.zr
    have h3 : loadN H i 0 (1 * 1) = some [J a] := by unfold loadN; rw [hi]; rfl
    refine ⟨H.new (.cells ([J a] ++ [J s]) 3 true), ?_, ?_⟩
    · show appendOp Tryz.prog H 28 (.slice (some ⟨i, 0, none⟩) 1 2) (.slice (some ⟨j, 0, none⟩) 1 2) = _
      simp only [appendOp, slz28.u, slz28.s, hi1, hz1, show lenV (.slice (some ⟨j, 0, none⟩) 1 2) = some 1 from rfl, show elems H 1 1 (.slice (some ⟨j, 0, none⟩) 1 2) = some [J s] from hel, hz2, hi2, show ([J s].all scalar) = true from rfl, show Nat.ble (1 + 1) most = true from rfl, show Nat.ble (1 + 1) (2 / 2) = false from rfl, h3]
      rfl
    · have W1 := (W.sub (List.sublist_append_left ..)).new (.cells ([J a] ++ [J s]) 3 true)
      exact W1.perm (List.perm_append_comm (l₁ := [(H.next, AObj.cells [J a, J s] 3 true)]) (l₂ := l))
  | cons b r =>
    obtain ⟨H', e1, _, W'⟩ := append_sto (P := Tryz.prog) (t := 28) (e := 3) (z := 1) (n := (a :: b :: r).length) (m := 0) (i := i) (l := l) (zs := (a :: b :: r).map J) (new := [J s]) (x := .slice (some ⟨j, 0, none⟩) 1 2) W slz28 (by rw [List.length_map, Nat.mul_one]) rfl rfl hel rfl (by omega)
    refine ⟨H', ?_, ?_⟩
    · refine Eq.trans (show _ = appendOp Tryz.prog H 28 (oslV i (a :: b :: r).length) (.slice (some ⟨j, 0, none⟩) 1 2) from rfl) (e1.trans ?_)
      rw [List.length_append]
      rfl
    · have : oent H.next 3 ((a :: b :: r).map J ++ [J s]) = [(H.next, robj ((a :: b :: r) ++ [s]))] := by
        unfold robj
        rw [List.map_append]
        rfl
      rw [this] at W'
      exact W'
theorem rchains_of (lf m : Nat) (hlf : 20000 ≤ lf) (n : Nat) (hn : n ≤ 7) (h : Hp)
    (rm : ∀ s h, s < 1024 → ∃ v h', Ev lf m 61 [J n, J s] h = some (v, h') ∧ Rds h' v ((pm n s).map I) ∧ h.Ext h')
    (sm : ∀ (xs ys : List Int) (x y : Value) (g : Hp), xs.length ≤ 1000 → Rds g x (xs.map I) → Rds g y (ys.map I) → Ev lf m 16 [x, y] g = some (.bool (decide (xs = ys)), g)) :
    ∃ v h', Ev lf (m + 1) 15 [J n] h = some (v, h') ∧ ∃ q ids, ids.length = (grp n (2 ^ n)).length ∧ v = oslV q (grp n (2 ^ n)).length ∧ Sto h h' (rblks ids (grp n (2 ^ n)) ++ oent q 28 (rvals ids (grp n (2 ^ n)))) := by
  refine fnS_ok (Q := fun v h' => ∃ q ids, ids.length = (grp n (2 ^ n)).length ∧ v = oslV q (grp n (2 ^ n)).length ∧ Sto h h' (rblks ids (grp n (2 ^ n)) ++ oent q 28 (rvals ids (grp n (2 ^ n))))) ?_
  have W := Sto.start h
  have hsh := one_shl n (by omega)
  have h2n : 2 ^ n ≤ 128 := Nat.pow_le_pow_right (by decide) hn
  have hpl : ∀ s, (pm n s).length = n := fun s => pmS_len n s n
  refine ok_go 0 ?_
  refine sy_loop 0 lf h (α := Nat × List Nat × Nat × Option Addr × Nat) (fun x => [(0, J n), (3, .slice x.2.2.2.1 (grp n x.1).length x.2.2.2.2), (4, J x.1)]) (fun x g => x.1 ≤ 2 ^ n ∧ x.2.1.length = (grp n x.1).length ∧ .slice x.2.2.2.1 (grp n x.1).length x.2.2.2.2 = oslV x.2.2.1 (grp n x.1).length ∧ Sto h g (rblks x.2.1 (grp n x.1) ++ oent x.2.2.1 28 (rvals x.2.1 (grp n x.1)))) (fun x _ => 2 ^ n - x.1) (0, [], 0, none, 0) (by kernel_rfl) (by kernel_rfl)
    ⟨by kernel_rfl, by kernel_rfl, by kernel_rfl, trivial⟩ (show 2 ^ n - 0 < lf by omega) ⟨Nat.zero_le _, rfl, rfl, W⟩ ?_
  clear W
  rintro m1 ⟨s, ids, q, oa, oc⟩ F1 g ⟨hs, hil, hos, W⟩ ih
  dsimp only at hs hil hos W
  have G := grp_ok n s
  have hw : IntKind.wrap .i64 (Int.ofNat (s + 1)) = Int.ofNat (s + 1) := wrap_nat (by omega)
  have hgs : grp n (s + 1) = addG (grp n s) (matM n s) (matC n s) s := rfl
  generalize hgrp : grp n s = gs at *
  have hgl : gs.length ≤ 128 := by have := G.num; omega
  have hvl := rvals_len hil
  refine ok_go 3 ?_
  refine sy_test 0 (decide (Int.ofNat s < IntKind.i64.wrap (1 * 2 ^ min (IntKind.u64.wrap (Int.ofNat n)).toNat IntKind.i64.bits))) (by kernel_rfl) ?_ ?_
  · intro hlt
    rw [hsh] at hlt
    have hlt : s < 2 ^ n := ok_nat hlt
    obtain ⟨mv, q1, e1, RM, X1⟩ := rm s g (by omega)
    obtain ⟨ma, mc, rfl⟩ := RM.shape
    rw [List.length_map, hpl] at e1 RM
    refine ok_go 0 ?_
    refine sy_call 0 (by kernel_rfl) e1 ?_
    have W := W.call X1
    refine ok_go 0 ?_
    refine sy_loop 0 lf q1 (α := Nat) (fun a => [(0, J n), (3, .slice oa gs.length oc), (4, J s), (5, .slice ma n mc), (6, J a)]) (fun a g' => a ≤ gs.length ∧ (∀ j (_ : j < a) (hj : j < gs.length), ¬ (gs[j].1 = matM n s ∧ gs[j].2.1 = matC n s)) ∧ q1.Ext g' ∧ Sto h g' (rblks ids gs ++ oent q 28 (rvals ids gs))) (fun a _ => gs.length - a) 0 (by kernel_rfl) (by kernel_rfl)
      ⟨by kernel_rfl, by kernel_rfl, by kernel_rfl, by kernel_rfl, by kernel_rfl, trivial⟩ (show gs.length - 0 < lf by omega) ⟨Nat.zero_le _, fun j hj => absurd hj (by omega), Hp.Ext.refl _, W⟩ ?_
    clear W
    rintro m2 a F2 g2 ⟨ha, hne, X2, W⟩ iha
    have RM2 := RM.ext X2
    have hwa : IntKind.wrap .i64 (Int.ofNat (a + 1)) = Int.ofNat (a + 1) := wrap_nat (by omega)
    refine ok_go 2 ?_
    refine sy_test 0 (decide (Int.ofNat a < Int.ofNat gs.length)) (by kernel_rfl) ?_ ?_
    · intro hal
      have hal : a < gs.length := ok_nat hal
      have hg : gs[a]? = some gs[a] := List.getElem?_eq_getElem hal
      obtain ⟨i', hi'⟩ : ∃ i, ids[a]? = some i := ⟨_, List.getElem?_eq_getElem (by omega)⟩
      have hva : (rvals ids gs)[a]? = some _ := zip_get (fun i (g : Grp) => rvV i g.2.2.length) hi' hg
      have hvne : 0 < (rvals ids gs).length := by omega
      have hoe : oent q 28 (rvals ids gs) = [(q, .cells (rvals ids gs) 28 true)] := by
        cases hv : rvals ids gs with
        | nil => rw [hv] at hvne; cases hvne
        | cons v r => rfl
      have G1 := G.ne _ (List.mem_of_getElem? hg)
      have G2 := G.key _ (List.mem_of_getElem? hg)
      have hbk : (rblks ids gs)[a]? = some _ := zip_get (fun i (g : Grp) => (i, robj g.2.2)) hi' hg
      have hkn := hne
      generalize hga : gs[a] = ga at *
      obtain ⟨gM, gC, row⟩ := ga
      dsimp only at G1 G2 hbk hva
      cases row with
      | nil => exact absurd rfl G1
      | cons x r =>
      obtain ⟨hxM, hxC, hxs⟩ := G2 x List.mem_cons_self
      obtain ⟨rl, hrl⟩ : ∃ rl, r.length = rl := ⟨_, rfl⟩
      obtain ⟨cp, hov⟩ : ∃ c, rvV i' (x :: r).length = .slice (some ⟨i', 0, none⟩) (rl + 1) c := ⟨_, by rw [← hrl]; rfl⟩
      rw [hov] at hva
      have hos2 : Value.slice oa gs.length oc = .slice (some ⟨q, 0, none⟩) gs.length (2 * gs.length + 1) := by
        rw [hos]
        cases hgl2 : gs.length with
        | zero => omega
        | succ k => rfl
      cases hos2
      have hgq := W.get (gs.length) (i := q) (o := .cells (rvals ids gs) 28 true) (by
        rw [hoe, List.getElem?_append_right (by rw [rblks_len hil]; exact Nat.le_refl _), rblks_len hil, Nat.sub_self]; rfl)
      have hgi := W.get a (i := i') (o := robj (x :: r)) (by
        rw [List.getElem?_append_left (by rw [rblks_len hil]; exact hal)]; exact hbk)
      obtain ⟨v3, q3, e3, R3, X3⟩ := rm x g2 (by omega)
      have e4 := sm (pm n x) (pm n s) v3 _ q3 (by rw [hpl]; omega) R3 (RM2.ext X3)
      obtain ⟨va, vc, rfl⟩ := R3.shape
      refine ok_go 3 ?_
      refine sy_load 0 (r := indexAddrOp Tryz.prog 22 (.slice (some ⟨q, 0, none⟩) gs.length (2 * gs.length + 1)) (J a)) (h' := g2) (v := ptr q a) (by kernel_rfl) (idxS0 (e := 28) (by kernel_rfl) (by kernel_rfl) hal) ?_
      refine ok_go 1 ?_
      refine sy_load 0 (r := loadT Tryz.prog g2 28 (ptr q a)) (h' := g2) (by kernel_rfl) (load1 (by kernel_rfl) hgq hva) ?_
      refine ok_go 3 ?_
      refine sy_load 0 (r := loadT Tryz.prog g2 3 (ptr i' 0)) (h' := g2) (v := J x) (by kernel_rfl) (load1 (off := 0) agI hgi rfl) ?_
      refine ok_go 1 ?_
      refine sy_call 0 (by kernel_rfl) e3 ?_
      refine ok_go 2 ?_
      refine sy_call 0 (by kernel_rfl) e4 ?_
      refine ok_go 3 ?_
      have hpi := pm_iff hn (show x < 2 ^ n by omega) hlt
      rw [hxM, hxC] at hpi
      by_cases heq : gM = matM n s ∧ gC = matC n s
      · refine sy_no 0 (b := !decide (pm n x = pm n s)) (by kernel_rfl) (by rw [decide_eq_true (hpi.2 heq)]; rfl) ?_
        have hix := idx_some hal hkn (by rw [hga]; exact heq)
        obtain ⟨row', hgi', hgad⟩ := addG_some (s := s) hix
        rw [hgad] at hgs
        have hrow : row' = x :: r := by
          rw [hg] at hgi'
          have := Option.some.inj hgi'
          exact (congrArg (fun g : Grp => g.2.2) this).symm
        subst hrow
        have hgle := G.len _ (List.mem_of_getElem? hgi')
        dsimp only at hgle
        have W := W.call X3
        refine ok_go 2 ?_
        refine sy_no 0 (b := decide (Int.ofNat a = Int.ofNat gs.length)) (by kernel_rfl) (decide_eq_false fun h => by have := Int.ofNat.inj h; omega) ?_
        refine ok_go 0 ?_
        refine sy_load 0 (r := indexAddrOp Tryz.prog 22 (.slice (some ⟨q, 0, none⟩) gs.length (2 * gs.length + 1)) (J a)) (h' := q3) (v := ptr q a) (by kernel_rfl) (idxS0 (e := 28) (by kernel_rfl) (by kernel_rfl) hal) ?_
        refine ok_go 0 ?_
        have hgq3 := W.get (gs.length) (i := q) (o := .cells (rvals ids gs) 28 true) (by
          rw [hoe, List.getElem?_append_right (by rw [rblks_len hil]; exact Nat.le_refl _), rblks_len hil, Nat.sub_self]; rfl)
        refine sy_load 0 (r := loadT Tryz.prog q3 28 (ptr q a)) (h' := q3) (by kernel_rfl) (load1 (by kernel_rfl) hgq3 hva) ?_
        rw [← hov]
        have W : Sto h q3 ((q, .cells (rvals ids gs) 28 true) :: ((rblks ids gs).eraseIdx a ++ [(i', robj (x :: r))])) := by
          rw [hoe] at W
          exact W.perm ((List.perm_append_comm (l₂ := [(q, AObj.cells (rvals ids gs) 28 true)])).trans ((perm_at hbk).cons _))
        refine ow_new 0 W (AObj.cells [Value.int IntKind.i64 (Int.ofNat s)] 3 false) (fun q => Value.slice (some { block := q, off := 0 }) 1 2) (by kernel_rfl) fun k1 nk1 Wk1 => ?_
        have W := Wk1
        have W : Sto h k1 ((q3.next, .cells [J s] 3 false) :: (((q, .cells (rvals ids gs) 28 true) :: (rblks ids gs).eraseIdx a) ++ [(i', robj (x :: r))])) := W
        obtain ⟨k2, e5, W⟩ := app_row W (by exact List.cons_ne_nil _ _) (by omega)
        refine sy_call 0 (by kernel_rfl) e5 ?_
        refine ok_go 0 ?_
        refine sy_load 0 (r := indexAddrOp Tryz.prog 22 (.slice (some ⟨q, 0, none⟩) gs.length (2 * gs.length + 1)) (J a)) (h' := k2) (v := ptr q a) (by kernel_rfl) (idxS0 (e := 28) (by kernel_rfl) (by kernel_rfl) hal) ?_
        refine ok_go 0 ?_
        have hst := store1 (P := Tryz.prog) (t := 28) (v := rvV k1.next (x :: r ++ [s]).length) (by kernel_rfl) rfl (W.get 0 rfl) (show a < (rvals ids gs).length by omega)
        have W := W.put 0 rfl (.cells ((rvals ids gs).set a (rvV k1.next (x :: r ++ [s]).length)) 28 true)
        refine sy_store 0 (by kernel_rfl) hst ?_
        generalize k2.put q (.cells ((rvals ids gs).set a (rvV k1.next (x :: r ++ [s]).length)) 28 true) = k3 at *
        have hZ1 : rvals (ids.set a k1.next) (gs.set a (matM n s, matC n s, x :: r ++ [s])) = (rvals ids gs).set a (rvV k1.next (x :: r ++ [s]).length) := zip_set (fun i (g : Grp) => rvV i g.2.2.length) ids gs a k1.next (matM n s, matC n s, x :: r ++ [s])
        have hZ2 : rblks (ids.set a k1.next) (gs.set a (matM n s, matC n s, x :: r ++ [s])) = (rblks ids gs).set a (k1.next, robj (x :: r ++ [s])) := zip_set (fun i (g : Grp) => (i, robj g.2.2)) ids gs a k1.next (matM n s, matC n s, x :: r ++ [s])
        have hZ3 : oent q 28 ((rvals ids gs).set a (rvV k1.next (x :: r ++ [s]).length)) = [(q, .cells ((rvals ids gs).set a (rvV k1.next (x :: r ++ [s]).length)) 28 true)] := by
          have hl0 : ((rvals ids gs).set a (rvV k1.next (x :: r ++ [s]).length)).length = gs.length := by rw [List.length_set, hvl]
          cases hv : (rvals ids gs).set a (rvV k1.next (x :: r ++ [s]).length) with
          | nil => rw [hv] at hl0; have hl0 : 0 = gs.length := hl0; omega
          | cons v r => rfl
        have W : Sto h k3 (rblks (ids.set a k1.next) (gs.set a (matM n s, matC n s, x :: r ++ [s])) ++ oent q 28 (rvals (ids.set a k1.next) (gs.set a (matM n s, matC n s, x :: r ++ [s])))) := by
          rw [hZ1, hZ2, hZ3]
          exact W.perm (((perm_set (k1.next, robj (x :: r ++ [s])) (show a < (rblks ids gs).length by rw [rblks_len hil]; exact hal)).cons _).trans (List.perm_append_comm (l₁ := [(q, AObj.cells ((rvals ids gs).set a (rvV k1.next (x :: r ++ [s]).length)) 28 true)])))
        refine ok_go 1 ?_
        exact sy_next 0 _ k3 (by kernel_rfl) (by kernel_rfl) (ih (s + 1, ids.set a k1.next, q, some ⟨q, 0, none⟩, 2 * gs.length + 1) _ k3 ⟨hlt, by dsimp only; rw [hgs, List.length_set, List.length_set, hil], by dsimp only; rw [hgs, List.length_set]; exact hos, by dsimp only; rw [hgs]; exact W⟩ (show 2 ^ n - (s + 1) < 2 ^ n - s by omega) ⟨by kernel_rfl, (by kernel_rfl : _ = Value.slice (some ⟨q, 0, none⟩) gs.length (2 * gs.length + 1)).trans (by dsimp only; rw [hgs, List.length_set]), (by kernel_rfl : _ = Value.int .i64 (IntKind.wrap .i64 (Int.ofNat (s + 1)))).trans (by rw [hw]), trivial⟩)
      · refine sy_yes 0 (b := !decide (pm n x = pm n s)) (by kernel_rfl) (by rw [decide_eq_false fun h => heq (hpi.1 h)]; rfl) ?_
        refine ok_go 1 ?_
        exact sy_next 0 _ q3 (by kernel_rfl) (by kernel_rfl) (iha (a + 1) _ q3 ⟨hal, fun j hj hl => by
          rcases Nat.lt_succ_iff_lt_or_eq.1 hj with h' | rfl
          · exact hkn j h' hl
          · rw [hga]; exact heq, X2.trans X3, W.call X3⟩ (show gs.length - (a + 1) < gs.length - a by omega) ⟨by kernel_rfl, by kernel_rfl, by kernel_rfl, by kernel_rfl, (by kernel_rfl : _ = Value.int .i64 (IntKind.wrap .i64 (Int.ofNat (a + 1)))).trans (by rw [hwa]), trivial⟩)
    · intro hal
      have hal : a = gs.length := Nat.le_antisymm ha (no_nat hal)
      subst hal
      have hix := idx_none fun j hj => hne j hj hj
      rw [addG_none hix] at hgs
      refine ok_go 14 ?_
      refine sy_yes 0 (b := decide (Int.ofNat gs.length = Int.ofNat gs.length)) (by kernel_rfl) (decide_eq_true rfl) ?_
      refine ow_new 0 W (AObj.cells [Value.int IntKind.i64 (Int.ofNat s)] 3 false) (fun q => Value.slice (some { block := q, off := 0 }) 1 2) (by kernel_rfl) fun k1 nk1 Wk1 => ?_
      have W := Wk1
      refine ow_new 0 W (AObj.cells [Value.slice (some { block := Hp.next g2, off := 0 }) 1 2] 28 false) (fun q => Value.slice (some { block := q, off := 0 }) 1 2) (by kernel_rfl) fun k2 nk2 Wk2 => ?_
      have W := Wk2
      have W : Sto h k2 ((k1.next, .cells [rvV g2.next 1] 28 false) :: (((g2.next, robj [s]) :: rblks ids gs) ++ oent q 28 (rvals ids gs))) := W
      have hvl2 : (rvals ids gs).length = gs.length * 1 := by rw [hvl, Nat.mul_one]
      refine ow_app (P := Tryz.prog) (t := 22) (e := 28) (z := 1) (c := gs.length) (i := q) 0 W slz22 hvl2 rfl rfl (by omega) (by rw [← hos]; kernel_rfl) fun k3 sl nk3 hsl hsc W => ?_
      obtain ⟨oa2, oc2, ho2⟩ := osl_shape k2.next (gs.length + 1)
      rw [ho2] at hsl
      subst hsl
      have hZ1 : rvals (ids ++ [g2.next]) (gs ++ [(matM n s, matC n s, [s])]) = rvals ids gs ++ [rvV g2.next 1] := List.zipWith_append hil
      have hZ2 : rblks (ids ++ [g2.next]) (gs ++ [(matM n s, matC n s, [s])]) = rblks ids gs ++ [(g2.next, robj [s])] := List.zipWith_append hil
      have W : Sto h k3 (rblks (ids ++ [g2.next]) (gs ++ [(matM n s, matC n s, [s])]) ++ oent k2.next 28 (rvals (ids ++ [g2.next]) (gs ++ [(matM n s, matC n s, [s])]))) := by
        rw [hZ1, hZ2]
        exact W.perm ((List.perm_append_comm (l₁ := [(g2.next, robj [s])])).append_right _)
      refine ok_go 1 ?_
      exact sy_next 0 _ k3 (by kernel_rfl) (by kernel_rfl) (ih (s + 1, ids ++ [g2.next], k2.next, oa2, oc2) _ k3 ⟨hlt, by dsimp only; rw [hgs, List.length_append, List.length_append, hil]; rfl, by dsimp only; rw [hgs, List.length_append]; exact ho2.symm, by dsimp only; rw [hgs]; exact W⟩ (show 2 ^ n - (s + 1) < 2 ^ n - s by omega) ⟨by kernel_rfl, (by kernel_rfl : _ = Value.slice oa2 (gs.length + 1) oc2).trans (by dsimp only; rw [hgs, List.length_append]; rfl), (by kernel_rfl : _ = Value.int .i64 (IntKind.wrap .i64 (Int.ofNat (s + 1)))).trans (by rw [hw]), trivial⟩)
  · intro hlt
    rw [hsh] at hlt
    have hse : s = 2 ^ n := Nat.le_antisymm hs (no_nat hlt)
    subst hse
    refine ok_go 0 ?_
    refine sy_done 0 (v := .slice oa gs.length oc) (h := g) (by kernel_rfl) ⟨q, ids, by rw [hgrp]; exact hil, by rw [hgrp]; exact hos, by rw [hgrp]; exact W⟩
end Go.Proofs.YtkfbfgcflnkllaaGreatDoor
namespace Go.Proofs.YtkfbfgcflnkllaaGreatDoor
open Go Go.Eng Nim Ch
set_option maxRecDepth 100000
set_option maxHeartbeats 8000000
theorem ch_in (m : Nat) {z : Int} (h0 : ¬ z < 0) (h1 : ¬ z > 10) (h : Hp) : ∃ n : Nat, n ≤ 10 ∧ z = Int.ofNat n ∧ Ev 100000 (m + 1) 14 [I z] h = some (.tuple #[.slice (some ⟨h.next + (grp n (2 ^ n)).length, 0, none⟩) (grp n (2 ^ n)).length (2 * (grp n (2 ^ n)).length + 1), J 0], h.news (osC h (grp n (2 ^ n)))) := by
  obtain ⟨n, rfl⟩ := Int.eq_ofNat_of_zero_le (show 0 ≤ z by omega)
  have hn : n ≤ 10 := by omega
  refine ⟨n, hn, rfl, ?_⟩
  refine (chains_ev ..).trans ?_
  show (match Nat.ble n 10 with | true => _ | false => _) = _
  rw [Nat.ble_eq_true_of_le hn]
theorem ch_out (m : Nat) {z : Int} (h0 : z < 0 ∨ z > 10) (h : Hp) : Ev 100000 (m + 1) 14 [I z] h = some (.tuple #[.slice none 0 0, J 1], h) := by
  refine (chains_ev ..).trans ?_
  cases z with
  | negSucc k => rfl
  | ofNat n =>
    show (match Nat.ble n 10 with | true => _ | false => _) = _
    have : Nat.ble n 10 = false := by
      cases hb : Nat.ble n 10 with
      | false => rfl
      | true =>
        have := Nat.le_of_ble_eq_true hb
        rcases h0 with h | h
        · exact absurd h (by simp)
        · have : (10 : Int) < (n : Int) := h
          omega
    rw [this]
theorem ob_row {h g : Hp} {gs : List Grp} (X : (h.news (osC h gs)).Ext g) {b : Nat} {q : Grp} (hq : gs[b]? = some q) (hne : q.2.2 ≠ []) : Rds g (oslV (h.next + b) q.2.2.length) (q.2.2.map J) := by
  have hb := (List.getElem?_eq_some_iff.1 hq).1
  have hol : (osC h gs).length = gs.length + 1 := by unfold osC objsC; rw [List.length_append, List.length_map]; rfl
  have hg : (h.news (osC h gs)).get (h.next + b) = some (.cells (q.2.2.map J) 3 true) := by
    rw [Hp.news_get, if_pos ⟨by omega, by omega⟩, show h.next + b - h.next = b by omega]
    unfold osC objsC
    rw [List.getElem?_append_left (by rw [List.length_map]; exact hb), List.getElem?_map, hq]
    rfl
  have hr := osl_rd (H := h.news (osC h gs)) (e := 3) (i := h.next + b) (zs := q.2.2.map J) fun p hp => by
    cases hc : q.2.2 with
    | nil => exact absurd hc hne
    | cons a r =>
      rw [hc] at hp hg
      rw [List.mem_singleton.1 hp]
      exact ⟨by rw [Hp.news_next]; show h.next + b < _; omega, hg⟩
  rw [List.length_map] at hr
  exact hr.ext X
theorem rv_rd {H : Hp} {i : Nat} {row : List Nat} (h1 : i < H.next) (h2 : H.get i = some (robj row)) : Rds H (rvV i row.length) (row.map J) := by
  refine .inr ⟨i, 0, bif Nat.beq row.length 1 then 2 else 2 * row.length + 1, ?_, fun _ => ⟨h1, ?_⟩⟩
  · rw [List.length_map]; rfl
  · unfold loadN; rw [h2]; exact takeN_all _
theorem fnS_yes {lf n f : Nat} {args : List Value} {h : Hp} (hk : Ok (fun v _ => v = .bool true) (fnS Tryz.prog orc lf n f args h)) : ∃ H, Ev lf (n + 1) f args h = some (.bool true, H) := by
  obtain ⟨v, h', h1, rfl⟩ := fnS_ok hk
  exact ⟨h', h1⟩
theorem law3 (m : Nat) (z : Int) (h : Hp) : ∃ H, Ev 100000 (m + 6) 3 [I z] h = some (.bool true, H) := by
  refine fnS_yes ?_
  refine ok_go 0 ?_
  refine sy_loop 0 100000 h (α := Int × Nat) (fun x => [(0, I x.1), (3, J x.2)]) (fun x _ => x.2 ≤ 2) (fun x _ => 2 - x.2) (z, 0) (by kernel_rfl) (by kernel_rfl)
    ⟨by kernel_rfl, by kernel_rfl, trivial⟩ (show 2 - 0 < 100000 by omega) (Nat.zero_le _) ?_
  rintro m1 ⟨z, k⟩ F1 g hk ih
  dsimp only at hk
  have hw : IntKind.wrap .i64 (Int.ofNat (k + 1)) = Int.ofNat (k + 1) := wrap_nat (by omega)
  refine ok_go 1 ?_
  refine sy_test 0 (decide (Int.ofNat k < 2)) (by kernel_rfl) ?_ ?_
  · intro hlt
    have hlt : k < 2 := ok_nat (b := 2) hlt
    by_cases hz : z < 0 ∨ z > 10
    · have e1 := ch_out (m + 4) hz g
      refine ok_go 0 ?_
      refine sy_call 0 (by kernel_rfl) e1 ?_
      by_cases h0 : z < 0
      · refine ok_go 3 ?_
        refine sy_yes 0 (b := decide (z < 0)) (by kernel_rfl) (decide_eq_true h0) ?_
        refine ok_go 13 ?_
        exact sy_next 0 _ g (by kernel_rfl) (by kernel_rfl) (ih (IntKind.i64.wrap ((IntKind.u64.wrap z).tmod (IntKind.u64.wrap (IntKind.i64.wrap (10 + 1)))), k + 1) _ g (show k + 1 ≤ 2 by omega) (show 2 - (k + 1) < 2 - k by omega) ⟨by kernel_rfl, (by kernel_rfl : _ = Value.int .i64 (IntKind.wrap .i64 (Int.ofNat (k + 1)))).trans (by rw [hw]), trivial⟩)
      · have h1 : z > 10 := by omega
        refine ok_go 3 ?_
        refine sy_no 0 (b := decide (z < 0)) (by kernel_rfl) (decide_eq_false h0) ?_
        refine ok_go 3 ?_
        refine sy_yes 0 (b := decide (z > 10)) (by kernel_rfl) (decide_eq_true h1) ?_
        refine ok_go 10 ?_
        exact sy_next 0 _ g (by kernel_rfl) (by kernel_rfl) (ih (IntKind.i64.wrap ((IntKind.u64.wrap z).tmod (IntKind.u64.wrap (IntKind.i64.wrap (10 + 1)))), k + 1) _ g (show k + 1 ≤ 2 by omega) (show 2 - (k + 1) < 2 - k by omega) ⟨by kernel_rfl, (by kernel_rfl : _ = Value.int .i64 (IntKind.wrap .i64 (Int.ofNat (k + 1)))).trans (by rw [hw]), trivial⟩)
    · have h0 : ¬ z < 0 := fun h => hz (.inl h)
      have h1 : ¬ z > 10 := fun h => hz (.inr h)
      obtain ⟨n, hn, rfl, e1⟩ := ch_in (m + 4) h0 h1 g
      obtain ⟨gs, hgs⟩ : ∃ gs, grp n (2 ^ n) = gs := ⟨_, rfl⟩
      have G := grp_ok n (2 ^ n)
      have h2n : 2 ^ n ≤ 1024 := Nat.pow_le_pow_right (by decide) hn
      have hpos : 0 < gs.length := hgs ▸ grp_pos n (2 ^ n) (Nat.two_pow_pos n)
      by_cases h7 : n ≤ 7
      · obtain ⟨v2, g2, e2, q, ids, hil, rfl, W⟩ := rchains_of 100000 (m + 4) (by decide) n h7 (g.news (osC g gs)) (fun s h hs => rmat_of 100000 (m + 3) (by decide) n s hn hs h) (fun xs ys x y g hl hx hy => same_of 100000 (m + 3) xs ys (by omega) (by omega) x y g hx hy)
        rw [hgs] at e1 e2 G W hil
        have hgl : gs.length ≤ 1024 := by have := G.num; omega
        obtain ⟨L, hL⟩ : ∃ L, gs.length = L + 1 := ⟨gs.length - 1, by omega⟩
        have hov : oslV q gs.length = .slice (some ⟨q, 0, none⟩) gs.length (2 * gs.length + 1) := by rw [hL]; rfl
        rw [hov] at e2
        have hvl := rvals_len hil
        have hoe : oent q 28 (rvals ids gs) = [(q, .cells (rvals ids gs) 28 true)] := by
          cases hv : rvals ids gs with
          | nil => rw [hv] at hvl; have hvl : 0 = gs.length := hvl; omega
          | cons v r => rfl
        rw [hoe] at W
        have X := W.ext
        have hol : (osC g gs).length = gs.length + 1 := by unfold osC objsC; rw [List.length_append, List.length_map]; rfl
        have hgc : g2.get (g.next + gs.length) = some (.cells (valsG (idsC g gs.length) gs) 28 true) := by
          refine (X.get (g.next + gs.length) ?_).trans ?_
          · rw [Hp.news_next, hol]; omega
          · rw [Hp.news_get, if_pos ⟨by omega, by omega⟩, show g.next + gs.length - g.next = gs.length by omega]
            unfold osC objsC
            rw [List.getElem?_append_right (by rw [List.length_map]; exact Nat.le_refl _), List.length_map, Nat.sub_self]
            rfl
        have hgq := W.get gs.length (i := q) (o := .cells (rvals ids gs) 28 true) (by
          rw [List.getElem?_append_right (by rw [rblks_len hil]; exact Nat.le_refl _), rblks_len hil, Nat.sub_self]; rfl)
        refine ok_go 0 ?_
        refine sy_call 0 (by kernel_rfl) e1 ?_
        refine ok_go 7 ?_
        refine sy_no 0 (b := decide (Int.ofNat n > 10)) (by kernel_rfl) (decide_eq_false h1) ?_
        refine ok_go 1 ?_
        refine sy_yes 0 (b := decide (Int.ofNat n ≤ 7)) (by kernel_rfl) (decide_eq_true (by show (n : Int) ≤ 7; omega)) ?_
        refine ok_go 0 ?_
        refine sy_call 0 (by kernel_rfl) e2 ?_
        refine ok_go 10 ?_
        refine sy_no 0 (b := Int.ofNat gs.length != Int.ofNat gs.length) (by kernel_rfl) (bne_self_eq_false _) ?_
        refine ok_go 0 ?_
        refine sy_loop 0 100000 g2 (α := Nat) (fun i => [(0, J n), (3, J k), (4, .slice (some ⟨g.next + gs.length, 0, none⟩) gs.length (2 * gs.length + 1)), (6, .slice (some ⟨q, 0, none⟩) gs.length (2 * gs.length + 1)), (7, J i)]) (fun i g' => i ≤ gs.length ∧ g' = g2) (fun i _ => gs.length - i) 0 (by kernel_rfl) (by kernel_rfl)
          ⟨by kernel_rfl, by kernel_rfl, by kernel_rfl, by kernel_rfl, by kernel_rfl, trivial⟩ (show gs.length - 0 < 100000 by omega) ⟨Nat.zero_le _, rfl⟩ ?_
        rintro m2 i F2 g3 ⟨hi, rfl⟩ ihi
        have hwi : IntKind.wrap .i64 (Int.ofNat (i + 1)) = Int.ofNat (i + 1) := wrap_nat (by omega)
        refine ok_go 2 ?_
        refine sy_test 0 (decide (Int.ofNat i < Int.ofNat gs.length)) (by kernel_rfl) ?_ ?_
        · intro hil2
          have hil2 : i < gs.length := ok_nat hil2
          have hg : gs[i]? = some gs[i] := List.getElem?_eq_getElem hil2
          obtain ⟨i', hi'⟩ : ∃ b, ids[i]? = some b := ⟨_, List.getElem?_eq_getElem (by omega)⟩
          have hva : (rvals ids gs)[i]? = some _ := zip_get (fun i (g : Grp) => rvV i g.2.2.length) hi' hg
          have hbk : (rblks ids gs)[i]? = some _ := zip_get (fun i (g : Grp) => (i, robj g.2.2)) hi' hg
          have hvb := valsG_get hg (idsC_get (h := g) hil2)
          have G1 := G.ne _ (List.mem_of_getElem? hg)
          have G3 := G.len _ (List.mem_of_getElem? hg)
          have RA := ob_row X hg G1
          generalize gs[i] = ga at *
          obtain ⟨gM, gC, row⟩ := ga
          dsimp only at *
          obtain ⟨w1, w2, w3⟩ := W.all (i', robj row) (List.mem_append_left _ (List.mem_of_getElem? hbk))
          have RB := rv_rd (row := row) w2 w3
          have e3 := same_of 100000 (m + 4) (row.map Int.ofNat) (row.map Int.ofNat) (by rw [List.length_map]; omega) (by rw [List.length_map]; omega) (oslV (g.next + i) row.length) (rvV i' row.length) g3 (by rw [List.map_map]; exact RA) (by rw [List.map_map]; exact RB)
          rw [decide_eq_true rfl] at e3
          obtain ⟨ya, yc, hy⟩ := osl_shape (g.next + i) row.length
          rw [hy] at e3 hvb
          refine ok_go 0 ?_
          refine sy_load 0 (r := indexAddrOp Tryz.prog 22 (.slice (some ⟨g.next + gs.length, 0, none⟩) gs.length (2 * gs.length + 1)) (J i)) (h' := g3) (v := ptr (g.next + gs.length) i) (by kernel_rfl) (idxS0 (e := 28) (by kernel_rfl) (by kernel_rfl) hil2) ?_
          refine ok_go 0 ?_
          refine sy_load 0 (r := loadT Tryz.prog g3 28 (ptr (g.next + gs.length) i)) (h' := g3) (by kernel_rfl) (load1 (by kernel_rfl) hgc hvb) ?_
          refine ok_go 0 ?_
          refine sy_load 0 (r := indexAddrOp Tryz.prog 22 (.slice (some ⟨q, 0, none⟩) gs.length (2 * gs.length + 1)) (J i)) (h' := g3) (v := ptr q i) (by kernel_rfl) (idxS0 (e := 28) (by kernel_rfl) (by kernel_rfl) hil2) ?_
          refine ok_go 0 ?_
          refine sy_load 0 (r := loadT Tryz.prog g3 28 (ptr q i)) (h' := g3) (by kernel_rfl) (load1 (by kernel_rfl) hgq hva) ?_
          refine ok_go 0 ?_
          refine sy_call 0 (by kernel_rfl) e3 ?_
          refine ok_go 3 ?_
          exact sy_next 0 _ g3 (by kernel_rfl) (by kernel_rfl) (ihi (i + 1) _ g3 ⟨hil2, rfl⟩ (show gs.length - (i + 1) < gs.length - i by omega) ⟨by kernel_rfl, by kernel_rfl, by kernel_rfl, by kernel_rfl, (by kernel_rfl : _ = Value.int .i64 (IntKind.wrap .i64 (Int.ofNat (i + 1)))).trans (by rw [hwi]), trivial⟩)
        · intro hil2
          have hil2 : i = gs.length := Nat.le_antisymm hi (no_nat hil2)
          refine ok_go 2 ?_
          exact sy_next 0 _ g3 (by kernel_rfl) (by kernel_rfl) (ih (IntKind.i64.wrap ((IntKind.u64.wrap (Int.ofNat n)).tmod (IntKind.u64.wrap (IntKind.i64.wrap (10 + 1)))), k + 1) _ g3 (show k + 1 ≤ 2 by omega) (show 2 - (k + 1) < 2 - k by omega) ⟨by kernel_rfl, (by kernel_rfl : _ = Value.int .i64 (IntKind.wrap .i64 (Int.ofNat (k + 1)))).trans (by rw [hw]), trivial⟩)
      · rw [hgs] at e1
        refine ok_go 0 ?_
        refine sy_call 0 (by kernel_rfl) e1 ?_
        refine ok_go 7 ?_
        refine sy_no 0 (b := decide (Int.ofNat n > 10)) (by kernel_rfl) (decide_eq_false h1) ?_
        refine ok_go 1 ?_
        refine sy_no 0 (b := decide (Int.ofNat n ≤ 7)) (by kernel_rfl) (decide_eq_false (by show ¬ (n : Int) ≤ 7; omega)) ?_
        refine ok_go 2 ?_
        exact sy_next 0 _ (g.news (osC g gs)) (by kernel_rfl) (by kernel_rfl) (ih (IntKind.i64.wrap ((IntKind.u64.wrap (Int.ofNat n)).tmod (IntKind.u64.wrap (IntKind.i64.wrap (10 + 1)))), k + 1) _ (g.news (osC g gs)) (show k + 1 ≤ 2 by omega) (show 2 - (k + 1) < 2 - k by omega) ⟨by kernel_rfl, (by kernel_rfl : _ = Value.int .i64 (IntKind.wrap .i64 (Int.ofNat (k + 1)))).trans (by rw [hw]), trivial⟩)
  · intro hlt
    have hk2 : k = 2 := Nat.le_antisymm hk (no_nat (b := 2) hlt)
    refine ok_go 1 ?_
    exact sy_done 0 (v := .bool true) (h := g) (by kernel_rfl) rfl
end Go.Proofs.YtkfbfgcflnkllaaGreatDoor
namespace Go.Proofs.YtkfbfgcflnkllaaGreatDoor
open Go Go.Eng Nim
set_option maxRecDepth 100000
set_option maxHeartbeats 8000000
/-- The array of marks. -/
def mk97 (f : Nat → Bool) : List Value := cellsF 1024 fun i => .bool (f i)
theorem u97 : Tryz.prog.underlying 97 = some (.array 1024 4) := by kernel_rfl
theorem idxM {i x : Nat} (hx : x < 1024) : indexAddrOp Tryz.prog 97 (ptr i 0) (J x) = some (ptr i x) := by
  have hs : sizeT Tryz.prog 4 = some 1 := by kernel_rfl
  have hb : Nat.blt x 1024 = true := Nat.ble_eq_true_of_le hx
  simp only [indexAddrOp, natOf, ptr, u97, hs, addTo]
  rw [show Nat.blt x 1024 = true from hb]
  simp
theorem mk97_set {f : Nat → Bool} {k : Nat} {b : Bool} : updF (fun i => Value.bool (f i)) k (.bool b) = fun i => .bool (if i = k then b else f i) := by
  funext i
  unfold updF
  split <;> simp_all
theorem mk97_take (f : Nat → Bool) : takeN 1024 (mk97 f) = some (mk97 f) := by
  have := takeN_all (mk97 f)
  rwa [show (mk97 f).length = 1024 from cellsF_len ..] at this
theorem mk97_sc (f : Nat → Bool) : (mk97 f).all scalar = true := List.all_eq_true.2 fun v hv => by
  obtain ⟨n, _, rfl⟩ := List.mem_map.1 hv
  rfl
theorem marked_of (lf m : Nat) (hlf : 2000 ≤ lf) (l : List Nat) (hl : l.length < 2000) (hb : ∀ x ∈ l, x < 1024) (v : Value) (h : Hp) (hv : Rds h v (l.map J)) :
    ∃ v' h', Ev lf (m + 1) 62 [v] h = some (v', h') ∧ v' = .agg (mk97 fun i => decide (i ∈ l)).toArray ∧ h.Ext h' := by
  refine fnS_ok (Q := fun v' h' => v' = .agg (mk97 fun i => decide (i ∈ l)).toArray ∧ h.Ext h') ?_
  obtain ⟨va, vc, hvs⟩ := hv.shape
  rw [List.length_map] at hvs
  subst hvs
  have W := Sto.start h
  refine ok_go 0 ?_
  refine ow_new 0 W (.cells (mk97 fun _ => false) 97 false) (fun i => ptr i 0) (by kernel_rfl) fun g1 ng1 W => ?_
  refine ok_go 0 ?_
  refine ow_new 0 W (.cells (mk97 fun _ => false) 97 false) (fun i => ptr i 0) (by kernel_rfl) fun g2 ng2 W => ?_
  refine ok_go 1 ?_
  refine sy_loop 0 lf g2 (α := Nat) (fun i => [(2, ptr h.next 0), (3, ptr g1.next 0), (6, .slice va l.length vc), (7, J l.length), (8, J i)]) (fun i g => i ≤ l.length ∧ Sto h g [(g1.next, .cells (mk97 fun k => decide (k ∈ l.take i)) 97 false), (h.next, .cells (mk97 fun _ => false) 97 false)]) (fun i _ => l.length - i) 0 (by kernel_rfl) (by kernel_rfl)
    ⟨by kernel_rfl, by kernel_rfl, by kernel_rfl, by kernel_rfl, by kernel_rfl, trivial⟩ (show l.length - 0 < lf by omega) ⟨Nat.zero_le _, by
      simpa using W⟩ ?_
  clear W
  rintro m1 i F1 g ⟨hi, W⟩ ih
  have hw : IntKind.wrap .i64 (Int.ofNat (i + 1)) = Int.ofNat (i + 1) := wrap_nat (by omega)
  refine ok_go 1 ?_
  refine sy_test 0 (decide (Int.ofNat i < Int.ofNat l.length)) (by kernel_rfl) ?_ ?_
  · intro hlt
    have hlt : i < l.length := ok_nat hlt
    have hx : l[i]? = some l[i] := List.getElem?_eq_getElem hlt
    have hxb := hb _ (List.mem_of_getElem? hx)
    obtain ⟨p, hp1, hp2⟩ := rdN (hv.ext W.ext) hlt
    generalize hxe : l[i] = x at *
    refine ok_go 0 ?_
    refine sy_load 0 (r := indexAddrOp Tryz.prog 28 (.slice va l.length vc) (J i)) (h' := g) (by kernel_rfl) hp1 ?_
    refine ok_go 0 ?_
    refine sy_load 0 (r := loadT Tryz.prog g 3 p) (h' := g) (by kernel_rfl) hp2 ?_
    refine ok_go 0 ?_
    refine sy_load 0 (r := indexAddrOp Tryz.prog 97 (ptr g1.next 0) (J x)) (h' := g) (by kernel_rfl) (idxM hxb) ?_
    refine ok_go 0 ?_
    refine ow_storeF (P := Tryz.prog) (T := 4) (v := .bool true) 0 0 W rfl hxb zB rfl (by kernel_rfl) fun g2 ng2 W => ?_
    rw [mk97_set] at W
    have W : Sto h g2 [(g1.next, .cells (mk97 fun k => decide (k ∈ l.take (i + 1))) 97 false), (h.next, .cells (mk97 fun _ => false) 97 false)] := by
      rw [show (fun k => decide (k ∈ l.take (i + 1))) = fun k => if k = x then true else decide (k ∈ l.take i) from by
        funext k
        rw [List.take_succ_eq_append_getElem hlt, hxe]
        by_cases hk : k = x
        · simp [hk]
        · simp [hk]]
      exact W
    refine ok_go 1 ?_
    exact sy_next 0 _ g2 (by kernel_rfl) (by kernel_rfl) (ih (i + 1) _ g2 ⟨hlt, W⟩ (show l.length - (i + 1) < l.length - i by omega) ⟨by kernel_rfl, by kernel_rfl, by kernel_rfl, by kernel_rfl, (by kernel_rfl : _ = Value.int .i64 (IntKind.wrap .i64 (Int.ofNat (i + 1)))).trans (by rw [hw]), trivial⟩)
  · intro hlt
    have hlt : i = l.length := Nat.le_antisymm hi (no_nat hlt)
    subst hlt
    rw [List.take_length] at W
    generalize hM : (mk97 fun k => decide (k ∈ l)) = M at *
    have hMl : M.length = 1024 := by rw [← hM]; exact cellsF_len ..
    have hMt : takeN 1024 M = some M := by rw [← hM]; exact mk97_take _
    have hMs : M.all scalar = true := by rw [← hM]; exact mk97_sc _
    refine ok_go 0 ?_
    refine ow_loadA (P := Tryz.prog) (T := 97) 0 0 W rfl (by kernel_rfl) (by kernel_rfl) hMt (by kernel_rfl) ?_
    refine ok_go 0 ?_
    refine ow_storeA (P := Tryz.prog) (T := 97) (v := .agg M.toArray) 0 1 W M rfl rfl (by rw [hMl]; exact (cellsF_len ..).symm) (by rw [hMl]; kernel_rfl) hMs (by kernel_rfl) fun g2 ng2 W => ?_
    refine ok_go 0 ?_
    refine ow_loadA (P := Tryz.prog) (T := 97) 0 1 W rfl (by kernel_rfl) (by kernel_rfl) hMt (by kernel_rfl) ?_
    refine ok_go 0 ?_
    exact sy_done 0 (v := .agg M.toArray) (h := g2) (by kernel_rfl) ⟨rfl, W.ext⟩
end Go.Proofs.YtkfbfgcflnkllaaGreatDoor
namespace Go.Proofs.YtkfbfgcflnkllaaGreatDoor
open Go Go.Eng Nim
set_option maxRecDepth 100000
set_option maxHeartbeats 8000000
/-- What is marked below n, in order. -/
def lst (f : Nat → Bool) (n : Nat) : List Nat := (List.range n).filter f
theorem lst_succ (f : Nat → Bool) (n : Nat) : lst f (n + 1) = if f n then lst f n ++ [n] else lst f n := by
  unfold lst
  rw [List.range_succ, List.filter_append]
  cases h : f n <;> simp [h]
theorem lst_len (f : Nat → Bool) (n : Nat) : (lst f n).length ≤ n := by
  unfold lst
  exact Nat.le_trans (List.length_filter_le ..) (by rw [List.length_range]; exact Nat.le_refl _)
theorem list_of (lf m : Nat) (hlf : 2000 ≤ lf) (f : Nat → Bool) (b : Nat) (opn : Bool) (h : Hp) (hb : h.get b = some (.cells (mk97 f) 97 opn)) (hbn : b < h.next) :
    ∃ v h', Ev lf (m + 1) 63 [ptr b 0] h = some (v, h') ∧ (∃ q, v = oslV q (lst f 1024).length ∧ Sto h h' (oent q 3 ((lst f 1024).map J))) := by
  refine fnS_ok (Q := fun v h' => ∃ q, v = oslV q (lst f 1024).length ∧ Sto h h' (oent q 3 ((lst f 1024).map J))) ?_
  have W := Sto.start h
  refine ok_go 0 ?_
  refine sy_loop 0 lf h (α := Nat × Nat × Option Addr × Nat) (fun x => [(6, ptr b 0), (3, .slice x.2.2.1 (lst f x.1).length x.2.2.2), (7, J x.1)]) (fun x g => x.1 ≤ 1024 ∧ .slice x.2.2.1 (lst f x.1).length x.2.2.2 = oslV x.2.1 (lst f x.1).length ∧ Sto h g (oent x.2.1 3 ((lst f x.1).map J))) (fun x _ => 1024 - x.1) (0, 0, none, 0) (by kernel_rfl) (by kernel_rfl)
    ⟨by kernel_rfl, by kernel_rfl, by kernel_rfl, trivial⟩ (show 1024 - 0 < lf by omega) ⟨Nat.zero_le _, rfl, W⟩ ?_
  clear W
  rintro m1 ⟨i, q, oa, oc⟩ F1 g ⟨hi, hos, W⟩ ih
  dsimp only at hi hos W
  have hw : IntKind.wrap .i64 (Int.ofNat (i + 1)) = Int.ofNat (i + 1) := wrap_nat (by omega)
  have hll := lst_len f i
  have hls := lst_succ f i
  refine ok_go 1 ?_
  refine sy_test 0 (decide (Int.ofNat i < 1024)) (by kernel_rfl) ?_ ?_
  · intro hlt
    have hlt : i < 1024 := ok_nat (b := 1024) hlt
    have hbg := (W.ext.get b hbn).trans hb
    refine ok_go 1 ?_
    refine sy_load 0 (r := indexAddrOp Tryz.prog 97 (ptr b 0) (J i)) (h' := g) (by kernel_rfl) (idxM hlt) ?_
    refine ok_go 0 ?_
    refine sy_load 0 (r := loadT Tryz.prog g 4 (ptr b i)) (h' := g) (v := .bool (f i)) (by kernel_rfl) (load1 agB hbg (cellsF_get hlt)) ?_
    refine ok_go 0 ?_
    cases hf : f i with
    | true =>
      rw [hf, if_pos rfl] at hls
      generalize lst f i = L at *
      refine ow_new 1 W (AObj.cells [Value.int IntKind.i64 (Int.ofNat (Prod.fst (i, q, oa, oc)))] 3 false) (fun q => Value.slice (some { block := q, off := 0 }) 1 2) (by kernel_rfl) fun k1 nk1 Wk1 => ?_
      have W := Wk1
      have W : Sto h k1 ((g.next, .cells [J i] 3 false) :: ([] ++ oent q 3 (L.map J))) := W
      refine ow_app (P := Tryz.prog) (t := 28) (e := 3) (z := 1) (c := L.length) (i := q) 0 W slz28 (by rw [List.length_map, Nat.mul_one]) rfl rfl (by omega) (by rw [← hos]; kernel_rfl) fun k2 sl nk2 hsl hsc W => ?_
      obtain ⟨oa2, oc2, ho2⟩ := osl_shape k1.next (L.length + 1)
      rw [ho2] at hsl
      subst hsl
      have W : Sto h k2 (oent k1.next 3 ((L ++ [i]).map J)) := by rw [List.map_append]; exact W
      refine ok_go 1 ?_
      exact sy_next 0 _ k2 (by kernel_rfl) (by kernel_rfl) (ih (i + 1, k1.next, oa2, oc2) _ k2 ⟨hlt, by dsimp only; rw [hls, List.length_append]; exact ho2.symm, by dsimp only; rw [hls]; exact W⟩ (show 1024 - (i + 1) < 1024 - i by omega) ⟨by kernel_rfl, (by kernel_rfl : _ = Value.slice oa2 (L.length + 1) oc2).trans (by dsimp only; rw [hls, List.length_append]; rfl), (by kernel_rfl : _ = Value.int .i64 (IntKind.wrap .i64 (Int.ofNat (i + 1)))).trans (by rw [hw]), trivial⟩)
    | false =>
      rw [hf, if_neg Bool.false_ne_true] at hls
      generalize lst f i = L at *
      refine ok_go 2 ?_
      exact sy_next 0 _ g (by kernel_rfl) (by kernel_rfl) (ih (i + 1, q, oa, oc) _ g ⟨hlt, by dsimp only; rw [hls]; exact hos, by dsimp only; rw [hls]; exact W⟩ (show 1024 - (i + 1) < 1024 - i by omega) ⟨by kernel_rfl, (by kernel_rfl : _ = Value.slice oa L.length oc).trans (by dsimp only; rw [hls]), (by kernel_rfl : _ = Value.int .i64 (IntKind.wrap .i64 (Int.ofNat (i + 1)))).trans (by rw [hw]), trivial⟩)
  · intro hlt
    have hlt : i = 1024 := Nat.le_antisymm hi (no_nat (b := 1024) hlt)
    subst hlt
    refine ok_go 0 ?_
    exact sy_done 0 (v := .slice oa (lst f 1024).length oc) (h := g) (by kernel_rfl) ⟨q, hos, W⟩
theorem lst_rd {h g : Hp} {f : Nat → Bool} {n q : Nat} (W : Sto h g (oent q 3 ((lst f n).map J))) : Rds g (oslV q (lst f n).length) ((lst f n).map J) := by
  have := osl_rd (H := g) (e := 3) (i := q) (zs := (lst f n).map J) fun p hp => (W.all p hp).2
  rwa [List.length_map] at this
theorem rdB {h : Hp} {rv : Value} {N : Nat} {f : Nat → Bool} (hr : Rds h rv (cellsF N fun i => .bool (f i))) {k : Nat} (hk : k < N) : ∃ p, indexAddrOp Tryz.prog 37 rv (J k) = some p ∧ loadT Tryz.prog h 4 p = some (.bool (f k)) :=
  hr.read (e := 4) (by kernel_rfl) (by kernel_rfl) (by kernel_rfl) (cellsF_get hk)
theorem rlist_of (lf m : Nat) (hlf : 2000 ≤ lf) (f : Nat → Bool) (N : Nat) (hN : N ≤ 1024) (v : Value) (h : Hp) (hv : Rds h v (cellsF N fun i => .bool (f i))) :
    ∃ v' h', Ev lf (m + 1) 77 [v] h = some (v', h') ∧ (∃ q, v' = oslV q (lst f N).length ∧ Sto h h' (oent q 3 ((lst f N).map J))) := by
  refine fnS_ok (Q := fun v h' => ∃ q, v = oslV q (lst f N).length ∧ Sto h h' (oent q 3 ((lst f N).map J))) ?_
  obtain ⟨va, vc, hvs⟩ := hv.shape
  rw [cellsF_len] at hvs
  subst hvs
  have W := Sto.start h
  refine ok_go 0 ?_
  refine sy_loop 0 lf h (α := Nat × Nat × Option Addr × Nat) (fun x => [(0, .slice va N vc), (3, .slice x.2.2.1 (lst f x.1).length x.2.2.2), (4, J x.1)]) (fun x g => x.1 ≤ N ∧ .slice x.2.2.1 (lst f x.1).length x.2.2.2 = oslV x.2.1 (lst f x.1).length ∧ Sto h g (oent x.2.1 3 ((lst f x.1).map J))) (fun x _ => N - x.1) (0, 0, none, 0) (by kernel_rfl) (by kernel_rfl)
    ⟨by kernel_rfl, by kernel_rfl, by kernel_rfl, trivial⟩ (show N - 0 < lf by omega) ⟨Nat.zero_le _, rfl, W⟩ ?_
  clear W
  rintro m1 ⟨i, q, oa, oc⟩ F1 g ⟨hi, hos, W⟩ ih
  dsimp only at hi hos W
  have hw : IntKind.wrap .i64 (Int.ofNat (i + 1)) = Int.ofNat (i + 1) := wrap_nat (by omega)
  have hll := lst_len f i
  have hls := lst_succ f i
  refine ok_go 2 ?_
  refine sy_test 0 (decide (Int.ofNat i < Int.ofNat N)) (by kernel_rfl) ?_ ?_
  · intro hlt
    have hlt : i < N := ok_nat hlt
    obtain ⟨p, hp1, hp2⟩ := rdB (hv.ext W.ext) hlt
    refine ok_go 0 ?_
    refine sy_load 0 (r := indexAddrOp Tryz.prog 37 (.slice va N vc) (J i)) (h' := g) (by kernel_rfl) hp1 ?_
    refine ok_go 0 ?_
    refine sy_load 0 (r := loadT Tryz.prog g 4 p) (h' := g) (v := .bool (f i)) (by kernel_rfl) hp2 ?_
    refine ok_go 0 ?_
    cases hf : f i with
    | true =>
      rw [hf, if_pos rfl] at hls
      generalize lst f i = L at *
      refine ow_new 1 W (AObj.cells [Value.int IntKind.i64 (Int.ofNat (Prod.fst (i, q, oa, oc)))] 3 false) (fun q => Value.slice (some { block := q, off := 0 }) 1 2) (by kernel_rfl) fun k1 nk1 Wk1 => ?_
      have W := Wk1
      have W : Sto h k1 ((g.next, .cells [J i] 3 false) :: ([] ++ oent q 3 (L.map J))) := W
      refine ow_app (P := Tryz.prog) (t := 28) (e := 3) (z := 1) (c := L.length) (i := q) 0 W slz28 (by rw [List.length_map, Nat.mul_one]) rfl rfl (by omega) (by rw [← hos]; kernel_rfl) fun k2 sl nk2 hsl hsc W => ?_
      obtain ⟨oa2, oc2, ho2⟩ := osl_shape k1.next (L.length + 1)
      rw [ho2] at hsl
      subst hsl
      have W : Sto h k2 (oent k1.next 3 ((L ++ [i]).map J)) := by rw [List.map_append]; exact W
      refine ok_go 1 ?_
      exact sy_next 0 _ k2 (by kernel_rfl) (by kernel_rfl) (ih (i + 1, k1.next, oa2, oc2) _ k2 ⟨hlt, by dsimp only; rw [hls, List.length_append]; exact ho2.symm, by dsimp only; rw [hls]; exact W⟩ (show N - (i + 1) < N - i by omega) ⟨by kernel_rfl, (by kernel_rfl : _ = Value.slice oa2 (L.length + 1) oc2).trans (by dsimp only; rw [hls, List.length_append]; rfl), (by kernel_rfl : _ = Value.int .i64 (IntKind.wrap .i64 (Int.ofNat (i + 1)))).trans (by rw [hw]), trivial⟩)
    | false =>
      rw [hf, if_neg Bool.false_ne_true] at hls
      generalize lst f i = L at *
      refine ok_go 2 ?_
      exact sy_next 0 _ g (by kernel_rfl) (by kernel_rfl) (ih (i + 1, q, oa, oc) _ g ⟨hlt, by dsimp only; rw [hls]; exact hos, by dsimp only; rw [hls]; exact W⟩ (show N - (i + 1) < N - i by omega) ⟨by kernel_rfl, (by kernel_rfl : _ = Value.slice oa L.length oc).trans (by dsimp only; rw [hls]), (by kernel_rfl : _ = Value.int .i64 (IntKind.wrap .i64 (Int.ofNat (i + 1)))).trans (by rw [hw]), trivial⟩)
  · intro hlt
    have hlt : i = N := Nat.le_antisymm hi (no_nat hlt)
    subst hlt
    refine ok_go 0 ?_
    exact sy_done 0 (v := .slice oa (lst f i).length oc) (h := g) (by kernel_rfl) ⟨q, hos, W⟩
end Go.Proofs.YtkfbfgcflnkllaaGreatDoor
namespace Go.Proofs.YtkfbfgcflnkllaaGreatDoor
open Go Go.Eng Nim
set_option maxRecDepth 100000
set_option maxHeartbeats 8000000
theorem rep_cells (n : Nat) (v : Value) : List.replicate n v = cellsF n fun _ => v := by
  unfold cellsF
  rw [List.map_const', List.length_range]
theorem mkB (n : Nat) (hn : n ≤ 1024) (h : Hp) : makeSliceOp Tryz.prog h 37 (J n) (J n) = some (.slice (some ⟨h.next, 0, none⟩) n (2 * n), h.new (.cells (cellsF n fun _ => .bool false) 4 false)) := by
  rw [← rep_cells]
  exact mk37 n (by unfold Eng.most; omega) h
theorem rem_u (x : Int) (N : Nat) (hN : 0 < N) (hN2 : N < 2 ^ 62) : ∃ k, k < N ∧ (IntKind.wrap .u64 x).tmod (IntKind.wrap .u64 (Int.ofNat N)) = Int.ofNat k := by
  obtain ⟨u, hu⟩ : ∃ u : Nat, IntKind.wrap .u64 x = Int.ofNat u := Int.eq_ofNat_of_zero_le (by
    show 0 ≤ x % 2 ^ 64
    exact Int.emod_nonneg _ (by decide))
  have h2 : IntKind.wrap .u64 (Int.ofNat N) = Int.ofNat N := Int.emod_eq_of_lt (Int.natCast_nonneg _) (show ((N : Nat) : Int) < 18446744073709551616 by omega)
  exact ⟨u % N, Nat.mod_lt _ hN, by rw [hu, h2]; rfl⟩
theorem wrap_ne (N : Nat) (hN : 0 < N) (hN2 : N < 2 ^ 62) : IntKind.wrap .u64 (Int.ofNat N) ≠ 0 := by
  have h2 : IntKind.wrap .u64 (Int.ofNat N) = Int.ofNat N := Int.emod_eq_of_lt (Int.natCast_nonneg _) (show ((N : Nat) : Int) < 18446744073709551616 by omega)
  rw [h2]
  exact fun h => by have : N = 0 := Int.ofNat.inj h; omega
theorem tame_of (lf m : Nat) (hlf : 2000 ≤ lf) (n most : Nat) (hn : n ≤ 10) (hm : most ≤ 1000) (zs : List Int) (hzs : zs.length < 2 ^ 63) (v : Value) (h : Hp) (hv : Rds h v (zs.map I)) :
    ∃ v' h', Ev lf (m + 1) 20 [J n, v, J most] h = some (v', h') ∧ ∃ f q, v' = oslV q (lst f (2 ^ n)).length ∧ Sto h h' (oent q 3 ((lst f (2 ^ n)).map J)) := by
  refine fnS_ok (Q := fun v' h' => ∃ f q, v' = oslV q (lst f (2 ^ n)).length ∧ Sto h h' (oent q 3 ((lst f (2 ^ n)).map J))) ?_
  have hsh := one_shl n (by omega)
  have h2n : 2 ^ n ≤ 1024 := Nat.pow_le_pow_right (by decide) hn
  have hpos := Nat.two_pow_pos n
  obtain ⟨va, vc, hvs⟩ := hv.shape
  rw [List.length_map] at hvs
  subst hvs
  have W := Sto.start h
  refine ok_go 2 ?_
  refine sy_call 0 (r := makeSliceOp Tryz.prog h 37 (I (IntKind.i64.wrap (1 * 2 ^ min (IntKind.u64.wrap (Int.ofNat n)).toNat IntKind.i64.bits))) (I (IntKind.i64.wrap (1 * 2 ^ min (IntKind.u64.wrap (Int.ofNat n)).toNat IntKind.i64.bits)))) (by kernel_rfl) (by rw [hsh]; exact mkB (2 ^ n) h2n h) ?_
  have W := W.new (.cells (cellsF (2 ^ n) fun _ => .bool false) 4 false)
  generalize h.new (.cells (cellsF (2 ^ n) fun _ => .bool false) 4 false) = h1 at *
  refine ok_go 0 ?_
  refine sy_loop 0 lf h1 (α := Nat × (Nat → Bool)) (fun x => [(1, .slice va zs.length vc), (2, J most), (7, .slice (some ⟨h.next, 0, none⟩) (2 ^ n) (2 * 2 ^ n)), (8, J x.1)]) (fun x g => x.1 ≤ most ∧ Sto h g [(h.next, .cells (cellsF (2 ^ n) fun k => .bool (x.2 k)) 4 false)]) (fun x _ => most - x.1) (0, fun _ => false) (by kernel_rfl) (by kernel_rfl)
    ⟨by kernel_rfl, by kernel_rfl, by kernel_rfl, by kernel_rfl, trivial⟩ (show most - 0 < lf by omega) ⟨Nat.zero_le _, W⟩ ?_
  clear W
  rintro m1 ⟨i, f⟩ F1 g ⟨hi, W⟩ ih
  dsimp only at hi W
  have hw : IntKind.wrap .i64 (Int.ofNat (i + 1)) = Int.ofNat (i + 1) := wrap_nat (by omega)
  refine ok_go 2 ?_
  by_cases h1 : i < zs.length
  · refine sy_yes 0 (b := decide (Int.ofNat i < Int.ofNat zs.length)) (by kernel_rfl) (decide_eq_true (by show (i : Int) < (zs.length : Int); omega)) ?_
    refine ok_go 4 ?_
    by_cases h2 : i < most
    · refine sy_yes 0 (b := decide (Int.ofNat i < Int.ofNat most)) (by kernel_rfl) (decide_eq_true (by show (i : Int) < (most : Int); omega)) ?_
      obtain ⟨p, hp1, hp2⟩ := rdI (hv.ext W.ext) h1
      generalize zs[i] = x at *
      obtain ⟨k, hk, hrem⟩ := rem_u x (2 ^ n) hpos (by omega)
      refine ok_go 0 ?_
      refine sy_load 0 (r := indexAddrOp Tryz.prog 28 (.slice va zs.length vc) (J i)) (h' := g) (by kernel_rfl) hp1 ?_
      refine ok_go 0 ?_
      refine sy_load 0 (r := loadT Tryz.prog g 3 p) (h' := g) (by kernel_rfl) hp2 ?_
      refine ok_go 3 ?_
      refine sy_load 0 (r := pureX (binOp .rem 36 (.int .u64 (IntKind.wrap .u64 x)) (.int .u64 (IntKind.wrap .u64 (Int.ofNat (2 ^ n)))))) (h' := g) (by kernel_rfl) (x_rem (wrap_ne (2 ^ n) hpos (by omega))) ?_
      refine ok_go 0 ?_
      refine sy_load 0 (r := indexAddrOp Tryz.prog 37 (.slice (some ⟨h.next, 0, none⟩) (2 ^ n) (2 * 2 ^ n)) (.int .u64 ((IntKind.wrap .u64 x).tmod (IntKind.wrap .u64 (Int.ofNat (2 ^ n)))))) (h' := g) (v := ptr h.next k) (by kernel_rfl) (by rw [hrem]; exact idxS0 (e := 4) (by kernel_rfl) zB hk) ?_
      refine ok_go 0 ?_
      refine ow_storeF (P := Tryz.prog) (T := 4) (v := .bool true) 0 0 W rfl hk zB rfl (by kernel_rfl) fun g2 ng2 W => ?_
      rw [mk97_set] at W
      refine ok_go 1 ?_
      exact sy_next 0 _ g2 (by kernel_rfl) (by kernel_rfl) (ih (i + 1, fun j => if j = k then true else f j) _ g2 ⟨h2, W⟩ (show most - (i + 1) < most - i by omega) ⟨by kernel_rfl, by kernel_rfl, by kernel_rfl, (by kernel_rfl : _ = Value.int .i64 (IntKind.wrap .i64 (Int.ofNat (i + 1)))).trans (by rw [hw]), trivial⟩)
    · refine sy_no 0 (b := decide (Int.ofNat i < Int.ofNat most)) (by kernel_rfl) (decide_eq_false (by show ¬ (i : Int) < (most : Int); omega)) ?_
      refine ok_go 0 ?_
      refine sy_loop 0 lf g (α := Nat × Nat × Option Addr × Nat) (fun x => [(7, .slice (some ⟨h.next, 0, none⟩) (2 ^ n) (2 * 2 ^ n)), (9, .slice x.2.2.1 (lst f x.1).length x.2.2.2), (10, J x.1)]) (fun x g => x.1 ≤ 2 ^ n ∧ .slice x.2.2.1 (lst f x.1).length x.2.2.2 = oslV x.2.1 (lst f x.1).length ∧ Sto h g ((h.next, .cells (cellsF (2 ^ n) fun k => .bool (f k)) 4 false) :: oent x.2.1 3 ((lst f x.1).map J))) (fun x _ => 2 ^ n - x.1) (0, 0, none, 0) (by kernel_rfl) (by kernel_rfl)
        ⟨by kernel_rfl, by kernel_rfl, by kernel_rfl, trivial⟩ (show 2 ^ n - 0 < lf by omega) ⟨Nat.zero_le _, rfl, W⟩ ?_
      clear W
      rintro m2 ⟨k, q, oa, oc⟩ F2 g2 ⟨hk, hos, W⟩ ih2
      dsimp only at hk hos W
      have hw2 : IntKind.wrap .i64 (Int.ofNat (k + 1)) = Int.ofNat (k + 1) := wrap_nat (by omega)
      have hll := lst_len f k
      have hls := lst_succ f k
      refine ok_go 2 ?_
      refine sy_test 0 (decide (Int.ofNat k < Int.ofNat (2 ^ n))) (by kernel_rfl) ?_ ?_
      · intro hlt
        have hlt : k < 2 ^ n := ok_nat hlt
        refine ok_go 0 ?_
        refine sy_load 0 (r := indexAddrOp Tryz.prog 37 (.slice (some ⟨h.next, 0, none⟩) (2 ^ n) (2 * 2 ^ n)) (J k)) (h' := g2) (v := ptr h.next k) (by kernel_rfl) (idxS0 (e := 4) (by kernel_rfl) zB hlt) ?_
        refine ok_go 0 ?_
        refine ow_loadF (P := Tryz.prog) (T := 4) 0 0 W rfl hlt agB (by kernel_rfl) ?_
        refine ok_go 0 ?_
        cases hf : f k with
        | true =>
          rw [hf, if_pos rfl] at hls
          generalize lst f k = L at *
          refine ow_new 1 W (AObj.cells [Value.int IntKind.i64 (Int.ofNat (Prod.fst (k, q, oa, oc)))] 3 false) (fun q => Value.slice (some { block := q, off := 0 }) 1 2) (by kernel_rfl) fun k1 nk1 Wk1 => ?_
          have W := Wk1
          have W : Sto h k1 ((g2.next, .cells [J k] 3 false) :: ([(h.next, .cells (cellsF (2 ^ n) fun k => .bool (f k)) 4 false)] ++ oent q 3 (L.map J))) := W
          refine ow_app (P := Tryz.prog) (t := 28) (e := 3) (z := 1) (c := L.length) (i := q) 0 W slz28 (by rw [List.length_map, Nat.mul_one]) rfl rfl (by omega) (by rw [← hos]; kernel_rfl) fun k2 sl nk2 hsl hsc W => ?_
          obtain ⟨oa2, oc2, ho2⟩ := osl_shape k1.next (L.length + 1)
          rw [ho2] at hsl
          subst hsl
          have W : Sto h k2 ((h.next, .cells (cellsF (2 ^ n) fun k => .bool (f k)) 4 false) :: oent k1.next 3 ((L ++ [k]).map J)) := by rw [List.map_append]; exact W
          refine ok_go 1 ?_
          exact sy_next 0 _ k2 (by kernel_rfl) (by kernel_rfl) (ih2 (k + 1, k1.next, oa2, oc2) _ k2 ⟨hlt, by dsimp only; rw [hls, List.length_append]; exact ho2.symm, by dsimp only; rw [hls]; exact W⟩ (show 2 ^ n - (k + 1) < 2 ^ n - k by omega) ⟨by kernel_rfl, (by kernel_rfl : _ = Value.slice oa2 (L.length + 1) oc2).trans (by dsimp only; rw [hls, List.length_append]; rfl), (by kernel_rfl : _ = Value.int .i64 (IntKind.wrap .i64 (Int.ofNat (k + 1)))).trans (by rw [hw2]), trivial⟩)
        | false =>
          rw [hf, if_neg Bool.false_ne_true] at hls
          generalize lst f k = L at *
          refine ok_go 2 ?_
          exact sy_next 0 _ g2 (by kernel_rfl) (by kernel_rfl) (ih2 (k + 1, q, oa, oc) _ g2 ⟨hlt, by dsimp only; rw [hls]; exact hos, by dsimp only; rw [hls]; exact W⟩ (show 2 ^ n - (k + 1) < 2 ^ n - k by omega) ⟨by kernel_rfl, (by kernel_rfl : _ = Value.slice oa L.length oc).trans (by dsimp only; rw [hls]), (by kernel_rfl : _ = Value.int .i64 (IntKind.wrap .i64 (Int.ofNat (k + 1)))).trans (by rw [hw2]), trivial⟩)
      · intro hlt
        have hlt : k = 2 ^ n := Nat.le_antisymm hk (no_nat hlt)
        subst hlt
        refine ok_go 0 ?_
        exact sy_done 0 (v := .slice oa (lst f (2 ^ n)).length oc) (h := g2) (by kernel_rfl) ⟨f, q, hos, W.drop 1⟩
  · refine sy_no 0 (b := decide (Int.ofNat i < Int.ofNat zs.length)) (by kernel_rfl) (decide_eq_false (by show ¬ (i : Int) < (zs.length : Int); omega)) ?_
    refine ok_go 4 ?_
    refine sy_loop 0 lf g (α := Nat × Nat × Option Addr × Nat) (fun x => [(7, .slice (some ⟨h.next, 0, none⟩) (2 ^ n) (2 * 2 ^ n)), (9, .slice x.2.2.1 (lst f x.1).length x.2.2.2), (10, J x.1)]) (fun x g => x.1 ≤ 2 ^ n ∧ .slice x.2.2.1 (lst f x.1).length x.2.2.2 = oslV x.2.1 (lst f x.1).length ∧ Sto h g ((h.next, .cells (cellsF (2 ^ n) fun k => .bool (f k)) 4 false) :: oent x.2.1 3 ((lst f x.1).map J))) (fun x _ => 2 ^ n - x.1) (0, 0, none, 0) (by kernel_rfl) (by kernel_rfl)
      ⟨by kernel_rfl, by kernel_rfl, by kernel_rfl, trivial⟩ (show 2 ^ n - 0 < lf by omega) ⟨Nat.zero_le _, rfl, W⟩ ?_
    clear W
    rintro m2 ⟨k, q, oa, oc⟩ F2 g2 ⟨hk, hos, W⟩ ih2
    dsimp only at hk hos W
    have hw2 : IntKind.wrap .i64 (Int.ofNat (k + 1)) = Int.ofNat (k + 1) := wrap_nat (by omega)
    have hll := lst_len f k
    have hls := lst_succ f k
    refine ok_go 2 ?_
    refine sy_test 0 (decide (Int.ofNat k < Int.ofNat (2 ^ n))) (by kernel_rfl) ?_ ?_
    · intro hlt
      have hlt : k < 2 ^ n := ok_nat hlt
      refine ok_go 0 ?_
      refine sy_load 0 (r := indexAddrOp Tryz.prog 37 (.slice (some ⟨h.next, 0, none⟩) (2 ^ n) (2 * 2 ^ n)) (J k)) (h' := g2) (v := ptr h.next k) (by kernel_rfl) (idxS0 (e := 4) (by kernel_rfl) zB hlt) ?_
      refine ok_go 0 ?_
      refine ow_loadF (P := Tryz.prog) (T := 4) 0 0 W rfl hlt agB (by kernel_rfl) ?_
      refine ok_go 0 ?_
      cases hf : f k with
      | true =>
        rw [hf, if_pos rfl] at hls
        generalize lst f k = L at *
        refine ow_new 1 W (AObj.cells [Value.int IntKind.i64 (Int.ofNat (Prod.fst (k, q, oa, oc)))] 3 false) (fun q => Value.slice (some { block := q, off := 0 }) 1 2) (by kernel_rfl) fun k1 nk1 Wk1 => ?_
        have W := Wk1
        have W : Sto h k1 ((g2.next, .cells [J k] 3 false) :: ([(h.next, .cells (cellsF (2 ^ n) fun k => .bool (f k)) 4 false)] ++ oent q 3 (L.map J))) := W
        refine ow_app (P := Tryz.prog) (t := 28) (e := 3) (z := 1) (c := L.length) (i := q) 0 W slz28 (by rw [List.length_map, Nat.mul_one]) rfl rfl (by omega) (by rw [← hos]; kernel_rfl) fun k2 sl nk2 hsl hsc W => ?_
        obtain ⟨oa2, oc2, ho2⟩ := osl_shape k1.next (L.length + 1)
        rw [ho2] at hsl
        subst hsl
        have W : Sto h k2 ((h.next, .cells (cellsF (2 ^ n) fun k => .bool (f k)) 4 false) :: oent k1.next 3 ((L ++ [k]).map J)) := by rw [List.map_append]; exact W
        refine ok_go 1 ?_
        exact sy_next 0 _ k2 (by kernel_rfl) (by kernel_rfl) (ih2 (k + 1, k1.next, oa2, oc2) _ k2 ⟨hlt, by dsimp only; rw [hls, List.length_append]; exact ho2.symm, by dsimp only; rw [hls]; exact W⟩ (show 2 ^ n - (k + 1) < 2 ^ n - k by omega) ⟨by kernel_rfl, (by kernel_rfl : _ = Value.slice oa2 (L.length + 1) oc2).trans (by dsimp only; rw [hls, List.length_append]; rfl), (by kernel_rfl : _ = Value.int .i64 (IntKind.wrap .i64 (Int.ofNat (k + 1)))).trans (by rw [hw2]), trivial⟩)
      | false =>
        rw [hf, if_neg Bool.false_ne_true] at hls
        generalize lst f k = L at *
        refine ok_go 2 ?_
        exact sy_next 0 _ g2 (by kernel_rfl) (by kernel_rfl) (ih2 (k + 1, q, oa, oc) _ g2 ⟨hlt, by dsimp only; rw [hls]; exact hos, by dsimp only; rw [hls]; exact W⟩ (show 2 ^ n - (k + 1) < 2 ^ n - k by omega) ⟨by kernel_rfl, (by kernel_rfl : _ = Value.slice oa L.length oc).trans (by dsimp only; rw [hls]), (by kernel_rfl : _ = Value.int .i64 (IntKind.wrap .i64 (Int.ofNat (k + 1)))).trans (by rw [hw2]), trivial⟩)
    · intro hlt
      have hlt : k = 2 ^ n := Nat.le_antisymm hk (no_nat hlt)
      subst hlt
      refine ok_go 0 ?_
      exact sy_done 0 (v := .slice oa (lst f (2 ^ n)).length oc) (h := g2) (by kernel_rfl) ⟨f, q, hos, W.drop 1⟩
end Go.Proofs.YtkfbfgcflnkllaaGreatDoor
namespace Go.Proofs.YtkfbfgcflnkllaaGreatDoor
open Go Go.Eng Nim
set_option maxRecDepth 100000
set_option maxHeartbeats 8000000
def stS (up : Bool) (B s : Nat) (f : Nat → Bool) : Nat → Bool := if s &&& B = 0 then (if up then fun j => if j = s ||| B then (f (s ||| B) || f s) else f j else fun j => if j = s then (f s || f (s ||| B)) else f j) else f
def innS (up : Bool) (B : Nat) (f : Nat → Bool) : Nat → Nat → Bool
  | 0 => f
  | s + 1 => stS up B s (innS up B f s)
def cloS (up : Bool) (N : Nat) (f : Nat → Bool) : Nat → Nat → Bool
  | 0 => f
  | i + 1 => innS up (2 ^ i) (cloS up N f i) N
theorem lst_mem {f : Nat → Bool} {n x : Nat} : x ∈ lst f n ↔ x < n ∧ f x = true := by
  unfold lst
  rw [List.mem_filter, List.mem_range]
theorem lst_rise (f : Nat → Bool) (n : Nat) : (lst f n).Pairwise (· < ·) := by
  unfold lst
  exact List.Pairwise.filter _ List.pairwise_lt_range
theorem chk_lst (lf m : Nat) (hlf : 2000 ≤ lf) (n : Nat) (hn : n ≤ 10) (f : Nat → Bool) (v : Value) (h : Hp) (hv : Rds h v ((lst f (2 ^ n)).map J)) : Ev lf (m + 1) 57 [J n, v] h = some (J 0, h) := by
  have h2n : 2 ^ n ≤ 1024 := Nat.pow_le_pow_right (by decide) hn
  have hll := lst_len f (2 ^ n)
  obtain ⟨e, he, e1⟩ := chk_of lf m (Int.ofNat n) ((lst f (2 ^ n)).map Int.ofNat) (by rw [List.length_map]; omega) (by rw [List.length_map]; omega) v h (by rw [List.map_map]; exact hv)
  have h0 : FamR (Int.ofNat n) ((lst f (2 ^ n)).map Int.ofNat) 0 := by
    refine .inr ⟨n, rfl, hn, .inr ⟨rfl, ?_⟩⟩
    intro i hi hbad
    rw [List.length_map] at hi
    have hget : ∀ k (hk : k < (lst f (2 ^ n)).length), ((lst f (2 ^ n)).map Int.ofNat).getD k 0 = Int.ofNat (lst f (2 ^ n))[k] := fun k hk => by
      rw [List.getD_eq_getElem?_getD, List.getElem?_map, List.getElem?_eq_getElem hk]
      rfl
    have hlt := (lst_mem.1 (List.getElem_mem hi)).1
    have hp2 : (2 : Int) ^ n = Int.ofNat (2 ^ n) := by simp
    rcases hbad with hb | hb
    · rw [hget i hi] at hb
      unfold lastI at hb
      split at hb
      · have : Int.ofNat (lst f (2 ^ n))[i] ≥ 0 := Int.natCast_nonneg _
        omega
      · have hr := List.pairwise_iff_getElem.1 (lst_rise f (2 ^ n)) (i - 1) i (by omega) hi (by omega)
        rw [hget (i - 1) (by omega)] at hb
        have : (lst f (2 ^ n))[i] ≤ (lst f (2 ^ n))[i - 1] := Int.ofNat_le.1 hb
        omega
    · rw [hget i hi, hp2] at hb
      have : 2 ^ n ≤ (lst f (2 ^ n))[i] := Int.ofNat_le.1 hb
      omega
  rw [he.uniq h0] at e1
  exact e1
theorem clos_of (lf m : Nat) (hlf : 2000 ≤ lf) (n : Nat) (hn : n ≤ 10) (up : Bool) (f : Nat → Bool) (v : Value) (h : Hp) (hv : Rds h v ((lst f (2 ^ n)).map J)) :
    ∃ v' h', Ev lf (m + 2) 19 [J n, v, .bool up] h = some (v', h') ∧ ∃ q, v' = .tuple #[oslV q (lst (cloS up (2 ^ n) (fun k => decide (k ∈ lst f (2 ^ n))) n) 1024).length, J 0] ∧ Sto h h' (oent q 3 ((lst (cloS up (2 ^ n) (fun k => decide (k ∈ lst f (2 ^ n))) n) 1024).map J)) := by
  refine fnS_ok (Q := fun v' h' => ∃ q, v' = .tuple #[oslV q (lst (cloS up (2 ^ n) (fun k => decide (k ∈ lst f (2 ^ n))) n) 1024).length, J 0] ∧ Sto h h' (oent q 3 ((lst (cloS up (2 ^ n) (fun k => decide (k ∈ lst f (2 ^ n))) n) 1024).map J))) ?_
  have hsh := one_shl n (by omega)
  have h2n : 2 ^ n ≤ 1024 := Nat.pow_le_pow_right (by decide) hn
  have hll := lst_len f (2 ^ n)
  have e1 := chk_lst lf m hlf n hn f v h hv
  obtain ⟨_, h1, e2, rfl, X1⟩ := marked_of lf m hlf (lst f (2 ^ n)) (by omega) (fun x hx => by have := (lst_mem.1 hx).1; omega) v h hv
  obtain ⟨va, vc, hvs⟩ := hv.shape
  rw [List.length_map] at hvs
  subst hvs
  have W := (Sto.start h).call X1
  generalize hL : lst f (2 ^ n) = L at *
  generalize hF : (fun i => decide (i ∈ L)) = f at *
  have hMl : (mk97 f).length = 1024 := cellsF_len ..
  refine ok_go 0 ?_
  refine sy_call 0 (by kernel_rfl) e1 ?_
  refine ok_go 2 ?_
  generalize hMM : mk97 f = MM at *
  refine sy_call 0 (by kernel_rfl) e2 ?_
  refine ok_go 0 ?_
  refine ow_new 0 W (.cells (mk97 fun _ => false) 97 false) (fun i => ptr i 0) (by kernel_rfl) fun h2 nh2 W => ?_
  generalize h1.next = b at *
  refine ok_go 0 ?_
  refine ow_storeA (P := Tryz.prog) (T := 97) (v := .agg MM.toArray) 0 0 W MM rfl rfl (by rw [hMl]; exact (cellsF_len ..).symm) (by rw [hMl]; kernel_rfl) (by rw [← hMM]; exact mk97_sc _) (by kernel_rfl) fun h3 nh3 W => ?_
  rw [← hMM] at W
  have W : Sto h h3 [(b, .cells (mk97 (cloS up (2 ^ n) f 0)) 97 false)] := W
  refine ok_go 0 ?_
  refine sy_loop 0 lf h3 (α := Nat) (fun i => [(0, J n), (2, .bool up), (9, ptr b 0), (21, J n), (22, J i)]) (fun i g => i ≤ n ∧ Sto h g [(b, .cells (mk97 (cloS up (2 ^ n) f i)) 97 false)]) (fun i _ => n - i) 0 (by kernel_rfl) (by kernel_rfl)
    ⟨by kernel_rfl, by kernel_rfl, by kernel_rfl, by kernel_rfl, by kernel_rfl, trivial⟩ (show n - 0 < lf by omega) ⟨Nat.zero_le _, W⟩ ?_
  clear W e1 e2 nh2 nh3 X1 hMM
  rintro m1 i F1 g ⟨hi, W⟩ ih
  have hw : IntKind.wrap .i64 (Int.ofNat (i + 1)) = Int.ofNat (i + 1) := wrap_nat (by omega)
  refine ok_go 1 ?_
  refine sy_test 0 (decide (Int.ofNat i < Int.ofNat n)) (by kernel_rfl) ?_ ?_
  · intro hlt
    have hlt : i < n := ok_nat hlt
    have hshi := one_shl i (by omega)
    have h2i : 2 ^ i < 2 ^ n := Nat.pow_lt_pow_right (by decide) hlt
    refine ok_go 4 ?_
    refine sy_loop 0 lf g (α := Nat) (fun s => [(0, J n), (2, .bool up), (9, ptr b 0), (21, J n), (22, J i), (11, J (2 ^ i)), (30, I (IntKind.i64.wrap (1 * 2 ^ min (IntKind.u64.wrap (Int.ofNat n)).toNat IntKind.i64.bits))), (31, J s)]) (fun s g => s ≤ 2 ^ n ∧ Sto h g [(b, .cells (mk97 (innS up (2 ^ i) (cloS up (2 ^ n) f i) s)) 97 false)]) (fun s _ => 2 ^ n - s) 0 (by kernel_rfl) (by kernel_rfl)
      ⟨by kernel_rfl, by kernel_rfl, by kernel_rfl, by kernel_rfl, by kernel_rfl, (by kernel_rfl : _ = Value.int .i64 (IntKind.i64.wrap (1 * 2 ^ min (IntKind.u64.wrap (Int.ofNat i)).toNat IntKind.i64.bits))).trans (by rw [hshi]), by kernel_rfl, by kernel_rfl, trivial⟩ (show 2 ^ n - 0 < lf by omega) ⟨Nat.zero_le _, W⟩ ?_
    clear W
    rintro m2 s F2 g2 ⟨hs, W⟩ ihs
    have hws : IntKind.wrap .i64 (Int.ofNat (s + 1)) = Int.ofNat (s + 1) := wrap_nat (by omega)
    refine ok_go 1 ?_
    refine sy_test 0 (decide (Int.ofNat s < IntKind.i64.wrap (1 * 2 ^ min (IntKind.u64.wrap (Int.ofNat n)).toNat IntKind.i64.bits))) (by kernel_rfl) ?_ ?_
    · intro hlt2
      rw [hsh] at hlt2
      have hlt2 : s < 2 ^ n := ok_nat hlt2
      have han : andI (Int.ofNat s) (Int.ofNat (2 ^ i)) = Int.ofNat (s &&& 2 ^ i) := and_nat (by omega)
      have hor : orI (Int.ofNat s) (Int.ofNat (2 ^ i)) = Int.ofNat (s ||| 2 ^ i) := or_nat (by omega) (by omega)
      have ho10 : s ||| 2 ^ i < 1024 := Nat.lt_of_lt_of_le (Nat.or_lt_two_pow hlt2 h2i) h2n
      have hs10 : s < 1024 := by omega
      refine ok_go 2 ?_
      by_cases hz : s &&& 2 ^ i = 0
      · refine sy_yes 0 (b := decide (andI (Int.ofNat s) (Int.ofNat (2 ^ i)) = 0)) (by kernel_rfl) (decide_eq_true (by rw [han, hz]; rfl)) ?_
        cases up with
        | true =>
          generalize hM : innS true (2 ^ i) (cloS true (2 ^ n) f i) s = M at *
          have hst : innS true (2 ^ i) (cloS true (2 ^ n) f i) (s + 1) = fun j => if j = (s ||| 2 ^ i) then (M (s ||| 2 ^ i) || M s) else M j := by
            rw [← hM]
            show stS true (2 ^ i) s _ = _
            unfold stS
            rw [if_pos hz]
            rfl
          refine ok_go 4 ?_
          refine sy_load 0 (r := indexAddrOp Tryz.prog 97 (ptr b 0) (I (orI (Int.ofNat s) (Int.ofNat (2 ^ i))))) (h' := g2) (v := ptr b (s ||| 2 ^ i)) (by kernel_rfl) (by rw [hor]; exact idxM ho10) ?_
          refine ok_go 0 ?_
          refine ow_loadF (P := Tryz.prog) (T := 4) 0 0 W rfl ho10 agB (by kernel_rfl) ?_
          refine ok_go 0 ?_
          cases hfa : M (s ||| 2 ^ i) with
          | true =>
            rw [hfa, Bool.true_or] at hst
            refine ok_go 4 ?_
            refine sy_load 0 (r := indexAddrOp Tryz.prog 97 (ptr b 0) (I (orI (Int.ofNat s) (Int.ofNat (2 ^ i))))) (h' := g2) (v := ptr b (s ||| 2 ^ i)) (by kernel_rfl) (by rw [hor]; exact idxM ho10) ?_
            refine ok_go 0 ?_
            refine ow_storeF (P := Tryz.prog) (T := 4) (v := .bool true) 0 0 W rfl ho10 zB rfl (by kernel_rfl) fun g3 ng3 W => ?_
            rw [mk97_set] at W
            have W : Sto h g3 [(b, .cells (mk97 (innS true (2 ^ i) (cloS true (2 ^ n) f i) (s + 1))) 97 false)] := by
              rw [hst]
              exact W
            refine ok_go 1 ?_
            exact sy_next 0 _ g3 (by kernel_rfl) (by kernel_rfl) (ihs (s + 1) _ g3 ⟨hlt2, W⟩ (show 2 ^ n - (s + 1) < 2 ^ n - s by omega) ⟨by kernel_rfl, by kernel_rfl, by kernel_rfl, by kernel_rfl, by kernel_rfl, by kernel_rfl, by kernel_rfl, (by kernel_rfl : _ = Value.int .i64 (IntKind.wrap .i64 (Int.ofNat (s + 1)))).trans (by rw [hws]), trivial⟩)
          | false =>
            rw [hfa, Bool.false_or] at hst
            refine ok_go 2 ?_
            refine sy_load 0 (r := indexAddrOp Tryz.prog 97 (ptr b 0) (J s)) (h' := g2) (v := ptr b s) (by kernel_rfl) (idxM hs10) ?_
            refine ok_go 1 ?_
            refine ow_loadF (P := Tryz.prog) (T := 4) 0 0 W rfl hs10 agB (by kernel_rfl) ?_
            refine ok_go 1 ?_
            refine sy_load 0 (r := indexAddrOp Tryz.prog 97 (ptr b 0) (I (orI (Int.ofNat s) (Int.ofNat (2 ^ i))))) (h' := g2) (v := ptr b (s ||| 2 ^ i)) (by kernel_rfl) (by rw [hor]; exact idxM ho10) ?_
            refine ok_go 0 ?_
            refine ow_storeF (P := Tryz.prog) (T := 4) (v := .bool (M s)) 0 0 W rfl ho10 zB rfl (by kernel_rfl) fun g3 ng3 W => ?_
            rw [mk97_set] at W
            have W : Sto h g3 [(b, .cells (mk97 (innS true (2 ^ i) (cloS true (2 ^ n) f i) (s + 1))) 97 false)] := by
              rw [hst]
              exact W
            refine ok_go 1 ?_
            exact sy_next 0 _ g3 (by kernel_rfl) (by kernel_rfl) (ihs (s + 1) _ g3 ⟨hlt2, W⟩ (show 2 ^ n - (s + 1) < 2 ^ n - s by omega) ⟨by kernel_rfl, by kernel_rfl, by kernel_rfl, by kernel_rfl, by kernel_rfl, by kernel_rfl, by kernel_rfl, (by kernel_rfl : _ = Value.int .i64 (IntKind.wrap .i64 (Int.ofNat (s + 1)))).trans (by rw [hws]), trivial⟩)
        | false =>
          generalize hM : innS false (2 ^ i) (cloS false (2 ^ n) f i) s = M at *
          refine ok_go 4 ?_
          refine sy_yes 0 (b := decide (andI (Int.ofNat s) (Int.ofNat (2 ^ i)) = 0)) (by kernel_rfl) (decide_eq_true (by rw [han, hz]; rfl)) ?_
          have hst : innS false (2 ^ i) (cloS false (2 ^ n) f i) (s + 1) = fun j => if j = s then (M s || M (s ||| 2 ^ i)) else M j := by
            rw [← hM]
            show stS false (2 ^ i) s _ = _
            unfold stS
            rw [if_pos hz]
            rfl
          refine ok_go 0 ?_
          refine sy_load 0 (r := indexAddrOp Tryz.prog 97 (ptr b 0) (J s)) (h' := g2) (v := ptr b s) (by kernel_rfl) (idxM hs10) ?_
          refine ok_go 0 ?_
          refine ow_loadF (P := Tryz.prog) (T := 4) 0 0 W rfl hs10 agB (by kernel_rfl) ?_
          refine ok_go 0 ?_
          cases hfa : M s with
          | true =>
            rw [hfa, Bool.true_or] at hst
            refine ok_go 6 ?_
            refine sy_load 0 (r := indexAddrOp Tryz.prog 97 (ptr b 0) (J s)) (h' := g2) (v := ptr b s) (by kernel_rfl) (idxM hs10) ?_
            refine ok_go 0 ?_
            refine ow_storeF (P := Tryz.prog) (T := 4) (v := .bool true) 0 0 W rfl hs10 zB rfl (by kernel_rfl) fun g3 ng3 W => ?_
            rw [mk97_set] at W
            have W : Sto h g3 [(b, .cells (mk97 (innS false (2 ^ i) (cloS false (2 ^ n) f i) (s + 1))) 97 false)] := by
              rw [hst]
              exact W
            refine ok_go 1 ?_
            exact sy_next 0 _ g3 (by kernel_rfl) (by kernel_rfl) (ihs (s + 1) _ g3 ⟨hlt2, W⟩ (show 2 ^ n - (s + 1) < 2 ^ n - s by omega) ⟨by kernel_rfl, by kernel_rfl, by kernel_rfl, by kernel_rfl, by kernel_rfl, by kernel_rfl, by kernel_rfl, (by kernel_rfl : _ = Value.int .i64 (IntKind.wrap .i64 (Int.ofNat (s + 1)))).trans (by rw [hws]), trivial⟩)
          | false =>
            rw [hfa, Bool.false_or] at hst
            refine ok_go 5 ?_
            refine sy_load 0 (r := indexAddrOp Tryz.prog 97 (ptr b 0) (I (orI (Int.ofNat s) (Int.ofNat (2 ^ i))))) (h' := g2) (v := ptr b (s ||| 2 ^ i)) (by kernel_rfl) (by rw [hor]; exact idxM ho10) ?_
            refine ok_go 1 ?_
            refine ow_loadF (P := Tryz.prog) (T := 4) 0 0 W rfl ho10 agB (by kernel_rfl) ?_
            refine ok_go 1 ?_
            refine sy_load 0 (r := indexAddrOp Tryz.prog 97 (ptr b 0) (J s)) (h' := g2) (v := ptr b s) (by kernel_rfl) (idxM hs10) ?_
            refine ok_go 0 ?_
            refine ow_storeF (P := Tryz.prog) (T := 4) (v := .bool (M (s ||| 2 ^ i))) 0 0 W rfl hs10 zB rfl (by kernel_rfl) fun g3 ng3 W => ?_
            rw [mk97_set] at W
            have W : Sto h g3 [(b, .cells (mk97 (innS false (2 ^ i) (cloS false (2 ^ n) f i) (s + 1))) 97 false)] := by
              rw [hst]
              exact W
            refine ok_go 1 ?_
            exact sy_next 0 _ g3 (by kernel_rfl) (by kernel_rfl) (ihs (s + 1) _ g3 ⟨hlt2, W⟩ (show 2 ^ n - (s + 1) < 2 ^ n - s by omega) ⟨by kernel_rfl, by kernel_rfl, by kernel_rfl, by kernel_rfl, by kernel_rfl, by kernel_rfl, by kernel_rfl, (by kernel_rfl : _ = Value.int .i64 (IntKind.wrap .i64 (Int.ofNat (s + 1)))).trans (by rw [hws]), trivial⟩)
      · have hzI : ¬ andI (Int.ofNat s) (Int.ofNat (2 ^ i)) = 0 := by rw [han]; exact fun h => hz (Int.ofNat.inj h)
        refine sy_no 0 (b := decide (andI (Int.ofNat s) (Int.ofNat (2 ^ i)) = 0)) (by kernel_rfl) (decide_eq_false hzI) ?_
        refine ok_go 4 ?_
        refine sy_no 0 (b := decide (andI (Int.ofNat s) (Int.ofNat (2 ^ i)) = 0)) (by kernel_rfl) (decide_eq_false hzI) ?_
        have W : Sto h g2 [(b, .cells (mk97 (innS up (2 ^ i) (cloS up (2 ^ n) f i) (s + 1))) 97 false)] := by
          show Sto h g2 [(b, .cells (mk97 (stS up (2 ^ i) s _)) 97 false)]
          unfold stS
          rw [if_neg hz]
          exact W
        refine ok_go 1 ?_
        exact sy_next 0 _ g2 (by kernel_rfl) (by kernel_rfl) (ihs (s + 1) _ g2 ⟨hlt2, W⟩ (show 2 ^ n - (s + 1) < 2 ^ n - s by omega) ⟨by kernel_rfl, by kernel_rfl, by kernel_rfl, by kernel_rfl, by kernel_rfl, by kernel_rfl, by kernel_rfl, (by kernel_rfl : _ = Value.int .i64 (IntKind.wrap .i64 (Int.ofNat (s + 1)))).trans (by rw [hws]), trivial⟩)
    · intro hlt2
      rw [hsh] at hlt2
      have hlt2 : s = 2 ^ n := Nat.le_antisymm hs (no_nat hlt2)
      subst hlt2
      refine ok_go 1 ?_
      exact sy_next 0 _ g2 (by kernel_rfl) (by kernel_rfl) (ih (i + 1) _ g2 ⟨hlt, W⟩ (show n - (i + 1) < n - i by omega) ⟨by kernel_rfl, by kernel_rfl, by kernel_rfl, by kernel_rfl, (by kernel_rfl : _ = Value.int .i64 (IntKind.wrap .i64 (Int.ofNat (i + 1)))).trans (by rw [hw]), trivial⟩)
  · intro hlt
    have hlt : i = n := Nat.le_antisymm hi (no_nat hlt)
    subst hlt
    obtain ⟨v4, h4, e4, q, rfl, W4⟩ := list_of lf m hlf (cloS up (2 ^ i) f i) b false g (W.get 0 rfl) (W.all _ List.mem_cons_self).2.1
    obtain ⟨oa, oc, ho⟩ := osl_shape q (lst (cloS up (2 ^ i) f i) 1024).length
    rw [ho] at e4
    refine ok_go 0 ?_
    refine sy_call 0 (by kernel_rfl) e4 ?_
    refine ok_go 0 ?_
    exact sy_done 0 (v := .tuple #[.slice oa (lst (cloS up (2 ^ i) f i) 1024).length oc, J 0]) (h := h4) (by kernel_rfl) ⟨q, by rw [ho], (W.over W4).sub (List.sublist_append_left ..)⟩
end Go.Proofs.YtkfbfgcflnkllaaGreatDoor
namespace Go.Proofs.YtkfbfgcflnkllaaGreatDoor
open Go Go.Eng Nim Oct
def upC (n : Nat) (A : Nat → Bool) : Prop := ∀ k, k < n → ∀ s, s < 2 ^ n → s.testBit k = false → A s = true → A (s ^^^ 2 ^ k) = true
def dnC (n : Nat) (A : Nat → Bool) : Prop := ∀ k, k < n → ∀ s, s < 2 ^ n → s.testBit k = false → A (s ^^^ 2 ^ k) = true → A s = true
theorem tb_x (s i k : Nat) : (s ^^^ 2 ^ i).testBit k = (s.testBit k ^^ decide (i = k)) := by
  rw [Nat.testBit_xor, Nat.testBit_two_pow]
theorem tb_xs (s i : Nat) : (s ^^^ 2 ^ i).testBit i = !s.testBit i := by
  rw [tb_x, decide_eq_true rfl, Bool.xor_true]
theorem tb_xn {s i k : Nat} (h : i ≠ k) : (s ^^^ 2 ^ i).testBit k = s.testBit k := by
  rw [tb_x, decide_eq_false h, Bool.xor_false]
theorem x_x (s b : Nat) : s ^^^ b ^^^ b = s := by rw [Nat.xor_assoc, Nat.xor_self, Nat.xor_zero]
theorem x_lt {s k n : Nat} (hs : s < 2 ^ n) (hk : k < n) : s ^^^ 2 ^ k < 2 ^ n := Nat.xor_lt_two_pow hs (Nat.pow_lt_pow_right (by decide) hk)
theorem inn_up (i : Nat) (f : Nat → Bool) : ∀ s j, innS true (2 ^ i) f s j = (f j || (j.testBit i && decide (j ^^^ 2 ^ i < s) && f (j ^^^ 2 ^ i)))
  | 0, j => by simp [innS]
  | s + 1, j => by
    show stS true (2 ^ i) s (innS true (2 ^ i) f s) j = _
    unfold stS
    by_cases hz : s &&& 2 ^ i = 0
    · have hb := (and_bit s i).1 hz
      rw [if_pos hz, if_pos rfl]
      by_cases hj : j = s ||| 2 ^ i
      · rw [if_pos hj]
        have hjx : j = s ^^^ 2 ^ i := hj.trans (or_bit hb)
        have hx : j ^^^ 2 ^ i = s := by rw [hjx, x_x]
        have ht : j.testBit i = true := by rw [hjx, tb_xs, hb]; rfl
        rw [← hj, inn_up i f s j, inn_up i f s s, hx, ht, hb]
        simp
      · rw [if_neg hj, inn_up i f s j]
        cases ht : j.testBit i with
        | false => simp
        | true =>
          have : j ^^^ 2 ^ i ≠ s := fun e => hj (by rw [or_bit hb, ← e, x_x])
          rw [show decide (j ^^^ 2 ^ i < s + 1) = decide (j ^^^ 2 ^ i < s) from decide_eq_decide.2 (by omega)]
    · have hb : s.testBit i = true := by
        cases h : s.testBit i with
        | true => rfl
        | false => exact absurd ((and_bit s i).2 h) hz
      rw [if_neg hz, inn_up i f s j]
      cases ht : j.testBit i with
      | false => simp
      | true =>
        have : j ^^^ 2 ^ i ≠ s := fun e => by
          have := tb_xs j i
          rw [e, hb, ht] at this
          cases this
        rw [show decide (j ^^^ 2 ^ i < s + 1) = decide (j ^^^ 2 ^ i < s) from decide_eq_decide.2 (by omega)]
theorem inn_dn (i : Nat) (f : Nat → Bool) : ∀ s j, innS false (2 ^ i) f s j = (f j || (!j.testBit i && decide (j < s) && f (j ^^^ 2 ^ i)))
  | 0, j => by simp [innS]
  | s + 1, j => by
    show stS false (2 ^ i) s (innS false (2 ^ i) f s) j = _
    unfold stS
    by_cases hz : s &&& 2 ^ i = 0
    · have hb := (and_bit s i).1 hz
      rw [if_pos hz, if_neg Bool.false_ne_true]
      by_cases hj : j = s
      · subst hj
        rw [if_pos rfl, inn_dn i f j j, or_bit hb, inn_dn i f j (j ^^^ 2 ^ i), tb_xs, hb]
        simp
      · rw [if_neg hj, inn_dn i f s j, show decide (j < s + 1) = decide (j < s) from decide_eq_decide.2 (by omega)]
    · have hb : s.testBit i = true := by
        cases h : s.testBit i with
        | true => rfl
        | false => exact absurd ((and_bit s i).2 h) hz
      rw [if_neg hz, inn_dn i f s j]
      by_cases hj : j = s
      · subst hj
        rw [hb]
        simp
      · rw [show decide (j < s + 1) = decide (j < s) from decide_eq_decide.2 (by omega)]
theorem x_comm (s a b : Nat) : s ^^^ a ^^^ b = s ^^^ b ^^^ a := by rw [Nat.xor_assoc, Nat.xor_comm a b, ← Nat.xor_assoc]
/-- What is closed towards the first bits, and lies below 2^n. -/
theorem clo_up (n : Nat) (f : Nat → Bool) (hf : ∀ j, f j = true → j < 2 ^ n) : ∀ i, i ≤ n → (∀ j, cloS true (2 ^ n) f i j = true → j < 2 ^ n) ∧ ∀ k, k < i → ∀ s, s < 2 ^ n → s.testBit k = false → cloS true (2 ^ n) f i s = true → cloS true (2 ^ n) f i (s ^^^ 2 ^ k) = true
  | 0, _ => ⟨hf, fun k hk => by omega⟩
  | i + 1, hi => by
    obtain ⟨h1, h2⟩ := clo_up n f hf i (by omega)
    have hM : ∀ j, cloS true (2 ^ n) f (i + 1) j = (cloS true (2 ^ n) f i j || (j.testBit i && decide (j ^^^ 2 ^ i < 2 ^ n) && cloS true (2 ^ n) f i (j ^^^ 2 ^ i))) := inn_up i (cloS true (2 ^ n) f i) (2 ^ n)
    generalize cloS true (2 ^ n) f i = g at *
    generalize cloS true (2 ^ n) f (i + 1) = M at *
    refine ⟨fun j hj => ?_, fun k hk s hs hb hA => ?_⟩
    · rw [hM, Bool.or_eq_true, Bool.and_eq_true, Bool.and_eq_true, decide_eq_true_eq] at hj
      rcases hj with h | ⟨⟨_, h⟩, _⟩
      · exact h1 j h
      · have := x_lt h (show i < n by omega)
        rwa [x_x] at this
    · rw [hM, Bool.or_eq_true, Bool.and_eq_true, Bool.and_eq_true, decide_eq_true_eq] at hA ⊢
      by_cases hki : k = i
      · subst hki
        rcases hA with h | ⟨⟨h, _⟩, _⟩
        · exact .inr ⟨⟨by rw [tb_xs, hb]; rfl, by rw [x_x]; exact hs⟩, by rw [x_x]; exact h⟩
        · rw [hb] at h; cases h
      · rcases hA with h | ⟨⟨h3, h4⟩, h5⟩
        · exact .inl (h2 k (by omega) s hs hb h)
        · refine .inr ⟨⟨by rw [tb_xn hki]; exact h3, by rw [x_comm]; exact x_lt h4 (by omega)⟩, ?_⟩
          rw [x_comm]
          exact h2 k (by omega) _ h4 (by rw [tb_xn (fun e => hki e.symm)]; exact hb) h5
theorem clo_dn (n : Nat) (f : Nat → Bool) (hf : ∀ j, f j = true → j < 2 ^ n) : ∀ i, i ≤ n → (∀ j, cloS false (2 ^ n) f i j = true → j < 2 ^ n) ∧ ∀ k, k < i → ∀ s, s < 2 ^ n → s.testBit k = false → cloS false (2 ^ n) f i (s ^^^ 2 ^ k) = true → cloS false (2 ^ n) f i s = true
  | 0, _ => ⟨hf, fun k hk => by omega⟩
  | i + 1, hi => by
    obtain ⟨h1, h2⟩ := clo_dn n f hf i (by omega)
    have hM : ∀ j, cloS false (2 ^ n) f (i + 1) j = (cloS false (2 ^ n) f i j || (!j.testBit i && decide (j < 2 ^ n) && cloS false (2 ^ n) f i (j ^^^ 2 ^ i))) := inn_dn i (cloS false (2 ^ n) f i) (2 ^ n)
    generalize cloS false (2 ^ n) f i = g at *
    generalize cloS false (2 ^ n) f (i + 1) = M at *
    refine ⟨fun j hj => ?_, fun k hk s hs hb hA => ?_⟩
    · rw [hM, Bool.or_eq_true, Bool.and_eq_true, Bool.and_eq_true, decide_eq_true_eq] at hj
      rcases hj with h | ⟨⟨_, h⟩, _⟩
      · exact h1 j h
      · exact h
    · rw [hM, Bool.or_eq_true, Bool.and_eq_true, Bool.and_eq_true, decide_eq_true_eq] at hA ⊢
      by_cases hki : k = i
      · subst hki
        rcases hA with h | ⟨⟨h, _⟩, _⟩
        · exact .inr ⟨⟨by rw [hb]; rfl, hs⟩, h⟩
        · rw [tb_xs, hb] at h; cases h
      · rcases hA with h | ⟨⟨h3, h4⟩, h5⟩
        · exact .inl (h2 k (by omega) s hs hb h)
        · rw [tb_xn hki] at h3
          refine .inr ⟨⟨h3, hs⟩, ?_⟩
          rw [x_comm] at h5
          exact h2 k (by omega) _ (x_lt hs (by omega)) (by rw [tb_xn (fun e => hki e.symm)]; exact hb) h5
/-! Kleitman. -/
def cnt (f : Nat → Bool) : Nat → Nat
  | 0 => 0
  | n + 1 => cnt f n + if f n then 1 else 0
theorem cnt_lst (f : Nat → Bool) : ∀ n, (lst f n).length = cnt f n
  | 0 => rfl
  | n + 1 => by
    rw [lst_succ, cnt, ← cnt_lst f n]
    split <;> simp
theorem cnt_add (f : Nat → Bool) (a : Nat) : ∀ b, cnt f (a + b) = cnt f a + cnt (fun s => f (a + s)) b
  | 0 => rfl
  | b + 1 => by
    rw [← Nat.add_assoc, cnt, cnt_add f a b, cnt, Nat.add_assoc]
theorem cnt_le {f g : Nat → Bool} : ∀ {n}, (∀ s, s < n → f s = true → g s = true) → cnt f n ≤ cnt g n
  | 0, _ => Nat.le_refl _
  | n + 1, h => by
    have h1 := cnt_le (n := n) fun s hs => h s (by omega)
    have h2 := h n (by omega)
    rw [cnt, cnt]
    cases hf : f n with
    | false => simp; omega
    | true => rw [h2 hf]; simp; omega
theorem cnt_congr {f g : Nat → Bool} {n : Nat} (h : ∀ s, s < n → f s = g s) : cnt f n = cnt g n :=
  Nat.le_antisymm (cnt_le fun s hs e => by rw [← h s hs]; exact e) (cnt_le fun s hs e => by rw [h s hs]; exact e)
theorem top_x {s n : Nat} (hs : s < 2 ^ n) : 2 ^ n + s = s ^^^ 2 ^ n := by
  have := Nat.two_pow_add_eq_or_of_lt hs 1
  rw [Nat.mul_one] at this
  rw [this, Nat.or_comm, or_bit (Nat.testBit_lt_two_pow hs)]
theorem upC_lo {n : Nat} {A : Nat → Bool} (h : upC (n + 1) A) : upC n A := fun k hk s hs => h k (by omega) s (by rw [Nat.pow_succ]; omega)
theorem upC_hi {n : Nat} {A : Nat → Bool} (h : upC (n + 1) A) : upC n fun s => A (2 ^ n + s) := fun k hk s hs hb hA => by
  show A (2 ^ n + (s ^^^ 2 ^ k)) = true
  have hA : A (2 ^ n + s) = true := hA
  rw [top_x (x_lt hs hk), x_comm]
  rw [top_x hs] at hA
  refine h k (by omega) _ ?_ ?_ hA
  · rw [← top_x hs, Nat.pow_succ]; omega
  · rw [tb_xn (by omega)]; exact hb
theorem upC_mid {n : Nat} {A : Nat → Bool} (h : upC (n + 1) A) : ∀ s, s < 2 ^ n → A s = true → A (2 ^ n + s) = true := fun s hs hA => by
  rw [top_x hs]
  exact h n (by omega) s (by rw [Nat.pow_succ]; omega) (Nat.testBit_lt_two_pow hs) hA
theorem kleit : ∀ (n : Nat) (A B : Nat → Bool), upC n A → upC n B → cnt A (2 ^ n) * cnt B (2 ^ n) ≤ cnt (fun s => A s && B s) (2 ^ n) * 2 ^ n
  | 0, A, B, _, _ => by
    show cnt A 1 * cnt B 1 ≤ cnt (fun s => A s && B s) 1 * 1
    simp only [cnt]
    rcases Bool.eq_false_or_eq_true (A 0) with h | h <;> rcases Bool.eq_false_or_eq_true (B 0) with h' | h' <;> simp [h, h']
  | n + 1, A, B, hA, hB => by
    have h0 := kleit n A B (upC_lo hA) (upC_lo hB)
    have h1 := kleit n _ _ (upC_hi hA) (upC_hi hB)
    have ha := cnt_le (upC_mid hA)
    have hb := cnt_le (upC_mid hB)
    rw [show 2 ^ (n + 1) = 2 ^ n + 2 ^ n by rw [Nat.pow_succ]; omega, cnt_add, cnt_add, cnt_add]
    generalize cnt A (2 ^ n) = a0 at *
    generalize cnt B (2 ^ n) = b0 at *
    generalize cnt (fun s => A (2 ^ n + s)) (2 ^ n) = a1 at *
    generalize cnt (fun s => B (2 ^ n + s)) (2 ^ n) = b1 at *
    generalize cnt (fun s => A s && B s) (2 ^ n) = c0 at *
    generalize cnt (fun s => A (2 ^ n + s) && B (2 ^ n + s)) (2 ^ n) = c1 at *
    generalize 2 ^ n = N at *
    obtain ⟨d, rfl⟩ := Nat.exists_eq_add_of_le ha
    obtain ⟨e, rfl⟩ := Nat.exists_eq_add_of_le hb
    simp only [Nat.add_mul, Nat.mul_add] at *
    omega
theorem cnt_not (B : Nat → Bool) : ∀ n, cnt (fun s => !B s) n + cnt B n = n
  | 0 => rfl
  | n + 1 => by
    have := cnt_not B n
    rw [cnt, cnt]
    cases B n <;> simp <;> omega
theorem cnt_split (A B : Nat → Bool) : ∀ n, cnt (fun s => A s && !B s) n + cnt (fun s => A s && B s) n = cnt A n
  | 0 => rfl
  | n + 1 => by
    have := cnt_split A B n
    rw [cnt, cnt, cnt]
    cases A n <;> cases B n <;> simp <;> omega
theorem kleit_dn (n : Nat) (A B : Nat → Bool) (hA : upC n A) (hB : dnC n B) : cnt (fun s => A s && B s) (2 ^ n) * 2 ^ n ≤ cnt A (2 ^ n) * cnt B (2 ^ n) := by
  have hB' : upC n fun s => !B s := fun k hk s hs hb h => by
    show (!B (s ^^^ 2 ^ k)) = true
    have h : (!B s) = true := h
    cases hx : B (s ^^^ 2 ^ k) with
    | false => rfl
    | true => rw [hB k hk s hs hb hx] at h; cases h
  have h1 := kleit n A _ hA hB'
  have h2 := cnt_not B (2 ^ n)
  have h3 := cnt_split A B (2 ^ n)
  generalize cnt (fun s => A s && !B s) (2 ^ n) = u at *
  generalize cnt (fun s => A s && B s) (2 ^ n) = c at *
  generalize cnt A (2 ^ n) = a at *
  generalize cnt (fun s => !B s) (2 ^ n) = v at *
  generalize cnt B (2 ^ n) = b at *
  generalize 2 ^ n = N at *
  subst h3
  subst h2
  simp only [Nat.add_mul, Nat.mul_add] at *
  omega
end Go.Proofs.YtkfbfgcflnkllaaGreatDoor
namespace Go.Proofs.YtkfbfgcflnkllaaGreatDoor
open Go Go.Eng Nim
set_option maxRecDepth 100000
set_option maxHeartbeats 8000000
/-- How many of the pairs agree. -/
def prs (xs ys : List Nat) : Nat := (xs.map fun x => ys.count x).sum
theorem common_of (lf m : Nat) (hlf : 2000 ≤ lf) (xs ys : List Nat) (hx1 : xs.length ≤ 1024) (hy1 : ys.length ≤ 1024) (x y : Value) (h : Hp) (hx : Rds h x (xs.map J)) (hy : Rds h y (ys.map J)) :
    Ev lf (m + 1) 21 [x, y] h = some (J (prs xs ys), h) := by
  refine fn_eq ?_
  obtain ⟨xa, xc, hxs⟩ := hx.shape
  obtain ⟨ya, yc, hys⟩ := hy.shape
  rw [List.length_map] at hxs hys
  subst hxs hys
  refine ok_go 0 ?_
  refine sy_loop 0 lf h (α := Nat) (fun i => [(0, .slice xa xs.length xc), (1, .slice ya ys.length yc), (5, J (prs (xs.take i) ys)), (6, J i)]) (fun i g => i ≤ xs.length ∧ prs (xs.take i) ys ≤ i * 1024 ∧ g = h) (fun i _ => xs.length - i) 0 (by kernel_rfl) (by kernel_rfl)
    ⟨by kernel_rfl, by kernel_rfl, by kernel_rfl, by kernel_rfl, trivial⟩ (show xs.length - 0 < lf by omega) ⟨Nat.zero_le _, Nat.le_refl _, rfl⟩ ?_
  rintro m1 i F1 g ⟨hi, hpl, rfl⟩ ih
  have hw : IntKind.wrap .i64 (Int.ofNat (i + 1)) = Int.ofNat (i + 1) := wrap_nat (by omega)
  refine ok_go 2 ?_
  refine sy_test 0 (decide (Int.ofNat i < Int.ofNat xs.length)) (by kernel_rfl) ?_ ?_
  · intro hlt
    have hlt : i < xs.length := ok_nat hlt
    obtain ⟨p, hp1, hp2⟩ := rdN hx hlt
    have hps : prs (xs.take (i + 1)) ys = prs (xs.take i) ys + ys.count xs[i] := by
      unfold prs
      rw [List.take_succ_eq_append_getElem hlt, List.map_append, List.sum_append]
      simp
    generalize prs (xs.take i) ys = P at *
    generalize xs[i] = a at *
    refine ok_go 0 ?_
    refine sy_loop 0 lf g (α := Nat) (fun j => [(0, .slice xa xs.length xc), (1, .slice ya ys.length yc), (5, J (P + (ys.take j).count a)), (6, J i), (7, J j)]) (fun j g' => j ≤ ys.length ∧ g' = g) (fun j _ => ys.length - j) 0 (by kernel_rfl) (by kernel_rfl)
      ⟨by kernel_rfl, by kernel_rfl, (by kernel_rfl : _ = J P).trans (by rw [List.take_zero]; rfl), by kernel_rfl, by kernel_rfl, trivial⟩ (show ys.length - 0 < lf by omega) ⟨Nat.zero_le _, rfl⟩ ?_
    rintro m2 j F2 g ⟨hj, rfl⟩ ihj
    have hwj : IntKind.wrap .i64 (Int.ofNat (j + 1)) = Int.ofNat (j + 1) := wrap_nat (by omega)
    have hcl : (ys.take j).count a ≤ j := Nat.le_trans List.count_le_length (by rw [List.length_take]; omega)
    refine ok_go 2 ?_
    refine sy_test 0 (decide (Int.ofNat j < Int.ofNat ys.length)) (by kernel_rfl) ?_ ?_
    · intro hjl
      have hjl : j < ys.length := ok_nat hjl
      obtain ⟨p2, hq1, hq2⟩ := rdN hy hjl
      have hcs : (ys.take (j + 1)).count a = (ys.take j).count a + if ys[j] = a then 1 else 0 := by
        rw [List.take_succ_eq_append_getElem hjl, List.count_append, List.count_singleton]
        simp
      generalize ys[j] = b at *
      generalize (ys.take j).count a = C at *
      have hwc : IntKind.wrap .i64 (Int.ofNat (P + C + 1)) = Int.ofNat (P + C + 1) := wrap_nat (by omega)
      refine ok_go 0 ?_
      refine sy_load 0 (r := indexAddrOp Tryz.prog 28 (.slice xa xs.length xc) (J i)) (h' := g) (by kernel_rfl) hp1 ?_
      refine ok_go 0 ?_
      refine sy_load 0 (r := loadT Tryz.prog g 3 p) (h' := g) (by kernel_rfl) hp2 ?_
      refine ok_go 0 ?_
      refine sy_load 0 (r := indexAddrOp Tryz.prog 28 (.slice ya ys.length yc) (J j)) (h' := g) (by kernel_rfl) hq1 ?_
      refine ok_go 0 ?_
      refine sy_load 0 (r := loadT Tryz.prog g 3 p2) (h' := g) (by kernel_rfl) hq2 ?_
      refine ok_go 1 ?_
      by_cases he : b = a
      · rw [if_pos he] at hcs
        refine sy_yes 0 (b := decide (Int.ofNat a = Int.ofNat b)) (by kernel_rfl) (decide_eq_true (by rw [he])) ?_
        refine ok_go 2 ?_
        exact sy_next 0 _ g (by kernel_rfl) (by kernel_rfl) (ihj (j + 1) _ g ⟨hjl, rfl⟩ (show ys.length - (j + 1) < ys.length - j by omega) ⟨by kernel_rfl, by kernel_rfl, (by kernel_rfl : _ = Value.int .i64 (IntKind.wrap .i64 (Int.ofNat (P + C + 1)))).trans (by rw [hwc, hcs]; rfl), by kernel_rfl, (by kernel_rfl : _ = Value.int .i64 (IntKind.wrap .i64 (Int.ofNat (j + 1)))).trans (by rw [hwj]), trivial⟩)
      · rw [if_neg he] at hcs
        refine sy_no 0 (b := decide (Int.ofNat a = Int.ofNat b)) (by kernel_rfl) (decide_eq_false fun h => he (Int.ofNat.inj h).symm) ?_
        refine ok_go 1 ?_
        exact sy_next 0 _ g (by kernel_rfl) (by kernel_rfl) (ihj (j + 1) _ g ⟨hjl, rfl⟩ (show ys.length - (j + 1) < ys.length - j by omega) ⟨by kernel_rfl, by kernel_rfl, (by kernel_rfl : _ = J (P + C)).trans (by rw [hcs]; rfl), by kernel_rfl, (by kernel_rfl : _ = Value.int .i64 (IntKind.wrap .i64 (Int.ofNat (j + 1)))).trans (by rw [hwj]), trivial⟩)
    · intro hjl
      have hjl : j = ys.length := Nat.le_antisymm hj (no_nat hjl)
      subst hjl
      rw [List.take_length] at hcl
      refine ok_go 1 ?_
      exact sy_next 0 _ g (by kernel_rfl) (by kernel_rfl) (ih (i + 1) _ g ⟨hlt, by rw [hps]; omega, rfl⟩ (show xs.length - (i + 1) < xs.length - i by omega) ⟨by kernel_rfl, by kernel_rfl, (by kernel_rfl : _ = J (P + (ys.take ys.length).count a)).trans (by rw [hps, List.take_length]), (by kernel_rfl : _ = Value.int .i64 (IntKind.wrap .i64 (Int.ofNat (i + 1)))).trans (by rw [hw]), trivial⟩)
  · intro hlt
    have hlt : i = xs.length := Nat.le_antisymm hi (no_nat hlt)
    subst hlt
    refine ok_go 0 ?_
    exact sy_done 0 (v := J (prs (xs.take xs.length) ys)) (h := g) (by kernel_rfl) ⟨by rw [List.take_length], rfl⟩
end Go.Proofs.YtkfbfgcflnkllaaGreatDoor
namespace Go.Proofs.YtkfbfgcflnkllaaGreatDoor
open Go Go.Eng Nim
set_option maxRecDepth 100000
set_option maxHeartbeats 8000000
def pcF : Nat → Nat → Nat
  | 0, _ => 0
  | k + 1, x => x % 2 + pcF k (x / 2)
theorem pcF_zero : ∀ k, pcF k 0 = 0
  | 0 => rfl
  | k + 1 => by rw [pcF, show (0 / 2 = 0) from rfl, pcF_zero k]
theorem pcF_le : ∀ k x, pcF k x ≤ k
  | 0, _ => Nat.le_refl _
  | k + 1, x => by rw [pcF]; have := pcF_le k (x / 2); omega
theorem sz_of (lf m : Nat) (hlf : 2000 ≤ lf) (x : Nat) (hx : x < 2 ^ 10) (h : Hp) : Ev lf (m + 1) 22 [J x] h = some (J (pcF 10 x), h) := by
  refine fn_eq ?_
  refine ok_go 0 ?_
  refine sy_loop 0 lf h (α := Nat × Nat × Nat) (fun y => [(0, J y.1), (3, J y.2.1)]) (fun y g => y.1 ≤ x ∧ y.1 < 2 ^ y.2.2 ∧ y.2.1 + pcF y.2.2 y.1 = pcF 10 x ∧ g = h) (fun y _ => y.1) (x, 0, 10) (by kernel_rfl) (by kernel_rfl)
    ⟨by kernel_rfl, by kernel_rfl, trivial⟩ (show x < lf by omega) ⟨Nat.le_refl _, hx, Nat.zero_add _, rfl⟩ ?_
  have hpl := pcF_le 10 x
  rintro m1 ⟨y, c, k⟩ F1 g ⟨hyx, hy, hc, rfl⟩ ih
  dsimp only at hyx hy hc
  refine ok_go 1 ?_
  by_cases h0 : 0 < y
  · refine sy_yes 0 (b := decide (Int.ofNat y > 0)) (by kernel_rfl) (decide_eq_true (by show (0 : Int) < (y : Int); omega)) ?_
    obtain ⟨k, rfl⟩ : ∃ j, k = j + 1 := ⟨k - 1, by
      cases k with
      | zero => exact absurd hy (by omega)
      | succ k => rfl⟩
    rw [pcF] at hc
    have hw : IntKind.wrap .i64 (Int.ofNat (c + y % 2)) = Int.ofNat (c + y % 2) := wrap_nat (by omega)
    have hw2 : IntKind.wrap .i64 (Int.ofNat (y / 2)) = Int.ofNat (y / 2) := wrap_nat (by have := Nat.div_le_self y 2; omega)
    refine ok_go 3 ?_
    exact sy_next 0 _ g (by kernel_rfl) (by kernel_rfl) (ih (y / 2, c + y % 2, k) _ g ⟨Nat.le_trans (Nat.div_le_self y 2) hyx, show y / 2 < 2 ^ k by rw [Nat.pow_succ] at hy; omega, by dsimp only; omega, rfl⟩ (show y / 2 < y by omega) ⟨(by kernel_rfl : _ = Value.int .i64 (IntKind.wrap .i64 (Int.ofNat (y / 2)))).trans (by rw [hw2]), (by kernel_rfl : _ = Value.int .i64 (IntKind.wrap .i64 (Int.ofNat (c + y % 2)))).trans (by rw [hw]), trivial⟩)
  · have h0 : y = 0 := by omega
    subst h0
    rw [pcF_zero, Nat.add_zero] at hc
    subst hc
    refine ok_go 1 ?_
    exact sy_done 0 (v := J (pcF 10 x)) (h := g) (by kernel_rfl) ⟨rfl, rfl⟩
def chN (n : Nat) : Nat := [1, 1, 2, 3, 6, 10, 20, 35].getD n 0
theorem choose_of (m n : Nat) (hn : n ≤ 7) (h : Hp) : Ev 100000 (m + 1) 23 [J n, J (n / 2)] h = some (J (chN n), h) := by
  obtain rfl | rfl | rfl | rfl | rfl | rfl | rfl | rfl : n = 0 ∨ n = 1 ∨ n = 2 ∨ n = 3 ∨ n = 4 ∨ n = 5 ∨ n = 6 ∨ n = 7 := by omega
  all_goals kernel_rfl
end Go.Proofs.YtkfbfgcflnkllaaGreatDoor
namespace Go.Proofs.YtkfbfgcflnkllaaGreatDoor
open Go Go.Eng Ch
set_option maxRecDepth 100000
def rowB (N : Nat) (r : List Nat) : Bool := Nat.beq (r.length + 2 * pcF 10 (r.headD 0)) (N + 1) && (List.range r.length).all fun j => Nat.beq (pcF 10 (r.getD j 0)) (pcF 10 (r.headD 0) + j) && (Nat.beq j 0 || Nat.beq (r.getD j 0 &&& r.getD (j - 1) 0) (r.getD (j - 1) 0)) && Nat.blt (r.getD j 0) (2 ^ N)
def memB (a : Nat) : List Nat → Bool
  | [] => false
  | b :: l => Nat.beq a b || memB a l
def nodB : List Nat → Bool
  | [] => true
  | a :: l => !memB a l && nodB l
def rws (N : Nat) : List (List Nat) := (grp N (2 ^ N)).map (·.2.2)
def chB (N : Nat) : Bool := (rws N).all (rowB N) && nodB (rws N).flatten && Nat.beq (rws N).flatten.length (2 ^ N) && Nat.beq (rws N).length (chN N)
theorem ch_all : (List.range 8).all chB = true := by kernel_rfl
theorem memB_iff {a : Nat} : ∀ {l : List Nat}, memB a l = true ↔ a ∈ l
  | [] => by simp [memB]
  | b :: l => by rw [memB, Bool.or_eq_true, memB_iff (l := l), List.mem_cons, Nat.beq_eq]
theorem nodB_nd : ∀ {l : List Nat}, nodB l = true → l.Nodup
  | [], _ => List.nodup_nil
  | a :: l, h => by
    rw [nodB, Bool.and_eq_true, Bool.not_eq_true'] at h
    refine List.nodup_cons.2 ⟨fun hm => ?_, nodB_nd h.2⟩
    rw [memB_iff.2 hm] at h
    cases h.1
theorem ch_of {N : Nat} (hN : N ≤ 7) : (∀ r ∈ rws N, r.length + 2 * pcF 10 (r.headD 0) = N + 1 ∧ ∀ j (hj : j < r.length), pcF 10 r[j] = pcF 10 (r.headD 0) + j ∧ r[j] < 2 ^ N ∧ (0 < j → r[j] &&& r[j - 1] = r[j - 1])) ∧ (rws N).flatten.Nodup ∧ (rws N).flatten.length = 2 ^ N ∧ (rws N).length = chN N := by
  have h := List.all_eq_true.1 ch_all N (List.mem_range.2 (by omega))
  unfold chB at h
  rw [Bool.and_eq_true, Bool.and_eq_true, Bool.and_eq_true] at h
  obtain ⟨⟨⟨h1, h2⟩, h3⟩, h4⟩ := h
  refine ⟨fun r hr => ?_, nodB_nd h2, Nat.eq_of_beq_eq_true h3, Nat.eq_of_beq_eq_true h4⟩
  have h := List.all_eq_true.1 h1 r hr
  unfold rowB at h
  rw [Bool.and_eq_true] at h
  refine ⟨Nat.eq_of_beq_eq_true h.1, fun j hj => ?_⟩
  have h := List.all_eq_true.1 h.2 j (List.mem_range.2 hj)
  rw [Bool.and_eq_true, Bool.and_eq_true, Bool.or_eq_true] at h
  obtain ⟨⟨p1, p2⟩, p3⟩ := h
  have hg : r.getD j 0 = r[j] := by rw [List.getD_eq_getElem?_getD, List.getElem?_eq_getElem hj]; rfl
  have hg1 : r.getD (j - 1) 0 = r[j - 1] := by rw [List.getD_eq_getElem?_getD, List.getElem?_eq_getElem (by omega)]; rfl
  rw [hg] at p1 p2 p3
  rw [hg1] at p2
  refine ⟨Nat.eq_of_beq_eq_true p1, Nat.le_of_ble_eq_true p3, fun h0 => ?_⟩
  rcases p2 with h | h
  · have := Nat.eq_of_beq_eq_true h; omega
  · exact Nat.eq_of_beq_eq_true h
end Go.Proofs.YtkfbfgcflnkllaaGreatDoor
namespace Go.Proofs.YtkfbfgcflnkllaaGreatDoor
open Go Go.Eng Nim Go.ChangeShapes
set_option maxRecDepth 100000
section
variable {HH : Type} {enc : TypeId × Value → HH} {B : Prot} {w0 w : World}
theorem cell_block {w : World} {a : Addr} {v : Value} (h : w.cell? a = some v) : ∃ arr e fz, w.heap[a.block]? = some (.cells arr e fz) ∧ a.spot = none ∧ arr[a.off]? = some v := by
  unfold World.cell? at h
  split at h
  · rename_i c e fz hb
    split at h
    · cases h
    · rename_i hs
      refine ⟨c, e, fz, hb, ?_, h⟩
      cases hq : a.spot with
      | none => rfl
      | some q => rw [hq] at hs; simp at hs
  · cases h
theorem add_spot {a : Addr} (h : a.spot = none) (i : Nat) : a.add i = ⟨a.block, a.off + i, none⟩ := by
  obtain ⟨b, o, s⟩ := a
  simp only at h
  subst h
  unfold Addr.add
  split
  · rename_i h0; subst h0; rfl
  · rfl
/-- A slice in memory, as the evaluator sees it: the cells one by one. -/
theorem openCells {E : Env} {h : Hp} (H : HpOK Tryz.prog B w0 E h w) (hB : ∀ k, k < w.heap.size → B.ro k) {a : Addr} {len cap : Nat} (cs : List Value) (hl : cs.length = len) (hc0 : 0 < cap → a.spot = none)
    (hlc : len ≤ cap) (hcell : ∀ i v, cs[i]? = some v → w.cell? (a.add i) = some (con E v)) (hs : scL h.next cs = true) (h1 : ∀ v ∈ cs, scalar v = true) :
    ∃ E' h' v, HpOK Tryz.prog B w0 E' h' w ∧ Agree h.next E E' ∧ h.Ext h' ∧ con E' v = .slice (some a) len cap ∧ sc h'.next v = true ∧ Rds h' v cs ∧ scalar v = true ∧ WfS v := by
  subst hl
  cases cs with
  | nil =>
    refine ⟨E.ext h.next a.block 0, ⟨h.objs, h.next + 1⟩, .slice (some ⟨h.next, a.off, a.spot⟩) 0 (2 * cap), H.bump a.block, Env.ext_agree _ _ _ _, ⟨Nat.le_succ _, fun j _ => rfl⟩, ?_, by simp [sc], ?_, rfl, ?_⟩
    · obtain ⟨b, o, s⟩ := a
      cases s with
      | none => simp [con, conCap]
      | some q =>
        have hc : cap = 0 := Nat.eq_zero_of_not_pos fun hp => by have := hc0 hp; simp at this
        subst hc
        simp [con, conCap, conOff, conSpot]
    · cases hsp : a.spot with
      | none => exact .inr ⟨h.next, a.off, _, rfl, fun hn => absurd rfl hn⟩
      | some q =>
        have hc : cap = 0 := Nat.eq_zero_of_not_pos fun hp => by have := hc0 hp; rw [hsp] at this; cases this
        subst hc
        exact .inl ⟨⟨_, rfl⟩, rfl⟩
    · cases hsp : a.spot with
      | none => exact .inl ⟨rfl, Nat.zero_le _⟩
      | some q =>
        have hc : cap = 0 := Nat.eq_zero_of_not_pos fun hp => by have := hc0 hp; rw [hsp] at this; cases this
        subst hc
        exact .inr ⟨rfl, rfl⟩
  | cons v r =>
    have h0 := hcell 0 v rfl
    have hsp : a.spot = none := hc0 (by simp at hlc; omega)
    obtain ⟨arr, e, fz, hb, _, ha⟩ := cell_block h0
    rw [add_spot hsp] at ha hb
    have ha0 : a.off + 0 < arr.size := (Array.getElem?_eq_some_iff.1 ha).1
    have hR := H.newRo (m := a.block) (off := a.off) (cs := v :: r) (hB _ (Array.getElem?_eq_some_iff.1 hb).1) hb (by omega) (fun i u hu => by
      have hi := hcell i u hu
      obtain ⟨arr', e', fz', hb', _, ha'⟩ := cell_block hi
      rw [add_spot hsp] at hb' ha'
      rw [hb] at hb'
      cases hb'
      exact ha') hs h1
    refine ⟨_, _, .slice (some ⟨h.next, a.off, none⟩) (r.length + 1) (2 * cap), hR, Env.ext_agree _ _ _ _, Hp.Ext.new _ _, ?_, by simp [sc, Hp.new], .inr ⟨h.next, a.off, _, rfl, fun _ => ⟨Nat.lt_succ_self _, ?_⟩⟩, rfl, .inl ⟨rfl, by simp at hlc; omega⟩⟩
    · obtain ⟨b, o, s⟩ := a
      simp only at hsp
      subst hsp
      simp [con, conCap]
    · unfold loadN
      rw [get_new]
      have hble : Nat.ble a.off a.off = true := Nat.ble_eq_true_of_le (Nat.le_refl _)
      simp only [hble, Nat.sub_self, List.drop_zero]
      exact takeN_all (v :: r)
theorem openInts {E : Env} {h : Hp} (H : HpOK Tryz.prog B w0 E h w) (hB : ∀ k, k < w.heap.size → B.ro k) {fuel : Nat} {c : Value} {x : DataW HH × List MemPlace}
    (ht : DataW.trod enc Tryz.prog w 0 (fun _ => true) true fuel 28 [c] = some x) :
    ∃ (E' : Env) (h' : Hp) (v : Value) (r : List Int), HpOK Tryz.prog B w0 E' h' w ∧ Agree h.next E E' ∧ h.Ext h' ∧ con E' v = c ∧ sc h'.next v = true ∧ Rds h' v (r.map I) ∧ scalar v = true ∧ r.length < 2 ^ 63 ∧ WfS v := by
  rcases open_ints (k := .i64) u28 (by kernel_rfl) (by kernel_rfl) ht with ⟨hc, _⟩ | ⟨a, len, cap, zs, hc, _, hlc, hcm, hzl, _, hcell, hwf⟩
  · simp only [List.cons.injEq, and_true] at hc
    subst hc
    exact ⟨E, h, .slice none 0 0, [], H, Agree.refl _ _, Hp.Ext.refl _, by simp [con], rfl, .inl ⟨⟨none, rfl⟩, rfl⟩, rfl, by decide, ⟨rfl, rfl⟩⟩
  · simp only [List.cons.injEq, and_true] at hc
    subst hc
    simp only [if_true] at hzl
    obtain ⟨E', h', v, k1, k2, k3, k4, k5, k6, k7, k8⟩ := openCells H hB (a := a) (len := len) (cap := cap) ((zs.take len).map I) (by simp; omega) (fun hp => by
        have := hcell 0 (by omega)
        obtain ⟨_, _, _, _, h2, _⟩ := cell_block this
        unfold Addr.add at h2
        simpa using h2) hlc (fun i v hv => by
        have hil : i < len ∧ i < zs.length := by
          have := (List.getElem?_eq_some_iff.1 hv).1
          simp at this
          exact ⟨by omega, by omega⟩
        have := hcell i hil.2
        rw [this]
        rw [List.getElem?_map, List.getElem?_take, if_pos hil.1, List.getElem?_eq_getElem hil.2] at hv
        simp only [Option.map_some, Option.some.injEq] at hv
        subst hv
        rw [List.getD_eq_getElem?_getD, List.getElem?_eq_getElem hil.2]
        simp [con]) (by rw [scL_iff]; intro v hv; obtain ⟨z, _, rfl⟩ := List.mem_map.1 hv; rfl) (fun v hv => by obtain ⟨z, _, rfl⟩ := List.mem_map.1 hv; rfl)
    refine ⟨E', h', v, zs.take len, k1, k2, k3, k4, k5, k6, k7, ?_, k8⟩
    have : maxLen = 2 ^ 63 - 1 := rfl
    rw [List.length_take]
    omega
theorem openIntsArg {E : Env} {h : Hp} (H : HpOK Tryz.prog B w0 E h w) (hB : ∀ k, k < w.heap.size → B.ro k) {v0 : Value} {base : Nat} {d : DataW HH} {p : List MemPlace} (hval : Value.okWide Tryz.prog w .any base 28 v0)
    (ht : DataW.Trod enc Tryz.prog w 0 (fun _ => true) true 28 v0 d p) :
    ∃ (E' : Env) (h' : Hp) (xa : Option Addr) (xc : Nat) (zs : List Int), HpOK Tryz.prog B w0 E' h' w ∧ con E' (.slice xa zs.length xc) = v0 ∧ sc h'.next (.slice xa zs.length xc) = true ∧ Rds h' (.slice xa zs.length xc) (zs.map I) ∧ WfS (.slice xa zs.length xc) ∧ zs.length < 2 ^ 63 := by
  obtain ⟨fuel, ht⟩ := ht
  have hsl : ∃ a l c, v0 = .slice a l c := by
    unfold Value.okWide at hval
    rw [u28] at hval
    simp only [Cell.okWide, u28, Cell.ok] at hval
    cases v0 <;> first | exact ⟨_, _, _, rfl⟩ | simp at hval
  obtain ⟨a0, l0, c0, rfl⟩ := hsl
  have hcells : (Value.slice a0 l0 c0).cells.toList = [.slice a0 l0 c0] := rfl
  rw [hcells] at ht
  obtain ⟨E', h', v, r, j1, j2, j3, j4, j5, j6, j7, j8, j9⟩ := openInts H hB ht
  obtain ⟨xa, xc, hs⟩ := j6.shape
  rw [List.length_map] at hs
  subst hs
  exact ⟨E', h', xa, xc, r, j1, j4, j5, j6, j9, j8⟩
end
end Go.Proofs.YtkfbfgcflnkllaaGreatDoor
namespace Go.Proofs.YtkfbfgcflnkllaaGreatDoor
open Go Go.Eng Nim Ch
set_option maxRecDepth 100000
set_option maxHeartbeats 8000000
def zOf (z : Int) : Int := IntKind.i64.wrap (1 + IntKind.i64.wrap ((IntKind.u64.wrap z).tmod (IntKind.u64.wrap (IntKind.i64.wrap (6 + 1)))))
theorem one_size (z : Int) : ∃ N : Nat, 1 ≤ N ∧ N ≤ 7 ∧ zOf z = Int.ofNat N := by
  obtain ⟨k, hk, hr⟩ := rem_u z 7 (by decide) (by decide)
  have h7 : (IntKind.u64.wrap (IntKind.i64.wrap (6 + 1))) = IntKind.u64.wrap (Int.ofNat 7) := by decide
  refine ⟨1 + k, by omega, by omega, ?_⟩
  unfold zOf
  rw [h7, hr, show IntKind.i64.wrap (Int.ofNat k) = Int.ofNat k from wrap_nat (by omega)]
  exact wrap_nat (n := 1 + k) (by omega)
theorem x_shl {t : TypeId} {a b : Int} (hb : 0 ≤ b) : pureX (binOp .shl t (.int .i64 a) (.int .u64 b)) = some (.int .i64 (IntKind.i64.wrap (a * 2 ^ min b.toNat IntKind.i64.bits))) := by
  refine pureX_of ?_ rfl
  simp only [binOp, Op.shift, if_neg (show ¬ b < 0 by omega)]
  rfl
theorem shl_N {P N : Nat} (hP : P ≤ 1024 * 1024) (hN : N ≤ 7) : IntKind.i64.wrap (Int.ofNat P * 2 ^ min (IntKind.u64.wrap (Int.ofNat N)).toNat IntKind.i64.bits) = Int.ofNat (P * 2 ^ N) := by
  have h2 : 2 ^ N ≤ 128 := Nat.pow_le_pow_right (by decide) hN
  have h3 : P * 2 ^ N ≤ 1024 * 1024 * 128 := Nat.mul_le_mul hP h2
  rw [min_v N (by omega)]
  exact shl_nat (a := P) (n := N) (by omega)
theorem lst_nd (f : Nat → Bool) (n : Nat) : (lst f n).Nodup := by
  unfold lst
  exact List.Pairwise.filter _ List.nodup_range
theorem prs_lst (f g : Nat → Bool) (b : Nat) : ∀ a, a ≤ b → prs (lst f a) (lst g b) = cnt (fun s => f s && g s) a
  | 0, _ => rfl
  | a + 1, hab => by
    have ih := prs_lst f g b a (by omega)
    unfold prs at ih ⊢
    rw [lst_succ, cnt, ← ih]
    cases hf : f a with
    | false => simp
    | true =>
      rw [if_pos rfl, List.map_append, List.sum_append]
      have hc : (lst g b).count a = if g a then 1 else 0 := by
        cases hg : g a with
        | true => rw [if_pos rfl]; rw [(lst_nd g b).count, if_pos (lst_mem.2 ⟨by omega, hg⟩)]
        | false =>
          rw [if_neg Bool.false_ne_true]
          exact List.count_eq_zero.2 fun hm => by rw [(lst_mem.1 hm).2] at hg; cases hg
      simp [hc]
theorem cnt_zero {f : Nat → Bool} : ∀ {n}, (∀ s, s < n → f s = false) → cnt f n = 0
  | 0, _ => rfl
  | n + 1, h => by rw [cnt, cnt_zero fun s hs => h s (by omega), h n (by omega)]; rfl
theorem cnt_sup {f : Nat → Bool} {N M : Nat} (h : ∀ j, f j = true → j < N) (hNM : N ≤ M) : cnt f M = cnt f N := by
  obtain ⟨d, rfl⟩ := Nat.exists_eq_add_of_le hNM
  rw [cnt_add, cnt_zero (f := fun s => f (N + s)) fun s _ => by
    cases hf : f (N + s) with
    | false => rfl
    | true => have := h _ hf; omega]
  rfl
theorem cnt_bd (f : Nat → Bool) (n : Nat) : cnt f n ≤ n := by rw [← cnt_lst]; exact lst_len f n
theorem law4 (m : Nat) (z : Int) (xs ys : List Int) (hxs : xs.length < 2 ^ 63) (hys : ys.length < 2 ^ 63) (x y : Value) (h : Hp) (hx : Rds h x (xs.map I)) (hy : Rds h y (ys.map I)) : ∃ H, Ev 100000 (m + 6) 4 [I z, x, y] h = some (.bool true, H) := by
  refine fnS_yes ?_
  obtain ⟨N, hN1, hN7, hZ⟩ := one_size z
  obtain ⟨xa, xc, hxe⟩ := hx.shape
  obtain ⟨ya, yc, hye⟩ := hy.shape
  rw [List.length_map] at hxe hye
  subst hxe hye
  have h2N : 2 ^ N ≤ 128 := Nat.pow_le_pow_right (by decide) hN7
  obtain ⟨v1, g1, e1, f1, q1, hv1, W1⟩ := tame_of 100000 (m + 4) (by decide) N 6 (by omega) (by decide) xs hxs _ h hx
  obtain ⟨v2, g2, e2, q2, hv2, W2⟩ := clos_of 100000 (m + 3) (by decide) N (by omega) true f1 v1 g1 (by rw [hv1]; exact lst_rd W1)
  have X2 : h.Ext g2 := W1.ext.trans W2.ext
  obtain ⟨v3, g3, e3, f3, q3, hv3, W3⟩ := tame_of 100000 (m + 4) (by decide) N 6 (by omega) (by decide) ys hys _ g2 (hy.ext X2)
  obtain ⟨v4, g4, e4, q4, hv4, W4⟩ := clos_of 100000 (m + 3) (by decide) N (by omega) true f3 v3 g3 (by rw [hv3]; exact lst_rd W3)
  have X4 : h.Ext g4 := X2.trans (W3.ext.trans W4.ext)
  obtain ⟨v5, g5, e5, f5, q5, hv5, W5⟩ := tame_of 100000 (m + 4) (by decide) N 6 (by omega) (by decide) ys hys _ g4 (hy.ext X4)
  obtain ⟨v6, g6, e6, q6, hv6, W6⟩ := clos_of 100000 (m + 3) (by decide) N (by omega) false f5 v5 g5 (by rw [hv5]; exact lst_rd W5)
  generalize hA : cloS true (2 ^ N) (fun k => decide (k ∈ lst f1 (2 ^ N))) N = A at *
  generalize hB : cloS true (2 ^ N) (fun k => decide (k ∈ lst f3 (2 ^ N))) N = B at *
  generalize hC : cloS false (2 ^ N) (fun k => decide (k ∈ lst f5 (2 ^ N))) N = C at *
  have RA : Rds g6 (oslV q2 (lst A 1024).length) ((lst A 1024).map J) := (lst_rd W2).ext ((W3.ext.trans W4.ext).trans (W5.ext.trans W6.ext))
  have RB : Rds g6 (oslV q4 (lst B 1024).length) ((lst B 1024).map J) := (lst_rd W4).ext (W5.ext.trans W6.ext)
  have RC : Rds g6 (oslV q6 (lst C 1024).length) ((lst C 1024).map J) := lst_rd W6
  subst hv1 hv2 hv3 hv4 hv5 hv6
  obtain ⟨a1, c1, o1⟩ := osl_shape q1 (lst f1 (2 ^ N)).length
  obtain ⟨a2, c2, o2⟩ := osl_shape q2 (lst A 1024).length
  obtain ⟨a3, c3, o3⟩ := osl_shape q3 (lst f3 (2 ^ N)).length
  obtain ⟨a4, c4, o4⟩ := osl_shape q4 (lst B 1024).length
  obtain ⟨a5, c5, o5⟩ := osl_shape q5 (lst f5 (2 ^ N)).length
  obtain ⟨a6, c6, o6⟩ := osl_shape q6 (lst C 1024).length
  rw [o1] at e1 e2
  rw [o2] at e2 RA
  rw [o3] at e3 e4
  rw [o4] at e4 RB
  rw [o5] at e5 e6
  rw [o6] at e6 RC
  rw [show J N = I (Int.ofNat N) from rfl, ← hZ] at e1 e2 e3 e4 e5 e6
  refine ok_go 2 ?_
  refine sy_call 0 (by kernel_rfl) e1 ?_
  refine ok_go 0 ?_
  refine sy_call 0 (by kernel_rfl) e2 ?_
  refine ok_go 2 ?_
  refine sy_call 0 (by kernel_rfl) e3 ?_
  refine ok_go 0 ?_
  refine sy_call 0 (by kernel_rfl) e4 ?_
  refine ok_go 2 ?_
  refine sy_call 0 (by kernel_rfl) e5 ?_
  refine ok_go 0 ?_
  refine sy_call 0 (by kernel_rfl) e6 ?_
  have hup : ∀ f : Nat → Bool, ∀ j, decide (j ∈ lst f (2 ^ N)) = true → j < 2 ^ N := fun f j hj => (lst_mem.1 (of_decide_eq_true hj)).1
  have PA := clo_up N _ (hup f1) N (Nat.le_refl _)
  have PB := clo_up N _ (hup f3) N (Nat.le_refl _)
  have PC := clo_dn N _ (hup f5) N (Nat.le_refl _)
  rw [hA] at PA
  rw [hB] at PB
  rw [hC] at PC
  have eAB := common_of 100000 (m + 4) (by decide) (lst A 1024) (lst B 1024) (lst_len ..) (lst_len ..) _ _ g6 RA RB
  have eAC := common_of 100000 (m + 4) (by decide) (lst A 1024) (lst C 1024) (lst_len ..) (lst_len ..) _ _ g6 RA RC
  refine ok_go 14 ?_
  refine sy_call 0 (by kernel_rfl) eAB ?_
  have hAB : prs (lst A 1024) (lst B 1024) ≤ 1024 * 1024 := by rw [prs_lst A B 1024 1024 (Nat.le_refl _)]; have := cnt_bd (fun s => A s && B s) 1024; omega
  have hAC : prs (lst A 1024) (lst C 1024) ≤ 1024 * 1024 := by rw [prs_lst A C 1024 1024 (Nat.le_refl _)]; have := cnt_bd (fun s => A s && C s) 1024; omega
  have hlA := lst_len A 1024
  have hlB := lst_len B 1024
  have hlC := lst_len C 1024
  have hKB : (lst A 1024).length * (lst B 1024).length ≤ prs (lst A 1024) (lst B 1024) * 2 ^ N := by
    rw [prs_lst A B 1024 1024 (Nat.le_refl _), cnt_lst, cnt_lst, cnt_sup PA.1 (by omega), cnt_sup PB.1 (by omega), cnt_sup (f := fun s => A s && B s) (fun j hj => PA.1 j (by rw [Bool.and_eq_true] at hj; exact hj.1)) (by omega)]
    exact kleit N A B PA.2 PB.2
  have hKC : prs (lst A 1024) (lst C 1024) * 2 ^ N ≤ (lst A 1024).length * (lst C 1024).length := by
    rw [prs_lst A C 1024 1024 (Nat.le_refl _), cnt_lst, cnt_lst, cnt_sup PA.1 (by omega), cnt_sup PC.1 (by omega), cnt_sup (f := fun s => A s && C s) (fun j hj => PA.1 j (by rw [Bool.and_eq_true] at hj; exact hj.1)) (by omega)]
    exact kleit_dn N A C PA.2 PC.2
  generalize prs (lst A 1024) (lst B 1024) = PB' at *
  generalize prs (lst A 1024) (lst C 1024) = PC' at *
  generalize (lst A 1024).length = LA at *
  generalize (lst B 1024).length = LB at *
  generalize (lst C 1024).length = LC at *
  have hu0 : 0 ≤ IntKind.u64.wrap (zOf z) := by
    show 0 ≤ _ % (2 : Int) ^ 64
    exact Int.emod_nonneg _ (by decide)
  refine ok_go 4 ?_
  refine sy_load 0 (r := pureX (binOp .shl 3 (J PB') (.int .u64 (IntKind.u64.wrap (zOf z))))) (h' := g6) (by kernel_rfl) (x_shl hu0) ?_
  refine ok_go 11 ?_
  refine sy_no 0 (b := decide (IntKind.i64.wrap (Int.ofNat PB' * 2 ^ min (IntKind.u64.wrap (zOf z)).toNat IntKind.i64.bits) < IntKind.i64.wrap (Int.ofNat LA * Int.ofNat LB))) (by kernel_rfl) (decide_eq_false (by
    rw [hZ, shl_N hAB hN7, show IntKind.i64.wrap (Int.ofNat LA * Int.ofNat LB) = Int.ofNat (LA * LB) from wrap_nat (by have := Nat.mul_le_mul hlA hlB; omega)]
    exact Int.not_lt.2 (Int.ofNat_le.2 hKB))) ?_
  refine ok_go 2 ?_
  refine sy_call 0 (by kernel_rfl) eAC ?_
  refine ok_go 4 ?_
  refine sy_load 0 (r := pureX (binOp .shl 3 (J PC') (.int .u64 (IntKind.u64.wrap (zOf z))))) (h' := g6) (by kernel_rfl) (x_shl hu0) ?_
  refine ok_go 11 ?_
  refine sy_no 0 (b := decide (IntKind.i64.wrap (Int.ofNat PC' * 2 ^ min (IntKind.u64.wrap (zOf z)).toNat IntKind.i64.bits) > IntKind.i64.wrap (Int.ofNat LA * Int.ofNat LC))) (by kernel_rfl) (decide_eq_false (by
    rw [hZ, shl_N hAC hN7, show IntKind.i64.wrap (Int.ofNat LA * Int.ofNat LC) = Int.ofNat (LA * LC) from wrap_nat (by have := Nat.mul_le_mul hlA hlC; omega)]
    exact Int.not_lt.2 (Int.ofNat_le.2 hKC))) ?_
  obtain ⟨n0, _, hn0, e7⟩ := ch_in (m + 4) (z := Int.ofNat N) (Int.not_lt.2 (Int.natCast_nonneg _)) (by show ¬ (10 : Int) < (N : Int); omega) g6
  obtain rfl : N = n0 := Int.ofNat.inj hn0
  obtain ⟨gs, hgs⟩ : ∃ gs, grp N (2 ^ N) = gs := ⟨_, rfl⟩
  rw [hgs, ← hZ] at e7
  refine ok_go 0 ?_
  refine sy_call 0 (by kernel_rfl) e7 ?_
  have hshN : IntKind.i64.wrap (1 * 2 ^ min (IntKind.u64.wrap (zOf z)).toNat IntKind.i64.bits) = Int.ofNat (2 ^ N) := by rw [hZ]; exact one_shl N (by omega)
  have hgc0 : (g6.news (osC g6 gs)).get (g6.next + gs.length) = some (.cells (valsG (idsC g6 gs.length) gs) 28 true) ∧ g6.next + gs.length < (g6.news (osC g6 gs)).next := by
    have hol : (osC g6 gs).length = gs.length + 1 := by unfold osC objsC; rw [List.length_append, List.length_map]; rfl
    refine ⟨?_, by rw [Hp.news_next, hol]; omega⟩
    rw [Hp.news_get, if_pos ⟨by omega, by omega⟩, show g6.next + gs.length - g6.next = gs.length by omega]
    unfold osC objsC
    rw [List.getElem?_append_right (by rw [List.length_map]; exact Nat.le_refl _), List.length_map, Nat.sub_self]
    rfl
  generalize h7e : g6.news (osC g6 gs) = g7 at *
  have G := grp_ok N (2 ^ N)
  rw [hgs] at G
  have hgl : gs.length ≤ 128 := by have := G.num; omega
  have hpos := Nat.two_pow_pos N
  obtain ⟨K1, K2, K3, K4⟩ := ch_of hN7
  obtain ⟨rows, hrw⟩ : ∃ rows, rws N = rows := ⟨_, rfl⟩
  rw [hrw] at K1 K2 K3 K4
  have hrg : rows = gs.map (·.2.2) := by rw [← hrw, ← hgs]; rfl
  have hrl : rows.length = gs.length := by rw [hrg, List.length_map]
  refine ok_go 3 ?_
  refine sy_load 0 (r := pureX (binOp .shl 3 (J 1) (.int .u64 (IntKind.u64.wrap (zOf z))))) (h' := g7) (by kernel_rfl) (x_shl hu0) ?_
  refine ok_go 0 ?_
  refine sy_call 0 (r := makeSliceOp Tryz.prog g7 37 (I (IntKind.i64.wrap (1 * 2 ^ min (IntKind.u64.wrap (zOf z)).toNat IntKind.i64.bits))) (I (IntKind.i64.wrap (1 * 2 ^ min (IntKind.u64.wrap (zOf z)).toNat IntKind.i64.bits)))) (by kernel_rfl) (by rw [hshN]; exact mkB (2 ^ N) (by omega) g7) ?_
  have W := (Sto.start g7).new (.cells (cellsF (2 ^ N) fun _ => .bool false) 4 false)
  generalize g7.new (.cells (cellsF (2 ^ N) fun _ => .bool false) 4 false) = g8 at *
  refine ok_go 0 ?_
  refine sy_loop 0 100000 g8 (α := Nat) (fun k => [(0, J N), (13, .slice (some ⟨g6.next + gs.length, 0, none⟩) gs.length (2 * gs.length + 1)), (14, J 0), (15, .slice (some ⟨g7.next, 0, none⟩) (2 ^ N) (2 * 2 ^ N)), (16, J (rows.take k).flatten.length), (17, J k)]) (fun k g => k ≤ gs.length ∧ Sto g7 g [(g7.next, .cells (cellsF (2 ^ N) fun s => .bool (decide (s ∈ (rows.take k).flatten))) 4 false)]) (fun k _ => gs.length - k) 0 (by kernel_rfl) (by kernel_rfl)
    ⟨(by kernel_rfl : _ = I (zOf z)).trans (by rw [hZ]), by kernel_rfl, by kernel_rfl, by kernel_rfl, by kernel_rfl, by kernel_rfl, trivial⟩ (show gs.length - 0 < 100000 by omega) ⟨Nat.zero_le _, by simpa using W⟩ ?_
  clear W e1 e2 e3 e4 e5 e6 e7 eAB eAC hKB hKC hAB hAC RA RB RC PA PB PC W1 W2 W3 W4 W5 W6
  rintro m1 k F1 g ⟨hk, W⟩ ih
  have hw : IntKind.wrap .i64 (Int.ofNat (k + 1)) = Int.ofNat (k + 1) := wrap_nat (by omega)
  refine ok_go 2 ?_
  refine sy_test 0 (decide (Int.ofNat k < Int.ofNat gs.length)) (by kernel_rfl) ?_ ?_
  · intro hlt
    have hlt : k < gs.length := ok_nat hlt
    have hg : gs[k]? = some gs[k] := List.getElem?_eq_getElem hlt
    have hvb := valsG_get hg (idsC_get (h := g6) hlt)
    have G1 := G.ne _ (List.mem_of_getElem? hg)
    have hgc := (W.ext.get _ hgc0.2).trans hgc0.1
    have RW := ob_row (h := g6) (gs := gs) (g := g) (by rw [h7e]; exact W.ext) hg G1
    have hrk : rows[k]? = some gs[k].2.2 := by rw [hrg, List.getElem?_map, hg]; rfl
    have hrm := List.mem_of_getElem? hrk
    have htk : (rows.take (k + 1)).flatten = (rows.take k).flatten ++ gs[k].2.2 := by
      rw [List.take_add_one, hrk, List.flatten_append]; simp
    generalize gs[k] = ga at *
    obtain ⟨gM, gC, row⟩ := ga
    dsimp only at *
    obtain ⟨L1, L2⟩ := K1 row hrm
    obtain ⟨p0, hp0⟩ : ∃ p, pcF 10 (row.headD 0) = p := ⟨_, rfl⟩
    rw [hp0] at L1 L2
    have hpl0 : p0 ≤ 10 := hp0 ▸ pcF_le 10 _
    obtain ⟨ya, yc, hy⟩ := osl_shape (g6.next + k) row.length
    rw [hy] at RW hvb
    have hr0 : 0 < row.length := List.length_pos_iff.2 G1
    obtain ⟨pp, hq1, hq2⟩ := rdN RW hr0
    have hb0 := (L2 0 hr0).2.1
    have hs0 : row.headD 0 = row[0] := by cases row with
      | nil => cases hr0
      | cons a r => rfl
    have eS := sz_of 100000 (m + 4) (by decide) row[0] (by omega) g
    rw [← hs0, hp0] at eS
    rw [← hs0] at hq2
    refine ok_go 0 ?_
    refine sy_load 0 (r := indexAddrOp Tryz.prog 22 (.slice (some ⟨g6.next + gs.length, 0, none⟩) gs.length (2 * gs.length + 1)) (J k)) (h' := g) (v := ptr (g6.next + gs.length) k) (by kernel_rfl) (idxS0 (e := 28) (by kernel_rfl) (by kernel_rfl) hlt) ?_
    refine ok_go 0 ?_
    refine sy_load 0 (r := loadT Tryz.prog g 28 (ptr (g6.next + gs.length) k)) (h' := g) (by kernel_rfl) (load1 (by kernel_rfl) hgc hvb) ?_
    refine ok_go 0 ?_
    refine sy_load 0 (r := indexAddrOp Tryz.prog 28 (.slice ya row.length yc) (J 0)) (h' := g) (by kernel_rfl) hq1 ?_
    refine ok_go 0 ?_
    refine sy_load 0 (r := loadT Tryz.prog g 3 pp) (h' := g) (by kernel_rfl) hq2 ?_
    refine ok_go 0 ?_
    refine sy_call 0 (by kernel_rfl) eS ?_
    refine ok_go 0 ?_
    refine sy_load 0 (r := indexAddrOp Tryz.prog 22 (.slice (some ⟨g6.next + gs.length, 0, none⟩) gs.length (2 * gs.length + 1)) (J k)) (h' := g) (v := ptr (g6.next + gs.length) k) (by kernel_rfl) (idxS0 (e := 28) (by kernel_rfl) (by kernel_rfl) hlt) ?_
    refine ok_go 0 ?_
    refine sy_load 0 (r := loadT Tryz.prog g 28 (ptr (g6.next + gs.length) k)) (h' := g) (by kernel_rfl) (load1 (by kernel_rfl) hgc hvb) ?_
    refine ok_go 5 ?_
    have h2p : 2 * p0 ≤ N := by omega
    refine sy_no 0 (b := Int.ofNat row.length != IntKind.i64.wrap (IntKind.i64.wrap (Int.ofNat N - IntKind.i64.wrap (2 * Int.ofNat p0)) + 1)) (by kernel_rfl) (by
      rw [show IntKind.i64.wrap (2 * Int.ofNat p0) = Int.ofNat (2 * p0) from wrap_nat (n := 2 * p0) (by omega), wrap_sub h2p (by omega), show IntKind.i64.wrap (Int.ofNat (N - 2 * p0) + 1) = Int.ofNat (N - 2 * p0 + 1) from wrap_add (b := 1) (by omega), show N - 2 * p0 + 1 = row.length by omega]
      exact bne_self_eq_false _) ?_
    have hnd : ((rows.take k).flatten ++ row).Nodup := by
      rw [← htk]
      rw [← List.take_append_drop (k + 1) rows, List.flatten_append] at K2
      exact (List.nodup_append.1 K2).1
    have hfl : (rows.take k).flatten.length ≤ 128 := by
      have : (rows.take k).flatten.length ≤ rows.flatten.length := by
        conv => rhs; rw [← List.take_append_drop k rows, List.flatten_append, List.length_append]
        omega
      omega
    generalize (rows.take k).flatten = F at *
    have hrl8 : row.length ≤ 8 := by omega
    refine ok_go 0 ?_
    refine sy_loop 0 100000 g (α := Nat) (fun j => [(0, J N), (13, .slice (some ⟨g6.next + gs.length, 0, none⟩) gs.length (2 * gs.length + 1)), (14, J 0), (15, .slice (some ⟨g7.next, 0, none⟩) (2 ^ N) (2 * 2 ^ N)), (16, J (F.length + j)), (17, J k), (18, J p0), (19, J j)]) (fun j g => j ≤ row.length ∧ Sto g7 g [(g7.next, .cells (cellsF (2 ^ N) fun s => .bool (decide (s ∈ F ++ row.take j))) 4 false)]) (fun j _ => row.length - j) 0 (by kernel_rfl) (by kernel_rfl)
      ⟨by kernel_rfl, by kernel_rfl, by kernel_rfl, by kernel_rfl, by kernel_rfl, by kernel_rfl, by kernel_rfl, by kernel_rfl, trivial⟩ (show row.length - 0 < 100000 by omega) ⟨Nat.zero_le _, by simpa using W⟩ ?_
    clear W hgc RW hq1 hq2 eS
    rintro m2 j F2 g2 ⟨hj, W⟩ ihj
    have hwj : IntKind.wrap .i64 (Int.ofNat (j + 1)) = Int.ofNat (j + 1) := wrap_nat (by omega)
    have hgc := (W.ext.get _ hgc0.2).trans hgc0.1
    have RW := ob_row (h := g6) (gs := gs) (g := g2) (by rw [h7e]; exact W.ext) hg G1
    dsimp only at RW
    rw [hy] at RW
    refine ok_go 0 ?_
    refine sy_load 0 (r := indexAddrOp Tryz.prog 22 (.slice (some ⟨g6.next + gs.length, 0, none⟩) gs.length (2 * gs.length + 1)) (J k)) (h' := g2) (v := ptr (g6.next + gs.length) k) (by kernel_rfl) (idxS0 (e := 28) (by kernel_rfl) (by kernel_rfl) hlt) ?_
    refine ok_go 0 ?_
    refine sy_load 0 (r := loadT Tryz.prog g2 28 (ptr (g6.next + gs.length) k)) (h' := g2) (by kernel_rfl) (load1 (by kernel_rfl) hgc hvb) ?_
    refine ok_go 2 ?_
    refine sy_test 0 (decide (Int.ofNat j < Int.ofNat row.length)) (by kernel_rfl) ?_ ?_
    · intro hjl
      have hjl : j < row.length := ok_nat hjl
      obtain ⟨pj, hj1, hj2⟩ := rdN RW hjl
      obtain ⟨L3, L4, L5⟩ := L2 j hjl
      have hnew : row[j] ∉ F ++ row.take j := fun hm => by
        have : (F ++ row.take (j + 1)).Nodup := hnd.sublist ((List.Sublist.refl F).append (List.take_sublist _ _))
        rw [List.take_succ_eq_append_getElem hjl, ← List.append_assoc] at this
        exact (List.nodup_append.1 this).2.2 _ hm _ (List.mem_singleton.2 rfl) rfl
      have htj : row.take (j + 1) = row.take j ++ [row[j]] := List.take_succ_eq_append_getElem hjl
      have eS := sz_of 100000 (m + 4) (by decide) row[j] (by omega) g2
      rw [L3] at eS
      generalize hxe : row[j] = x at *
      refine ok_go 0 ?_
      refine sy_load 0 (r := indexAddrOp Tryz.prog 22 (.slice (some ⟨g6.next + gs.length, 0, none⟩) gs.length (2 * gs.length + 1)) (J k)) (h' := g2) (v := ptr (g6.next + gs.length) k) (by kernel_rfl) (idxS0 (e := 28) (by kernel_rfl) (by kernel_rfl) hlt) ?_
      refine ok_go 0 ?_
      refine sy_load 0 (r := loadT Tryz.prog g2 28 (ptr (g6.next + gs.length) k)) (h' := g2) (by kernel_rfl) (load1 (by kernel_rfl) hgc hvb) ?_
      refine ok_go 0 ?_
      refine sy_load 0 (r := indexAddrOp Tryz.prog 28 (.slice ya row.length yc) (J j)) (h' := g2) (by kernel_rfl) hj1 ?_
      refine ok_go 0 ?_
      refine sy_load 0 (r := loadT Tryz.prog g2 3 pj) (h' := g2) (by kernel_rfl) hj2 ?_
      refine ok_go 8 ?_
      refine sy_no 0 (b := decide (Int.ofNat x ≥ Int.ofNat (2 ^ N))) (by kernel_rfl) (decide_eq_false (by show ¬ ((2 ^ N : Nat) : Int) ≤ (x : Int); omega)) ?_
      refine ok_go 2 ?_
      refine sy_load 0 (r := indexAddrOp Tryz.prog 37 (.slice (some ⟨g7.next, 0, none⟩) (2 ^ N) (2 * 2 ^ N)) (J x)) (h' := g2) (v := ptr g7.next x) (by kernel_rfl) (idxS0 (e := 4) (by kernel_rfl) zB L4) ?_
      refine ok_go 1 ?_
      refine sy_load 0 (r := loadT Tryz.prog g2 4 (ptr g7.next x)) (h' := g2) (v := .bool false) (by kernel_rfl) (load1 agB (W.get 0 rfl) (by rw [cellsF_get L4, decide_eq_false hnew])) ?_
      refine ok_go 3 ?_
      refine sy_call 0 (by kernel_rfl) eS ?_
      refine ok_go 7 ?_
      refine sy_no 0 (b := Int.ofNat (p0 + j) != IntKind.i64.wrap (Int.ofNat p0 + Int.ofNat j)) (by kernel_rfl) (by rw [wrap_add (by omega)]; exact bne_self_eq_false _) ?_
      have hwf : IntKind.wrap .i64 (Int.ofNat (F.length + j + 1)) = Int.ofNat (F.length + j + 1) := wrap_nat (by omega)
      refine ok_go 3 ?_
      by_cases h0 : 0 < j
      · refine sy_yes 0 (b := decide (Int.ofNat j > 0)) (by kernel_rfl) (decide_eq_true (by show (0 : Int) < (j : Int); omega)) ?_
        obtain ⟨pm', hm1, hm2⟩ := rdN RW (show j - 1 < row.length by omega)
        have L5 := L5 h0
        have hjm : IntKind.i64.wrap (Int.ofNat j - 1) = Int.ofNat (j - 1) := wrap_sub (b := 1) h0 (by omega)
        have hyb := (L2 (j - 1) (by omega)).2.1
        generalize row[j - 1] = y' at *
        have hay : andI (Int.ofNat x) (Int.ofNat y') = Int.ofNat y' := by rw [and_nat (by omega), L5]
        refine ok_go 3 ?_
        refine sy_load 0 (r := indexAddrOp Tryz.prog 22 (.slice (some ⟨g6.next + gs.length, 0, none⟩) gs.length (2 * gs.length + 1)) (J k)) (h' := g2) (v := ptr (g6.next + gs.length) k) (by kernel_rfl) (idxS0 (e := 28) (by kernel_rfl) (by kernel_rfl) hlt) ?_
        refine ok_go 1 ?_
        refine sy_load 0 (r := loadT Tryz.prog g2 28 (ptr (g6.next + gs.length) k)) (h' := g2) (by kernel_rfl) (load1 (by kernel_rfl) hgc hvb) ?_
        refine ok_go 4 ?_
        refine sy_load 0 (r := indexAddrOp Tryz.prog 28 (.slice ya row.length yc) (I (IntKind.i64.wrap (Int.ofNat j - 1)))) (h' := g2) (by kernel_rfl) (by rw [hjm]; exact hm1) ?_
        refine ok_go 1 ?_
        refine sy_load 0 (r := loadT Tryz.prog g2 3 pm') (h' := g2) (by kernel_rfl) hm2 ?_
        refine ok_go 5 ?_
        refine sy_load 0 (r := indexAddrOp Tryz.prog 22 (.slice (some ⟨g6.next + gs.length, 0, none⟩) gs.length (2 * gs.length + 1)) (J k)) (h' := g2) (v := ptr (g6.next + gs.length) k) (by kernel_rfl) (idxS0 (e := 28) (by kernel_rfl) (by kernel_rfl) hlt) ?_
        refine ok_go 1 ?_
        refine sy_load 0 (r := loadT Tryz.prog g2 28 (ptr (g6.next + gs.length) k)) (h' := g2) (by kernel_rfl) (load1 (by kernel_rfl) hgc hvb) ?_
        refine ok_go 4 ?_
        refine sy_load 0 (r := indexAddrOp Tryz.prog 28 (.slice ya row.length yc) (I (IntKind.i64.wrap (Int.ofNat j - 1)))) (h' := g2) (by kernel_rfl) (by rw [hjm]; exact hm1) ?_
        refine ok_go 1 ?_
        refine sy_load 0 (r := loadT Tryz.prog g2 3 pm') (h' := g2) (by kernel_rfl) hm2 ?_
        refine ok_go 5 ?_
        refine sy_no 0 (b := andI (Int.ofNat x) (Int.ofNat y') != Int.ofNat y') (by kernel_rfl) (by rw [hay]; exact bne_self_eq_false _) ?_
        refine ok_go 0 ?_
        refine sy_load 0 (r := indexAddrOp Tryz.prog 37 (.slice (some ⟨g7.next, 0, none⟩) (2 ^ N) (2 * 2 ^ N)) (J x)) (h' := g2) (v := ptr g7.next x) (by kernel_rfl) (idxS0 (e := 4) (by kernel_rfl) zB L4) ?_
        refine ok_go 0 ?_
        refine ow_storeF (P := Tryz.prog) (T := 4) (v := .bool true) 0 0 W rfl L4 zB rfl (by kernel_rfl) fun g3 ng3 W => ?_
        rw [mk97_set] at W
        have W : Sto g7 g3 [(g7.next, .cells (cellsF (2 ^ N) fun s => .bool (decide (s ∈ F ++ row.take (j + 1)))) 4 false)] := by
          rw [show (fun s => Value.bool (decide (s ∈ F ++ row.take (j + 1)))) = fun s => .bool (if s = x then true else decide (s ∈ F ++ row.take j)) from by
            funext s
            rw [htj, ← List.append_assoc]
            by_cases hs : s = x
            · simp [hs]
            · simp [hs]]
          exact W
        refine ok_go 2 ?_
        exact sy_next 0 _ g3 (by kernel_rfl) (by kernel_rfl) (ihj (j + 1) _ g3 ⟨hjl, W⟩ (show row.length - (j + 1) < row.length - j by omega) ⟨by kernel_rfl, by kernel_rfl, by kernel_rfl, by kernel_rfl, (by kernel_rfl : _ = Value.int .i64 (IntKind.wrap .i64 (Int.ofNat (F.length + j + 1)))).trans (by rw [hwf]; rfl), by kernel_rfl, by kernel_rfl, (by kernel_rfl : _ = Value.int .i64 (IntKind.wrap .i64 (Int.ofNat (j + 1)))).trans (by rw [hwj]), trivial⟩)
      · refine sy_no 0 (b := decide (Int.ofNat j > 0)) (by kernel_rfl) (decide_eq_false (by show ¬ (0 : Int) < (j : Int); omega)) ?_
        refine ok_go 22 ?_
        refine sy_load 0 (r := indexAddrOp Tryz.prog 37 (.slice (some ⟨g7.next, 0, none⟩) (2 ^ N) (2 * 2 ^ N)) (J x)) (h' := g2) (v := ptr g7.next x) (by kernel_rfl) (idxS0 (e := 4) (by kernel_rfl) zB L4) ?_
        refine ok_go 0 ?_
        refine ow_storeF (P := Tryz.prog) (T := 4) (v := .bool true) 0 0 W rfl L4 zB rfl (by kernel_rfl) fun g3 ng3 W => ?_
        rw [mk97_set] at W
        have W : Sto g7 g3 [(g7.next, .cells (cellsF (2 ^ N) fun s => .bool (decide (s ∈ F ++ row.take (j + 1)))) 4 false)] := by
          rw [show (fun s => Value.bool (decide (s ∈ F ++ row.take (j + 1)))) = fun s => .bool (if s = x then true else decide (s ∈ F ++ row.take j)) from by
            funext s
            rw [htj, ← List.append_assoc]
            by_cases hs : s = x
            · simp [hs]
            · simp [hs]]
          exact W
        refine ok_go 2 ?_
        exact sy_next 0 _ g3 (by kernel_rfl) (by kernel_rfl) (ihj (j + 1) _ g3 ⟨hjl, W⟩ (show row.length - (j + 1) < row.length - j by omega) ⟨by kernel_rfl, by kernel_rfl, by kernel_rfl, by kernel_rfl, (by kernel_rfl : _ = Value.int .i64 (IntKind.wrap .i64 (Int.ofNat (F.length + j + 1)))).trans (by rw [hwf]; rfl), by kernel_rfl, by kernel_rfl, (by kernel_rfl : _ = Value.int .i64 (IntKind.wrap .i64 (Int.ofNat (j + 1)))).trans (by rw [hwj]), trivial⟩)
    · intro hjl
      have hjl : j = row.length := Nat.le_antisymm hj (no_nat hjl)
      subst hjl
      rw [List.take_length, ← htk] at W
      refine ok_go 1 ?_
      exact sy_next 0 _ g2 (by kernel_rfl) (by kernel_rfl) (ih (k + 1) _ g2 ⟨hlt, W⟩ (show gs.length - (k + 1) < gs.length - k by omega) ⟨by kernel_rfl, by kernel_rfl, by kernel_rfl, by kernel_rfl, (by kernel_rfl : _ = J (F.length + row.length)).trans (by rw [htk, List.length_append]), (by kernel_rfl : _ = Value.int .i64 (IntKind.wrap .i64 (Int.ofNat (k + 1)))).trans (by rw [hw]), trivial⟩)
  · intro hlt
    have hlt : k = gs.length := Nat.le_antisymm hk (no_nat hlt)
    subst hlt
    refine ok_go 8 ?_
    rw [show rows.take gs.length = rows by rw [← hrl]; exact List.take_length] at *
    refine sy_yes 0 (b := decide (Int.ofNat rows.flatten.length = Int.ofNat (2 ^ N))) (by kernel_rfl) (decide_eq_true (by rw [K3])) ?_
    have eC := choose_of (m + 4) N hN7 g
    refine ok_go 7 ?_
    have hdv : IntKind.i64.wrap ((Int.ofNat N).tdiv 2) = Int.ofNat (N / 2) := wrap_nat (n := N / 2) (by omega)
    refine sy_call 0 (r := Ev 100000 (m + 5) 23 [J N, I (IntKind.i64.wrap ((Int.ofNat N).tdiv 2))] g) (by kernel_rfl) (by rw [hdv]; exact eC) ?_
    refine ok_go 3 ?_
    refine sy_yes 0 (b := decide (Int.ofNat gs.length = Int.ofNat (chN N))) (by kernel_rfl) (decide_eq_true (by rw [← K4, hrl])) ?_
    refine ok_go 2 ?_
    exact sy_done 0 (v := .bool true) (h := g) (by kernel_rfl) rfl
end Go.Proofs.YtkfbfgcflnkllaaGreatDoor
namespace Go.Proofs.YtkfbfgcflnkllaaGreatDoor
open Go Go.Eng Nim Go.ChangeShapes
set_option maxRecDepth 100000
section
variable {HH : Type} {enc : TypeId × Value → HH} {B : Prot} {w0 w : World}
theorem openIntsArgX {E : Env} {h : Hp} (H : HpOK Tryz.prog B w0 E h w) (hB : ∀ k, k < w.heap.size → B.ro k) {v0 : Value} {base : Nat} {d : DataW HH} {p : List MemPlace} (hval : Value.okWide Tryz.prog w .any base 28 v0)
    (ht : DataW.Trod enc Tryz.prog w 0 (fun _ => true) true 28 v0 d p) :
    ∃ (E' : Env) (h' : Hp) (xa : Option Addr) (xc : Nat) (zs : List Int), HpOK Tryz.prog B w0 E' h' w ∧ con E' (.slice xa zs.length xc) = v0 ∧ sc h'.next (.slice xa zs.length xc) = true ∧ Rds h' (.slice xa zs.length xc) (zs.map I) ∧ WfS (.slice xa zs.length xc) ∧ zs.length < 2 ^ 63 ∧ Agree h.next E E' ∧ h.Ext h' := by
  obtain ⟨fuel, ht⟩ := ht
  have hsl : ∃ a l c, v0 = .slice a l c := by
    unfold Value.okWide at hval
    rw [u28] at hval
    simp only [Cell.okWide, u28, Cell.ok] at hval
    cases v0 <;> first | exact ⟨_, _, _, rfl⟩ | simp at hval
  obtain ⟨a0, l0, c0, rfl⟩ := hsl
  have hcells : (Value.slice a0 l0 c0).cells.toList = [.slice a0 l0 c0] := rfl
  rw [hcells] at ht
  obtain ⟨E', h', v, r, j1, j2, j3, j4, j5, j6, j7, j8, j9⟩ := openInts H hB ht
  obtain ⟨xa, xc, hs⟩ := j6.shape
  rw [List.length_map] at hs
  subst hs
  exact ⟨E', h', xa, xc, r, j1, j4, j5, j6, j9, j8, j2, j3⟩
end
theorem said4 (z : Int) (xs : List Int) (hxs : xs.length < 2 ^ 63) (xa : Option Addr) (xc : Nat) (ys : List Int) (hys : ys.length < 2 ^ 63) (ya : Option Addr) (yc : Nat) (h : Hp) (hx : Rds h (.slice xa xs.length xc) (xs.map I)) (_ : WfS (.slice xa xs.length xc)) (hy : Rds h (.slice ya ys.length yc) (ys.map I)) (_ : WfS (.slice ya ys.length yc)) :
    ∃ H, evInv Tryz.prog orc 100000 1000 (.fn 4 [.int .i64 z, .slice xa xs.length xc, .slice ya ys.length yc]) h = some (.bool true, H) :=
  law4 994 z xs ys hxs hys _ _ h hx hy
end Go.Proofs.YtkfbfgcflnkllaaGreatDoor
