/- Families: what Check says, and the reference's. -/
import Derived.Test.YtkfbfgcflnkllaaGreatDoorProg
import Derived.KernelRfl
import Derived.Test.YtkfbfgcflnkllaaGreatDoorSyF
import Derived.Test.YtkfbfgcflnkllaaGreatDoorSxC
import Derived.Test.YtkfbfgcflnkllaaGreatDoorSyD
import Derived.ChangeSlices
import Derived.ChangeArms
namespace Go.Proofs.YtkfbfgcflnkllaaGreatDoor
open Go Go.Eng Nim
set_option maxRecDepth 100000
set_option maxHeartbeats 8000000
theorem rdI {h : Hp} {rv : Value} {zs : List Int} (hr : Rds h rv (zs.map I)) {k : Nat} (hk : k < zs.length) : ∃ p, indexAddrOp Tryz.prog 28 rv (J k) = some p ∧ loadT Tryz.prog h 3 p = some (I zs[k]) :=
  hr.read (e := 3) (by kernel_rfl) (by kernel_rfl) (by kernel_rfl) (by rw [List.getElem?_map, List.getElem?_eq_getElem hk]; rfl)
theorem rdN {h : Hp} {rv : Value} {r : List Nat} (hr : Rds h rv (r.map J)) {k : Nat} (hk : k < r.length) : ∃ p, indexAddrOp Tryz.prog 28 rv (J k) = some p ∧ loadT Tryz.prog h 3 p = some (J r[k]) :=
  hr.read (e := 3) (by kernel_rfl) (by kernel_rfl) (by kernel_rfl) (by rw [List.getElem?_map, List.getElem?_eq_getElem hk]; rfl)
theorem all_I (l : List Int) : (l.map I).all scalar = true := List.all_eq_true.2 fun v hv => by obtain ⟨n, _, rfl⟩ := List.mem_map.1 hv; rfl
theorem all_J (l : List Nat) : (l.map J).all scalar = true := List.all_eq_true.2 fun v hv => by obtain ⟨n, _, rfl⟩ := List.mem_map.1 hv; rfl
/-- What a cut of an argument, appended to none, comes to. -/
theorem raw_of (lf m : Nat) (k : Nat) (hk : k < 16777216) (zs : List Int) (x : Value) (h : Hp) (hx : Rds h x (zs.map I)) (hwf : WfS x) :
    ∃ v h', Ev lf (m + 1) 46 [x, J k] h = some (v, h') ∧ Rds h' v ((zs.take k).map I) ∧ h.Ext h' := by
  refine fnS_ok (Q := fun v h' => Rds h' v ((zs.take k).map I) ∧ h.Ext h') ?_
  have W := Sto.start h
  obtain ⟨xa, xc, hxs⟩ := hx.shape
  rw [List.length_map] at hxs
  subst hxs
  obtain ⟨K, hK, hK1, hK2, hK3⟩ : ∃ K : Nat, (if Int.ofNat k < Int.ofNat zs.length then Int.ofNat k else Int.ofNat zs.length) = Int.ofNat K ∧ K ≤ zs.length ∧ zs.take K = zs.take k ∧ K ≤ k := by
    by_cases h20 : k < zs.length
    · exact ⟨k, if_pos (by show (k : Int) < (zs.length : Int); omega), by omega, rfl, Nat.le_refl _⟩
    · exact ⟨zs.length, if_neg (by show ¬ (k : Int) < (zs.length : Int); omega), Nat.le_refl _, by rw [List.take_length, List.take_of_length_le (by omega)], by omega⟩
  obtain ⟨y, hy1, hy2⟩ := cut_row hwf hx (K := K) (by rw [List.length_map]; exact hK1)
  rw [← List.map_take, hK2] at hy2
  have hy1 : sliceOp Tryz.prog 28 (.slice xa zs.length xc) none (some (.int .i64 (Int.ofNat K))) none = some y := hy1
  rw [← hK] at hy1
  refine ok_go 2 ?_
  refine sy_any 0 (p := fun y => Rds h y ((zs.take k).map I)) (h' := h) ?_ ?_
  · cases xa with
    | none =>
      obtain ⟨h1, h2⟩ := hwf
      obtain rfl : zs = [] := List.eq_nil_of_length_eq_zero h1
      subst h2
      exact ⟨.slice none 0 0, .inl ⟨⟨_, rfl⟩, by rw [List.take_nil]; rfl⟩, by kernel_rfl⟩
    | some ra =>
      refine ⟨y, hy2, (by kernel_rfl : _ = (sliceOp Tryz.prog 28 (.slice (some ra) zs.length xc) none (some (.int .i64 (if Int.ofNat k < Int.ofNat zs.length then Int.ofNat k else Int.ofNat zs.length))) none).map (·, h)).trans ?_⟩
      rw [hy1]
      rfl
  intro y hy2
  obtain ⟨ya, yc, rfl⟩ := hy2.shape
  refine ok_go 0 ?_
  refine ow_rds 0 W slz28 hy2 (all_I _) (by rw [List.length_map, List.length_take]; omega) (by kernel_rfl) fun g2 sl2 ng2 hsl2 hsc2 W => ?_
  have RV : Rds g2 sl2 ((zs.take k).map I) := by
    rw [hsl2]
    exact osl_rd fun p hp => W.hold p (List.mem_append_right _ hp)
  obtain ⟨oa, oc, hos⟩ := RV.shape
  subst hos
  refine ok_go 0 ?_
  exact sy_done 0 (v := _) (h := g2) (by kernel_rfl) ⟨RV, W.ext⟩
/-- The number ahead of number i. -/
def lastI (zs : List Int) (i : Nat) : Int := if i = 0 then -1 else zs.getD (i - 1) 0
def badAt (n : Nat) (zs : List Int) (i : Nat) : Prop := zs.getD i 0 ≤ lastI zs i ∨ zs.getD i 0 ≥ 2 ^ n
def GoodTo (n : Nat) (zs : List Int) (k : Nat) : Prop := ∀ i, i < k → ¬ badAt n zs i
/-- What Check says: the first bad place, or none. -/
def FamR (n : Int) (zs : List Int) (e : Nat) : Prop := ((n < 0 ∨ 10 < n) ∧ e = 1) ∨ ∃ N : Nat, n = Int.ofNat N ∧ N ≤ 10 ∧ ((e = 80 ∧ ∃ i, i < zs.length ∧ GoodTo N zs i ∧ badAt N zs i) ∨ (e = 0 ∧ GoodTo N zs zs.length))
theorem FamR.uniq {n : Int} {zs : List Int} {e f : Nat} (h1 : FamR n zs e) (h2 : FamR n zs f) : e = f := by
  rcases h1 with ⟨a, rfl⟩ | ⟨N, rfl, hN, h1⟩ <;> rcases h2 with ⟨b, rfl⟩ | ⟨M, hM, hM2, h2⟩
  · rfl
  · subst hM
    have : ¬ ((Int.ofNat M) < 0 ∨ 10 < Int.ofNat M) := by rintro (h | h) <;> simp at h <;> omega
    exact absurd a this
  · have : ¬ ((Int.ofNat N) < 0 ∨ 10 < Int.ofNat N) := by rintro (h | h) <;> simp at h <;> omega
    exact absurd b this
  · cases hM
    rcases h1 with ⟨rfl, i, hi, _, hb⟩ | ⟨rfl, hg⟩ <;> rcases h2 with ⟨rfl, j, hj, _, hb2⟩ | ⟨rfl, hg2⟩
    · rfl
    · exact absurd hb (hg2 i hi)
    · exact absurd hb2 (hg j hj)
    · rfl
theorem FamR.ex (n : Int) (zs : List Int) : ∃ e, FamR n zs e := by
  by_cases h : n < 0 ∨ 10 < n
  · exact ⟨1, .inl ⟨h, rfl⟩⟩
  · obtain ⟨N, rfl⟩ := Int.eq_ofNat_of_zero_le (show 0 ≤ n by omega)
    have hN : N ≤ 10 := by simp at h; omega
    by_cases hg : GoodTo N zs zs.length
    · exact ⟨0, .inr ⟨N, rfl, hN, .inr ⟨rfl, hg⟩⟩⟩
    · have key : ∀ k, k ≤ zs.length → GoodTo N zs k ∨ ∃ i, i < k ∧ GoodTo N zs i ∧ badAt N zs i := fun k => by
        induction k with
        | zero => exact fun _ => .inl fun i hi => absurd hi (Nat.not_lt_zero i)
        | succ k ih =>
          intro hk
          rcases ih (by omega) with h | ⟨i, h1, h2, h3⟩
          · by_cases hb : badAt N zs k
            · exact .inr ⟨k, Nat.lt_succ_self k, h, hb⟩
            · refine .inl fun i hi => ?_
              rcases Nat.lt_succ_iff_lt_or_eq.1 hi with h' | rfl
              · exact h i h'
              · exact hb
          · exact .inr ⟨i, by omega, h2, h3⟩
      rcases key _ (Nat.le_refl _) with h | ⟨i, h1, h2, h3⟩
      · exact absurd h hg
      · exact ⟨80, .inr ⟨N, rfl, hN, .inl ⟨rfl, i, h1, h2, h3⟩⟩⟩
theorem chk_of (lf m : Nat) (n : Int) (zs : List Int) (hz : zs.length < 100000) (hlf : zs.length < lf) (x : Value) (h : Hp) (hx : Rds h x (zs.map I)) :
    ∃ e, FamR n zs e ∧ Ev lf (m + 1) 57 [I n, x] h = some (J e, h) := by
  suffices ∃ v h', Ev lf (m + 1) 57 [I n, x] h = some (v, h') ∧ ∃ e, FamR n zs e ∧ v = J e ∧ h' = h by
    obtain ⟨v, h', e1, e, e2, rfl, rfl⟩ := this
    exact ⟨e, e2, e1⟩
  refine fnS_ok (Q := fun v h' => ∃ e, FamR n zs e ∧ v = J e ∧ h' = h) ?_
  obtain ⟨xa, xc, hxs⟩ := hx.shape
  rw [List.length_map] at hxs
  subst hxs
  have W := Sto.start h
  by_cases h0 : n < 0
  · refine ok_go 1 ?_
    refine sy_yes 0 (b := decide (n < 0)) (by kernel_rfl) (decide_eq_true h0) ?_
    refine ok_go 3 ?_
    exact sy_done 0 (v := J 1) (h := h) (by kernel_rfl) ⟨1, .inl ⟨.inl h0, rfl⟩, rfl, rfl⟩
  refine ok_go 1 ?_
  refine sy_no 0 (b := decide (n < 0)) (by kernel_rfl) (decide_eq_false h0) ?_
  refine ok_go 3 ?_
  by_cases h10 : n > 10
  · refine sy_yes 0 (b := decide (n > 10)) (by kernel_rfl) (decide_eq_true h10) ?_
    refine ok_go 0 ?_
    exact sy_done 0 (v := J 1) (h := h) (by kernel_rfl) ⟨1, .inl ⟨.inr h10, rfl⟩, rfl, rfl⟩
  refine sy_no 0 (b := decide (n > 10)) (by kernel_rfl) (decide_eq_false h10) ?_
  obtain ⟨N, rfl⟩ := Int.eq_ofNat_of_zero_le (show 0 ≤ n by omega)
  have hN : N ≤ 10 := by have : ¬ (10 : Int) < (N : Int) := h10; omega
  have hsh := one_shl N (by omega)
  have hpw : Int.ofNat (2 ^ N) = (2 : Int) ^ N := by simp
  refine ok_go 1 ?_
  refine sy_loop 0 lf h (α := Nat) (fun i => [(0, J N), (5, I (lastI zs i)), (14, .slice xa zs.length xc), (15, J zs.length), (16, J i)]) (fun i g => i ≤ zs.length ∧ GoodTo N zs i ∧ g = h) (fun i _ => zs.length - i) 0 (by kernel_rfl) (by kernel_rfl)
    ⟨by kernel_rfl, by kernel_rfl, by kernel_rfl, by kernel_rfl, by kernel_rfl, trivial⟩ (show zs.length - 0 < lf by omega) ⟨Nat.zero_le _, fun i hi => absurd hi (Nat.not_lt_zero i), rfl⟩ ?_
  rintro m1 i F1 g ⟨hi, hG, rfl⟩ ih
  have hw : IntKind.wrap .i64 (Int.ofNat (i + 1)) = Int.ofNat (i + 1) := wrap_nat (by omega)
  refine ok_go 1 ?_
  refine sy_test 0 (decide (Int.ofNat i < Int.ofNat zs.length)) (by kernel_rfl) ?_ ?_
  · intro hlt
    have hlt : i < zs.length := ok_nat hlt
    obtain ⟨p, hp1, hp2⟩ := rdI hx hlt
    have hgd : zs.getD i 0 = zs[i] := by rw [List.getD_eq_getElem?_getD, List.getElem?_eq_getElem hlt]; rfl
    have hla : lastI zs (i + 1) = zs[i] := by unfold lastI; rw [if_neg (by omega), Nat.add_sub_cancel, hgd]
    refine ok_go 0 ?_
    refine sy_load 0 (r := indexAddrOp Tryz.prog 28 (.slice xa zs.length xc) (J i)) (h' := g) (by kernel_rfl) hp1 ?_
    refine ok_go 0 ?_
    refine sy_load 0 (r := loadT Tryz.prog g 3 p) (h' := g) (by kernel_rfl) hp2 ?_
    refine ok_go 1 ?_
    by_cases hb1 : zs[i] ≤ lastI zs i
    · refine sy_yes 0 (b := decide (zs[i] ≤ lastI zs i)) (by kernel_rfl) (decide_eq_true hb1) ?_
      refine ok_go 6 ?_
      exact sy_done 0 (v := J 80) (h := g) (by kernel_rfl) ⟨80, .inr ⟨N, rfl, hN, .inl ⟨rfl, i, hlt, hG, .inl (by rw [hgd]; exact hb1)⟩⟩, rfl, rfl⟩
    · refine sy_no 0 (b := decide (zs[i] ≤ lastI zs i)) (by kernel_rfl) (decide_eq_false hb1) ?_
      refine ok_go 8 ?_
      by_cases hb2 : zs[i] ≥ Int.ofNat (2 ^ N)
      · refine sy_yes 0 (b := decide (zs[i] ≥ IntKind.i64.wrap (1 * 2 ^ min (IntKind.u64.wrap (Int.ofNat N)).toNat IntKind.i64.bits))) (by kernel_rfl) (by rw [hsh]; exact decide_eq_true hb2) ?_
        refine ok_go 0 ?_
        exact sy_done 0 (v := J 80) (h := g) (by kernel_rfl) ⟨80, .inr ⟨N, rfl, hN, .inl ⟨rfl, i, hlt, hG, .inr (by rw [hgd, ← hpw]; exact hb2)⟩⟩, rfl, rfl⟩
      · refine sy_no 0 (b := decide (zs[i] ≥ IntKind.i64.wrap (1 * 2 ^ min (IntKind.u64.wrap (Int.ofNat N)).toNat IntKind.i64.bits))) (by kernel_rfl) (by rw [hsh]; exact decide_eq_false hb2) ?_
        refine ok_go 1 ?_
        refine sy_next 0 _ g (by kernel_rfl) (by kernel_rfl) (ih (i + 1) _ g ⟨hlt, fun j hj => ?_, rfl⟩ (show zs.length - (i + 1) < zs.length - i by omega) ⟨by kernel_rfl, (by kernel_rfl : _ = I zs[i]).trans (by rw [hla]), by kernel_rfl, by kernel_rfl, (by kernel_rfl : _ = Value.int .i64 (IntKind.wrap .i64 (Int.ofNat (i + 1)))).trans (by rw [hw]), trivial⟩)
        rcases Nat.lt_succ_iff_lt_or_eq.1 hj with h | rfl
        · exact hG j h
        · rintro (h | h)
          · rw [hgd] at h; exact hb1 h
          · rw [hgd, ← hpw] at h
            exact hb2 h
  · intro hlt
    have hlt : i = zs.length := Nat.le_antisymm hi (no_nat hlt)
    subst hlt
    refine ok_go 0 ?_
    exact sy_done 0 (v := J 0) (h := g) (by kernel_rfl) ⟨0, .inr ⟨N, rfl, hN, .inr ⟨rfl, hG⟩⟩, rfl, rfl⟩
end Go.Proofs.YtkfbfgcflnkllaaGreatDoor
namespace Go.Proofs.YtkfbfgcflnkllaaGreatDoor
open Go Go.Eng Nim
set_option maxRecDepth 100000
set_option maxHeartbeats 8000000
theorem rchk_of (lf m : Nat) (n : Int) (zs : List Int) (hz : zs.length < 100000) (hlf : zs.length < lf) (x : Value) (h : Hp) (hx : Rds h x (zs.map I)) :
    ∃ e, FamR n zs e ∧ Ev lf (m + 1) 54 [I n, x] h = some (J e, h) := by
  suffices ∃ v h', Ev lf (m + 1) 54 [I n, x] h = some (v, h') ∧ ∃ e, FamR n zs e ∧ v = J e ∧ h' = h by
    obtain ⟨v, h', e1, e, e2, rfl, rfl⟩ := this
    exact ⟨e, e2, e1⟩
  refine fnS_ok (Q := fun v h' => ∃ e, FamR n zs e ∧ v = J e ∧ h' = h) ?_
  obtain ⟨xa, xc, hxs⟩ := hx.shape
  rw [List.length_map] at hxs
  subst hxs
  have W := Sto.start h
  by_cases h0 : n < 0
  · refine ok_go 1 ?_
    refine sy_yes 0 (b := decide (n < 0)) (by kernel_rfl) (decide_eq_true h0) ?_
    refine ok_go 3 ?_
    exact sy_done 0 (v := J 1) (h := h) (by kernel_rfl) ⟨1, .inl ⟨.inl h0, rfl⟩, rfl, rfl⟩
  refine ok_go 1 ?_
  refine sy_no 0 (b := decide (n < 0)) (by kernel_rfl) (decide_eq_false h0) ?_
  refine ok_go 3 ?_
  by_cases h10 : n > 10
  · refine sy_yes 0 (b := decide (n > 10)) (by kernel_rfl) (decide_eq_true h10) ?_
    refine ok_go 0 ?_
    exact sy_done 0 (v := J 1) (h := h) (by kernel_rfl) ⟨1, .inl ⟨.inr h10, rfl⟩, rfl, rfl⟩
  refine sy_no 0 (b := decide (n > 10)) (by kernel_rfl) (decide_eq_false h10) ?_
  obtain ⟨N, rfl⟩ := Int.eq_ofNat_of_zero_le (show 0 ≤ n by omega)
  have hN : N ≤ 10 := by have : ¬ (10 : Int) < (N : Int) := h10; omega
  have hsh := one_shl N (by omega)
  have hpw : Int.ofNat (2 ^ N) = (2 : Int) ^ N := by simp
  refine ok_go 0 ?_
  refine sy_loop 0 lf h (α := Nat) (fun i => [(0, J N), (1, .slice xa zs.length xc), (5, J i)]) (fun i g => i ≤ zs.length ∧ GoodTo N zs i ∧ g = h) (fun i _ => zs.length - i) 0 (by kernel_rfl) (by kernel_rfl)
    ⟨by kernel_rfl, by kernel_rfl, by kernel_rfl, trivial⟩ (show zs.length - 0 < lf by omega) ⟨Nat.zero_le _, fun i hi => absurd hi (Nat.not_lt_zero i), rfl⟩ ?_
  rintro m1 i F1 g ⟨hi, hG, rfl⟩ ih
  have hw : IntKind.wrap .i64 (Int.ofNat (i + 1)) = Int.ofNat (i + 1) := wrap_nat (by omega)
  refine ok_go 2 ?_
  refine sy_test 0 (decide (Int.ofNat i < Int.ofNat zs.length)) (by kernel_rfl) ?_ ?_
  · intro hlt
    have hlt : i < zs.length := ok_nat hlt
    obtain ⟨p, hp1, hp2⟩ := rdI hx hlt
    have hgd : zs.getD i 0 = zs[i] := by rw [List.getD_eq_getElem?_getD, List.getElem?_eq_getElem hlt]; rfl
    have bad : ∀ {t : SA}, badAt N zs i → doneP (goS 0 t) = some (J 80, g) → Ok (fun v h' => ∃ e, FamR (Int.ofNat N) zs e ∧ v = J e ∧ h' = g) t := fun hb hd =>
      sy_done 0 (v := J 80) (h := g) hd ⟨80, .inr ⟨N, rfl, hN, .inl ⟨rfl, i, hlt, hG, hb⟩⟩, rfl, rfl⟩
    have hb0 : zs[i] < 0 → badAt N zs i := fun hz0 => by
      refine .inl ?_
      rw [hgd]
      unfold lastI
      split
      · omega
      · have := hG (i - 1) (by omega)
        have h3 : ¬ zs.getD (i - 1) 0 < 0 := fun hneg => by
          refine this (.inl ?_)
          have hne := fun k (_ : k < i) => hG k
          unfold lastI
          split
          · omega
          · have := hG (i - 1 - 1) (by omega)
            exact absurd hneg (by
              have key : ∀ k, k < i → 0 ≤ zs.getD k 0 := fun k => by
                induction k with
                | zero =>
                  intro hk
                  have := hG 0 hk
                  unfold badAt lastI at this
                  simp only [if_true] at this
                  omega
                | succ k ihk =>
                  intro hk
                  have h1 := ihk (by omega)
                  have := hG (k + 1) hk
                  unfold badAt lastI at this
                  rw [if_neg (by omega), Nat.add_sub_cancel] at this
                  omega
              have := key (i - 1) (by omega)
              omega)
        omega
    refine ok_go 0 ?_
    refine sy_load 0 (r := indexAddrOp Tryz.prog 28 (.slice xa zs.length xc) (J i)) (h' := g) (by kernel_rfl) hp1 ?_
    refine ok_go 0 ?_
    refine sy_load 0 (r := loadT Tryz.prog g 3 p) (h' := g) (by kernel_rfl) hp2 ?_
    refine ok_go 1 ?_
    by_cases hz0 : zs[i] < 0
    · refine sy_yes 0 (b := decide (zs[i] < 0)) (by kernel_rfl) (decide_eq_true hz0) ?_
      refine ok_go 14 ?_
      exact bad (hb0 hz0) (by kernel_rfl)
    refine sy_no 0 (b := decide (zs[i] < 0)) (by kernel_rfl) (decide_eq_false hz0) ?_
    refine ok_go 2 ?_
    refine sy_load 0 (r := indexAddrOp Tryz.prog 28 (.slice xa zs.length xc) (J i)) (h' := g) (by kernel_rfl) hp1 ?_
    refine ok_go 1 ?_
    refine sy_load 0 (r := loadT Tryz.prog g 3 p) (h' := g) (by kernel_rfl) hp2 ?_
    refine ok_go 8 ?_
    by_cases hb2 : zs[i] ≥ Int.ofNat (2 ^ N)
    · refine sy_yes 0 (b := decide (zs[i] ≥ IntKind.i64.wrap (1 * 2 ^ min (IntKind.u64.wrap (Int.ofNat N)).toNat IntKind.i64.bits))) (by kernel_rfl) (by rw [hsh]; exact decide_eq_true hb2) ?_
      refine ok_go 5 ?_
      exact bad (.inr (by rw [hgd, ← hpw]; exact hb2)) (by kernel_rfl)
    refine sy_no 0 (b := decide (zs[i] ≥ IntKind.i64.wrap (1 * 2 ^ min (IntKind.u64.wrap (Int.ofNat N)).toNat IntKind.i64.bits))) (by kernel_rfl) (by rw [hsh]; exact decide_eq_false hb2) ?_
    refine ok_go 3 ?_
    have next : badAt N zs i ∨ GoodTo N zs (i + 1) := by
      by_cases hb : badAt N zs i
      · exact .inl hb
      · refine .inr fun j hj => ?_
        rcases Nat.lt_succ_iff_lt_or_eq.1 hj with h | rfl
        · exact hG j h
        · exact hb
    by_cases hi0 : i = 0
    · subst hi0
      refine ok_go 15 ?_
      refine sy_next 0 _ g (by kernel_rfl) (by kernel_rfl) (ih 1 _ g ⟨hlt, next.resolve_left ?_, rfl⟩ (show zs.length - 1 < zs.length - 0 by omega) ⟨by kernel_rfl, by kernel_rfl, by kernel_rfl, trivial⟩)
      rintro (h | h)
      · rw [hgd] at h
        exact hz0 (by have h : zs[0] ≤ -1 := h; omega)
      · rw [hgd, ← hpw] at h
        exact hb2 h
    · obtain ⟨k, rfl⟩ : ∃ k, i = k + 1 := ⟨i - 1, by omega⟩
      have hk1 : IntKind.wrap .i64 (Int.ofNat (k + 1) - 1) = Int.ofNat k := wrap_sub (a := k + 1) (b := 1) (by omega) (by omega)
      obtain ⟨p2, hp3, hp4⟩ := rdI hx (show k < zs.length by omega)
      have hla : lastI zs (k + 1) = zs[k] := by unfold lastI; rw [if_neg (by omega), Nat.add_sub_cancel, List.getD_eq_getElem?_getD, List.getElem?_eq_getElem (by omega)]; rfl
      refine sy_yes 0 (b := decide (Int.ofNat (k + 1) > 0)) (by kernel_rfl) (decide_eq_true (by show (0 : Int) < ((k + 1 : Nat) : Int); omega)) ?_
      refine ok_go 4 ?_
      refine sy_load 0 (r := indexAddrOp Tryz.prog 28 (.slice xa zs.length xc) (I (IntKind.wrap .i64 (Int.ofNat (k + 1) - 1)))) (h' := g) (by kernel_rfl) (by rw [hk1]; exact hp3) ?_
      refine ok_go 1 ?_
      refine sy_load 0 (r := loadT Tryz.prog g 3 p2) (h' := g) (by kernel_rfl) hp4 ?_
      refine ok_go 3 ?_
      refine sy_load 0 (r := indexAddrOp Tryz.prog 28 (.slice xa zs.length xc) (J (k + 1))) (h' := g) (by kernel_rfl) hp1 ?_
      refine ok_go 1 ?_
      refine sy_load 0 (r := loadT Tryz.prog g 3 p) (h' := g) (by kernel_rfl) hp2 ?_
      refine ok_go 5 ?_
      by_cases hb3 : zs[k] ≥ zs[k + 1]
      · refine sy_yes 0 (b := decide (zs[k] ≥ zs[k + 1])) (by kernel_rfl) (decide_eq_true hb3) ?_
        refine ok_go 0 ?_
        exact bad (.inl (by rw [hgd, hla]; exact hb3)) (by kernel_rfl)
      · refine sy_no 0 (b := decide (zs[k] ≥ zs[k + 1])) (by kernel_rfl) (decide_eq_false hb3) ?_
        refine ok_go 1 ?_
        refine sy_next 0 _ g (by kernel_rfl) (by kernel_rfl) (ih (k + 1 + 1) _ g ⟨hlt, next.resolve_left ?_, rfl⟩ (show zs.length - (k + 1 + 1) < zs.length - (k + 1) by omega) ⟨by kernel_rfl, by kernel_rfl, (by kernel_rfl : _ = Value.int .i64 (IntKind.wrap .i64 (Int.ofNat (k + 1 + 1)))).trans (by rw [hw]), trivial⟩)
        rintro (h | h)
        · rw [hgd, hla] at h; exact hb3 h
        · rw [hgd, ← hpw] at h; exact hb2 h
  · intro hlt
    have hlt : i = zs.length := Nat.le_antisymm hi (no_nat hlt)
    subst hlt
    refine ok_go 0 ?_
    exact sy_done 0 (v := J 0) (h := g) (by kernel_rfl) ⟨0, .inr ⟨N, rfl, hN, .inr ⟨rfl, hG⟩⟩, rfl, rfl⟩
end Go.Proofs.YtkfbfgcflnkllaaGreatDoor
namespace Go.Proofs.YtkfbfgcflnkllaaGreatDoor
open Go Go.Eng Nim
set_option maxRecDepth 100000
set_option maxHeartbeats 8000000
theorem same_of (lf m : Nat) (xs ys : List Int) (hlf : xs.length < lf) (hx1 : xs.length < 2 ^ 62) (x y : Value) (g : Hp) (hx : Rds g x (xs.map I)) (hy : Rds g y (ys.map I)) : Ev lf (m + 1) 16 [x, y] g = some (.bool (decide (xs = ys)), g) := by
  refine fn_eq ?_
  obtain ⟨xa, xc, hxs⟩ := hx.shape
  obtain ⟨ya, yc, hys⟩ := hy.shape
  rw [List.length_map] at hxs hys
  subst hxs hys
  have W := Sto.start g
  refine ok_go 3 ?_
  by_cases hne : xs.length = ys.length
  · refine sy_no 0 (b := Int.ofNat xs.length != Int.ofNat ys.length) (by kernel_rfl) (by rw [hne]; exact bne_self_eq_false _) ?_
    refine ok_go 0 ?_
    refine sy_loop 0 lf g (α := Nat) (fun i => [(0, .slice xa xs.length xc), (1, .slice ya ys.length yc), (5, J i)]) (fun i g' => i ≤ xs.length ∧ xs.take i = ys.take i ∧ g' = g) (fun i _ => xs.length - i) 0 (by kernel_rfl) (by kernel_rfl)
      ⟨by kernel_rfl, by kernel_rfl, by kernel_rfl, trivial⟩ (show xs.length - 0 < lf by omega) ⟨Nat.zero_le _, rfl, rfl⟩ ?_
    rintro m1 i F1 g ⟨hi, hpre, rfl⟩ ih
    have hw : IntKind.wrap .i64 (Int.ofNat (i + 1)) = Int.ofNat (i + 1) := wrap_nat (by omega)
    refine ok_go 2 ?_
    refine sy_test 0 (decide (Int.ofNat i < Int.ofNat xs.length)) (by kernel_rfl) ?_ ?_
    · intro hlt
      have hlt : i < xs.length := ok_nat hlt
      obtain ⟨p, hp1, hp2⟩ := rdI hx hlt
      obtain ⟨q, hq1, hq2⟩ := rdI hy (show i < ys.length by omega)
      refine ok_go 0 ?_
      refine sy_load 0 (r := indexAddrOp Tryz.prog 28 (.slice xa xs.length xc) (J i)) (h' := g) (by kernel_rfl) hp1 ?_
      refine ok_go 0 ?_
      refine sy_load 0 (r := loadT Tryz.prog g 3 p) (h' := g) (by kernel_rfl) hp2 ?_
      refine ok_go 0 ?_
      refine sy_load 0 (r := indexAddrOp Tryz.prog 28 (.slice ya ys.length yc) (J i)) (h' := g) (by kernel_rfl) hq1 ?_
      refine ok_go 0 ?_
      refine sy_load 0 (r := loadT Tryz.prog g 3 q) (h' := g) (by kernel_rfl) hq2 ?_
      refine ok_go 1 ?_
      by_cases he : xs[i] = ys[i]
      · refine sy_no 0 (b := xs[i] != ys[i]) (by kernel_rfl) (by rw [he]; exact bne_self_eq_false _) ?_
        refine ok_go 1 ?_
        exact sy_next 0 _ g (by kernel_rfl) (by kernel_rfl) (ih (i + 1) _ g ⟨hlt, by rw [List.take_succ_eq_append_getElem hlt, List.take_succ_eq_append_getElem (by omega), hpre, he], rfl⟩ (show xs.length - (i + 1) < xs.length - i by omega) ⟨by kernel_rfl, by kernel_rfl, (by kernel_rfl : _ = Value.int .i64 (IntKind.wrap .i64 (Int.ofNat (i + 1)))).trans (by rw [hw]), trivial⟩)
      · refine sy_yes 0 (b := xs[i] != ys[i]) (by kernel_rfl) (bne_iff_ne.2 he) ?_
        refine ok_go 0 ?_
        refine sy_done 0 (v := .bool false) (h := g) (by kernel_rfl) ⟨?_, rfl⟩
        rw [decide_eq_false fun h => he (by subst h; rfl)]
    · intro hlt
      have hlt : i = xs.length := Nat.le_antisymm hi (no_nat hlt)
      subst hlt
      refine ok_go 0 ?_
      refine sy_done 0 (v := .bool true) (h := g) (by kernel_rfl) ⟨?_, rfl⟩
      rw [List.take_length, hne, List.take_length] at hpre
      rw [decide_eq_true hpre]
  · refine sy_yes 0 (b := Int.ofNat xs.length != Int.ofNat ys.length) (by kernel_rfl) (bne_iff_ne.2 fun h => hne (Int.ofNat.inj h)) ?_
    refine ok_go 0 ?_
    refine sy_done 0 (v := .bool false) (h := g) (by kernel_rfl) ⟨?_, rfl⟩
    rw [decide_eq_false fun h => hne (by rw [h])]
theorem x_rem {k : IntKind} {t : TypeId} {a b : Int} (hb : b ≠ 0) : pureX (binOp .rem t (.int k a) (.int k b)) = some (.int k (a.tmod b)) := by
  refine pureX_of ?_ rfl
  simp only [binOp, ne_eq, not_true_eq_false, if_false, Op.intDiv, hb]
  rfl
theorem size_of (lf m : Nat) (z : Int) (k : Nat) (hk : k < 1000000) : ∃ r : Nat, r ≤ k ∧ ∀ h, Ev lf (m + 1) 17 [I z, J k] h = some (J r, h) := by
  obtain ⟨u, hu⟩ : ∃ u : Nat, IntKind.wrap .u64 z = Int.ofNat u := Int.eq_ofNat_of_zero_le (by
    show 0 ≤ z % 2 ^ 64
    exact Int.emod_nonneg _ (by decide))
  have hk1 : IntKind.wrap .i64 (Int.ofNat k + 1) = Int.ofNat (k + 1) := wrap_add (a := k) (b := 1) (by omega)
  have hk2 : IntKind.wrap .u64 (Int.ofNat (k + 1)) = Int.ofNat (k + 1) := Int.emod_eq_of_lt (Int.natCast_nonneg _) (show ((k + 1 : Nat) : Int) < 18446744073709551616 by omega)
  have hr : u % (k + 1) ≤ k := Nat.le_of_lt_succ (Nat.mod_lt _ (Nat.succ_pos k))
  refine ⟨u % (k + 1), hr, fun h => fn_eq ?_⟩
  have hv : IntKind.wrap .i64 ((IntKind.wrap .u64 z).tmod (IntKind.wrap .u64 (IntKind.wrap .i64 (Int.ofNat k + 1)))) = Int.ofNat (u % (k + 1)) := by
    rw [hk1, hk2, hu]
    exact wrap_nat (n := u % (k + 1)) (by omega)
  refine ok_go 3 ?_
  refine sy_load 0 (r := pureX (binOp .rem 36 (.int .u64 (IntKind.wrap .u64 z)) (.int .u64 (IntKind.wrap .u64 (IntKind.wrap .i64 (Int.ofNat k + 1)))))) (h' := h) (by kernel_rfl) (x_rem (by rw [hk1, hk2]; exact fun h => absurd (Int.ofNat.inj h) (Nat.succ_ne_zero k))) ?_
  refine ok_go 1 ?_
  refine sy_done 0 (v := I (IntKind.wrap .i64 ((IntKind.wrap .u64 z).tmod (IntKind.wrap .u64 (IntKind.wrap .i64 (Int.ofNat k + 1)))))) (h := h) (by kernel_rfl) ⟨by rw [hv], rfl⟩
end Go.Proofs.YtkfbfgcflnkllaaGreatDoor
namespace Go.Proofs.YtkfbfgcflnkllaaGreatDoor
open Go Go.Eng Nim Ch
set_option maxRecDepth 100000
set_option maxHeartbeats 8000000
/-- Open elements, and partners. -/
def pmS (n s : Nat) : Nat → List Nat × List Int
  | 0 => ([], List.replicate n 0)
  | i + 1 => if s.testBit i = false then ((pmS n s i).1 ++ [i], (pmS n s i).2.set i (-1)) else match (pmS n s i).1.getLast? with
    | none => ((pmS n s i).1, (pmS n s i).2.set i (-1))
    | some k => ((pmS n s i).1.dropLast, (((pmS n s i).2.set i (-1)).set i (Int.ofNat k)).set k (Int.ofNat i))
theorem pmS_len (n s : Nat) : ∀ i, (pmS n s i).2.length = n
  | 0 => by simp [pmS]
  | i + 1 => by
    have := pmS_len n s i
    unfold pmS
    split
    · simpa using this
    · split <;> simpa using this
theorem pmS_lt (n s : Nat) : ∀ i, (∀ k ∈ (pmS n s i).1, k < i) ∧ (pmS n s i).1.length ≤ i
  | 0 => by simp [pmS]
  | i + 1 => by
    obtain ⟨h3, h4⟩ := pmS_lt n s i
    unfold pmS
    split
    · refine ⟨fun k hk => ?_, by simp; omega⟩
      rcases List.mem_append.1 hk with hk | hk
      · have := h3 k hk; omega
      · rw [List.mem_singleton.1 hk]; exact Nat.lt_succ_self i
    · split
      · exact ⟨fun k hk => by have := h3 k hk; omega, by dsimp only; omega⟩
      · exact ⟨fun x hx => by have := h3 x (List.dropLast_subset _ hx); omega, by simp; omega⟩
def pm (n s : Nat) : List Int := (pmS n s n).2
theorem make_sl {t e : TypeId} {z : Value} {inf : TypeInfo} (hu : Tryz.prog.underlying t = some (.slice e)) (hz : zeroOf Tryz.prog e = some z) (hi : Tryz.prog.info? e = some inf) (hb : Nat.ble inf.bytes 4096 = true) (hc : z.cells.toList = [z]) (hs : Nat.beq z.cells.size inf.size = true) (hsc : scalar z = true) (n : Nat) (hn : n ≤ most) (h : Hp) :
    makeSliceOp Tryz.prog h t (J n) (J n) = some (.slice (some ⟨h.next, 0, none⟩) n (2 * n), h.new (.cells (List.replicate n z) e false)) := by
  have hzz : ∀ k, zeros [z] k = List.replicate k z := fun k => by
    induction k with
    | zero => rfl
    | succ k ih => rw [zeros, ih]; rfl
  have hnn : natOf (J n) = some n := rfl
  simp only [makeSliceOp, hu, hnn, hz, hi, Nat.ble_eq_true_of_le (Nat.le_refl n), Nat.ble_eq_true_of_le hn, hb, hs, hc, List.all_cons, hsc, List.all_nil, Bool.and_true, hzz]
theorem mk28 (n : Nat) (hn : n ≤ most) (h : Hp) : makeSliceOp Tryz.prog h 28 (J n) (J n) = some (.slice (some ⟨h.next, 0, none⟩) n (2 * n), h.new (.cells (List.replicate n (J 0)) 3 false)) :=
  make_sl (by kernel_rfl) (by kernel_rfl) rfl (by kernel_rfl) rfl (by kernel_rfl) rfl n hn h
theorem mk37 (n : Nat) (hn : n ≤ most) (h : Hp) : makeSliceOp Tryz.prog h 37 (J n) (J n) = some (.slice (some ⟨h.next, 0, none⟩) n (2 * n), h.new (.cells (List.replicate n (.bool false)) 4 false)) :=
  make_sl (by kernel_rfl) (by kernel_rfl) rfl (by kernel_rfl) rfl (by kernel_rfl) rfl n hn h
theorem rmat_of (lf m : Nat) (hlf : 2000 ≤ lf) (n s : Nat) (hn : n ≤ 10) (_ : s < 1024) (h : Hp) :
    ∃ v h', Ev lf (m + 1) 61 [J n, J s] h = some (v, h') ∧ Rds h' v ((pm n s).map I) ∧ h.Ext h' := by
  refine fnS_ok (Q := fun v h' => Rds h' v ((pm n s).map I) ∧ h.Ext h') ?_
  have W := Sto.start h
  refine ok_go 0 ?_
  refine sy_call 0 (by kernel_rfl) (mk28 n (by unfold most; omega) h) ?_
  have W := W.new (.cells (List.replicate n (J 0)) 3 false)
  generalize hg1 : h.new (.cells (List.replicate n (J 0)) 3 false) = g1 at *
  have W : Sto h g1 [(h.next, .cells ((List.replicate n (0 : Int)).map I) 3 false)] := by rw [List.map_replicate]; exact W
  clear hg1
  generalize h.next = b5 at *
  have hout : ∀ (g : Hp) (cs : List Value) (R : List (Nat × AObj)), Sto h g ((b5, .cells cs 3 false) :: R) → b5 < g.next ∧ g.get b5 = some (.cells cs 3 false) := fun g cs R W => ⟨W.lt 0 rfl, W.get 0 rfl⟩
  refine ok_go 0 ?_
  refine sy_loop 0 lf g1 (α := Nat × Nat × List Value × Option Addr × Nat) (fun x => [(0, J n), (1, J s), (5, .slice (some ⟨b5, 0, none⟩) n (2 * n)), (6, .slice x.2.2.2.1 (pmS n s x.1).1.length x.2.2.2.2), (7, J x.1)]) (fun x g => x.1 ≤ n ∧ OSv x.2.1 x.2.2.1.length (pmS n s x.1).1.length (.slice x.2.2.2.1 (pmS n s x.1).1.length x.2.2.2.2) ∧ x.2.2.1.length ≤ x.1 ∧ x.2.2.1.take (pmS n s x.1).1.length = (pmS n s x.1).1.map J ∧ Sto h g ((b5, .cells ((pmS n s x.1).2.map I) 3 false) :: oent x.2.1 3 x.2.2.1)) (fun x _ => n - x.1) (0, 0, [], none, 0) (by kernel_rfl) (by kernel_rfl)
    ⟨by kernel_rfl, by kernel_rfl, by kernel_rfl, by kernel_rfl, by kernel_rfl, trivial⟩ (show n - 0 < lf by omega) ⟨Nat.zero_le n, .inl ⟨rfl, rfl, rfl⟩, Nat.le_refl _, rfl, W⟩ ?_
  clear W
  rintro m1 ⟨i, q, cs, oa, oc⟩ F1 g ⟨hi, hO, hcl, hct, W⟩ ih
  dsimp only at hi hO hcl hct W
  obtain ⟨hob, hol⟩ := pmS_lt n s i
  have hpl := pmS_len n s i
  have hw : IntKind.wrap .i64 (Int.ofNat (i + 1)) = Int.ofNat (i + 1) := wrap_nat (by omega)
  have hstep : pmS n s (i + 1) = if s.testBit i = false then ((pmS n s i).1 ++ [i], (pmS n s i).2.set i (-1)) else match (pmS n s i).1.getLast? with
    | none => ((pmS n s i).1, (pmS n s i).2.set i (-1))
    | some k => ((pmS n s i).1.dropLast, (((pmS n s i).2.set i (-1)).set i (Int.ofNat k)).set k (Int.ofNat i)) := rfl
  refine ok_go 1 ?_
  refine sy_test 0 (decide (Int.ofNat i < Int.ofNat n)) (by kernel_rfl) ?_ ?_
  · intro hlt
    have hlt : i < n := ok_nat hlt
    have hbit : s.testBit i = decide (s / 2 ^ i % 2 = 1) := Nat.testBit_eq_decide_div_mod_eq
    refine ok_go 0 ?_
    refine sy_load 0 (r := indexAddrOp Tryz.prog 28 (.slice (some ⟨b5, 0, none⟩) n (2 * n)) (J i)) (h' := g) (v := ptr b5 i) (by kernel_rfl) (idxS0 (e := 3) (by kernel_rfl) (by kernel_rfl) hlt) ?_
    refine ok_go 0 ?_
    refine ow_store (P := Tryz.prog) (T := 3) (off := i) (v := I (-1)) 0 0 W rfl (by rw [List.length_map, hpl]; exact hlt) (by kernel_rfl) rfl (by kernel_rfl) fun g2 ng2 W => ?_
    rw [← List.map_set] at W
    have W : Sto h g2 ((b5, .cells (((pmS n s i).2.set i (-1)).map I) 3 false) :: oent q 3 cs) := W
    have hdv : ((Int.ofNat s).fdiv (2 ^ min (IntKind.u64.wrap (Int.ofNat i)).toNat IntKind.i64.bits)).tmod 2 = Int.ofNat (s / 2 ^ i % 2) := by
      rw [min_v i (by omega), show (Int.ofNat s).fdiv (2 ^ i) = Int.ofNat (s / 2 ^ i) from shr_nat _ _]
      rfl
    generalize hbb : s / 2 ^ i % 2 = bb at hbit hdv
    have hbb2 : bb < 2 := by rw [← hbb]; exact Nat.mod_lt _ (by decide)
    refine ok_go 4 ?_
    refine sy_test 0 (((Int.ofNat s).fdiv (2 ^ min (IntKind.u64.wrap (Int.ofNat i)).toNat IntKind.i64.bits)).tmod 2 == 0) (by kernel_rfl) ?_ ?_
    · intro h0
      rw [hdv] at h0
      have h0 : bb = 0 := Int.ofNat.inj (eq_of_beq h0)
      have hbit : s.testBit i = false := by rw [hbit, h0]; rfl
      rw [if_pos hbit] at hstep
      refine ow_new 0 W (AObj.cells [Value.int IntKind.i64 (Int.ofNat (Prod.fst (i, q, cs, oa, oc)))] 3 false) (fun q => Value.slice (some { block := q, off := 0 }) 1 2) (by kernel_rfl) fun k1 nk1 Wk1 => ?_
      have W := Wk1
      have W : Sto h k1 ((g2.next, .cells [J i] 3 false) :: ([(b5, .cells (((pmS n s i).2.set i (-1)).map I) 3 false)] ++ oent q 3 cs)) := W
      obtain ⟨v', k2, q', cs', e2, hO', hcl', hct', hsv, W⟩ := os_app W hO rfl (by omega)
      obtain ⟨oa', oc', rfl⟩ := hO'.shape
      refine sy_call 0 (by kernel_rfl) e2 ?_
      refine ok_go 1 ?_
      exact sy_next 0 _ k2 (by kernel_rfl) (by kernel_rfl) (ih (i + 1, q', cs', oa', oc') _ k2 ⟨hlt, by dsimp only; rw [hstep, List.length_append]; exact hO', by dsimp only; omega, by dsimp only; rw [hstep, List.length_append, List.map_append, ← hct]; exact hct', by dsimp only; rw [hstep]; exact W⟩ (show n - (i + 1) < n - i by omega) ⟨by kernel_rfl, by kernel_rfl, by kernel_rfl, (by kernel_rfl : _ = Value.slice oa' ((pmS n s i).1.length + 1) oc').trans (by dsimp only; rw [hstep, List.length_append]; rfl), (by kernel_rfl : _ = Value.int .i64 (IntKind.wrap .i64 (Int.ofNat (i + 1)))).trans (by rw [hw]), trivial⟩)
    · intro h0
      rw [hdv] at h0
      have h0 : bb ≠ 0 := fun e => by rw [e] at h0; cases h0
      have hbit : s.testBit i = true := by rw [hbit]; exact decide_eq_true (by omega)
      rw [if_neg (by rw [hbit]; decide)] at hstep
      refine ok_go 2 ?_
      by_cases hlen : (pmS n s i).1.length = 0
      · have hnil : (pmS n s i).1 = [] := List.eq_nil_of_length_eq_zero hlen
        rw [show (pmS n s i).1.getLast? = none by rw [hnil]; rfl] at hstep
        refine sy_no 0 (b := decide (Int.ofNat (pmS n s i).1.length > 0)) (by kernel_rfl) (by rw [hlen]; rfl) ?_
        refine ok_go 1 ?_
        have hstep : pmS n s (i + 1) = ((pmS n s i).1, (pmS n s i).2.set i (-1)) := hstep
        exact sy_next 0 _ g2 (by kernel_rfl) (by kernel_rfl) (ih (i + 1, q, cs, oa, oc) _ g2 ⟨hlt, by dsimp only; rw [hstep]; exact hO, by dsimp only; omega, by dsimp only; rw [hstep]; exact hct, by dsimp only; rw [hstep]; exact W⟩ (show n - (i + 1) < n - i by omega) ⟨by kernel_rfl, by kernel_rfl, by kernel_rfl, (by kernel_rfl : _ = Value.slice oa (pmS n s i).1.length oc).trans (by rw [hstep]), (by kernel_rfl : _ = Value.int .i64 (IntKind.wrap .i64 (Int.ofNat (i + 1)))).trans (by rw [hw]), trivial⟩)
      · obtain ⟨L, hL⟩ : ∃ L, (pmS n s i).1.length = L + 1 := ⟨(pmS n s i).1.length - 1, by omega⟩
        have hk1 : IntKind.i64.wrap (Int.ofNat (pmS n s i).1.length - 1) = Int.ofNat L := by rw [hL]; exact wrap_sub (a := L + 1) (b := 1) (by omega) (by omega)
        obtain ⟨k, hk⟩ : ∃ k, (pmS n s i).1[L]? = some k := ⟨_, List.getElem?_eq_getElem (by omega)⟩
        have hlast : (pmS n s i).1.getLast? = some k := by rw [List.getLast?_eq_getElem?, hL]; exact hk
        have hki := hob k (List.mem_of_getElem? hk)
        rw [hlast] at hstep
        have hstep : pmS n s (i + 1) = ((pmS n s i).1.dropLast, (((pmS n s i).2.set i (-1)).set i (Int.ofNat k)).set k (Int.ofNat i)) := hstep
        obtain ⟨hc0, hlc, hv⟩ : 0 < cs.length ∧ (pmS n s i).1.length ≤ cs.length ∧ Value.slice oa (pmS n s i).1.length oc = .slice (some ⟨q, 0, none⟩) (pmS n s i).1.length (2 * cs.length + 1) := by
          rcases hO with ⟨a, b, _⟩ | hh
          · omega
          · exact hh
        cases hv
        have hcL : cs[L]? = some (J k) := by
          have : (cs.take (pmS n s i).1.length)[L]? = ((pmS n s i).1.map J)[L]? := by rw [hct]
          rw [List.getElem?_take, if_pos (by omega), List.getElem?_map, hk] at this
          exact this
        have hone : oent q 3 cs = [(q, .cells cs 3 true)] := by
          cases cs with
          | nil => cases hc0
          | cons a r => rfl
        rw [hone] at W
        refine sy_yes 0 (b := decide (Int.ofNat (pmS n s i).1.length > 0)) (by kernel_rfl) (decide_eq_true (by rw [hL]; show (0 : Int) < ((L + 1 : Nat) : Int); omega)) ?_
        refine ok_go 2 ?_
        refine sy_load 0 (r := indexAddrOp Tryz.prog 28 (.slice (some ⟨q, 0, none⟩) (pmS n s i).1.length (2 * cs.length + 1)) (I (IntKind.i64.wrap (Int.ofNat (pmS n s i).1.length - 1)))) (h' := g2) (v := ptr q L) (by kernel_rfl) (by rw [hk1]; exact idxS0 (e := 3) (by kernel_rfl) (by kernel_rfl) (by omega)) ?_
        refine ok_go 0 ?_
        refine ow_load (P := Tryz.prog) (T := 3) (off := L) 0 1 W rfl hcL (by kernel_rfl) (by kernel_rfl) ?_
        refine ok_go 2 ?_
        refine sy_load 0 (r := sliceOp Tryz.prog 28 (.slice (some ⟨q, 0, none⟩) (pmS n s i).1.length (2 * cs.length + 1)) none (some (I (IntKind.i64.wrap (Int.ofNat (pmS n s i).1.length - 1)))) none) (h' := g2) (v := .slice (some ⟨q, 0, none⟩) L (2 * cs.length + 1)) (by kernel_rfl) (by rw [hk1]; exact gl_hi (e := 3) (by kernel_rfl) (by kernel_rfl) (by omega) hc0) ?_
        refine ok_go 0 ?_
        refine sy_load 0 (r := indexAddrOp Tryz.prog 28 (.slice (some ⟨b5, 0, none⟩) n (2 * n)) (J i)) (h' := g2) (v := ptr b5 i) (by kernel_rfl) (idxS0 (e := 3) (by kernel_rfl) (by kernel_rfl) hlt) ?_
        refine ok_go 0 ?_
        refine ow_store (P := Tryz.prog) (T := 3) (off := i) (v := J k) 0 0 W rfl (by rw [List.length_map, List.length_set, hpl]; exact hlt) (by kernel_rfl) rfl (by kernel_rfl) fun g3 ng3 W => ?_
        have W : Sto h g3 [(b5, .cells ((((pmS n s i).2.set i (-1)).map I).set i (I (Int.ofNat k))) 3 false), (q, .cells cs 3 true)] := W
        rw [← List.map_set] at W
        refine ok_go 0 ?_
        refine sy_load 0 (r := indexAddrOp Tryz.prog 28 (.slice (some ⟨b5, 0, none⟩) n (2 * n)) (J k)) (h' := g3) (v := ptr b5 k) (by kernel_rfl) (idxS0 (e := 3) (by kernel_rfl) (by kernel_rfl) (by omega)) ?_
        refine ok_go 0 ?_
        refine ow_store (P := Tryz.prog) (T := 3) (off := k) (v := J i) 0 0 W rfl (by rw [List.length_map, List.length_set, List.length_set, hpl]; omega) (by kernel_rfl) rfl (by kernel_rfl) fun g4 ng4 W => ?_
        have W : Sto h g4 [(b5, .cells (((((pmS n s i).2.set i (-1)).set i (Int.ofNat k)).map I).set k (I (Int.ofNat i))) 3 false), (q, .cells cs 3 true)] := W
        rw [← List.map_set, ← hone] at W
        have hdl : (pmS n s i).1.dropLast.length = L := by rw [List.length_dropLast]; omega
        refine ok_go 1 ?_
        exact sy_next 0 _ g4 (by kernel_rfl) (by kernel_rfl) (ih (i + 1, q, cs, some ⟨q, 0, none⟩, 2 * cs.length + 1) _ g4 ⟨hlt, by dsimp only; rw [hstep]; dsimp only; rw [hdl]; exact .inr ⟨hc0, by omega, rfl⟩, by dsimp only; omega, by
          dsimp only
          rw [hstep]
          dsimp only
          rw [hdl, List.dropLast_eq_take, hL, Nat.add_sub_cancel, List.map_take, ← hct, List.take_take, Nat.min_eq_left (by omega)], by dsimp only; rw [hstep]; exact W⟩ (show n - (i + 1) < n - i by omega) ⟨by kernel_rfl, by kernel_rfl, by kernel_rfl, (by kernel_rfl : _ = Value.slice (some ⟨q, 0, none⟩) L (2 * cs.length + 1)).trans (by rw [hstep]; dsimp only; rw [hdl]), (by kernel_rfl : _ = Value.int .i64 (IntKind.wrap .i64 (Int.ofNat (i + 1)))).trans (by rw [hw]), trivial⟩)
  · intro hlt
    have hlt : i = n := Nat.le_antisymm hi (no_nat hlt)
    subst hlt
    refine ok_go 0 ?_
    refine sy_done 0 (v := .slice (some ⟨b5, 0, none⟩) i (2 * i)) (h := g) (by kernel_rfl) ⟨?_, W.ext⟩
    obtain ⟨h1, h2⟩ := hout g _ _ W
    refine .inr ⟨b5, 0, _, by rw [List.length_map]; unfold pm; rw [hpl], fun _ => ⟨h1, ?_⟩⟩
    unfold loadN
    rw [h2]
    exact takeN_all _
end Go.Proofs.YtkfbfgcflnkllaaGreatDoor
namespace Go.Proofs.YtkfbfgcflnkllaaGreatDoor
open Go Go.Eng Nim
set_option maxRecDepth 100000
set_option maxHeartbeats 8000000
/-- The array of marks. -/
def mk97 (f : Nat → Bool) : List Value := cellsF 1024 fun i => .bool (f i)
theorem u97 : Tryz.prog.underlying 97 = some (.array 1024 4) := by kernel_rfl
theorem idxM {i x : Nat} (hx : x < 1024) : indexAddrOp Tryz.prog 97 (ptr i 0) (J x) = some (ptr i x) := by
  have hs : sizeT Tryz.prog 4 = some 1 := by kernel_rfl
  have hb : Nat.blt x 1024 = true := Nat.ble_eq_true_of_le hx
  simp only [indexAddrOp, natOf, ptr, u97, hs, addTo]
  rw [show Nat.blt x 1024 = true from hb]
  simp
theorem mk97_set {f : Nat → Bool} {k : Nat} {b : Bool} : updF (fun i => Value.bool (f i)) k (.bool b) = fun i => .bool (if i = k then b else f i) := by
  funext i
  unfold updF
  split <;> simp_all
theorem mk97_take (f : Nat → Bool) : takeN 1024 (mk97 f) = some (mk97 f) := by
  have := takeN_all (mk97 f)
  rwa [show (mk97 f).length = 1024 from cellsF_len ..] at this
theorem mk97_sc (f : Nat → Bool) : (mk97 f).all scalar = true := List.all_eq_true.2 fun v hv => by
  obtain ⟨n, _, rfl⟩ := List.mem_map.1 hv
  rfl
theorem marked_of (lf m : Nat) (hlf : 2000 ≤ lf) (l : List Nat) (hl : l.length < 2000) (hb : ∀ x ∈ l, x < 1024) (v : Value) (h : Hp) (hv : Rds h v (l.map J)) :
    ∃ v' h', Ev lf (m + 1) 62 [v] h = some (v', h') ∧ v' = .agg (mk97 fun i => decide (i ∈ l)).toArray ∧ h.Ext h' := by
  refine fnS_ok (Q := fun v' h' => v' = .agg (mk97 fun i => decide (i ∈ l)).toArray ∧ h.Ext h') ?_
  obtain ⟨va, vc, hvs⟩ := hv.shape
  rw [List.length_map] at hvs
  subst hvs
  have W := Sto.start h
  refine ok_go 0 ?_
  refine ow_new 0 W (.cells (mk97 fun _ => false) 97 false) (fun i => ptr i 0) (by kernel_rfl) fun g1 ng1 W => ?_
  refine ok_go 0 ?_
  refine ow_new 0 W (.cells (mk97 fun _ => false) 97 false) (fun i => ptr i 0) (by kernel_rfl) fun g2 ng2 W => ?_
  refine ok_go 1 ?_
  refine sy_loop 0 lf g2 (α := Nat) (fun i => [(2, ptr h.next 0), (3, ptr g1.next 0), (6, .slice va l.length vc), (7, J l.length), (8, J i)]) (fun i g => i ≤ l.length ∧ Sto h g [(g1.next, .cells (mk97 fun k => decide (k ∈ l.take i)) 97 false), (h.next, .cells (mk97 fun _ => false) 97 false)]) (fun i _ => l.length - i) 0 (by kernel_rfl) (by kernel_rfl)
    ⟨by kernel_rfl, by kernel_rfl, by kernel_rfl, by kernel_rfl, by kernel_rfl, trivial⟩ (show l.length - 0 < lf by omega) ⟨Nat.zero_le _, by
      simpa using W⟩ ?_
  clear W
  rintro m1 i F1 g ⟨hi, W⟩ ih
  have hw : IntKind.wrap .i64 (Int.ofNat (i + 1)) = Int.ofNat (i + 1) := wrap_nat (by omega)
  refine ok_go 1 ?_
  refine sy_test 0 (decide (Int.ofNat i < Int.ofNat l.length)) (by kernel_rfl) ?_ ?_
  · intro hlt
    have hlt : i < l.length := ok_nat hlt
    have hx : l[i]? = some l[i] := List.getElem?_eq_getElem hlt
    have hxb := hb _ (List.mem_of_getElem? hx)
    obtain ⟨p, hp1, hp2⟩ := rdN (hv.ext W.ext) hlt
    generalize hxe : l[i] = x at *
    refine ok_go 0 ?_
    refine sy_load 0 (r := indexAddrOp Tryz.prog 28 (.slice va l.length vc) (J i)) (h' := g) (by kernel_rfl) hp1 ?_
    refine ok_go 0 ?_
    refine sy_load 0 (r := loadT Tryz.prog g 3 p) (h' := g) (by kernel_rfl) hp2 ?_
    refine ok_go 0 ?_
    refine sy_load 0 (r := indexAddrOp Tryz.prog 97 (ptr g1.next 0) (J x)) (h' := g) (by kernel_rfl) (idxM hxb) ?_
    refine ok_go 0 ?_
    refine ow_storeF (P := Tryz.prog) (T := 4) (v := .bool true) 0 0 W rfl hxb zB rfl (by kernel_rfl) fun g2 ng2 W => ?_
    rw [mk97_set] at W
    have W : Sto h g2 [(g1.next, .cells (mk97 fun k => decide (k ∈ l.take (i + 1))) 97 false), (h.next, .cells (mk97 fun _ => false) 97 false)] := by
      rw [show (fun k => decide (k ∈ l.take (i + 1))) = fun k => if k = x then true else decide (k ∈ l.take i) from by
        funext k
        rw [List.take_succ_eq_append_getElem hlt, hxe]
        by_cases hk : k = x
        · simp [hk]
        · simp [hk]]
      exact W
    refine ok_go 1 ?_
    exact sy_next 0 _ g2 (by kernel_rfl) (by kernel_rfl) (ih (i + 1) _ g2 ⟨hlt, W⟩ (show l.length - (i + 1) < l.length - i by omega) ⟨by kernel_rfl, by kernel_rfl, by kernel_rfl, by kernel_rfl, (by kernel_rfl : _ = Value.int .i64 (IntKind.wrap .i64 (Int.ofNat (i + 1)))).trans (by rw [hw]), trivial⟩)
  · intro hlt
    have hlt : i = l.length := Nat.le_antisymm hi (no_nat hlt)
    subst hlt
    rw [List.take_length] at W
    generalize hM : (mk97 fun k => decide (k ∈ l)) = M at *
    have hMl : M.length = 1024 := by rw [← hM]; exact cellsF_len ..
    have hMt : takeN 1024 M = some M := by rw [← hM]; exact mk97_take _
    have hMs : M.all scalar = true := by rw [← hM]; exact mk97_sc _
    refine ok_go 0 ?_
    refine ow_loadA (P := Tryz.prog) (T := 97) 0 0 W rfl (by kernel_rfl) (by kernel_rfl) hMt (by kernel_rfl) ?_
    refine ok_go 0 ?_
    refine ow_storeA (P := Tryz.prog) (T := 97) (v := .agg M.toArray) 0 1 W M rfl rfl (by rw [hMl]; exact (cellsF_len ..).symm) (by rw [hMl]; kernel_rfl) hMs (by kernel_rfl) fun g2 ng2 W => ?_
    refine ok_go 0 ?_
    refine ow_loadA (P := Tryz.prog) (T := 97) 0 1 W rfl (by kernel_rfl) (by kernel_rfl) hMt (by kernel_rfl) ?_
    refine ok_go 0 ?_
    exact sy_done 0 (v := .agg M.toArray) (h := g2) (by kernel_rfl) ⟨rfl, W.ext⟩
end Go.Proofs.YtkfbfgcflnkllaaGreatDoor
namespace Go.Proofs.YtkfbfgcflnkllaaGreatDoor
open Go Go.Eng Nim
set_option maxRecDepth 100000
set_option maxHeartbeats 8000000
/-- What is marked below n, in order. -/
def lst (f : Nat → Bool) (n : Nat) : List Nat := (List.range n).filter f
theorem lst_succ (f : Nat → Bool) (n : Nat) : lst f (n + 1) = if f n then lst f n ++ [n] else lst f n := by
  unfold lst
  rw [List.range_succ, List.filter_append]
  cases h : f n <;> simp [h]
theorem lst_len (f : Nat → Bool) (n : Nat) : (lst f n).length ≤ n := by
  unfold lst
  exact Nat.le_trans (List.length_filter_le ..) (by rw [List.length_range]; exact Nat.le_refl _)
theorem list_of (lf m : Nat) (hlf : 2000 ≤ lf) (f : Nat → Bool) (b : Nat) (opn : Bool) (h : Hp) (hb : h.get b = some (.cells (mk97 f) 97 opn)) (hbn : b < h.next) :
    ∃ v h', Ev lf (m + 1) 63 [ptr b 0] h = some (v, h') ∧ (∃ q, v = oslV q (lst f 1024).length ∧ Sto h h' (oent q 3 ((lst f 1024).map J))) := by
  refine fnS_ok (Q := fun v h' => ∃ q, v = oslV q (lst f 1024).length ∧ Sto h h' (oent q 3 ((lst f 1024).map J))) ?_
  have W := Sto.start h
  refine ok_go 0 ?_
  refine sy_loop 0 lf h (α := Nat × Nat × Option Addr × Nat) (fun x => [(6, ptr b 0), (3, .slice x.2.2.1 (lst f x.1).length x.2.2.2), (7, J x.1)]) (fun x g => x.1 ≤ 1024 ∧ .slice x.2.2.1 (lst f x.1).length x.2.2.2 = oslV x.2.1 (lst f x.1).length ∧ Sto h g (oent x.2.1 3 ((lst f x.1).map J))) (fun x _ => 1024 - x.1) (0, 0, none, 0) (by kernel_rfl) (by kernel_rfl)
    ⟨by kernel_rfl, by kernel_rfl, by kernel_rfl, trivial⟩ (show 1024 - 0 < lf by omega) ⟨Nat.zero_le _, rfl, W⟩ ?_
  clear W
  rintro m1 ⟨i, q, oa, oc⟩ F1 g ⟨hi, hos, W⟩ ih
  dsimp only at hi hos W
  have hw : IntKind.wrap .i64 (Int.ofNat (i + 1)) = Int.ofNat (i + 1) := wrap_nat (by omega)
  have hll := lst_len f i
  have hls := lst_succ f i
  refine ok_go 1 ?_
  refine sy_test 0 (decide (Int.ofNat i < 1024)) (by kernel_rfl) ?_ ?_
  · intro hlt
    have hlt : i < 1024 := ok_nat (b := 1024) hlt
    have hbg := (W.ext.get b hbn).trans hb
    refine ok_go 1 ?_
    refine sy_load 0 (r := indexAddrOp Tryz.prog 97 (ptr b 0) (J i)) (h' := g) (by kernel_rfl) (idxM hlt) ?_
    refine ok_go 0 ?_
    refine sy_load 0 (r := loadT Tryz.prog g 4 (ptr b i)) (h' := g) (v := .bool (f i)) (by kernel_rfl) (load1 agB hbg (cellsF_get hlt)) ?_
    refine ok_go 0 ?_
    cases hf : f i with
    | true =>
      rw [hf, if_pos rfl] at hls
      generalize lst f i = L at *
      refine ow_new 1 W (AObj.cells [Value.int IntKind.i64 (Int.ofNat (Prod.fst (i, q, oa, oc)))] 3 false) (fun q => Value.slice (some { block := q, off := 0 }) 1 2) (by kernel_rfl) fun k1 nk1 Wk1 => ?_
      have W := Wk1
      have W : Sto h k1 ((g.next, .cells [J i] 3 false) :: ([] ++ oent q 3 (L.map J))) := W
      refine ow_app (P := Tryz.prog) (t := 28) (e := 3) (z := 1) (c := L.length) (i := q) 0 W slz28 (by rw [List.length_map, Nat.mul_one]) rfl rfl (by omega) (by rw [← hos]; kernel_rfl) fun k2 sl nk2 hsl hsc W => ?_
      obtain ⟨oa2, oc2, ho2⟩ := osl_shape k1.next (L.length + 1)
      rw [ho2] at hsl
      subst hsl
      have W : Sto h k2 (oent k1.next 3 ((L ++ [i]).map J)) := by rw [List.map_append]; exact W
      refine ok_go 1 ?_
      exact sy_next 0 _ k2 (by kernel_rfl) (by kernel_rfl) (ih (i + 1, k1.next, oa2, oc2) _ k2 ⟨hlt, by dsimp only; rw [hls, List.length_append]; exact ho2.symm, by dsimp only; rw [hls]; exact W⟩ (show 1024 - (i + 1) < 1024 - i by omega) ⟨by kernel_rfl, (by kernel_rfl : _ = Value.slice oa2 (L.length + 1) oc2).trans (by dsimp only; rw [hls, List.length_append]; rfl), (by kernel_rfl : _ = Value.int .i64 (IntKind.wrap .i64 (Int.ofNat (i + 1)))).trans (by rw [hw]), trivial⟩)
    | false =>
      rw [hf, if_neg Bool.false_ne_true] at hls
      generalize lst f i = L at *
      refine ok_go 2 ?_
      exact sy_next 0 _ g (by kernel_rfl) (by kernel_rfl) (ih (i + 1, q, oa, oc) _ g ⟨hlt, by dsimp only; rw [hls]; exact hos, by dsimp only; rw [hls]; exact W⟩ (show 1024 - (i + 1) < 1024 - i by omega) ⟨by kernel_rfl, (by kernel_rfl : _ = Value.slice oa L.length oc).trans (by dsimp only; rw [hls]), (by kernel_rfl : _ = Value.int .i64 (IntKind.wrap .i64 (Int.ofNat (i + 1)))).trans (by rw [hw]), trivial⟩)
  · intro hlt
    have hlt : i = 1024 := Nat.le_antisymm hi (no_nat (b := 1024) hlt)
    subst hlt
    refine ok_go 0 ?_
    exact sy_done 0 (v := .slice oa (lst f 1024).length oc) (h := g) (by kernel_rfl) ⟨q, hos, W⟩
theorem lst_rd {h g : Hp} {f : Nat → Bool} {n q : Nat} (W : Sto h g (oent q 3 ((lst f n).map J))) : Rds g (oslV q (lst f n).length) ((lst f n).map J) := by
  have := osl_rd (H := g) (e := 3) (i := q) (zs := (lst f n).map J) fun p hp => (W.all p hp).2
  rwa [List.length_map] at this
theorem rdB {h : Hp} {rv : Value} {N : Nat} {f : Nat → Bool} (hr : Rds h rv (cellsF N fun i => .bool (f i))) {k : Nat} (hk : k < N) : ∃ p, indexAddrOp Tryz.prog 37 rv (J k) = some p ∧ loadT Tryz.prog h 4 p = some (.bool (f k)) :=
  hr.read (e := 4) (by kernel_rfl) (by kernel_rfl) (by kernel_rfl) (cellsF_get hk)
theorem rlist_of (lf m : Nat) (hlf : 2000 ≤ lf) (f : Nat → Bool) (N : Nat) (hN : N ≤ 1024) (v : Value) (h : Hp) (hv : Rds h v (cellsF N fun i => .bool (f i))) :
    ∃ v' h', Ev lf (m + 1) 77 [v] h = some (v', h') ∧ (∃ q, v' = oslV q (lst f N).length ∧ Sto h h' (oent q 3 ((lst f N).map J))) := by
  refine fnS_ok (Q := fun v h' => ∃ q, v = oslV q (lst f N).length ∧ Sto h h' (oent q 3 ((lst f N).map J))) ?_
  obtain ⟨va, vc, hvs⟩ := hv.shape
  rw [cellsF_len] at hvs
  subst hvs
  have W := Sto.start h
  refine ok_go 0 ?_
  refine sy_loop 0 lf h (α := Nat × Nat × Option Addr × Nat) (fun x => [(0, .slice va N vc), (3, .slice x.2.2.1 (lst f x.1).length x.2.2.2), (4, J x.1)]) (fun x g => x.1 ≤ N ∧ .slice x.2.2.1 (lst f x.1).length x.2.2.2 = oslV x.2.1 (lst f x.1).length ∧ Sto h g (oent x.2.1 3 ((lst f x.1).map J))) (fun x _ => N - x.1) (0, 0, none, 0) (by kernel_rfl) (by kernel_rfl)
    ⟨by kernel_rfl, by kernel_rfl, by kernel_rfl, trivial⟩ (show N - 0 < lf by omega) ⟨Nat.zero_le _, rfl, W⟩ ?_
  clear W
  rintro m1 ⟨i, q, oa, oc⟩ F1 g ⟨hi, hos, W⟩ ih
  dsimp only at hi hos W
  have hw : IntKind.wrap .i64 (Int.ofNat (i + 1)) = Int.ofNat (i + 1) := wrap_nat (by omega)
  have hll := lst_len f i
  have hls := lst_succ f i
  refine ok_go 2 ?_
  refine sy_test 0 (decide (Int.ofNat i < Int.ofNat N)) (by kernel_rfl) ?_ ?_
  · intro hlt
    have hlt : i < N := ok_nat hlt
    obtain ⟨p, hp1, hp2⟩ := rdB (hv.ext W.ext) hlt
    refine ok_go 0 ?_
    refine sy_load 0 (r := indexAddrOp Tryz.prog 37 (.slice va N vc) (J i)) (h' := g) (by kernel_rfl) hp1 ?_
    refine ok_go 0 ?_
    refine sy_load 0 (r := loadT Tryz.prog g 4 p) (h' := g) (v := .bool (f i)) (by kernel_rfl) hp2 ?_
    refine ok_go 0 ?_
    cases hf : f i with
    | true =>
      rw [hf, if_pos rfl] at hls
      generalize lst f i = L at *
      refine ow_new 1 W (AObj.cells [Value.int IntKind.i64 (Int.ofNat (Prod.fst (i, q, oa, oc)))] 3 false) (fun q => Value.slice (some { block := q, off := 0 }) 1 2) (by kernel_rfl) fun k1 nk1 Wk1 => ?_
      have W := Wk1
      have W : Sto h k1 ((g.next, .cells [J i] 3 false) :: ([] ++ oent q 3 (L.map J))) := W
      refine ow_app (P := Tryz.prog) (t := 28) (e := 3) (z := 1) (c := L.length) (i := q) 0 W slz28 (by rw [List.length_map, Nat.mul_one]) rfl rfl (by omega) (by rw [← hos]; kernel_rfl) fun k2 sl nk2 hsl hsc W => ?_
      obtain ⟨oa2, oc2, ho2⟩ := osl_shape k1.next (L.length + 1)
      rw [ho2] at hsl
      subst hsl
      have W : Sto h k2 (oent k1.next 3 ((L ++ [i]).map J)) := by rw [List.map_append]; exact W
      refine ok_go 1 ?_
      exact sy_next 0 _ k2 (by kernel_rfl) (by kernel_rfl) (ih (i + 1, k1.next, oa2, oc2) _ k2 ⟨hlt, by dsimp only; rw [hls, List.length_append]; exact ho2.symm, by dsimp only; rw [hls]; exact W⟩ (show N - (i + 1) < N - i by omega) ⟨by kernel_rfl, (by kernel_rfl : _ = Value.slice oa2 (L.length + 1) oc2).trans (by dsimp only; rw [hls, List.length_append]; rfl), (by kernel_rfl : _ = Value.int .i64 (IntKind.wrap .i64 (Int.ofNat (i + 1)))).trans (by rw [hw]), trivial⟩)
    | false =>
      rw [hf, if_neg Bool.false_ne_true] at hls
      generalize lst f i = L at *
      refine ok_go 2 ?_
      exact sy_next 0 _ g (by kernel_rfl) (by kernel_rfl) (ih (i + 1, q, oa, oc) _ g ⟨hlt, by dsimp only; rw [hls]; exact hos, by dsimp only; rw [hls]; exact W⟩ (show N - (i + 1) < N - i by omega) ⟨by kernel_rfl, (by kernel_rfl : _ = Value.slice oa L.length oc).trans (by dsimp only; rw [hls]), (by kernel_rfl : _ = Value.int .i64 (IntKind.wrap .i64 (Int.ofNat (i + 1)))).trans (by rw [hw]), trivial⟩)
  · intro hlt
    have hlt : i = N := Nat.le_antisymm hi (no_nat hlt)
    subst hlt
    refine ok_go 0 ?_
    exact sy_done 0 (v := .slice oa (lst f i).length oc) (h := g) (by kernel_rfl) ⟨q, hos, W⟩
end Go.Proofs.YtkfbfgcflnkllaaGreatDoor
namespace Go.Proofs.YtkfbfgcflnkllaaGreatDoor
open Go Go.Eng Nim
set_option maxRecDepth 100000
set_option maxHeartbeats 8000000
theorem rep_cells (n : Nat) (v : Value) : List.replicate n v = cellsF n fun _ => v := by
  unfold cellsF
  rw [List.map_const', List.length_range]
theorem mkB (n : Nat) (hn : n ≤ 1024) (h : Hp) : makeSliceOp Tryz.prog h 37 (J n) (J n) = some (.slice (some ⟨h.next, 0, none⟩) n (2 * n), h.new (.cells (cellsF n fun _ => .bool false) 4 false)) := by
  rw [← rep_cells]
  exact mk37 n (by unfold Eng.most; omega) h
theorem rem_u (x : Int) (N : Nat) (hN : 0 < N) (hN2 : N < 2 ^ 62) : ∃ k, k < N ∧ (IntKind.wrap .u64 x).tmod (IntKind.wrap .u64 (Int.ofNat N)) = Int.ofNat k := by
  obtain ⟨u, hu⟩ : ∃ u : Nat, IntKind.wrap .u64 x = Int.ofNat u := Int.eq_ofNat_of_zero_le (by
    show 0 ≤ x % 2 ^ 64
    exact Int.emod_nonneg _ (by decide))
  have h2 : IntKind.wrap .u64 (Int.ofNat N) = Int.ofNat N := Int.emod_eq_of_lt (Int.natCast_nonneg _) (show ((N : Nat) : Int) < 18446744073709551616 by omega)
  exact ⟨u % N, Nat.mod_lt _ hN, by rw [hu, h2]; rfl⟩
theorem wrap_ne (N : Nat) (hN : 0 < N) (hN2 : N < 2 ^ 62) : IntKind.wrap .u64 (Int.ofNat N) ≠ 0 := by
  have h2 : IntKind.wrap .u64 (Int.ofNat N) = Int.ofNat N := Int.emod_eq_of_lt (Int.natCast_nonneg _) (show ((N : Nat) : Int) < 18446744073709551616 by omega)
  rw [h2]
  exact fun h => by have : N = 0 := Int.ofNat.inj h; omega
theorem tame_of (lf m : Nat) (hlf : 2000 ≤ lf) (n most : Nat) (hn : n ≤ 10) (hm : most ≤ 1000) (zs : List Int) (hzs : zs.length < 2 ^ 63) (v : Value) (h : Hp) (hv : Rds h v (zs.map I)) :
    ∃ v' h', Ev lf (m + 1) 20 [J n, v, J most] h = some (v', h') ∧ ∃ f q, v' = oslV q (lst f (2 ^ n)).length ∧ Sto h h' (oent q 3 ((lst f (2 ^ n)).map J)) := by
  refine fnS_ok (Q := fun v' h' => ∃ f q, v' = oslV q (lst f (2 ^ n)).length ∧ Sto h h' (oent q 3 ((lst f (2 ^ n)).map J))) ?_
  have hsh := one_shl n (by omega)
  have h2n : 2 ^ n ≤ 1024 := Nat.pow_le_pow_right (by decide) hn
  have hpos := Nat.two_pow_pos n
  obtain ⟨va, vc, hvs⟩ := hv.shape
  rw [List.length_map] at hvs
  subst hvs
  have W := Sto.start h
  refine ok_go 2 ?_
  refine sy_call 0 (r := makeSliceOp Tryz.prog h 37 (I (IntKind.i64.wrap (1 * 2 ^ min (IntKind.u64.wrap (Int.ofNat n)).toNat IntKind.i64.bits))) (I (IntKind.i64.wrap (1 * 2 ^ min (IntKind.u64.wrap (Int.ofNat n)).toNat IntKind.i64.bits)))) (by kernel_rfl) (by rw [hsh]; exact mkB (2 ^ n) h2n h) ?_
  have W := W.new (.cells (cellsF (2 ^ n) fun _ => .bool false) 4 false)
  generalize h.new (.cells (cellsF (2 ^ n) fun _ => .bool false) 4 false) = h1 at *
  refine ok_go 0 ?_
  refine sy_loop 0 lf h1 (α := Nat × (Nat → Bool)) (fun x => [(1, .slice va zs.length vc), (2, J most), (7, .slice (some ⟨h.next, 0, none⟩) (2 ^ n) (2 * 2 ^ n)), (8, J x.1)]) (fun x g => x.1 ≤ most ∧ Sto h g [(h.next, .cells (cellsF (2 ^ n) fun k => .bool (x.2 k)) 4 false)]) (fun x _ => most - x.1) (0, fun _ => false) (by kernel_rfl) (by kernel_rfl)
    ⟨by kernel_rfl, by kernel_rfl, by kernel_rfl, by kernel_rfl, trivial⟩ (show most - 0 < lf by omega) ⟨Nat.zero_le _, W⟩ ?_
  clear W
  rintro m1 ⟨i, f⟩ F1 g ⟨hi, W⟩ ih
  dsimp only at hi W
  have hw : IntKind.wrap .i64 (Int.ofNat (i + 1)) = Int.ofNat (i + 1) := wrap_nat (by omega)
  refine ok_go 2 ?_
  by_cases h1 : i < zs.length
  · refine sy_yes 0 (b := decide (Int.ofNat i < Int.ofNat zs.length)) (by kernel_rfl) (decide_eq_true (by show (i : Int) < (zs.length : Int); omega)) ?_
    refine ok_go 4 ?_
    by_cases h2 : i < most
    · refine sy_yes 0 (b := decide (Int.ofNat i < Int.ofNat most)) (by kernel_rfl) (decide_eq_true (by show (i : Int) < (most : Int); omega)) ?_
      obtain ⟨p, hp1, hp2⟩ := rdI (hv.ext W.ext) h1
      generalize zs[i] = x at *
      obtain ⟨k, hk, hrem⟩ := rem_u x (2 ^ n) hpos (by omega)
      refine ok_go 0 ?_
      refine sy_load 0 (r := indexAddrOp Tryz.prog 28 (.slice va zs.length vc) (J i)) (h' := g) (by kernel_rfl) hp1 ?_
      refine ok_go 0 ?_
      refine sy_load 0 (r := loadT Tryz.prog g 3 p) (h' := g) (by kernel_rfl) hp2 ?_
      refine ok_go 3 ?_
      refine sy_load 0 (r := pureX (binOp .rem 36 (.int .u64 (IntKind.wrap .u64 x)) (.int .u64 (IntKind.wrap .u64 (Int.ofNat (2 ^ n)))))) (h' := g) (by kernel_rfl) (x_rem (wrap_ne (2 ^ n) hpos (by omega))) ?_
      refine ok_go 0 ?_
      refine sy_load 0 (r := indexAddrOp Tryz.prog 37 (.slice (some ⟨h.next, 0, none⟩) (2 ^ n) (2 * 2 ^ n)) (.int .u64 ((IntKind.wrap .u64 x).tmod (IntKind.wrap .u64 (Int.ofNat (2 ^ n)))))) (h' := g) (v := ptr h.next k) (by kernel_rfl) (by rw [hrem]; exact idxS0 (e := 4) (by kernel_rfl) zB hk) ?_
      refine ok_go 0 ?_
      refine ow_storeF (P := Tryz.prog) (T := 4) (v := .bool true) 0 0 W rfl hk zB rfl (by kernel_rfl) fun g2 ng2 W => ?_
      rw [mk97_set] at W
      refine ok_go 1 ?_
      exact sy_next 0 _ g2 (by kernel_rfl) (by kernel_rfl) (ih (i + 1, fun j => if j = k then true else f j) _ g2 ⟨h2, W⟩ (show most - (i + 1) < most - i by omega) ⟨by kernel_rfl, by kernel_rfl, by kernel_rfl, (by kernel_rfl : _ = Value.int .i64 (IntKind.wrap .i64 (Int.ofNat (i + 1)))).trans (by rw [hw]), trivial⟩)
    · refine sy_no 0 (b := decide (Int.ofNat i < Int.ofNat most)) (by kernel_rfl) (decide_eq_false (by show ¬ (i : Int) < (most : Int); omega)) ?_
      refine ok_go 0 ?_
      refine sy_loop 0 lf g (α := Nat × Nat × Option Addr × Nat) (fun x => [(7, .slice (some ⟨h.next, 0, none⟩) (2 ^ n) (2 * 2 ^ n)), (9, .slice x.2.2.1 (lst f x.1).length x.2.2.2), (10, J x.1)]) (fun x g => x.1 ≤ 2 ^ n ∧ .slice x.2.2.1 (lst f x.1).length x.2.2.2 = oslV x.2.1 (lst f x.1).length ∧ Sto h g ((h.next, .cells (cellsF (2 ^ n) fun k => .bool (f k)) 4 false) :: oent x.2.1 3 ((lst f x.1).map J))) (fun x _ => 2 ^ n - x.1) (0, 0, none, 0) (by kernel_rfl) (by kernel_rfl)
        ⟨by kernel_rfl, by kernel_rfl, by kernel_rfl, trivial⟩ (show 2 ^ n - 0 < lf by omega) ⟨Nat.zero_le _, rfl, W⟩ ?_
      clear W
      rintro m2 ⟨k, q, oa, oc⟩ F2 g2 ⟨hk, hos, W⟩ ih2
      dsimp only at hk hos W
      have hw2 : IntKind.wrap .i64 (Int.ofNat (k + 1)) = Int.ofNat (k + 1) := wrap_nat (by omega)
      have hll := lst_len f k
      have hls := lst_succ f k
      refine ok_go 2 ?_
      refine sy_test 0 (decide (Int.ofNat k < Int.ofNat (2 ^ n))) (by kernel_rfl) ?_ ?_
      · intro hlt
        have hlt : k < 2 ^ n := ok_nat hlt
        refine ok_go 0 ?_
        refine sy_load 0 (r := indexAddrOp Tryz.prog 37 (.slice (some ⟨h.next, 0, none⟩) (2 ^ n) (2 * 2 ^ n)) (J k)) (h' := g2) (v := ptr h.next k) (by kernel_rfl) (idxS0 (e := 4) (by kernel_rfl) zB hlt) ?_
        refine ok_go 0 ?_
        refine ow_loadF (P := Tryz.prog) (T := 4) 0 0 W rfl hlt agB (by kernel_rfl) ?_
        refine ok_go 0 ?_
        cases hf : f k with
        | true =>
          rw [hf, if_pos rfl] at hls
          generalize lst f k = L at *
          refine ow_new 1 W (AObj.cells [Value.int IntKind.i64 (Int.ofNat (Prod.fst (k, q, oa, oc)))] 3 false) (fun q => Value.slice (some { block := q, off := 0 }) 1 2) (by kernel_rfl) fun k1 nk1 Wk1 => ?_
          have W := Wk1
          have W : Sto h k1 ((g2.next, .cells [J k] 3 false) :: ([(h.next, .cells (cellsF (2 ^ n) fun k => .bool (f k)) 4 false)] ++ oent q 3 (L.map J))) := W
          refine ow_app (P := Tryz.prog) (t := 28) (e := 3) (z := 1) (c := L.length) (i := q) 0 W slz28 (by rw [List.length_map, Nat.mul_one]) rfl rfl (by omega) (by rw [← hos]; kernel_rfl) fun k2 sl nk2 hsl hsc W => ?_
          obtain ⟨oa2, oc2, ho2⟩ := osl_shape k1.next (L.length + 1)
          rw [ho2] at hsl
          subst hsl
          have W : Sto h k2 ((h.next, .cells (cellsF (2 ^ n) fun k => .bool (f k)) 4 false) :: oent k1.next 3 ((L ++ [k]).map J)) := by rw [List.map_append]; exact W
          refine ok_go 1 ?_
          exact sy_next 0 _ k2 (by kernel_rfl) (by kernel_rfl) (ih2 (k + 1, k1.next, oa2, oc2) _ k2 ⟨hlt, by dsimp only; rw [hls, List.length_append]; exact ho2.symm, by dsimp only; rw [hls]; exact W⟩ (show 2 ^ n - (k + 1) < 2 ^ n - k by omega) ⟨by kernel_rfl, (by kernel_rfl : _ = Value.slice oa2 (L.length + 1) oc2).trans (by dsimp only; rw [hls, List.length_append]; rfl), (by kernel_rfl : _ = Value.int .i64 (IntKind.wrap .i64 (Int.ofNat (k + 1)))).trans (by rw [hw2]), trivial⟩)
        | false =>
          rw [hf, if_neg Bool.false_ne_true] at hls
          generalize lst f k = L at *
          refine ok_go 2 ?_
          exact sy_next 0 _ g2 (by kernel_rfl) (by kernel_rfl) (ih2 (k + 1, q, oa, oc) _ g2 ⟨hlt, by dsimp only; rw [hls]; exact hos, by dsimp only; rw [hls]; exact W⟩ (show 2 ^ n - (k + 1) < 2 ^ n - k by omega) ⟨by kernel_rfl, (by kernel_rfl : _ = Value.slice oa L.length oc).trans (by dsimp only; rw [hls]), (by kernel_rfl : _ = Value.int .i64 (IntKind.wrap .i64 (Int.ofNat (k + 1)))).trans (by rw [hw2]), trivial⟩)
      · intro hlt
        have hlt : k = 2 ^ n := Nat.le_antisymm hk (no_nat hlt)
        subst hlt
        refine ok_go 0 ?_
        exact sy_done 0 (v := .slice oa (lst f (2 ^ n)).length oc) (h := g2) (by kernel_rfl) ⟨f, q, hos, W.drop 1⟩
  · refine sy_no 0 (b := decide (Int.ofNat i < Int.ofNat zs.length)) (by kernel_rfl) (decide_eq_false (by show ¬ (i : Int) < (zs.length : Int); omega)) ?_
    refine ok_go 4 ?_
    refine sy_loop 0 lf g (α := Nat × Nat × Option Addr × Nat) (fun x => [(7, .slice (some ⟨h.next, 0, none⟩) (2 ^ n) (2 * 2 ^ n)), (9, .slice x.2.2.1 (lst f x.1).length x.2.2.2), (10, J x.1)]) (fun x g => x.1 ≤ 2 ^ n ∧ .slice x.2.2.1 (lst f x.1).length x.2.2.2 = oslV x.2.1 (lst f x.1).length ∧ Sto h g ((h.next, .cells (cellsF (2 ^ n) fun k => .bool (f k)) 4 false) :: oent x.2.1 3 ((lst f x.1).map J))) (fun x _ => 2 ^ n - x.1) (0, 0, none, 0) (by kernel_rfl) (by kernel_rfl)
      ⟨by kernel_rfl, by kernel_rfl, by kernel_rfl, trivial⟩ (show 2 ^ n - 0 < lf by omega) ⟨Nat.zero_le _, rfl, W⟩ ?_
    clear W
    rintro m2 ⟨k, q, oa, oc⟩ F2 g2 ⟨hk, hos, W⟩ ih2
    dsimp only at hk hos W
    have hw2 : IntKind.wrap .i64 (Int.ofNat (k + 1)) = Int.ofNat (k + 1) := wrap_nat (by omega)
    have hll := lst_len f k
    have hls := lst_succ f k
    refine ok_go 2 ?_
    refine sy_test 0 (decide (Int.ofNat k < Int.ofNat (2 ^ n))) (by kernel_rfl) ?_ ?_
    · intro hlt
      have hlt : k < 2 ^ n := ok_nat hlt
      refine ok_go 0 ?_
      refine sy_load 0 (r := indexAddrOp Tryz.prog 37 (.slice (some ⟨h.next, 0, none⟩) (2 ^ n) (2 * 2 ^ n)) (J k)) (h' := g2) (v := ptr h.next k) (by kernel_rfl) (idxS0 (e := 4) (by kernel_rfl) zB hlt) ?_
      refine ok_go 0 ?_
      refine ow_loadF (P := Tryz.prog) (T := 4) 0 0 W rfl hlt agB (by kernel_rfl) ?_
      refine ok_go 0 ?_
      cases hf : f k with
      | true =>
        rw [hf, if_pos rfl] at hls
        generalize lst f k = L at *
        refine ow_new 1 W (AObj.cells [Value.int IntKind.i64 (Int.ofNat (Prod.fst (k, q, oa, oc)))] 3 false) (fun q => Value.slice (some { block := q, off := 0 }) 1 2) (by kernel_rfl) fun k1 nk1 Wk1 => ?_
        have W := Wk1
        have W : Sto h k1 ((g2.next, .cells [J k] 3 false) :: ([(h.next, .cells (cellsF (2 ^ n) fun k => .bool (f k)) 4 false)] ++ oent q 3 (L.map J))) := W
        refine ow_app (P := Tryz.prog) (t := 28) (e := 3) (z := 1) (c := L.length) (i := q) 0 W slz28 (by rw [List.length_map, Nat.mul_one]) rfl rfl (by omega) (by rw [← hos]; kernel_rfl) fun k2 sl nk2 hsl hsc W => ?_
        obtain ⟨oa2, oc2, ho2⟩ := osl_shape k1.next (L.length + 1)
        rw [ho2] at hsl
        subst hsl
        have W : Sto h k2 ((h.next, .cells (cellsF (2 ^ n) fun k => .bool (f k)) 4 false) :: oent k1.next 3 ((L ++ [k]).map J)) := by rw [List.map_append]; exact W
        refine ok_go 1 ?_
        exact sy_next 0 _ k2 (by kernel_rfl) (by kernel_rfl) (ih2 (k + 1, k1.next, oa2, oc2) _ k2 ⟨hlt, by dsimp only; rw [hls, List.length_append]; exact ho2.symm, by dsimp only; rw [hls]; exact W⟩ (show 2 ^ n - (k + 1) < 2 ^ n - k by omega) ⟨by kernel_rfl, (by kernel_rfl : _ = Value.slice oa2 (L.length + 1) oc2).trans (by dsimp only; rw [hls, List.length_append]; rfl), (by kernel_rfl : _ = Value.int .i64 (IntKind.wrap .i64 (Int.ofNat (k + 1)))).trans (by rw [hw2]), trivial⟩)
      | false =>
        rw [hf, if_neg Bool.false_ne_true] at hls
        generalize lst f k = L at *
        refine ok_go 2 ?_
        exact sy_next 0 _ g2 (by kernel_rfl) (by kernel_rfl) (ih2 (k + 1, q, oa, oc) _ g2 ⟨hlt, by dsimp only; rw [hls]; exact hos, by dsimp only; rw [hls]; exact W⟩ (show 2 ^ n - (k + 1) < 2 ^ n - k by omega) ⟨by kernel_rfl, (by kernel_rfl : _ = Value.slice oa L.length oc).trans (by dsimp only; rw [hls]), (by kernel_rfl : _ = Value.int .i64 (IntKind.wrap .i64 (Int.ofNat (k + 1)))).trans (by rw [hw2]), trivial⟩)
    · intro hlt
      have hlt : k = 2 ^ n := Nat.le_antisymm hk (no_nat hlt)
      subst hlt
      refine ok_go 0 ?_
      exact sy_done 0 (v := .slice oa (lst f (2 ^ n)).length oc) (h := g2) (by kernel_rfl) ⟨f, q, hos, W.drop 1⟩
end Go.Proofs.YtkfbfgcflnkllaaGreatDoor
namespace Go.Proofs.YtkfbfgcflnkllaaGreatDoor
open Go Go.Eng Nim
set_option maxRecDepth 100000
set_option maxHeartbeats 8000000
def stS (up : Bool) (B s : Nat) (f : Nat → Bool) : Nat → Bool := if s &&& B = 0 then (if up then fun j => if j = s ||| B then (f (s ||| B) || f s) else f j else fun j => if j = s then (f s || f (s ||| B)) else f j) else f
def innS (up : Bool) (B : Nat) (f : Nat → Bool) : Nat → Nat → Bool
  | 0 => f
  | s + 1 => stS up B s (innS up B f s)
def cloS (up : Bool) (N : Nat) (f : Nat → Bool) : Nat → Nat → Bool
  | 0 => f
  | i + 1 => innS up (2 ^ i) (cloS up N f i) N
theorem lst_mem {f : Nat → Bool} {n x : Nat} : x ∈ lst f n ↔ x < n ∧ f x = true := by
  unfold lst
  rw [List.mem_filter, List.mem_range]
theorem lst_rise (f : Nat → Bool) (n : Nat) : (lst f n).Pairwise (· < ·) := by
  unfold lst
  exact List.Pairwise.filter _ List.pairwise_lt_range
theorem chk_lst (lf m : Nat) (hlf : 2000 ≤ lf) (n : Nat) (hn : n ≤ 10) (f : Nat → Bool) (v : Value) (h : Hp) (hv : Rds h v ((lst f (2 ^ n)).map J)) : Ev lf (m + 1) 57 [J n, v] h = some (J 0, h) := by
  have h2n : 2 ^ n ≤ 1024 := Nat.pow_le_pow_right (by decide) hn
  have hll := lst_len f (2 ^ n)
  obtain ⟨e, he, e1⟩ := chk_of lf m (Int.ofNat n) ((lst f (2 ^ n)).map Int.ofNat) (by rw [List.length_map]; omega) (by rw [List.length_map]; omega) v h (by rw [List.map_map]; exact hv)
  have h0 : FamR (Int.ofNat n) ((lst f (2 ^ n)).map Int.ofNat) 0 := by
    refine .inr ⟨n, rfl, hn, .inr ⟨rfl, ?_⟩⟩
    intro i hi hbad
    rw [List.length_map] at hi
    have hget : ∀ k (hk : k < (lst f (2 ^ n)).length), ((lst f (2 ^ n)).map Int.ofNat).getD k 0 = Int.ofNat (lst f (2 ^ n))[k] := fun k hk => by
      rw [List.getD_eq_getElem?_getD, List.getElem?_map, List.getElem?_eq_getElem hk]
      rfl
    have hlt := (lst_mem.1 (List.getElem_mem hi)).1
    have hp2 : (2 : Int) ^ n = Int.ofNat (2 ^ n) := by simp
    rcases hbad with hb | hb
    · rw [hget i hi] at hb
      unfold lastI at hb
      split at hb
      · have : Int.ofNat (lst f (2 ^ n))[i] ≥ 0 := Int.natCast_nonneg _
        omega
      · have hr := List.pairwise_iff_getElem.1 (lst_rise f (2 ^ n)) (i - 1) i (by omega) hi (by omega)
        rw [hget (i - 1) (by omega)] at hb
        have : (lst f (2 ^ n))[i] ≤ (lst f (2 ^ n))[i - 1] := Int.ofNat_le.1 hb
        omega
    · rw [hget i hi, hp2] at hb
      have : 2 ^ n ≤ (lst f (2 ^ n))[i] := Int.ofNat_le.1 hb
      omega
  rw [he.uniq h0] at e1
  exact e1
theorem clos_of (lf m : Nat) (hlf : 2000 ≤ lf) (n : Nat) (hn : n ≤ 10) (up : Bool) (f : Nat → Bool) (v : Value) (h : Hp) (hv : Rds h v ((lst f (2 ^ n)).map J)) :
    ∃ v' h', Ev lf (m + 2) 19 [J n, v, .bool up] h = some (v', h') ∧ ∃ q, v' = .tuple #[oslV q (lst (cloS up (2 ^ n) (fun k => decide (k ∈ lst f (2 ^ n))) n) 1024).length, J 0] ∧ Sto h h' (oent q 3 ((lst (cloS up (2 ^ n) (fun k => decide (k ∈ lst f (2 ^ n))) n) 1024).map J)) := by
  refine fnS_ok (Q := fun v' h' => ∃ q, v' = .tuple #[oslV q (lst (cloS up (2 ^ n) (fun k => decide (k ∈ lst f (2 ^ n))) n) 1024).length, J 0] ∧ Sto h h' (oent q 3 ((lst (cloS up (2 ^ n) (fun k => decide (k ∈ lst f (2 ^ n))) n) 1024).map J))) ?_
  have hsh := one_shl n (by omega)
  have h2n : 2 ^ n ≤ 1024 := Nat.pow_le_pow_right (by decide) hn
  have hll := lst_len f (2 ^ n)
  have e1 := chk_lst lf m hlf n hn f v h hv
  obtain ⟨_, h1, e2, rfl, X1⟩ := marked_of lf m hlf (lst f (2 ^ n)) (by omega) (fun x hx => by have := (lst_mem.1 hx).1; omega) v h hv
  obtain ⟨va, vc, hvs⟩ := hv.shape
  rw [List.length_map] at hvs
  subst hvs
  have W := (Sto.start h).call X1
  generalize hL : lst f (2 ^ n) = L at *
  generalize hF : (fun i => decide (i ∈ L)) = f at *
  have hMl : (mk97 f).length = 1024 := cellsF_len ..
  refine ok_go 0 ?_
  refine sy_call 0 (by kernel_rfl) e1 ?_
  refine ok_go 2 ?_
  generalize hMM : mk97 f = MM at *
  refine sy_call 0 (by kernel_rfl) e2 ?_
  refine ok_go 0 ?_
  refine ow_new 0 W (.cells (mk97 fun _ => false) 97 false) (fun i => ptr i 0) (by kernel_rfl) fun h2 nh2 W => ?_
  generalize h1.next = b at *
  refine ok_go 0 ?_
  refine ow_storeA (P := Tryz.prog) (T := 97) (v := .agg MM.toArray) 0 0 W MM rfl rfl (by rw [hMl]; exact (cellsF_len ..).symm) (by rw [hMl]; kernel_rfl) (by rw [← hMM]; exact mk97_sc _) (by kernel_rfl) fun h3 nh3 W => ?_
  rw [← hMM] at W
  have W : Sto h h3 [(b, .cells (mk97 (cloS up (2 ^ n) f 0)) 97 false)] := W
  refine ok_go 0 ?_
  refine sy_loop 0 lf h3 (α := Nat) (fun i => [(0, J n), (2, .bool up), (9, ptr b 0), (21, J n), (22, J i)]) (fun i g => i ≤ n ∧ Sto h g [(b, .cells (mk97 (cloS up (2 ^ n) f i)) 97 false)]) (fun i _ => n - i) 0 (by kernel_rfl) (by kernel_rfl)
    ⟨by kernel_rfl, by kernel_rfl, by kernel_rfl, by kernel_rfl, by kernel_rfl, trivial⟩ (show n - 0 < lf by omega) ⟨Nat.zero_le _, W⟩ ?_
  clear W e1 e2 nh2 nh3 X1 hMM
  rintro m1 i F1 g ⟨hi, W⟩ ih
  have hw : IntKind.wrap .i64 (Int.ofNat (i + 1)) = Int.ofNat (i + 1) := wrap_nat (by omega)
  refine ok_go 1 ?_
  refine sy_test 0 (decide (Int.ofNat i < Int.ofNat n)) (by kernel_rfl) ?_ ?_
  · intro hlt
    have hlt : i < n := ok_nat hlt
    have hshi := one_shl i (by omega)
    have h2i : 2 ^ i < 2 ^ n := Nat.pow_lt_pow_right (by decide) hlt
    refine ok_go 4 ?_
    refine sy_loop 0 lf g (α := Nat) (fun s => [(0, J n), (2, .bool up), (9, ptr b 0), (21, J n), (22, J i), (11, J (2 ^ i)), (30, I (IntKind.i64.wrap (1 * 2 ^ min (IntKind.u64.wrap (Int.ofNat n)).toNat IntKind.i64.bits))), (31, J s)]) (fun s g => s ≤ 2 ^ n ∧ Sto h g [(b, .cells (mk97 (innS up (2 ^ i) (cloS up (2 ^ n) f i) s)) 97 false)]) (fun s _ => 2 ^ n - s) 0 (by kernel_rfl) (by kernel_rfl)
      ⟨by kernel_rfl, by kernel_rfl, by kernel_rfl, by kernel_rfl, by kernel_rfl, (by kernel_rfl : _ = Value.int .i64 (IntKind.i64.wrap (1 * 2 ^ min (IntKind.u64.wrap (Int.ofNat i)).toNat IntKind.i64.bits))).trans (by rw [hshi]), by kernel_rfl, by kernel_rfl, trivial⟩ (show 2 ^ n - 0 < lf by omega) ⟨Nat.zero_le _, W⟩ ?_
    clear W
    rintro m2 s F2 g2 ⟨hs, W⟩ ihs
    have hws : IntKind.wrap .i64 (Int.ofNat (s + 1)) = Int.ofNat (s + 1) := wrap_nat (by omega)
    refine ok_go 1 ?_
    refine sy_test 0 (decide (Int.ofNat s < IntKind.i64.wrap (1 * 2 ^ min (IntKind.u64.wrap (Int.ofNat n)).toNat IntKind.i64.bits))) (by kernel_rfl) ?_ ?_
    · intro hlt2
      rw [hsh] at hlt2
      have hlt2 : s < 2 ^ n := ok_nat hlt2
      have han : andI (Int.ofNat s) (Int.ofNat (2 ^ i)) = Int.ofNat (s &&& 2 ^ i) := and_nat (by omega)
      have hor : orI (Int.ofNat s) (Int.ofNat (2 ^ i)) = Int.ofNat (s ||| 2 ^ i) := or_nat (by omega) (by omega)
      have ho10 : s ||| 2 ^ i < 1024 := Nat.lt_of_lt_of_le (Nat.or_lt_two_pow hlt2 h2i) h2n
      have hs10 : s < 1024 := by omega
      refine ok_go 2 ?_
      by_cases hz : s &&& 2 ^ i = 0
      · refine sy_yes 0 (b := decide (andI (Int.ofNat s) (Int.ofNat (2 ^ i)) = 0)) (by kernel_rfl) (decide_eq_true (by rw [han, hz]; rfl)) ?_
        cases up with
        | true =>
          generalize hM : innS true (2 ^ i) (cloS true (2 ^ n) f i) s = M at *
          have hst : innS true (2 ^ i) (cloS true (2 ^ n) f i) (s + 1) = fun j => if j = (s ||| 2 ^ i) then (M (s ||| 2 ^ i) || M s) else M j := by
            rw [← hM]
            show stS true (2 ^ i) s _ = _
            unfold stS
            rw [if_pos hz]
            rfl
          refine ok_go 4 ?_
          refine sy_load 0 (r := indexAddrOp Tryz.prog 97 (ptr b 0) (I (orI (Int.ofNat s) (Int.ofNat (2 ^ i))))) (h' := g2) (v := ptr b (s ||| 2 ^ i)) (by kernel_rfl) (by rw [hor]; exact idxM ho10) ?_
          refine ok_go 0 ?_
          refine ow_loadF (P := Tryz.prog) (T := 4) 0 0 W rfl ho10 agB (by kernel_rfl) ?_
          refine ok_go 0 ?_
          cases hfa : M (s ||| 2 ^ i) with
          | true =>
            rw [hfa, Bool.true_or] at hst
            refine ok_go 4 ?_
            refine sy_load 0 (r := indexAddrOp Tryz.prog 97 (ptr b 0) (I (orI (Int.ofNat s) (Int.ofNat (2 ^ i))))) (h' := g2) (v := ptr b (s ||| 2 ^ i)) (by kernel_rfl) (by rw [hor]; exact idxM ho10) ?_
            refine ok_go 0 ?_
            refine ow_storeF (P := Tryz.prog) (T := 4) (v := .bool true) 0 0 W rfl ho10 zB rfl (by kernel_rfl) fun g3 ng3 W => ?_
            rw [mk97_set] at W
            have W : Sto h g3 [(b, .cells (mk97 (innS true (2 ^ i) (cloS true (2 ^ n) f i) (s + 1))) 97 false)] := by
              rw [hst]
              exact W
            refine ok_go 1 ?_
            exact sy_next 0 _ g3 (by kernel_rfl) (by kernel_rfl) (ihs (s + 1) _ g3 ⟨hlt2, W⟩ (show 2 ^ n - (s + 1) < 2 ^ n - s by omega) ⟨by kernel_rfl, by kernel_rfl, by kernel_rfl, by kernel_rfl, by kernel_rfl, by kernel_rfl, by kernel_rfl, (by kernel_rfl : _ = Value.int .i64 (IntKind.wrap .i64 (Int.ofNat (s + 1)))).trans (by rw [hws]), trivial⟩)
          | false =>
            rw [hfa, Bool.false_or] at hst
            refine ok_go 2 ?_
            refine sy_load 0 (r := indexAddrOp Tryz.prog 97 (ptr b 0) (J s)) (h' := g2) (v := ptr b s) (by kernel_rfl) (idxM hs10) ?_
            refine ok_go 1 ?_
            refine ow_loadF (P := Tryz.prog) (T := 4) 0 0 W rfl hs10 agB (by kernel_rfl) ?_
            refine ok_go 1 ?_
            refine sy_load 0 (r := indexAddrOp Tryz.prog 97 (ptr b 0) (I (orI (Int.ofNat s) (Int.ofNat (2 ^ i))))) (h' := g2) (v := ptr b (s ||| 2 ^ i)) (by kernel_rfl) (by rw [hor]; exact idxM ho10) ?_
            refine ok_go 0 ?_
            refine ow_storeF (P := Tryz.prog) (T := 4) (v := .bool (M s)) 0 0 W rfl ho10 zB rfl (by kernel_rfl) fun g3 ng3 W => ?_
            rw [mk97_set] at W
            have W : Sto h g3 [(b, .cells (mk97 (innS true (2 ^ i) (cloS true (2 ^ n) f i) (s + 1))) 97 false)] := by
              rw [hst]
              exact W
            refine ok_go 1 ?_
            exact sy_next 0 _ g3 (by kernel_rfl) (by kernel_rfl) (ihs (s + 1) _ g3 ⟨hlt2, W⟩ (show 2 ^ n - (s + 1) < 2 ^ n - s by omega) ⟨by kernel_rfl, by kernel_rfl, by kernel_rfl, by kernel_rfl, by kernel_rfl, by kernel_rfl, by kernel_rfl, (by kernel_rfl : _ = Value.int .i64 (IntKind.wrap .i64 (Int.ofNat (s + 1)))).trans (by rw [hws]), trivial⟩)
        | false =>
          generalize hM : innS false (2 ^ i) (cloS false (2 ^ n) f i) s = M at *
          refine ok_go 4 ?_
          refine sy_yes 0 (b := decide (andI (Int.ofNat s) (Int.ofNat (2 ^ i)) = 0)) (by kernel_rfl) (decide_eq_true (by rw [han, hz]; rfl)) ?_
          have hst : innS false (2 ^ i) (cloS false (2 ^ n) f i) (s + 1) = fun j => if j = s then (M s || M (s ||| 2 ^ i)) else M j := by
            rw [← hM]
            show stS false (2 ^ i) s _ = _
            unfold stS
            rw [if_pos hz]
            rfl
          refine ok_go 0 ?_
          refine sy_load 0 (r := indexAddrOp Tryz.prog 97 (ptr b 0) (J s)) (h' := g2) (v := ptr b s) (by kernel_rfl) (idxM hs10) ?_
          refine ok_go 0 ?_
          refine ow_loadF (P := Tryz.prog) (T := 4) 0 0 W rfl hs10 agB (by kernel_rfl) ?_
          refine ok_go 0 ?_
          cases hfa : M s with
          | true =>
            rw [hfa, Bool.true_or] at hst
            refine ok_go 6 ?_
            refine sy_load 0 (r := indexAddrOp Tryz.prog 97 (ptr b 0) (J s)) (h' := g2) (v := ptr b s) (by kernel_rfl) (idxM hs10) ?_
            refine ok_go 0 ?_
            refine ow_storeF (P := Tryz.prog) (T := 4) (v := .bool true) 0 0 W rfl hs10 zB rfl (by kernel_rfl) fun g3 ng3 W => ?_
            rw [mk97_set] at W
            have W : Sto h g3 [(b, .cells (mk97 (innS false (2 ^ i) (cloS false (2 ^ n) f i) (s + 1))) 97 false)] := by
              rw [hst]
              exact W
            refine ok_go 1 ?_
            exact sy_next 0 _ g3 (by kernel_rfl) (by kernel_rfl) (ihs (s + 1) _ g3 ⟨hlt2, W⟩ (show 2 ^ n - (s + 1) < 2 ^ n - s by omega) ⟨by kernel_rfl, by kernel_rfl, by kernel_rfl, by kernel_rfl, by kernel_rfl, by kernel_rfl, by kernel_rfl, (by kernel_rfl : _ = Value.int .i64 (IntKind.wrap .i64 (Int.ofNat (s + 1)))).trans (by rw [hws]), trivial⟩)
          | false =>
            rw [hfa, Bool.false_or] at hst
            refine ok_go 5 ?_
            refine sy_load 0 (r := indexAddrOp Tryz.prog 97 (ptr b 0) (I (orI (Int.ofNat s) (Int.ofNat (2 ^ i))))) (h' := g2) (v := ptr b (s ||| 2 ^ i)) (by kernel_rfl) (by rw [hor]; exact idxM ho10) ?_
            refine ok_go 1 ?_
            refine ow_loadF (P := Tryz.prog) (T := 4) 0 0 W rfl ho10 agB (by kernel_rfl) ?_
            refine ok_go 1 ?_
            refine sy_load 0 (r := indexAddrOp Tryz.prog 97 (ptr b 0) (J s)) (h' := g2) (v := ptr b s) (by kernel_rfl) (idxM hs10) ?_
            refine ok_go 0 ?_
            refine ow_storeF (P := Tryz.prog) (T := 4) (v := .bool (M (s ||| 2 ^ i))) 0 0 W rfl hs10 zB rfl (by kernel_rfl) fun g3 ng3 W => ?_
            rw [mk97_set] at W
            have W : Sto h g3 [(b, .cells (mk97 (innS false (2 ^ i) (cloS false (2 ^ n) f i) (s + 1))) 97 false)] := by
              rw [hst]
              exact W
            refine ok_go 1 ?_
            exact sy_next 0 _ g3 (by kernel_rfl) (by kernel_rfl) (ihs (s + 1) _ g3 ⟨hlt2, W⟩ (show 2 ^ n - (s + 1) < 2 ^ n - s by omega) ⟨by kernel_rfl, by kernel_rfl, by kernel_rfl, by kernel_rfl, by kernel_rfl, by kernel_rfl, by kernel_rfl, (by kernel_rfl : _ = Value.int .i64 (IntKind.wrap .i64 (Int.ofNat (s + 1)))).trans (by rw [hws]), trivial⟩)
      · have hzI : ¬ andI (Int.ofNat s) (Int.ofNat (2 ^ i)) = 0 := by rw [han]; exact fun h => hz (Int.ofNat.inj h)
        refine sy_no 0 (b := decide (andI (Int.ofNat s) (Int.ofNat (2 ^ i)) = 0)) (by kernel_rfl) (decide_eq_false hzI) ?_
        refine ok_go 4 ?_
        refine sy_no 0 (b := decide (andI (Int.ofNat s) (Int.ofNat (2 ^ i)) = 0)) (by kernel_rfl) (decide_eq_false hzI) ?_
        have W : Sto h g2 [(b, .cells (mk97 (innS up (2 ^ i) (cloS up (2 ^ n) f i) (s + 1))) 97 false)] := by
          show Sto h g2 [(b, .cells (mk97 (stS up (2 ^ i) s _)) 97 false)]
          unfold stS
          rw [if_neg hz]
          exact W
        refine ok_go 1 ?_
        exact sy_next 0 _ g2 (by kernel_rfl) (by kernel_rfl) (ihs (s + 1) _ g2 ⟨hlt2, W⟩ (show 2 ^ n - (s + 1) < 2 ^ n - s by omega) ⟨by kernel_rfl, by kernel_rfl, by kernel_rfl, by kernel_rfl, by kernel_rfl, by kernel_rfl, by kernel_rfl, (by kernel_rfl : _ = Value.int .i64 (IntKind.wrap .i64 (Int.ofNat (s + 1)))).trans (by rw [hws]), trivial⟩)
    · intro hlt2
      rw [hsh] at hlt2
      have hlt2 : s = 2 ^ n := Nat.le_antisymm hs (no_nat hlt2)
      subst hlt2
      refine ok_go 1 ?_
      exact sy_next 0 _ g2 (by kernel_rfl) (by kernel_rfl) (ih (i + 1) _ g2 ⟨hlt, W⟩ (show n - (i + 1) < n - i by omega) ⟨by kernel_rfl, by kernel_rfl, by kernel_rfl, by kernel_rfl, (by kernel_rfl : _ = Value.int .i64 (IntKind.wrap .i64 (Int.ofNat (i + 1)))).trans (by rw [hw]), trivial⟩)
  · intro hlt
    have hlt : i = n := Nat.le_antisymm hi (no_nat hlt)
    subst hlt
    obtain ⟨v4, h4, e4, q, rfl, W4⟩ := list_of lf m hlf (cloS up (2 ^ i) f i) b false g (W.get 0 rfl) (W.all _ List.mem_cons_self).2.1
    obtain ⟨oa, oc, ho⟩ := osl_shape q (lst (cloS up (2 ^ i) f i) 1024).length
    rw [ho] at e4
    refine ok_go 0 ?_
    refine sy_call 0 (by kernel_rfl) e4 ?_
    refine ok_go 0 ?_
    exact sy_done 0 (v := .tuple #[.slice oa (lst (cloS up (2 ^ i) f i) 1024).length oc, J 0]) (h := h4) (by kernel_rfl) ⟨q, by rw [ho], (W.over W4).sub (List.sublist_append_left ..)⟩
end Go.Proofs.YtkfbfgcflnkllaaGreatDoor
namespace Go.Proofs.YtkfbfgcflnkllaaGreatDoor
open Go Go.Eng Nim Oct
def upC (n : Nat) (A : Nat → Bool) : Prop := ∀ k, k < n → ∀ s, s < 2 ^ n → s.testBit k = false → A s = true → A (s ^^^ 2 ^ k) = true
def dnC (n : Nat) (A : Nat → Bool) : Prop := ∀ k, k < n → ∀ s, s < 2 ^ n → s.testBit k = false → A (s ^^^ 2 ^ k) = true → A s = true
theorem tb_x (s i k : Nat) : (s ^^^ 2 ^ i).testBit k = (s.testBit k ^^ decide (i = k)) := by
  rw [Nat.testBit_xor, Nat.testBit_two_pow]
theorem tb_xs (s i : Nat) : (s ^^^ 2 ^ i).testBit i = !s.testBit i := by
  rw [tb_x, decide_eq_true rfl, Bool.xor_true]
theorem tb_xn {s i k : Nat} (h : i ≠ k) : (s ^^^ 2 ^ i).testBit k = s.testBit k := by
  rw [tb_x, decide_eq_false h, Bool.xor_false]
theorem x_x (s b : Nat) : s ^^^ b ^^^ b = s := by rw [Nat.xor_assoc, Nat.xor_self, Nat.xor_zero]
theorem x_lt {s k n : Nat} (hs : s < 2 ^ n) (hk : k < n) : s ^^^ 2 ^ k < 2 ^ n := Nat.xor_lt_two_pow hs (Nat.pow_lt_pow_right (by decide) hk)
theorem inn_up (i : Nat) (f : Nat → Bool) : ∀ s j, innS true (2 ^ i) f s j = (f j || (j.testBit i && decide (j ^^^ 2 ^ i < s) && f (j ^^^ 2 ^ i)))
  | 0, j => by simp [innS]
  | s + 1, j => by
    show stS true (2 ^ i) s (innS true (2 ^ i) f s) j = _
    unfold stS
    by_cases hz : s &&& 2 ^ i = 0
    · have hb := (and_bit s i).1 hz
      rw [if_pos hz, if_pos rfl]
      by_cases hj : j = s ||| 2 ^ i
      · rw [if_pos hj]
        have hjx : j = s ^^^ 2 ^ i := hj.trans (or_bit hb)
        have hx : j ^^^ 2 ^ i = s := by rw [hjx, x_x]
        have ht : j.testBit i = true := by rw [hjx, tb_xs, hb]; rfl
        rw [← hj, inn_up i f s j, inn_up i f s s, hx, ht, hb]
        simp
      · rw [if_neg hj, inn_up i f s j]
        cases ht : j.testBit i with
        | false => simp
        | true =>
          have : j ^^^ 2 ^ i ≠ s := fun e => hj (by rw [or_bit hb, ← e, x_x])
          rw [show decide (j ^^^ 2 ^ i < s + 1) = decide (j ^^^ 2 ^ i < s) from decide_eq_decide.2 (by omega)]
    · have hb : s.testBit i = true := by
        cases h : s.testBit i with
        | true => rfl
        | false => exact absurd ((and_bit s i).2 h) hz
      rw [if_neg hz, inn_up i f s j]
      cases ht : j.testBit i with
      | false => simp
      | true =>
        have : j ^^^ 2 ^ i ≠ s := fun e => by
          have := tb_xs j i
          rw [e, hb, ht] at this
          cases this
        rw [show decide (j ^^^ 2 ^ i < s + 1) = decide (j ^^^ 2 ^ i < s) from decide_eq_decide.2 (by omega)]
theorem inn_dn (i : Nat) (f : Nat → Bool) : ∀ s j, innS false (2 ^ i) f s j = (f j || (!j.testBit i && decide (j < s) && f (j ^^^ 2 ^ i)))
  | 0, j => by simp [innS]
  | s + 1, j => by
    show stS false (2 ^ i) s (innS false (2 ^ i) f s) j = _
    unfold stS
    by_cases hz : s &&& 2 ^ i = 0
    · have hb := (and_bit s i).1 hz
      rw [if_pos hz, if_neg Bool.false_ne_true]
      by_cases hj : j = s
      · subst hj
        rw [if_pos rfl, inn_dn i f j j, or_bit hb, inn_dn i f j (j ^^^ 2 ^ i), tb_xs, hb]
        simp
      · rw [if_neg hj, inn_dn i f s j, show decide (j < s + 1) = decide (j < s) from decide_eq_decide.2 (by omega)]
    · have hb : s.testBit i = true := by
        cases h : s.testBit i with
        | true => rfl
        | false => exact absurd ((and_bit s i).2 h) hz
      rw [if_neg hz, inn_dn i f s j]
      by_cases hj : j = s
      · subst hj
        rw [hb]
        simp
      · rw [show decide (j < s + 1) = decide (j < s) from decide_eq_decide.2 (by omega)]
theorem x_comm (s a b : Nat) : s ^^^ a ^^^ b = s ^^^ b ^^^ a := by rw [Nat.xor_assoc, Nat.xor_comm a b, ← Nat.xor_assoc]
/-- What is closed towards the first bits, and lies below 2^n. -/
theorem clo_up (n : Nat) (f : Nat → Bool) (hf : ∀ j, f j = true → j < 2 ^ n) : ∀ i, i ≤ n → (∀ j, cloS true (2 ^ n) f i j = true → j < 2 ^ n) ∧ ∀ k, k < i → ∀ s, s < 2 ^ n → s.testBit k = false → cloS true (2 ^ n) f i s = true → cloS true (2 ^ n) f i (s ^^^ 2 ^ k) = true
  | 0, _ => ⟨hf, fun k hk => by omega⟩
  | i + 1, hi => by
    obtain ⟨h1, h2⟩ := clo_up n f hf i (by omega)
    have hM : ∀ j, cloS true (2 ^ n) f (i + 1) j = (cloS true (2 ^ n) f i j || (j.testBit i && decide (j ^^^ 2 ^ i < 2 ^ n) && cloS true (2 ^ n) f i (j ^^^ 2 ^ i))) := inn_up i (cloS true (2 ^ n) f i) (2 ^ n)
    generalize cloS true (2 ^ n) f i = g at *
    generalize cloS true (2 ^ n) f (i + 1) = M at *
    refine ⟨fun j hj => ?_, fun k hk s hs hb hA => ?_⟩
    · rw [hM, Bool.or_eq_true, Bool.and_eq_true, Bool.and_eq_true, decide_eq_true_eq] at hj
      rcases hj with h | ⟨⟨_, h⟩, _⟩
      · exact h1 j h
      · have := x_lt h (show i < n by omega)
        rwa [x_x] at this
    · rw [hM, Bool.or_eq_true, Bool.and_eq_true, Bool.and_eq_true, decide_eq_true_eq] at hA ⊢
      by_cases hki : k = i
      · subst hki
        rcases hA with h | ⟨⟨h, _⟩, _⟩
        · exact .inr ⟨⟨by rw [tb_xs, hb]; rfl, by rw [x_x]; exact hs⟩, by rw [x_x]; exact h⟩
        · rw [hb] at h; cases h
      · rcases hA with h | ⟨⟨h3, h4⟩, h5⟩
        · exact .inl (h2 k (by omega) s hs hb h)
        · refine .inr ⟨⟨by rw [tb_xn hki]; exact h3, by rw [x_comm]; exact x_lt h4 (by omega)⟩, ?_⟩
          rw [x_comm]
          exact h2 k (by omega) _ h4 (by rw [tb_xn (fun e => hki e.symm)]; exact hb) h5
theorem clo_dn (n : Nat) (f : Nat → Bool) (hf : ∀ j, f j = true → j < 2 ^ n) : ∀ i, i ≤ n → (∀ j, cloS false (2 ^ n) f i j = true → j < 2 ^ n) ∧ ∀ k, k < i → ∀ s, s < 2 ^ n → s.testBit k = false → cloS false (2 ^ n) f i (s ^^^ 2 ^ k) = true → cloS false (2 ^ n) f i s = true
  | 0, _ => ⟨hf, fun k hk => by omega⟩
  | i + 1, hi => by
    obtain ⟨h1, h2⟩ := clo_dn n f hf i (by omega)
    have hM : ∀ j, cloS false (2 ^ n) f (i + 1) j = (cloS false (2 ^ n) f i j || (!j.testBit i && decide (j < 2 ^ n) && cloS false (2 ^ n) f i (j ^^^ 2 ^ i))) := inn_dn i (cloS false (2 ^ n) f i) (2 ^ n)
    generalize cloS false (2 ^ n) f i = g at *
    generalize cloS false (2 ^ n) f (i + 1) = M at *
    refine ⟨fun j hj => ?_, fun k hk s hs hb hA => ?_⟩
    · rw [hM, Bool.or_eq_true, Bool.and_eq_true, Bool.and_eq_true, decide_eq_true_eq] at hj
      rcases hj with h | ⟨⟨_, h⟩, _⟩
      · exact h1 j h
      · exact h
    · rw [hM, Bool.or_eq_true, Bool.and_eq_true, Bool.and_eq_true, decide_eq_true_eq] at hA ⊢
      by_cases hki : k = i
      · subst hki
        rcases hA with h | ⟨⟨h, _⟩, _⟩
        · exact .inr ⟨⟨by rw [hb]; rfl, hs⟩, h⟩
        · rw [tb_xs, hb] at h; cases h
      · rcases hA with h | ⟨⟨h3, h4⟩, h5⟩
        · exact .inl (h2 k (by omega) s hs hb h)
        · rw [tb_xn hki] at h3
          refine .inr ⟨⟨h3, hs⟩, ?_⟩
          rw [x_comm] at h5
          exact h2 k (by omega) _ (x_lt hs (by omega)) (by rw [tb_xn (fun e => hki e.symm)]; exact hb) h5
/-! Kleitman. -/
def cnt (f : Nat → Bool) : Nat → Nat
  | 0 => 0
  | n + 1 => cnt f n + if f n then 1 else 0
theorem cnt_lst (f : Nat → Bool) : ∀ n, (lst f n).length = cnt f n
  | 0 => rfl
  | n + 1 => by
    rw [lst_succ, cnt, ← cnt_lst f n]
    split <;> simp
theorem cnt_add (f : Nat → Bool) (a : Nat) : ∀ b, cnt f (a + b) = cnt f a + cnt (fun s => f (a + s)) b
  | 0 => rfl
  | b + 1 => by
    rw [← Nat.add_assoc, cnt, cnt_add f a b, cnt, Nat.add_assoc]
theorem cnt_le {f g : Nat → Bool} : ∀ {n}, (∀ s, s < n → f s = true → g s = true) → cnt f n ≤ cnt g n
  | 0, _ => Nat.le_refl _
  | n + 1, h => by
    have h1 := cnt_le (n := n) fun s hs => h s (by omega)
    have h2 := h n (by omega)
    rw [cnt, cnt]
    cases hf : f n with
    | false => simp; omega
    | true => rw [h2 hf]; simp; omega
theorem cnt_congr {f g : Nat → Bool} {n : Nat} (h : ∀ s, s < n → f s = g s) : cnt f n = cnt g n :=
  Nat.le_antisymm (cnt_le fun s hs e => by rw [← h s hs]; exact e) (cnt_le fun s hs e => by rw [h s hs]; exact e)
theorem top_x {s n : Nat} (hs : s < 2 ^ n) : 2 ^ n + s = s ^^^ 2 ^ n := by
  have := Nat.two_pow_add_eq_or_of_lt hs 1
  rw [Nat.mul_one] at this
  rw [this, Nat.or_comm, or_bit (Nat.testBit_lt_two_pow hs)]
theorem upC_lo {n : Nat} {A : Nat → Bool} (h : upC (n + 1) A) : upC n A := fun k hk s hs => h k (by omega) s (by rw [Nat.pow_succ]; omega)
theorem upC_hi {n : Nat} {A : Nat → Bool} (h : upC (n + 1) A) : upC n fun s => A (2 ^ n + s) := fun k hk s hs hb hA => by
  show A (2 ^ n + (s ^^^ 2 ^ k)) = true
  have hA : A (2 ^ n + s) = true := hA
  rw [top_x (x_lt hs hk), x_comm]
  rw [top_x hs] at hA
  refine h k (by omega) _ ?_ ?_ hA
  · rw [← top_x hs, Nat.pow_succ]; omega
  · rw [tb_xn (by omega)]; exact hb
theorem upC_mid {n : Nat} {A : Nat → Bool} (h : upC (n + 1) A) : ∀ s, s < 2 ^ n → A s = true → A (2 ^ n + s) = true := fun s hs hA => by
  rw [top_x hs]
  exact h n (by omega) s (by rw [Nat.pow_succ]; omega) (Nat.testBit_lt_two_pow hs) hA
theorem kleit : ∀ (n : Nat) (A B : Nat → Bool), upC n A → upC n B → cnt A (2 ^ n) * cnt B (2 ^ n) ≤ cnt (fun s => A s && B s) (2 ^ n) * 2 ^ n
  | 0, A, B, _, _ => by
    show cnt A 1 * cnt B 1 ≤ cnt (fun s => A s && B s) 1 * 1
    simp only [cnt]
    rcases Bool.eq_false_or_eq_true (A 0) with h | h <;> rcases Bool.eq_false_or_eq_true (B 0) with h' | h' <;> simp [h, h']
  | n + 1, A, B, hA, hB => by
    have h0 := kleit n A B (upC_lo hA) (upC_lo hB)
    have h1 := kleit n _ _ (upC_hi hA) (upC_hi hB)
    have ha := cnt_le (upC_mid hA)
    have hb := cnt_le (upC_mid hB)
    rw [show 2 ^ (n + 1) = 2 ^ n + 2 ^ n by rw [Nat.pow_succ]; omega, cnt_add, cnt_add, cnt_add]
    generalize cnt A (2 ^ n) = a0 at *
    generalize cnt B (2 ^ n) = b0 at *
    generalize cnt (fun s => A (2 ^ n + s)) (2 ^ n) = a1 at *
    generalize cnt (fun s => B (2 ^ n + s)) (2 ^ n) = b1 at *
    generalize cnt (fun s => A s && B s) (2 ^ n) = c0 at *
    generalize cnt (fun s => A (2 ^ n + s) && B (2 ^ n + s)) (2 ^ n) = c1 at *
    generalize 2 ^ n = N at *
    obtain ⟨d, rfl⟩ := Nat.exists_eq_add_of_le ha
    obtain ⟨e, rfl⟩ := Nat.exists_eq_add_of_le hb
    simp only [Nat.add_mul, Nat.mul_add] at *
    omega
theorem cnt_not (B : Nat → Bool) : ∀ n, cnt (fun s => !B s) n + cnt B n = n
  | 0 => rfl
  | n + 1 => by
    have := cnt_not B n
    rw [cnt, cnt]
    cases B n <;> simp <;> omega
theorem cnt_split (A B : Nat → Bool) : ∀ n, cnt (fun s => A s && !B s) n + cnt (fun s => A s && B s) n = cnt A n
  | 0 => rfl
  | n + 1 => by
    have := cnt_split A B n
    rw [cnt, cnt, cnt]
    cases A n <;> cases B n <;> simp <;> omega
theorem kleit_dn (n : Nat) (A B : Nat → Bool) (hA : upC n A) (hB : dnC n B) : cnt (fun s => A s && B s) (2 ^ n) * 2 ^ n ≤ cnt A (2 ^ n) * cnt B (2 ^ n) := by
  have hB' : upC n fun s => !B s := fun k hk s hs hb h => by
    show (!B (s ^^^ 2 ^ k)) = true
    have h : (!B s) = true := h
    cases hx : B (s ^^^ 2 ^ k) with
    | false => rfl
    | true => rw [hB k hk s hs hb hx] at h; cases h
  have h1 := kleit n A _ hA hB'
  have h2 := cnt_not B (2 ^ n)
  have h3 := cnt_split A B (2 ^ n)
  generalize cnt (fun s => A s && !B s) (2 ^ n) = u at *
  generalize cnt (fun s => A s && B s) (2 ^ n) = c at *
  generalize cnt A (2 ^ n) = a at *
  generalize cnt (fun s => !B s) (2 ^ n) = v at *
  generalize cnt B (2 ^ n) = b at *
  generalize 2 ^ n = N at *
  subst h3
  subst h2
  simp only [Nat.add_mul, Nat.mul_add] at *
  omega
end Go.Proofs.YtkfbfgcflnkllaaGreatDoor
namespace Go.Proofs.YtkfbfgcflnkllaaGreatDoor
open Go Go.Eng Nim
set_option maxRecDepth 100000
set_option maxHeartbeats 8000000
theorem rmarks_of (lf m : Nat) (hlf : 2000 ≤ lf) (n : Nat) (hn : n ≤ 10) (l : List Nat) (hl : l.length ≤ 1024) (hb : ∀ x ∈ l, x < 2 ^ n) (v : Value) (h : Hp) (hv : Rds h v (l.map J)) :
    ∃ v' h', Ev lf (m + 1) 81 [J n, v] h = some (v', h') ∧ ∃ b, v' = .slice (some ⟨b, 0, none⟩) (2 ^ n) (2 * 2 ^ n) ∧ Sto h h' [(b, .cells (cellsF (2 ^ n) fun k => .bool (decide (k ∈ l))) 4 false)] := by
  refine fnS_ok (Q := fun v' h' => ∃ b, v' = .slice (some ⟨b, 0, none⟩) (2 ^ n) (2 * 2 ^ n) ∧ Sto h h' [(b, .cells (cellsF (2 ^ n) fun k => .bool (decide (k ∈ l))) 4 false)]) ?_
  have hsh := one_shl n (by omega)
  have h2n : 2 ^ n ≤ 1024 := Nat.pow_le_pow_right (by decide) hn
  obtain ⟨va, vc, hvs⟩ := hv.shape
  rw [List.length_map] at hvs
  subst hvs
  have W := Sto.start h
  refine ok_go 2 ?_
  refine sy_call 0 (r := makeSliceOp Tryz.prog h 37 (I (IntKind.i64.wrap (1 * 2 ^ min (IntKind.u64.wrap (Int.ofNat n)).toNat IntKind.i64.bits))) (I (IntKind.i64.wrap (1 * 2 ^ min (IntKind.u64.wrap (Int.ofNat n)).toNat IntKind.i64.bits)))) (by kernel_rfl) (by rw [hsh]; exact mkB (2 ^ n) h2n h) ?_
  have W := W.new (.cells (cellsF (2 ^ n) fun _ => .bool false) 4 false)
  generalize h.new (.cells (cellsF (2 ^ n) fun _ => .bool false) 4 false) = h1 at *
  refine ok_go 0 ?_
  refine sy_loop 0 lf h1 (α := Nat) (fun i => [(1, .slice va l.length vc), (5, .slice (some ⟨h.next, 0, none⟩) (2 ^ n) (2 * 2 ^ n)), (6, J i)]) (fun i g => i ≤ l.length ∧ Sto h g [(h.next, .cells (cellsF (2 ^ n) fun k => .bool (decide (k ∈ l.take i))) 4 false)]) (fun i _ => l.length - i) 0 (by kernel_rfl) (by kernel_rfl)
    ⟨by kernel_rfl, by kernel_rfl, by kernel_rfl, trivial⟩ (show l.length - 0 < lf by omega) ⟨Nat.zero_le _, by simpa using W⟩ ?_
  clear W
  rintro m1 i F1 g ⟨hi, W⟩ ih
  have hw : IntKind.wrap .i64 (Int.ofNat (i + 1)) = Int.ofNat (i + 1) := wrap_nat (by omega)
  refine ok_go 2 ?_
  refine sy_test 0 (decide (Int.ofNat i < Int.ofNat l.length)) (by kernel_rfl) ?_ ?_
  · intro hlt
    have hlt : i < l.length := ok_nat hlt
    have hx : l[i]? = some l[i] := List.getElem?_eq_getElem hlt
    have hxb := hb _ (List.mem_of_getElem? hx)
    obtain ⟨p, hp1, hp2⟩ := rdN (hv.ext W.ext) hlt
    generalize hxe : l[i] = x at *
    refine ok_go 0 ?_
    refine sy_load 0 (r := indexAddrOp Tryz.prog 28 (.slice va l.length vc) (J i)) (h' := g) (by kernel_rfl) hp1 ?_
    refine ok_go 0 ?_
    refine sy_load 0 (r := loadT Tryz.prog g 3 p) (h' := g) (by kernel_rfl) hp2 ?_
    refine ok_go 0 ?_
    refine sy_load 0 (r := indexAddrOp Tryz.prog 37 (.slice (some ⟨h.next, 0, none⟩) (2 ^ n) (2 * 2 ^ n)) (J x)) (h' := g) (v := ptr h.next x) (by kernel_rfl) (idxS0 (e := 4) (by kernel_rfl) zB hxb) ?_
    refine ok_go 0 ?_
    refine ow_storeF (P := Tryz.prog) (T := 4) (v := .bool true) 0 0 W rfl hxb zB rfl (by kernel_rfl) fun g2 ng2 W => ?_
    rw [mk97_set] at W
    have W : Sto h g2 [(h.next, .cells (cellsF (2 ^ n) fun k => .bool (decide (k ∈ l.take (i + 1)))) 4 false)] := by
      rw [show (fun k => Value.bool (decide (k ∈ l.take (i + 1)))) = fun k => .bool (if k = x then true else decide (k ∈ l.take i)) from by
        funext k
        rw [List.take_succ_eq_append_getElem hlt, hxe]
        by_cases hk : k = x
        · simp [hk]
        · simp [hk]]
      exact W
    refine ok_go 1 ?_
    exact sy_next 0 _ g2 (by kernel_rfl) (by kernel_rfl) (ih (i + 1) _ g2 ⟨hlt, W⟩ (show l.length - (i + 1) < l.length - i by omega) ⟨by kernel_rfl, by kernel_rfl, (by kernel_rfl : _ = Value.int .i64 (IntKind.wrap .i64 (Int.ofNat (i + 1)))).trans (by rw [hw]), trivial⟩)
  · intro hlt
    have hlt : i = l.length := Nat.le_antisymm hi (no_nat hlt)
    subst hlt
    rw [List.take_length] at W
    refine ok_go 0 ?_
    exact sy_done 0 (v := .slice (some ⟨h.next, 0, none⟩) (2 ^ n) (2 * 2 ^ n)) (h := g) (by kernel_rfl) ⟨h.next, rfl, W⟩
/-- A set without one of its bits. -/
def clr (s i : Nat) : Nat := if s.testBit i then s ^^^ 2 ^ i else s
def trP (l : List Nat) (i s : Nat) : Nat := if clr s i ∈ l then s else clr s i
theorem andn_nat {x i : Nat} (hx : x < 2 ^ 62) (hi : i < 62) : (BitVec.ofInt 64 (Int.ofNat x) &&& ~~~BitVec.ofInt 64 (Int.ofNat (2 ^ i))).toNat = clr x i := by
  have h2 : 2 ^ i < 2 ^ 62 := Nat.pow_lt_pow_right (by decide) hi
  rw [Nim.ofInt_nat, Nim.ofInt_nat, BitVec.toNat_and, BitVec.toNat_not, BitVec.toNat_ofNat, BitVec.toNat_ofNat, Nat.mod_eq_of_lt (show x < 2 ^ 64 by omega), Nat.mod_eq_of_lt (show 2 ^ i < 2 ^ 64 by omega)]
  apply Nat.eq_of_testBit_eq
  intro j
  rw [Nat.testBit_and, show 2 ^ 64 - 1 - 2 ^ i = 2 ^ 64 - (2 ^ i + 1) by omega, Nat.testBit_two_pow_sub_succ (by omega), Nat.testBit_two_pow]
  have hj : j < 64 ∨ x.testBit j = false := by
    by_cases h : j < 64
    · exact .inl h
    · exact .inr (Nat.testBit_lt_two_pow (Nat.lt_of_lt_of_le (show x < 2 ^ 62 from hx) (Nat.pow_le_pow_right (by decide) (by omega))))
  unfold clr
  by_cases hij : i = j
  · subst hij
    cases ht : x.testBit i with
    | true => simp [Nat.testBit_xor, Nat.testBit_two_pow, ht]
    | false => simp [ht]
  · rcases hj with hj | hj
    · cases ht : x.testBit i <;> simp [Nat.testBit_xor, Nat.testBit_two_pow, hij, hj]
    · cases ht : x.testBit i <;> simp [Nat.testBit_xor, Nat.testBit_two_pow, hij, hj]
theorem clr_lt {s i n : Nat} (hs : s < 2 ^ n) (hi : i < n) : clr s i < 2 ^ n := by
  unfold clr
  split
  · exact Nat.xor_lt_two_pow hs (Nat.pow_lt_pow_right (by decide) hi)
  · exact hs
def anI (x i : Nat) : Int := IntKind.i64.wrap (Int.ofNat (BitVec.ofInt IntKind.i64.bits (Int.ofNat x) &&& ~~~BitVec.ofInt IntKind.i64.bits (IntKind.i64.wrap (1 * 2 ^ min (IntKind.u64.wrap (Int.ofNat i)).toNat IntKind.i64.bits))).toNat)
theorem an_of {x i n : Nat} (hn : n ≤ 10) (hx : x < 2 ^ n) (hi : i < n) : anI x i = Int.ofNat (clr x i) := by
  have h2n : 2 ^ n ≤ 1024 := Nat.pow_le_pow_right (by decide) hn
  unfold anI
  rw [one_shl i (by omega)]
  have h := andn_nat (x := x) (i := i) (by omega) (by omega)
  have h3 := clr_lt hx hi
  show IntKind.i64.wrap (Int.ofNat (BitVec.ofInt 64 (Int.ofNat x) &&& ~~~BitVec.ofInt 64 (Int.ofNat (2 ^ i))).toNat) = _
  rw [h]
  exact wrap_nat (by omega)
theorem rpress_of (lf m : Nat) (hlf : 2000 ≤ lf) (n : Nat) (hn : n ≤ 10) (f : Nat → Bool) (i : Nat) (hi : i < n) (v : Value) (h : Hp) (hv : Rds h v ((lst f (2 ^ n)).map J)) :
    ∃ v' h', Ev lf (m + 2) 39 [J n, v, J i] h = some (v', h') ∧ ∃ q, v' = oslV q (lst (fun j => decide (j ∈ (lst f (2 ^ n)).map (trP (lst f (2 ^ n)) i))) (2 ^ n)).length ∧ Sto h h' (oent q 3 ((lst (fun j => decide (j ∈ (lst f (2 ^ n)).map (trP (lst f (2 ^ n)) i))) (2 ^ n)).map J)) := by
  refine fnS_ok (Q := fun v' h' => ∃ q, v' = oslV q (lst (fun j => decide (j ∈ (lst f (2 ^ n)).map (trP (lst f (2 ^ n)) i))) (2 ^ n)).length ∧ Sto h h' (oent q 3 ((lst (fun j => decide (j ∈ (lst f (2 ^ n)).map (trP (lst f (2 ^ n)) i))) (2 ^ n)).map J))) ?_
  have hshi := one_shl i (by omega)
  have h2n : 2 ^ n ≤ 1024 := Nat.pow_le_pow_right (by decide) hn
  have h2i : 2 ^ i < 2 ^ n := Nat.pow_lt_pow_right (by decide) hi
  have hlm : ∀ x ∈ lst f (2 ^ n), x < 2 ^ n := fun x hx => (lst_mem.1 hx).1
  have hll := lst_len f (2 ^ n)
  generalize lst f (2 ^ n) = l at *
  obtain ⟨v1, h1, e1, b, rfl, W⟩ := rmarks_of lf m hlf n hn l (by omega) hlm v h hv
  obtain ⟨va, vc, hvs⟩ := hv.shape
  rw [List.length_map] at hvs
  subst hvs
  refine ok_go 0 ?_
  refine sy_call 0 (by kernel_rfl) e1 ?_
  refine ok_go 1 ?_
  refine sy_call 0 (r := makeSliceOp Tryz.prog h1 37 (J (2 ^ n)) (J (2 ^ n))) (by kernel_rfl) (mkB (2 ^ n) h2n h1) ?_
  have W := W.new (.cells (cellsF (2 ^ n) fun _ => .bool false) 4 false)
  generalize h1.new (.cells (cellsF (2 ^ n) fun _ => .bool false) 4 false) = h2 at *
  generalize h1.next = c at *
  refine ok_go 0 ?_
  refine sy_loop 0 lf h2 (α := Nat) (fun k => [(1, .slice va l.length vc), (2, J i), (7, .slice (some ⟨b, 0, none⟩) (2 ^ n) (2 * 2 ^ n)), (8, .slice (some ⟨c, 0, none⟩) (2 ^ n) (2 * 2 ^ n)), (9, J k)]) (fun k g => k ≤ l.length ∧ Sto h g [(c, .cells (cellsF (2 ^ n) fun j => .bool (decide (j ∈ (l.take k).map (trP l i)))) 4 false), (b, .cells (cellsF (2 ^ n) fun k => .bool (decide (k ∈ l))) 4 false)]) (fun k _ => l.length - k) 0 (by kernel_rfl) (by kernel_rfl)
    ⟨by kernel_rfl, by kernel_rfl, by kernel_rfl, by kernel_rfl, by kernel_rfl, trivial⟩ (show l.length - 0 < lf by omega) ⟨Nat.zero_le _, by simpa using W⟩ ?_
  clear W e1
  rintro m1 k F1 g ⟨hk, W⟩ ih
  have hw : IntKind.wrap .i64 (Int.ofNat (k + 1)) = Int.ofNat (k + 1) := wrap_nat (by omega)
  refine ok_go 2 ?_
  refine sy_test 0 (decide (Int.ofNat k < Int.ofNat l.length)) (by kernel_rfl) ?_ ?_
  · intro hlt
    have hlt : k < l.length := ok_nat hlt
    have hx : l[k]? = some l[k] := List.getElem?_eq_getElem hlt
    have hxb := hlm _ (List.mem_of_getElem? hx)
    obtain ⟨p, hp1, hp2⟩ := rdN (hv.ext W.ext) hlt
    generalize hxe : l[k] = x at *
    refine ok_go 0 ?_
    refine sy_load 0 (r := indexAddrOp Tryz.prog 28 (.slice va l.length vc) (J k)) (h' := g) (by kernel_rfl) hp1 ?_
    refine ok_go 0 ?_
    refine sy_load 0 (r := loadT Tryz.prog g 3 p) (h' := g) (by kernel_rfl) hp2 ?_
    refine ok_go 3 ?_
    have hX := an_of hn hxb hi
    have hcb := clr_lt hxb hi
    refine sy_load 0 (r := indexAddrOp Tryz.prog 37 (.slice (some ⟨b, 0, none⟩) (2 ^ n) (2 * 2 ^ n)) (I (anI x i))) (h' := g) (v := ptr b (clr x i)) (by kernel_rfl) (by rw [hX]; exact idxS0 (e := 4) (by kernel_rfl) zB hcb) ?_
    refine ok_go 0 ?_
    refine ow_loadF (P := Tryz.prog) (T := 4) 0 1 W rfl hcb agB (by kernel_rfl) ?_
    by_cases hm : clr x i ∈ l
    · refine sy_yes 0 (b := decide (clr x i ∈ l)) (by kernel_rfl) (decide_eq_true hm) ?_
      refine ok_go 0 ?_
      refine sy_load 0 (r := indexAddrOp Tryz.prog 28 (.slice va l.length vc) (J k)) (h' := g) (by kernel_rfl) hp1 ?_
      refine ok_go 0 ?_
      refine sy_load 0 (r := loadT Tryz.prog g 3 p) (h' := g) (by kernel_rfl) hp2 ?_
      refine ok_go 0 ?_
      refine sy_load 0 (r := indexAddrOp Tryz.prog 37 (.slice (some ⟨c, 0, none⟩) (2 ^ n) (2 * 2 ^ n)) (J x)) (h' := g) (v := ptr c x) (by kernel_rfl) (idxS0 (e := 4) (by kernel_rfl) zB hxb) ?_
      refine ok_go 0 ?_
      refine ow_storeF (P := Tryz.prog) (T := 4) (v := .bool true) 0 0 W rfl hxb zB rfl (by kernel_rfl) fun g2 ng2 W => ?_
      rw [mk97_set] at W
      have W : Sto h g2 [(c, .cells (cellsF (2 ^ n) fun j => .bool (decide (j ∈ (l.take (k + 1)).map (trP l i)))) 4 false), (b, .cells (cellsF (2 ^ n) fun k => .bool (decide (k ∈ l))) 4 false)] := by
        rw [show (fun j => Value.bool (decide (j ∈ (l.take (k + 1)).map (trP l i)))) = fun j => .bool (if j = x then true else decide (j ∈ (l.take k).map (trP l i))) from by
          funext j
          rw [List.take_succ_eq_append_getElem hlt, List.map_append, hxe, List.map_singleton, show trP l i x = x from if_pos hm]
          by_cases hk : j = x
          · rw [if_pos hk, decide_eq_true (List.mem_append_right _ (List.mem_singleton.2 hk))]
          · rw [if_neg hk, show decide (j ∈ (l.take k).map (trP l i) ++ [x]) = decide (j ∈ (l.take k).map (trP l i)) from decide_eq_decide.2 (by rw [List.mem_append, List.mem_singleton]; exact ⟨fun h => h.resolve_right hk, .inl⟩)]]
        exact W
      refine ok_go 1 ?_
      exact sy_next 0 _ g2 (by kernel_rfl) (by kernel_rfl) (ih (k + 1) _ g2 ⟨hlt, W⟩ (show l.length - (k + 1) < l.length - k by omega) ⟨by kernel_rfl, by kernel_rfl, by kernel_rfl, by kernel_rfl, (by kernel_rfl : _ = Value.int .i64 (IntKind.wrap .i64 (Int.ofNat (k + 1)))).trans (by rw [hw]), trivial⟩)
    · refine sy_no 0 (b := decide (clr x i ∈ l)) (by kernel_rfl) (decide_eq_false hm) ?_
      refine ok_go 0 ?_
      refine sy_load 0 (r := indexAddrOp Tryz.prog 37 (.slice (some ⟨c, 0, none⟩) (2 ^ n) (2 * 2 ^ n)) (I (anI x i))) (h' := g) (v := ptr c (clr x i)) (by kernel_rfl) (by rw [hX]; exact idxS0 (e := 4) (by kernel_rfl) zB hcb) ?_
      refine ok_go 0 ?_
      refine ow_storeF (P := Tryz.prog) (T := 4) (v := .bool true) 0 0 W rfl hcb zB rfl (by kernel_rfl) fun g2 ng2 W => ?_
      rw [mk97_set] at W
      have W : Sto h g2 [(c, .cells (cellsF (2 ^ n) fun j => .bool (decide (j ∈ (l.take (k + 1)).map (trP l i)))) 4 false), (b, .cells (cellsF (2 ^ n) fun k => .bool (decide (k ∈ l))) 4 false)] := by
        rw [show (fun j => Value.bool (decide (j ∈ (l.take (k + 1)).map (trP l i)))) = fun j => .bool (if j = clr x i then true else decide (j ∈ (l.take k).map (trP l i))) from by
          funext j
          rw [List.take_succ_eq_append_getElem hlt, List.map_append, hxe, List.map_singleton, show trP l i x = clr x i from if_neg hm]
          by_cases hk : j = clr x i
          · rw [if_pos hk, decide_eq_true (List.mem_append_right _ (List.mem_singleton.2 hk))]
          · rw [if_neg hk, show decide (j ∈ (l.take k).map (trP l i) ++ [clr x i]) = decide (j ∈ (l.take k).map (trP l i)) from decide_eq_decide.2 (by rw [List.mem_append, List.mem_singleton]; exact ⟨fun h => h.resolve_right hk, .inl⟩)]]
        exact W
      refine ok_go 1 ?_
      exact sy_next 0 _ g2 (by kernel_rfl) (by kernel_rfl) (ih (k + 1) _ g2 ⟨hlt, W⟩ (show l.length - (k + 1) < l.length - k by omega) ⟨by kernel_rfl, by kernel_rfl, by kernel_rfl, by kernel_rfl, (by kernel_rfl : _ = Value.int .i64 (IntKind.wrap .i64 (Int.ofNat (k + 1)))).trans (by rw [hw]), trivial⟩)
  · intro hlt
    have hlt : k = l.length := Nat.le_antisymm hk (no_nat hlt)
    subst hlt
    rw [List.take_length] at W
    obtain ⟨v4, h4, e4, q, rfl, W4⟩ := rlist_of lf m hlf (fun j => decide (j ∈ l.map (trP l i))) (2 ^ n) h2n (.slice (some ⟨c, 0, none⟩) (2 ^ n) (2 * 2 ^ n)) g (rd_cells (W.lt 0 rfl) (W.get 0 rfl))
    obtain ⟨oa, oc, ho⟩ := osl_shape q (lst (fun j => decide (j ∈ l.map (trP l i))) (2 ^ n)).length
    rw [ho] at e4
    refine ok_go 0 ?_
    refine sy_call 0 (by kernel_rfl) e4 ?_
    refine ok_go 0 ?_
    exact sy_done 0 (v := .slice oa (lst (fun j => decide (j ∈ l.map (trP l i))) (2 ^ n)).length oc) (h := h4) (by kernel_rfl) ⟨q, ho.symm, (W.over W4).sub (List.sublist_append_left ..)⟩
end Go.Proofs.YtkfbfgcflnkllaaGreatDoor
namespace Go.Proofs.YtkfbfgcflnkllaaGreatDoor
open Go Go.Eng Nim
set_option maxRecDepth 100000
set_option maxHeartbeats 8000000
def pst (i s : Nat) (M : Nat → Bool) : Nat → Bool := if s.testBit i = true ∧ M s = true ∧ M (clr s i) = false then fun j => if j = clr s i then true else if j = s then false else M j else M
def prn (i : Nat) (f : Nat → Bool) : Nat → Nat → Bool
  | 0 => f
  | s + 1 => pst i s (prn i f s)
theorem press_of (lf m : Nat) (hlf : 2000 ≤ lf) (n : Nat) (hn : n ≤ 10) (f : Nat → Bool) (i : Nat) (hi : i < n) (b : Nat) (l : List (Nat × AObj)) (h0 h : Hp) (W : Sto h0 h ((b, .cells (mk97 f) 97 false) :: l)) :
    ∃ v' h', Ev lf (m + 1) 80 [ptr b 0, J n, J i] h = some (v', h') ∧ (∃ c, v' = .bool c) ∧ Sto h0 h' ((b, .cells (mk97 (prn i f (2 ^ n))) 97 false) :: l) := by
  refine fnS_ok (Q := fun v' h' => (∃ c, v' = .bool c) ∧ Sto h0 h' ((b, .cells (mk97 (prn i f (2 ^ n))) 97 false) :: l)) ?_
  have hsh := one_shl n (by omega)
  have hshi := one_shl i (by omega)
  have h2n : 2 ^ n ≤ 1024 := Nat.pow_le_pow_right (by decide) hn
  have h2i : 2 ^ i < 2 ^ n := Nat.pow_lt_pow_right (by decide) hi
  refine ok_go 4 ?_
  refine sy_loop 0 lf h (α := Nat × Bool) (fun x => [(0, ptr b 0), (7, .bool x.2), (8, I (IntKind.i64.wrap (1 * 2 ^ min (IntKind.u64.wrap (Int.ofNat i)).toNat IntKind.i64.bits))), (15, I (IntKind.i64.wrap (1 * 2 ^ min (IntKind.u64.wrap (Int.ofNat n)).toNat IntKind.i64.bits))), (16, J x.1)]) (fun x g => x.1 ≤ 2 ^ n ∧ Sto h0 g ((b, .cells (mk97 (prn i f x.1)) 97 false) :: l)) (fun x _ => 2 ^ n - x.1) (0, false) (by kernel_rfl) (by kernel_rfl)
    ⟨by kernel_rfl, by kernel_rfl, by kernel_rfl, by kernel_rfl, by kernel_rfl, trivial⟩ (show 2 ^ n - 0 < lf by omega) ⟨Nat.zero_le _, W⟩ ?_
  clear W
  rintro m1 ⟨s, ch⟩ F1 g ⟨hs, W⟩ ih
  dsimp only at hs W
  have hw : IntKind.wrap .i64 (Int.ofNat (s + 1)) = Int.ofNat (s + 1) := wrap_nat (by omega)
  refine ok_go 1 ?_
  refine sy_test 0 (decide (Int.ofNat s < IntKind.i64.wrap (1 * 2 ^ min (IntKind.u64.wrap (Int.ofNat n)).toNat IntKind.i64.bits))) (by kernel_rfl) ?_ ?_
  · intro hlt
    rw [hsh] at hlt
    have hlt : s < 2 ^ n := ok_nat hlt
    have han : andI (Int.ofNat s) (IntKind.i64.wrap (1 * 2 ^ min (IntKind.u64.wrap (Int.ofNat i)).toNat IntKind.i64.bits)) = Int.ofNat (s &&& 2 ^ i) := by rw [hshi]; exact and_nat (by omega)
    have hX := an_of hn hlt hi
    have hcb := clr_lt hlt hi
    have hs10 : s < 1024 := by omega
    have hc10 : clr s i < 1024 := by omega
    have hst : prn i f (s + 1) = pst i s (prn i f s) := rfl
    generalize prn i f s = M at *
    have hno : ¬ (s.testBit i = true ∧ M s = true ∧ M (clr s i) = false) → Sto h0 g ((b, .cells (mk97 (prn i f (s + 1))) 97 false) :: l) := fun hc => by
      rw [hst]
      unfold pst
      rw [if_neg hc]
      exact W
    refine ok_go 2 ?_
    by_cases hz : s &&& 2 ^ i = 0
    · have hb := (and_bit s i).1 hz
      refine sy_no 0 (b := andI (Int.ofNat s) (IntKind.i64.wrap (1 * 2 ^ min (IntKind.u64.wrap (Int.ofNat i)).toNat IntKind.i64.bits)) != 0) (by kernel_rfl) (by rw [han, hz]; rfl) ?_
      have W := hno fun h => by rw [hb] at h; cases h.1
      refine ok_go 16 ?_
      exact sy_next 0 _ g (by kernel_rfl) (by kernel_rfl) (ih (s + 1, ch) _ g ⟨hlt, W⟩ (show 2 ^ n - (s + 1) < 2 ^ n - s by omega) ⟨by kernel_rfl, by kernel_rfl, by kernel_rfl, by kernel_rfl, (by kernel_rfl : _ = Value.int .i64 (IntKind.wrap .i64 (Int.ofNat (s + 1)))).trans (by rw [hw]), trivial⟩)
    · have hb : s.testBit i = true := by
        cases h : s.testBit i with
        | true => rfl
        | false => exact absurd ((and_bit s i).2 h) hz
      refine sy_yes 0 (b := andI (Int.ofNat s) (IntKind.i64.wrap (1 * 2 ^ min (IntKind.u64.wrap (Int.ofNat i)).toNat IntKind.i64.bits)) != 0) (by kernel_rfl) (by rw [han]; exact bne_iff_ne.2 fun h => hz (Int.ofNat.inj h)) ?_
      refine ok_go 4 ?_
      refine sy_load 0 (r := indexAddrOp Tryz.prog 97 (ptr b 0) (J s)) (h' := g) (v := ptr b s) (by kernel_rfl) (idxM hs10) ?_
      refine ok_go 1 ?_
      refine ow_loadF (P := Tryz.prog) (T := 4) 0 0 W rfl hs10 agB (by kernel_rfl) ?_
      refine ok_go 1 ?_
      cases hf : M s with
      | false =>
        have W := hno fun h => by rw [hf] at h; cases h.2.1
        refine ok_go 11 ?_
        exact sy_next 0 _ g (by kernel_rfl) (by kernel_rfl) (ih (s + 1, ch) _ g ⟨hlt, W⟩ (show 2 ^ n - (s + 1) < 2 ^ n - s by omega) ⟨by kernel_rfl, by kernel_rfl, by kernel_rfl, by kernel_rfl, (by kernel_rfl : _ = Value.int .i64 (IntKind.wrap .i64 (Int.ofNat (s + 1)))).trans (by rw [hw]), trivial⟩)
      | true =>
        refine ok_go 8 ?_
        refine sy_load 0 (r := indexAddrOp Tryz.prog 97 (ptr b 0) (I (anI s i))) (h' := g) (v := ptr b (clr s i)) (by kernel_rfl) (by rw [hX]; exact idxM hc10) ?_
        refine ok_go 1 ?_
        refine ow_loadF (P := Tryz.prog) (T := 4) 0 0 W rfl hc10 agB (by kernel_rfl) ?_
        refine ok_go 3 ?_
        cases hg : M (clr s i) with
        | true =>
          have W := hno fun h => by rw [hg] at h; cases h.2.2
          refine ok_go 2 ?_
          exact sy_next 0 _ g (by kernel_rfl) (by kernel_rfl) (ih (s + 1, ch) _ g ⟨hlt, W⟩ (show 2 ^ n - (s + 1) < 2 ^ n - s by omega) ⟨by kernel_rfl, by kernel_rfl, by kernel_rfl, by kernel_rfl, (by kernel_rfl : _ = Value.int .i64 (IntKind.wrap .i64 (Int.ofNat (s + 1)))).trans (by rw [hw]), trivial⟩)
        | false =>
          refine ok_go 3 ?_
          refine sy_load 0 (r := indexAddrOp Tryz.prog 97 (ptr b 0) (J s)) (h' := g) (v := ptr b s) (by kernel_rfl) (idxM hs10) ?_
          refine ok_go 0 ?_
          refine ow_storeF (P := Tryz.prog) (T := 4) (v := .bool false) 0 0 W rfl hs10 zB rfl (by kernel_rfl) fun g2 ng2 W => ?_
          rw [mk97_set] at W
          refine ok_go 1 ?_
          refine sy_load 0 (r := indexAddrOp Tryz.prog 97 (ptr b 0) (I (anI s i))) (h' := g2) (v := ptr b (clr s i)) (by kernel_rfl) (by rw [hX]; exact idxM hc10) ?_
          refine ok_go 0 ?_
          refine ow_storeF (P := Tryz.prog) (T := 4) (v := .bool true) 0 0 W rfl hc10 zB rfl (by kernel_rfl) fun g3 ng3 W => ?_
          rw [mk97_set] at W
          have W : Sto h0 g3 ((b, .cells (mk97 (prn i f (s + 1))) 97 false) :: l) := by
            rw [hst]
            unfold pst
            rw [if_pos ⟨hb, hf, hg⟩]
            exact W
          refine ok_go 1 ?_
          exact sy_next 0 _ g3 (by kernel_rfl) (by kernel_rfl) (ih (s + 1, true) _ g3 ⟨hlt, W⟩ (show 2 ^ n - (s + 1) < 2 ^ n - s by omega) ⟨by kernel_rfl, by kernel_rfl, by kernel_rfl, by kernel_rfl, (by kernel_rfl : _ = Value.int .i64 (IntKind.wrap .i64 (Int.ofNat (s + 1)))).trans (by rw [hw]), trivial⟩)
  · intro hlt
    rw [hsh] at hlt
    have hse : s = 2 ^ n := Nat.le_antisymm hs (no_nat hlt)
    subst hse
    refine ok_go 0 ?_
    exact sy_done 0 (v := .bool ch) (h := g) (by kernel_rfl) ⟨⟨ch, rfl⟩, W⟩
end Go.Proofs.YtkfbfgcflnkllaaGreatDoor
namespace Go.Proofs.YtkfbfgcflnkllaaGreatDoor
open Go Go.Eng Nim
set_option maxRecDepth 100000
set_option maxHeartbeats 8000000
theorem press_bad (lf m : Nat) (hlf : 2000 ≤ lf) (n : Nat) (hn : n ≤ 10) (z : Int) (hz : z < 0 ∨ z ≥ Int.ofNat n) (f : Nat → Bool) (v : Value) (h : Hp) (hv : Rds h v ((lst f (2 ^ n)).map J)) :
    Ev lf (m + 2) 38 [J n, v, I z] h = some (.tuple #[.slice none 0 0, J 1], h) := by
  refine fn_eq ?_
  have e1 := chk_lst lf m hlf n hn f v h hv
  obtain ⟨va, vc, hvs⟩ := hv.shape
  rw [List.length_map] at hvs
  subst hvs
  generalize lst f (2 ^ n) = l at *
  refine ok_go 0 ?_
  refine sy_call 0 (by kernel_rfl) e1 ?_
  refine ok_go 3 ?_
  by_cases h0 : z < 0
  · refine sy_yes 0 (b := decide (z < 0)) (by kernel_rfl) (decide_eq_true h0) ?_
    refine ok_go 4 ?_
    exact sy_done 0 (v := .tuple #[.slice none 0 0, J 1]) (h := h) (by kernel_rfl) ⟨rfl, rfl⟩
  · refine sy_no 0 (b := decide (z < 0)) (by kernel_rfl) (decide_eq_false h0) ?_
    refine ok_go 4 ?_
    refine sy_yes 0 (b := decide (z ≥ Int.ofNat n)) (by kernel_rfl) (decide_eq_true (hz.resolve_left h0)) ?_
    refine ok_go 0 ?_
    exact sy_done 0 (v := .tuple #[.slice none 0 0, J 1]) (h := h) (by kernel_rfl) ⟨rfl, rfl⟩
theorem press_ok (lf m : Nat) (hlf : 2000 ≤ lf) (n : Nat) (hn : n ≤ 10) (i : Nat) (hi : i < n) (f : Nat → Bool) (v : Value) (h : Hp) (hv : Rds h v ((lst f (2 ^ n)).map J)) :
    ∃ v' h', Ev lf (m + 2) 38 [J n, v, J i] h = some (v', h') ∧ ∃ q, v' = .tuple #[oslV q (lst (prn i (fun k => decide (k ∈ lst f (2 ^ n))) (2 ^ n)) 1024).length, J 0] ∧ Sto h h' (oent q 3 ((lst (prn i (fun k => decide (k ∈ lst f (2 ^ n))) (2 ^ n)) 1024).map J)) := by
  refine fnS_ok (Q := fun v' h' => ∃ q, v' = .tuple #[oslV q (lst (prn i (fun k => decide (k ∈ lst f (2 ^ n))) (2 ^ n)) 1024).length, J 0] ∧ Sto h h' (oent q 3 ((lst (prn i (fun k => decide (k ∈ lst f (2 ^ n))) (2 ^ n)) 1024).map J))) ?_
  have h2n : 2 ^ n ≤ 1024 := Nat.pow_le_pow_right (by decide) hn
  have hll := lst_len f (2 ^ n)
  have e1 := chk_lst lf m hlf n hn f v h hv
  obtain ⟨_, h1, e2, rfl, X1⟩ := marked_of lf m hlf (lst f (2 ^ n)) (by omega) (fun x hx => by have := (lst_mem.1 hx).1; omega) v h hv
  obtain ⟨va, vc, hvs⟩ := hv.shape
  rw [List.length_map] at hvs
  subst hvs
  have W := (Sto.start h).call X1
  generalize hL : lst f (2 ^ n) = L at *
  generalize hF : (fun i => decide (i ∈ L)) = f at *
  have hMl : (mk97 f).length = 1024 := cellsF_len ..
  refine ok_go 0 ?_
  refine sy_call 0 (by kernel_rfl) e1 ?_
  refine ok_go 8 ?_
  refine sy_no 0 (b := decide (Int.ofNat i ≥ Int.ofNat n)) (by kernel_rfl) (decide_eq_false (by show ¬ (n : Int) ≤ (i : Int); omega)) ?_
  refine ok_go 0 ?_
  generalize hMM : mk97 f = MM at *
  refine sy_call 0 (by kernel_rfl) e2 ?_
  refine ok_go 0 ?_
  refine ow_new 0 W (.cells (mk97 fun _ => false) 97 false) (fun i => ptr i 0) (by kernel_rfl) fun h2 nh2 W => ?_
  generalize h1.next = b at *
  refine ok_go 0 ?_
  refine ow_storeA (P := Tryz.prog) (T := 97) (v := .agg MM.toArray) 0 0 W MM rfl rfl (by rw [hMl]; exact (cellsF_len ..).symm) (by rw [hMl]; kernel_rfl) (by rw [← hMM]; exact mk97_sc _) (by kernel_rfl) fun h3 nh3 W => ?_
  rw [← hMM] at W
  obtain ⟨_, h4, e3, ⟨c, rfl⟩, W⟩ := press_of lf m hlf n hn f i hi b [] h h3 W
  refine ok_go 0 ?_
  refine sy_call 0 (by kernel_rfl) e3 ?_
  obtain ⟨v4, h5, e4, q, rfl, W4⟩ := list_of lf m hlf (prn i f (2 ^ n)) b false h4 (W.get 0 rfl) (W.all _ List.mem_cons_self).2.1
  obtain ⟨oa, oc, ho⟩ := osl_shape q (lst (prn i f (2 ^ n)) 1024).length
  rw [ho] at e4
  refine ok_go 0 ?_
  refine sy_call 0 (by kernel_rfl) e4 ?_
  refine ok_go 0 ?_
  exact sy_done 0 (v := .tuple #[.slice oa (lst (prn i f (2 ^ n)) 1024).length oc, J 0]) (h := h5) (by kernel_rfl) ⟨q, by rw [ho], (W.over W4).sub (List.sublist_append_left ..)⟩
/-! Plain. -/
def prS (i : Nat) (f : Nat → Bool) (j : Nat) : Bool := if j.testBit i then f j && f (j ^^^ 2 ^ i) else f j || f (j ^^^ 2 ^ i)
theorem prn_at (i : Nat) (f : Nat → Bool) : ∀ s j, prn i f s j = if j.testBit i then f j && (f (j ^^^ 2 ^ i) || !decide (j < s)) else f j || (f (j ^^^ 2 ^ i) && decide (j ^^^ 2 ^ i < s))
  | 0, j => by
    show f j = _
    split <;> simp
  | s + 1, j => by
    show pst i s (prn i f s) j = _
    have ih := prn_at i f s
    unfold pst
    by_cases hb : s.testBit i = true
    · have hc : clr s i = s ^^^ 2 ^ i := by unfold clr; rw [if_pos hb]
      have hcb : (s ^^^ 2 ^ i).testBit i = false := by rw [tb_xs, hb]; rfl
      have hM : prn i f s s = f s := by rw [ih, if_pos hb]; simp
      have hM2 : prn i f s (s ^^^ 2 ^ i) = f (s ^^^ 2 ^ i) := by rw [ih, if_neg (by rw [hcb]; exact Bool.false_ne_true), x_x]; simp
      have hne : s ^^^ 2 ^ i ≠ s := fun e => by rw [e, hb] at hcb; cases hcb
      rw [hc, hM, hM2]
      by_cases hj : j = s
      · subst hj
        rw [if_pos hb]
        by_cases hcc : j.testBit i = true ∧ f j = true ∧ f (j ^^^ 2 ^ i) = false
        · rw [if_pos hcc, if_neg (Ne.symm hne), if_pos rfl, hcc.2.2]; simp
        · rw [if_neg hcc, hM]
          cases hf : f j with
          | false => rfl
          | true =>
            cases hf2 : f (j ^^^ 2 ^ i) with
            | true => rfl
            | false => exact absurd ⟨hb, hf, hf2⟩ hcc
      · by_cases hj2 : j = s ^^^ 2 ^ i
        · have hjb : j.testBit i = false := by rw [hj2]; exact hcb
          have hjx : j ^^^ 2 ^ i = s := by rw [hj2, x_x]
          rw [← hj2]
          simp only [hjb, hjx, Bool.false_eq_true, if_false]
          by_cases hcc : s.testBit i = true ∧ f s = true ∧ f j = false
          · rw [if_pos hcc, if_pos rfl, hcc.2.1]; simp
          · rw [if_neg hcc, ih, if_neg (by rw [hjb]; exact Bool.false_ne_true), hjx]
            cases hf : f s with
            | false => simp
            | true =>
              cases hf2 : f j with
              | true => simp
              | false => exact absurd ⟨hb, hf, hf2⟩ hcc
        · have hR : (if s.testBit i = true ∧ f s = true ∧ f (s ^^^ 2 ^ i) = false then fun j => if j = s ^^^ 2 ^ i then true else if j = s then false else prn i f s j else prn i f s) j = prn i f s j := by
            split
            · show (if j = s ^^^ 2 ^ i then true else if j = s then false else prn i f s j) = _
              rw [if_neg hj2, if_neg hj]
            · rfl
          rw [hR, ih, show decide (j < s + 1) = decide (j < s) from decide_eq_decide.2 (by omega), show decide (j ^^^ 2 ^ i < s + 1) = decide (j ^^^ 2 ^ i < s) from decide_eq_decide.2 (by
            have : j ^^^ 2 ^ i ≠ s := fun e => hj2 (by rw [← e, x_x])
            omega)]
    · rw [if_neg fun h => hb h.1, ih]
      by_cases hjb : j.testBit i = true
      · rw [if_pos hjb, if_pos hjb, show decide (j < s + 1) = decide (j < s) from decide_eq_decide.2 (by
          have : j ≠ s := fun e => hb (e ▸ hjb)
          omega)]
      · rw [if_neg hjb, if_neg hjb, show decide (j ^^^ 2 ^ i < s + 1) = decide (j ^^^ 2 ^ i < s) from decide_eq_decide.2 (by
          have : j ^^^ 2 ^ i ≠ s := fun e => by
            have h2 := tb_xs j i
            rw [e] at h2
            cases h3 : j.testBit i with
            | true => exact hjb h3
            | false => rw [h3] at h2; exact hb h2
          omega)]
end Go.Proofs.YtkfbfgcflnkllaaGreatDoor
namespace Go.Proofs.YtkfbfgcflnkllaaGreatDoor
open Go Go.Eng Nim
set_option maxRecDepth 100000
theorem run_equal_bool {P : Program} {d : Nat} {t : TypeId} {a b : Bool} (hu : P.underlying t = some .bool) : pureRun P (Op.equalIn (d + 1) t (.bool a) (.bool b)) = some (a == b) := by
  unfold Op.equalIn
  simp only [underlying, program, bind, Sem.bind, pureRun, hu, pure]
theorem arr_loop {d : Nat} {xs ys : Array Value} (f g : Nat → Bool) : ∀ (n j : Nat), (∀ i, i < n → xs[j + i]? = some (.bool (f (j + i)))) → (∀ i, i < n → ys[j + i]? = some (.bool (g (j + i)))) →
    pureRun Tryz.prog (forIn (List.range' j n) ((none : Option Bool), ()) fun i __s =>
          (part 4 xs (i * 1)).bind fun __do_lift =>
            (part 4 ys (i * 1)).bind fun __do_lift_1 =>
              (Op.equalIn (d + 1) 4 __do_lift __do_lift_1).bind fun __do_lift =>
                if (!__do_lift) = true then Sem.pure (ForInStep.done (some false, ()))
                else Sem.pure (ForInStep.yield (none, ()))) = some (if ∀ i, i < n → f (j + i) = g (j + i) then (none, ()) else (some false, ()))
  | 0, j, _, _ => by
    rw [if_pos fun i hi => by omega]
    rfl
  | n + 1, j, hx, hy => by
    have hv : xs[j * 1]? = some (.bool (f j)) := by rw [Nat.mul_one]; exact hx 0 (by omega)
    have hw : ys[j * 1]? = some (.bool (g j)) := by rw [Nat.mul_one]; exact hy 0 (by omega)
    rw [List.range'_succ, List.forIn_cons]
    simp only [bind]
    simp only [pureRun_bnd, run_part agB hv, run_part agB hw, run_equal_bool (show Tryz.prog.underlying 4 = some .bool by kernel_rfl), Option.bind_some]
    by_cases hac : f j = g j
    · rw [hac]
      simp only [beq_self_eq_true, Bool.not_true, Bool.false_eq_true, if_false, pureRun, Option.bind_some]
      rw [arr_loop f g n (j + 1) (fun i hi => by have := hx (i + 1) (by omega); rwa [show j + (i + 1) = j + 1 + i by omega] at this) (fun i hi => by have := hy (i + 1) (by omega); rwa [show j + (i + 1) = j + 1 + i by omega] at this)]
      congr 1
      by_cases hall : ∀ i, i < n → f (j + 1 + i) = g (j + 1 + i)
      · rw [if_pos hall, if_pos fun i hi => by
          cases i with
          | zero => exact hac
          | succ i => have := hall i (by omega); rwa [show j + 1 + i = j + (i + 1) by omega] at this]
      · rw [if_neg hall, if_neg fun h => hall fun i hi => by have := h (i + 1) (by omega); rwa [show j + (i + 1) = j + 1 + i by omega] at this]
    · have hb : (f j == g j) = false := beq_eq_false_iff_ne.2 hac
      rw [hb]
      simp only [Bool.not_false, if_true, pureRun, Option.bind_some]
      rw [if_neg fun h => hac (h 0 (by omega))]
      rfl
theorem run_equal_arr (f g : Nat → Bool) (N : Nat) (hN : N = 1024) : pureRun Tryz.prog (Op.equal 97 (.agg (mk97 f).toArray) (.agg (mk97 g).toArray)) = some (if ∀ i, i < N → f i = g i then true else false) := by
  unfold Op.equal
  change pureRun Tryz.prog (Op.equalIn (9998 + 1 + 1) 97 (.agg (mk97 f).toArray) (.agg (mk97 g).toArray)) = _
  unfold Op.equalIn
  simp only [underlying, program, bind, Sem.bind, pureRun, u97, pure]
  have hs : pureRun Tryz.prog (sizeOf 4) = some 1 := by kernel_rfl
  rw [pureRun_bnd, hs]
  simp only [Option.bind_some]
  rw [pureRun_bnd, Std.Legacy.Range.forIn_eq_forIn_range']
  have := arr_loop (d := 9998) (xs := (mk97 f).toArray) (ys := (mk97 g).toArray) f g 1024 0 (fun i hi => by rw [Nat.zero_add, List.getElem?_toArray]; exact cellsF_get hi) (fun i hi => by rw [Nat.zero_add, List.getElem?_toArray]; exact cellsF_get hi)
  simp only [Nat.zero_add] at this
  refine (congrArg (fun o => Option.bind o _) this).trans ?_
  subst hN
  split <;> rfl
def eqB (f g : Nat → Bool) (N : Nat) : Bool := if ∀ i, i < N → f i = g i then true else false
theorem eqB_true {f g : Nat → Bool} {N : Nat} (h : ∀ i, i < N → f i = g i) : eqB f g N = true := if_pos h
theorem eqB_false {f g : Nat → Bool} {N : Nat} (h : ¬ ∀ i, i < N → f i = g i) : eqB f g N = false := if_neg h
theorem neq_arr (f g : Nat → Bool) (N : Nat) (hN : N = 1024) : pureX (binOp .neq 97 (.agg (mk97 f).toArray) (.agg (mk97 g).toArray)) = some (.bool (!eqB f g N)) := by
  refine pureX_of ?_ rfl
  have := run_equal_arr f g N hN
  show pureRun Tryz.prog (do pure (Value.bool (!(← Op.equal 97 (.agg (mk97 f).toArray) (.agg (mk97 g).toArray))))) = _
  rw [pureRun_bind]
  rw [this]
  rfl
end Go.Proofs.YtkfbfgcflnkllaaGreatDoor
namespace Go.Proofs.YtkfbfgcflnkllaaGreatDoor
open Go Go.Eng Nim
set_option maxRecDepth 100000
set_option maxHeartbeats 8000000
def prT (f : Nat → Bool) : Nat → Nat → Bool
  | 0 => f
  | i + 1 => prS i (prT f i)
theorem prn_prS {n i : Nat} (hi : i < n) {f : Nat → Bool} (hf : ∀ j, f j = true → j < 2 ^ n) : prn i f (2 ^ n) = prS i f := by
  funext j
  rw [prn_at]
  unfold prS
  by_cases hj : j < 2 ^ n
  · have := x_lt hj hi
    simp [hj, this]
  · have h1 : f j = false := by
      cases h : f j with
      | false => rfl
      | true => exact absurd (hf j h) hj
    have h2 : f (j ^^^ 2 ^ i) = false := by
      cases h : f (j ^^^ 2 ^ i) with
      | false => rfl
      | true =>
        have := x_lt (hf _ h) hi
        rw [x_x] at this
        exact absurd this hj
    simp [h1, h2]
theorem prS_sup {n i : Nat} (hi : i < n) {f : Nat → Bool} (hf : ∀ j, f j = true → j < 2 ^ n) : ∀ j, prS i f j = true → j < 2 ^ n := fun j hj => by
  unfold prS at hj
  split at hj
  · rw [Bool.and_eq_true] at hj; exact hf j hj.1
  · rw [Bool.or_eq_true] at hj
    rcases hj with h | h
    · exact hf j h
    · have := x_lt (hf _ h) hi
      rwa [x_x] at this
theorem prT_sup {n : Nat} {f : Nat → Bool} (hf : ∀ j, f j = true → j < 2 ^ n) : ∀ i, i ≤ n → ∀ j, prT f i j = true → j < 2 ^ n
  | 0, _ => hf
  | i + 1, hi => prS_sup (by omega) (prT_sup hf i (by omega))
/-- The weight of a family: the sum of its sets as numbers. -/
def wt (f : Nat → Bool) : Nat → Nat
  | 0 => 0
  | n + 1 => wt f n + if f n then n else 0
theorem wt_upd (M : Nat → Bool) (s : Nat) (b : Bool) : ∀ n, s < n → wt (fun j => if j = s then b else M j) n + (if M s then s else 0) = wt M n + if b then s else 0
  | 0, h => by omega
  | n + 1, h => by
    have hc : s = n ∨ s < n := by omega
    rw [wt, wt]
    rcases hc with rfl | hc
    · have : ∀ k, k ≤ s → wt (fun j => if j = s then b else M j) k = wt M k := fun k => by
        induction k with
        | zero => intro _; rfl
        | succ k ih => intro hk; rw [wt, wt, ih (by omega), if_neg (show ¬ k = s by omega)]
      rw [this s (Nat.le_refl _), if_pos rfl]
      omega
    · have ih := wt_upd M s b n hc
      rw [if_neg (show ¬ n = s by omega)]
      omega
theorem wt_le (f : Nat → Bool) : ∀ n, wt f n ≤ n * n
  | 0 => Nat.le_refl _
  | n + 1 => by
    have := wt_le f n
    rw [wt]
    have h2 : (n + 1) * (n + 1) = n * n + n + n + 1 := by rw [Nat.add_mul, Nat.mul_add]; omega
    split <;> omega
theorem clr_less {s i : Nat} (h : s.testBit i = true) : clr s i < s := by
  have hc : clr s i = s ^^^ 2 ^ i := by unfold clr; rw [if_pos h]
  have h1 : (s ^^^ 2 ^ i).testBit i = false := by rw [tb_xs, h]; rfl
  have h2 : s = (s ^^^ 2 ^ i) ||| 2 ^ i := by rw [or_bit h1, x_x]
  have h3 : s ≠ s ^^^ 2 ^ i := fun e => by rw [← e, h] at h1; cases h1
  have h4 : s ^^^ 2 ^ i ≤ (s ^^^ 2 ^ i) ||| 2 ^ i := Nat.left_le_or
  rw [← h2] at h4
  omega
theorem wt_pst {i s n : Nat} (hs : s < n) (M : Nat → Bool) : wt (pst i s M) n < wt M n ∨ pst i s M = M := by
  unfold pst
  split
  · rename_i h
    obtain ⟨h1, h2, h3⟩ := h
    have hlt := clr_less h1
    have e1 := wt_upd M s false n hs
    have e2 := wt_upd (fun j => if j = s then false else M j) (clr s i) true n (Nat.lt_trans hlt hs)
    simp only [h2, if_true, Bool.false_eq_true, if_false, show ¬ clr s i = s from Nat.ne_of_lt hlt, h3] at e1 e2
    left
    omega
  · exact .inr rfl
theorem wt_prn {i n : Nat} (f : Nat → Bool) : ∀ s, s ≤ n → wt (prn i f s) n < wt f n ∨ prn i f s = f
  | 0, _ => .inr rfl
  | s + 1, hs => by
    rcases wt_prn (i := i) f s (Nat.le_of_succ_le hs) with h | h
    · rcases wt_pst (i := i) (show s < n by omega) (prn i f s) with h2 | h2
      · exact .inl (Nat.lt_trans h2 h)
      · left; show wt (pst i s (prn i f s)) n < _; rw [h2]; exact h
    · rcases wt_pst (i := i) (show s < n by omega) (prn i f s) with h2 | h2
      · left; rw [h] at h2; show wt (pst i s (prn i f s)) n < _; rw [h]; exact h2
      · right; show pst i s (prn i f s) = f; rw [h2, h]
theorem wt_prT {n : Nat} {f : Nat → Bool} (hf : ∀ j, f j = true → j < 2 ^ n) : ∀ i, i ≤ n → wt (prT f i) (2 ^ n) < wt f (2 ^ n) ∨ prT f i = f
  | 0, _ => .inr rfl
  | i + 1, hi => by
    have hs := prT_sup hf i (by omega)
    have hp := prn_prS (show i < n by omega) hs
    have h2 := wt_prn (i := i) (prT f i) (2 ^ n) (Nat.le_refl _)
    rw [hp] at h2
    show wt (prS i (prT f i)) _ < _ ∨ prS i (prT f i) = f
    rcases wt_prT hf i (by omega) with h | h
    · rcases h2 with h2 | h2
      · exact .inl (Nat.lt_trans h2 h)
      · rw [h2]; exact .inl h
    · rw [h] at h2 ⊢
      exact h2
end Go.Proofs.YtkfbfgcflnkllaaGreatDoor
namespace Go.Proofs.YtkfbfgcflnkllaaGreatDoor
open Go Go.Eng Nim
set_option maxRecDepth 100000
set_option maxHeartbeats 8000000
def itT (n : Nat) (f : Nat → Bool) : Nat → Nat → Bool
  | 0 => f
  | k + 1 => prT (itT n f k) n
theorem mk97_flat (f : Nat → Bool) : flat (.agg (mk97 f).toArray) = true := by
  show flatL (mk97 f) = true
  unfold mk97 cellsF
  induction List.range 1024 with
  | nil => rfl
  | cons a r ih => rw [List.map_cons]; simp only [flatL, flat, ih, Bool.and_self]
theorem down_of (m : Nat) (n : Nat) (hn : n ≤ 8) (f : Nat → Bool) (v : Value) (h : Hp) (hv : Rds h v ((lst f (2 ^ n)).map J)) :
    ∃ v' h', Ev 100000 (m + 2) 40 [J n, v] h = some (v', h') ∧ ∃ F k q, F = itT n (fun j => decide (j ∈ lst f (2 ^ n))) k ∧ prT F n = F ∧ v' = .tuple #[oslV q (lst F 1024).length, J 0] ∧ Sto h h' (oent q 3 ((lst F 1024).map J)) := by
  refine fnS_ok (Q := fun v' h' => ∃ F k q, F = itT n (fun j => decide (j ∈ lst f (2 ^ n))) k ∧ prT F n = F ∧ v' = .tuple #[oslV q (lst F 1024).length, J 0] ∧ Sto h h' (oent q 3 ((lst F 1024).map J))) ?_
  have h2n : 2 ^ n ≤ 256 := Nat.pow_le_pow_right (by decide) hn
  have hNN : 2 ^ n * 2 ^ n ≤ 256 * 256 := Nat.mul_le_mul h2n h2n
  have hll := lst_len f (2 ^ n)
  have hsup : ∀ j, decide (j ∈ lst f (2 ^ n)) = true → j < 2 ^ n := fun j hj => (lst_mem.1 (of_decide_eq_true hj)).1
  have e1 := chk_lst 100000 m (by decide) n (by omega) f v h hv
  obtain ⟨_, h1, e2, rfl, X1⟩ := marked_of 100000 m (by decide) (lst f (2 ^ n)) (by omega) (fun x hx => by have := (lst_mem.1 hx).1; omega) v h hv
  obtain ⟨va, vc, hvs⟩ := hv.shape
  rw [List.length_map] at hvs
  subst hvs
  have W := (Sto.start h).call X1
  generalize hL : lst f (2 ^ n) = L at *
  generalize hF : (fun i => decide (i ∈ L)) = f at *
  have hMl : (mk97 f).length = 1024 := cellsF_len ..
  have hsup : ∀ j, f j = true → j < 2 ^ n := fun j hj => hsup j (by rw [← hF] at hj; exact hj)
  refine ok_go 0 ?_
  refine sy_call 0 (by kernel_rfl) e1 ?_
  refine ok_go 2 ?_
  obtain ⟨MM, hMM⟩ : ∃ MM, mk97 f = MM := ⟨_, rfl⟩
  rw [hMM] at e2
  refine sy_call 0 (by kernel_rfl) e2 ?_
  refine ok_go 0 ?_
  refine ow_new 0 W (.cells (mk97 fun _ => false) 97 false) (fun i => ptr i 0) (by kernel_rfl) fun h2 nh2 W => ?_
  generalize h1.next = b7 at *
  refine ok_go 0 ?_
  refine ow_storeA (P := Tryz.prog) (T := 97) (v := .agg MM.toArray) 0 0 W MM rfl rfl (by rw [← hMM, hMl]; exact (cellsF_len ..).symm) (by rw [← hMM, hMl]; kernel_rfl) (by rw [← hMM]; exact mk97_sc _) (by kernel_rfl) fun h3 nh3 W => ?_
  rw [← hMM] at W
  have W : Sto h h3 [(b7, .cells (mk97 f) 97 false)] := W
  refine ok_go 1 ?_
  refine ow_loadF (P := Tryz.prog) (T := 4) (off := 0) 0 0 W rfl (by decide) agB (by kernel_rfl) ?_
  obtain ⟨b0, hb0⟩ : ∃ b, f 0 = b := ⟨_, rfl⟩
  rw [hb0]
  obtain ⟨G0, hG0⟩ : ∃ G, mk97 (fun j => bif Nat.beq j 0 then !b0 else false) = G := ⟨_, rfl⟩
  refine ok_go 2 ?_
  refine ow_new 0 W (.cells (mk97 fun _ => false) 97 false) (fun i => ptr i 0) (by kernel_rfl) fun h4 nh4 W => ?_
  generalize h3.next = b8 at *
  refine ok_go 0 ?_
  refine ow_storeA (P := Tryz.prog) (T := 97) (v := .agg (mk97 (fun j => bif Nat.beq j 0 then !b0 else false)).toArray) 0 0 W (mk97 (fun j => bif Nat.beq j 0 then !b0 else false)) rfl rfl (by rw [show (mk97 _).length = 1024 from cellsF_len ..]; exact (cellsF_len ..).symm) (by rw [show (mk97 _).length = 1024 from cellsF_len ..]; kernel_rfl) (mk97_sc _) (by kernel_rfl) fun h5 nh5 W => ?_
  have W : Sto h h5 [(b8, .cells (mk97 (fun j => bif Nat.beq j 0 then !b0 else false)) 97 false), (b7, .cells (mk97 f) 97 false)] := W
  refine ok_go 0 ?_
  refine sy_loop 0 100000 h5 (α := Nat × (Nat → Bool) × (Nat → Bool) × Bool) (fun x => [(0, J n), (7, ptr b7 0), (8, ptr x.1 0)]) (fun x g => (∃ k, x.2.2.1 = itT n f k) ∧ (∀ j, x.2.2.1 j = true → j < 2 ^ n) ∧ (x.2.2.2 = true → x.2.1 0 ≠ x.2.2.1 0) ∧ (x.2.2.2 = false → x.2.2.1 = prT x.2.1 n ∧ ∀ j, x.2.1 j = true → j < 2 ^ n) ∧ Sto h g [(x.1, .cells (mk97 x.2.1) 97 false), (b7, .cells (mk97 x.2.2.1) 97 false)]) (fun x _ => if x.2.2.2 then 2 ^ n * 2 ^ n + 1 else wt x.2.1 (2 ^ n)) (b8, (fun j => bif Nat.beq j 0 then !b0 else false), f, true) (by kernel_rfl) (by kernel_rfl)
    ⟨by kernel_rfl, by kernel_rfl, by kernel_rfl, trivial⟩ (show 2 ^ n * 2 ^ n + 1 < 100000 by omega) ⟨⟨0, rfl⟩, hsup, fun _ => by show (!b0) ≠ f 0; rw [hb0]; cases b0 <;> decide, (fun hh => by cases hh), W⟩ ?_
  clear W e1 e2
  rintro m1 ⟨b8, g8, g7, st⟩ F1 g ⟨⟨k, hk⟩, hs7, hst, hsf, W⟩ ih
  dsimp only at hk hs7 hst hsf W
  have hl8 : (mk97 g8).length = 1024 := cellsF_len ..
  have hl7 : (mk97 g7).length = 1024 := cellsF_len ..
  have ht8 := mk97_take g8
  have ht7 := mk97_take g7
  have hs8c := mk97_sc g8
  have hs7c := mk97_sc g7
  have hneq := neq_arr g8 g7 1024 rfl
  refine ok_go 0 ?_
  refine ow_loadA (P := Tryz.prog) (T := 97) 0 0 W rfl (by kernel_rfl) (by kernel_rfl) ht8 (by kernel_rfl) ?_
  refine ok_go 0 ?_
  refine ow_loadA (P := Tryz.prog) (T := 97) 0 1 W rfl (by kernel_rfl) (by kernel_rfl) ht7 (by kernel_rfl) ?_
  refine ok_go 0 ?_
  refine sy_load 0 (r := pureX (binOp .neq 97 (.agg (mk97 g8).toArray) (.agg (mk97 g7).toArray))) (h' := g) (by kernel_rfl) hneq ?_
  by_cases hall : ∀ i, i < 1024 → g8 i = g7 i
  · refine sy_no 0 (b := !eqB g8 g7 1024) (by kernel_rfl) (by rw [eqB_true hall]; rfl) ?_
    have hstf : st = false := by
      cases st with
      | false => rfl
      | true => exact absurd (hall 0 (by decide)) (hst rfl)
    obtain ⟨q1, q2⟩ := hsf hstf
    have h87 : g8 = g7 := funext fun j => by
      by_cases hj : j < 1024
      · exact hall j hj
      · cases h8 : g8 j with
        | true => have := q2 j h8; omega
        | false =>
          cases h7 : g7 j with
          | true => have := hs7 j h7; omega
          | false => rfl
    rw [h87] at q1
    obtain ⟨v4, h4, e4, q, rfl, W4⟩ := list_of 100000 m (by decide) g7 b7 false g (W.get 1 rfl) (W.lt 1 rfl)
    obtain ⟨oa, oc, ho⟩ := osl_shape q (lst g7 1024).length
    rw [ho] at e4
    refine ok_go 0 ?_
    refine sy_call 0 (by kernel_rfl) e4 ?_
    refine ok_go 0 ?_
    exact sy_done 0 (v := .tuple #[.slice oa (lst g7 1024).length oc, J 0]) (h := h4) (by kernel_rfl) ⟨g7, k, q, hk, q1.symm, by rw [ho], (W.over W4).sub (List.sublist_append_left ..)⟩
  · refine sy_yes 0 (b := !eqB g8 g7 1024) (by kernel_rfl) (by rw [eqB_false hall]; rfl) ?_
    have hdec : wt g7 (2 ^ n) < if st then 2 ^ n * 2 ^ n + 1 else wt g8 (2 ^ n) := by
      cases hs : st with
      | true => rw [if_pos rfl]; have := wt_le g7 (2 ^ n); omega
      | false =>
        rw [if_neg Bool.false_ne_true]
        obtain ⟨q1, q2⟩ := hsf hs
        rcases wt_prT q2 n (Nat.le_refl _) with h | h
        · rw [← q1] at h; exact h
        · rw [← q1] at h
          exact absurd (fun i _ => by rw [h]) hall
    refine ok_go 0 ?_
    obtain ⟨M7, hM7⟩ : ∃ M, mk97 g7 = M := ⟨_, rfl⟩
    rw [hM7] at W hl7 ht7 hs7c
    refine ow_loadA (P := Tryz.prog) (T := 97) 0 1 W rfl (by kernel_rfl) (by kernel_rfl) ht7 (by kernel_rfl) ?_
    refine ok_go 0 ?_
    refine ow_storeA (P := Tryz.prog) (T := 97) (v := .agg M7.toArray) 0 0 W M7 rfl rfl (by rw [hl7, hl8]) (by rw [hl7]; kernel_rfl) hs7c (by kernel_rfl) fun k1 nk1 W => ?_
    have W : Sto h k1 [(b7, .cells (mk97 (prT g7 0)) 97 false), (b8, .cells M7 97 false)] := by
      rw [show mk97 (prT g7 0) = M7 from hM7]
      exact W.perm (List.Perm.swap _ _ _)
    refine ok_go 0 ?_
    refine sy_loop 0 100000 k1 (α := Nat) (fun i => [(0, J n), (7, ptr b7 0), (8, ptr b8 0), (26, J n), (27, J i)]) (fun i g => i ≤ n ∧ Sto h g [(b7, .cells (mk97 (prT g7 i)) 97 false), (b8, .cells M7 97 false)]) (fun i _ => n - i) 0 (by kernel_rfl) (by kernel_rfl)
      ⟨by kernel_rfl, by kernel_rfl, by kernel_rfl, by kernel_rfl, by kernel_rfl, trivial⟩ (show n - 0 < 100000 by omega) ⟨Nat.zero_le _, W⟩ ?_
    clear W
    rintro m2 i F2 k2 ⟨hi, W⟩ ihi
    have hwi : IntKind.wrap .i64 (Int.ofNat (i + 1)) = Int.ofNat (i + 1) := wrap_nat (by omega)
    refine ok_go 1 ?_
    refine sy_test 0 (decide (Int.ofNat i < Int.ofNat n)) (by kernel_rfl) ?_ ?_
    · intro hlt
      have hlt : i < n := ok_nat hlt
      obtain ⟨_, k3, e3, ⟨c, rfl⟩, W⟩ := press_of 100000 m (by decide) n (by omega) (prT g7 i) i hlt b7 _ h k2 W
      rw [prn_prS hlt (prT_sup hs7 i (by omega))] at W
      refine ok_go 0 ?_
      refine sy_call 0 (by kernel_rfl) e3 ?_
      refine ok_go 1 ?_
      exact sy_next 0 _ k3 (by kernel_rfl) (by kernel_rfl) (ihi (i + 1) _ k3 ⟨hlt, W⟩ (show n - (i + 1) < n - i by omega) ⟨by kernel_rfl, by kernel_rfl, by kernel_rfl, by kernel_rfl, (by kernel_rfl : _ = Value.int .i64 (IntKind.wrap .i64 (Int.ofNat (i + 1)))).trans (by rw [hwi]), trivial⟩)
    · intro hlt
      have hlt : i = n := Nat.le_antisymm hi (no_nat hlt)
      subst hlt
      refine ok_go 0 ?_
      refine ow_loadA (P := Tryz.prog) (T := 97) 0 1 W rfl (by kernel_rfl) (by kernel_rfl) ht7 (by kernel_rfl) ?_
      refine ok_go 0 ?_
      refine ow_new 0 W (.cells (mk97 fun _ => false) 97 false) (fun i => ptr i 0) (by kernel_rfl) fun k4 nk4 W => ?_
      generalize k2.next = b9 at *
      refine ok_go 0 ?_
      refine ow_storeA (P := Tryz.prog) (T := 97) (v := .agg M7.toArray) 0 0 W M7 rfl rfl (by rw [hl7]; exact (cellsF_len ..).symm) (by rw [hl7]; kernel_rfl) hs7c (by kernel_rfl) fun k5 nk5 W => ?_
      have W : Sto h k5 [(b9, .cells (mk97 g7) 97 false), (b7, .cells (mk97 (prT g7 i)) 97 false)] := by
        rw [hM7]
        exact W.take 2
      refine ok_go 0 ?_
      exact sy_next 0 _ k5 (by kernel_rfl) (by kernel_rfl) (ih (b9, g7, prT g7 i, false) _ k5 ⟨⟨k + 1, by show prT g7 i = prT (itT i f k) i; rw [← hk]⟩, prT_sup hs7 i (Nat.le_refl _), (fun hh => by cases hh), fun _ => ⟨rfl, hs7⟩, W⟩ (by show wt g7 (2 ^ i) < _; exact hdec) ⟨by kernel_rfl, by kernel_rfl, by kernel_rfl, trivial⟩)
end Go.Proofs.YtkfbfgcflnkllaaGreatDoor
namespace Go.Proofs.YtkfbfgcflnkllaaGreatDoor
open Go Go.Eng Nim
set_option maxRecDepth 100000
set_option maxHeartbeats 8000000
theorem lst_congr {f g : Nat → Bool} {n : Nat} (h : ∀ j, j < n → f j = g j) : lst f n = lst g n := by
  unfold lst
  exact List.filter_congr fun x hx => h x (List.mem_range.1 hx)
theorem rpr_eq {n i : Nat} (hi : i < n) (f : Nat → Bool) : lst (fun j => decide (j ∈ (lst f (2 ^ n)).map (trP (lst f (2 ^ n)) i))) (2 ^ n) = lst (prS i f) (2 ^ n) := by
  refine lst_congr fun j hj => ?_
  have hm : ∀ s, s < 2 ^ n → (clr s i ∈ lst f (2 ^ n) ↔ f (clr s i) = true) := fun s hs => ⟨fun h => (lst_mem.1 h).2, fun h => lst_mem.2 ⟨clr_lt hs hi, h⟩⟩
  have hcj : ∀ s, s.testBit i = true → clr s i = s ^^^ 2 ^ i := fun s h => by unfold clr; rw [if_pos h]
  have hcn : ∀ s, s.testBit i = false → clr s i = s := fun s h => by unfold clr; rw [if_neg (by rw [h]; exact Bool.false_ne_true)]
  have hct : ∀ s, (clr s i).testBit i = false := fun s => by
    cases h : s.testBit i with
    | true => rw [hcj s h, tb_xs, h]; rfl
    | false => rw [hcn s h]; exact h
  rw [Bool.eq_iff_iff, decide_eq_true_eq, List.mem_map]
  unfold prS
  cases hb : j.testBit i with
  | true =>
    rw [if_pos rfl, Bool.and_eq_true]
    constructor
    · rintro ⟨s, hs, ht⟩
      obtain ⟨hs1, hs2⟩ := lst_mem.1 hs
      unfold trP at ht
      split at ht
      · rename_i hc
        subst ht
        have := (hm s hs1).1 hc
        rw [hcj s hb] at this
        exact ⟨hs2, this⟩
      · rw [← ht, hct] at hb; cases hb
    · rintro ⟨h1, h2⟩
      refine ⟨j, lst_mem.2 ⟨hj, h1⟩, ?_⟩
      unfold trP
      rw [if_pos ((hm j hj).2 (by rw [hcj j hb]; exact h2))]
  | false =>
    rw [if_neg Bool.false_ne_true, Bool.or_eq_true]
    constructor
    · rintro ⟨s, hs, ht⟩
      obtain ⟨hs1, hs2⟩ := lst_mem.1 hs
      unfold trP at ht
      split at ht
      · subst ht; exact .inl hs2
      · cases hsb : s.testBit i with
        | true => rw [hcj s hsb] at ht; right; rw [← ht, x_x]; exact hs2
        | false => rw [hcn s hsb] at ht; subst ht; exact .inl hs2
    · intro h
      by_cases hf : f j = true
      · refine ⟨j, lst_mem.2 ⟨hj, hf⟩, ?_⟩
        unfold trP
        rw [if_pos ((hm j hj).2 (by rw [hcn j hb]; exact hf))]
      · have h2 := h.resolve_left hf
        have hx := x_lt hj hi
        have hxb : (j ^^^ 2 ^ i).testBit i = true := by rw [tb_xs, hb]; rfl
        refine ⟨j ^^^ 2 ^ i, lst_mem.2 ⟨hx, h2⟩, ?_⟩
        unfold trP
        rw [if_neg fun h => hf (by have := (hm _ hx).1 h; rwa [hcj _ hxb, x_x] at this), hcj _ hxb, x_x]
theorem lst_inj {f g : Nat → Bool} {n : Nat} (h : lst f n = lst g n) : ∀ j, j < n → f j = g j := fun j hj => by
  rw [Bool.eq_iff_iff]
  have h1 : j ∈ lst f n ↔ j ∈ lst g n := by rw [h]
  rw [lst_mem, lst_mem] at h1
  exact ⟨fun a => (h1.1 ⟨hj, a⟩).2, fun a => (h1.2 ⟨hj, a⟩).2⟩
theorem rdown_of (m : Nat) (n : Nat) (hn : n ≤ 8) (f : Nat → Bool) (hf : ∀ j, f j = true → j < 2 ^ n) (v : Value) (h : Hp) (hv : Rds h v ((lst f (2 ^ n)).map J)) :
    ∃ v' h', Ev 100000 (m + 3) 41 [J n, v] h = some (v', h') ∧ ∃ F k, F = itT n f k ∧ prT F n = F ∧ Rds h' v' ((lst F (2 ^ n)).map J) ∧ h.Ext h' := by
  refine fnS_ok (Q := fun v' h' => ∃ F k, F = itT n f k ∧ prT F n = F ∧ Rds h' v' ((lst F (2 ^ n)).map J) ∧ h.Ext h') ?_
  have h2n : 2 ^ n ≤ 256 := Nat.pow_le_pow_right (by decide) hn
  have hNN : 2 ^ n * 2 ^ n ≤ 256 * 256 := Nat.mul_le_mul h2n h2n
  obtain ⟨va, vc, hvs⟩ := hv.shape
  rw [List.length_map] at hvs
  subst hvs
  refine ok_go 0 ?_
  refine sy_loop 0 100000 h (α := (Nat → Bool) × Option Addr × Nat) (fun x => [(0, J n), (1, .slice x.2.1 (lst x.1 (2 ^ n)).length x.2.2)]) (fun x g => (∃ k, x.1 = itT n f k) ∧ (∀ j, x.1 j = true → j < 2 ^ n) ∧ h.Ext g ∧ Rds g (.slice x.2.1 (lst x.1 (2 ^ n)).length x.2.2) ((lst x.1 (2 ^ n)).map J)) (fun x _ => wt x.1 (2 ^ n)) (f, va, vc) (by kernel_rfl) (by kernel_rfl)
    ⟨by kernel_rfl, by kernel_rfl, trivial⟩ (by have := wt_le f (2 ^ n); show wt f (2 ^ n) < 100000; omega) ⟨⟨0, rfl⟩, hf, Hp.Ext.refl _, hv⟩ ?_
  rintro m1 ⟨g0, oa, oc⟩ F1 g ⟨⟨k, hk⟩, hs, X, R⟩ ih
  dsimp only at hk hs X R
  refine ok_go 0 ?_
  refine sy_loop 0 100000 g (α := Nat × Option Addr × Nat) (fun x => [(0, J n), (1, .slice oa (lst g0 (2 ^ n)).length oc), (5, .slice x.2.1 (lst (prT g0 x.1) (2 ^ n)).length x.2.2), (6, J x.1)]) (fun x g' => x.1 ≤ n ∧ g.Ext g' ∧ Rds g' (.slice x.2.1 (lst (prT g0 x.1) (2 ^ n)).length x.2.2) ((lst (prT g0 x.1) (2 ^ n)).map J)) (fun x _ => n - x.1) (0, oa, oc) (by kernel_rfl) (by kernel_rfl)
    ⟨by kernel_rfl, by kernel_rfl, by kernel_rfl, by kernel_rfl, trivial⟩ (show n - 0 < 100000 by omega) ⟨Nat.zero_le _, Hp.Ext.refl _, R⟩ ?_
  rintro m2 ⟨i, pa, pc⟩ F2 g2 ⟨hi, X2, R2⟩ ihi
  dsimp only at hi X2 R2
  have hwi : IntKind.wrap .i64 (Int.ofNat (i + 1)) = Int.ofNat (i + 1) := wrap_nat (by omega)
  refine ok_go 1 ?_
  refine sy_test 0 (decide (Int.ofNat i < Int.ofNat n)) (by kernel_rfl) ?_ ?_
  · intro hlt
    have hlt : i < n := ok_nat hlt
    obtain ⟨v3, g3, e3, q, rfl, W3⟩ := rpress_of 100000 m (by decide) n (by omega) (prT g0 i) i hlt _ g2 R2
    rw [rpr_eq hlt] at e3 W3
    obtain ⟨qa, qc, hq⟩ := osl_shape q (lst (prS i (prT g0 i)) (2 ^ n)).length
    have R3 := lst_rd W3
    rw [hq] at e3 R3
    refine ok_go 0 ?_
    refine sy_call 0 (by kernel_rfl) e3 ?_
    refine ok_go 1 ?_
    exact sy_next 0 _ g3 (by kernel_rfl) (by kernel_rfl) (ihi (i + 1, qa, qc) _ g3 ⟨hlt, X2.trans W3.ext, R3⟩ (show n - (i + 1) < n - i by omega) ⟨by kernel_rfl, by kernel_rfl, by kernel_rfl, (by kernel_rfl : _ = Value.int .i64 (IntKind.wrap .i64 (Int.ofNat (i + 1)))).trans (by rw [hwi]), trivial⟩)
  · intro hlt
    have hlt : i = n := Nat.le_antisymm hi (no_nat hlt)
    subst hlt
    have hT := prT_sup hs i (Nat.le_refl _)
    have e4 := same_of 100000 (m + 1) ((lst (prT g0 i) (2 ^ i)).map Int.ofNat) ((lst g0 (2 ^ i)).map Int.ofNat) (by rw [List.length_map]; have := lst_len (prT g0 i) (2 ^ i); omega) (by rw [List.length_map]; have := lst_len (prT g0 i) (2 ^ i); omega) _ _ g2 (by rw [List.map_map]; exact R2) (by rw [List.map_map]; exact R.ext X2)
    by_cases heq : prT g0 i = g0
    · rw [decide_eq_true (by rw [heq])] at e4
      refine ok_go 0 ?_
      refine sy_call 0 (by kernel_rfl) e4 ?_
      refine ok_go 1 ?_
      exact sy_done 0 (v := .slice pa (lst (prT g0 i) (2 ^ i)).length pc) (h := g2) (by kernel_rfl) ⟨g0, k, hk, heq, by rw [heq] at R2 ⊢; exact R2, X.trans X2⟩
    · rw [decide_eq_false fun h => heq (funext fun j => by
        have h := lst_inj ((List.map_inj_right fun a b h => Int.ofNat.inj h).1 h)
        by_cases hj : j < 2 ^ i
        · exact h j hj
        · cases h8 : prT g0 i j with
          | true => exact absurd (hT j h8) hj
          | false =>
            cases h7 : g0 j with
            | true => exact absurd (hs j h7) hj
            | false => rfl)] at e4
      have hdec : wt (prT g0 i) (2 ^ i) < wt g0 (2 ^ i) := (wt_prT hs i (Nat.le_refl _)).resolve_right heq
      refine ok_go 0 ?_
      refine sy_call 0 (by kernel_rfl) e4 ?_
      refine ok_go 1 ?_
      exact sy_next 0 _ g2 (by kernel_rfl) (by kernel_rfl) (ih (prT g0 i, pa, pc) _ g2 ⟨⟨k + 1, by show prT g0 i = prT (itT i f k) i; rw [← hk]⟩, hT, X.trans X2, R2⟩ hdec ⟨by kernel_rfl, by kernel_rfl, trivial⟩)
end Go.Proofs.YtkfbfgcflnkllaaGreatDoor
namespace Go.Proofs.YtkfbfgcflnkllaaGreatDoor
open Go Go.Eng Nim
set_option maxRecDepth 100000
set_option maxHeartbeats 8000000
def cvr (up : Bool) (l : List Nat) (t : Nat) : Bool := l.any fun x => decide (t &&& x = if up then x else t)
def rowC (up : Bool) (l : List Nat) (s j t : Nat) : Bool := if t = s then cvr up (l.take j) s else decide (t < s) && cvr up l t
theorem cvr_app (up : Bool) (a b : List Nat) (t : Nat) : cvr up (a ++ b) t = (cvr up a t || cvr up b t) := by
  unfold cvr
  rw [List.any_append]
theorem rclos_true (lf m : Nat) (hlf : 2000 ≤ lf) (n : Nat) (hn : n ≤ 10) (l : List Nat) (hl : l.length ≤ 1024) (hb : ∀ x ∈ l, x < 2 ^ n) (v : Value) (h : Hp) (hv : Rds h v (l.map J)) :
    ∃ v' h', Ev lf (m + 2) 42 [J n, v, .bool true] h = some (v', h') ∧ ∃ q, v' = oslV q (lst (cvr true l) (2 ^ n)).length ∧ Sto h h' (oent q 3 ((lst (cvr true l) (2 ^ n)).map J)) := by
  refine fnS_ok (Q := fun v' h' => ∃ q, v' = oslV q (lst (cvr true l) (2 ^ n)).length ∧ Sto h h' (oent q 3 ((lst (cvr true l) (2 ^ n)).map J))) ?_
  have hsh := one_shl n (by omega)
  have h2n : 2 ^ n ≤ 1024 := Nat.pow_le_pow_right (by decide) hn
  obtain ⟨va, vc, hvs⟩ := hv.shape
  rw [List.length_map] at hvs
  subst hvs
  have W := Sto.start h
  refine ok_go 2 ?_
  refine sy_call 0 (r := makeSliceOp Tryz.prog h 37 (I (IntKind.i64.wrap (1 * 2 ^ min (IntKind.u64.wrap (Int.ofNat n)).toNat IntKind.i64.bits))) (I (IntKind.i64.wrap (1 * 2 ^ min (IntKind.u64.wrap (Int.ofNat n)).toNat IntKind.i64.bits)))) (by kernel_rfl) (by rw [hsh]; exact mkB (2 ^ n) h2n h) ?_
  have W := W.new (.cells (cellsF (2 ^ n) fun _ => .bool false) 4 false)
  generalize h.new (.cells (cellsF (2 ^ n) fun _ => .bool false) 4 false) = h1 at *
  refine ok_go 0 ?_
  refine sy_loop 0 lf h1 (α := Nat) (fun s => [(1, .slice va l.length vc), (2, .bool true), (7, .slice (some ⟨h.next, 0, none⟩) (2 ^ n) (2 * 2 ^ n)), (8, J s)]) (fun s g => s ≤ 2 ^ n ∧ Sto h g [(h.next, .cells (cellsF (2 ^ n) fun t => .bool (decide (t < s) && cvr true l t)) 4 false)]) (fun s _ => 2 ^ n - s) 0 (by kernel_rfl) (by kernel_rfl)
    ⟨by kernel_rfl, by kernel_rfl, by kernel_rfl, by kernel_rfl, trivial⟩ (show 2 ^ n - 0 < lf by omega) ⟨Nat.zero_le _, by simpa using W⟩ ?_
  clear W
  rintro m1 s F1 g ⟨hs, W⟩ ih
  have hw : IntKind.wrap .i64 (Int.ofNat (s + 1)) = Int.ofNat (s + 1) := wrap_nat (by omega)
  refine ok_go 2 ?_
  refine sy_test 0 (decide (Int.ofNat s < Int.ofNat (2 ^ n))) (by kernel_rfl) ?_ ?_
  · intro hlt
    have hlt : s < 2 ^ n := ok_nat hlt
    have W : Sto h g [(h.next, .cells (cellsF (2 ^ n) fun t => .bool (rowC true l s 0 t)) 4 false)] := by
      rw [show (fun t => Value.bool (rowC true l s 0 t)) = fun t => .bool (decide (t < s) && cvr true l t) from by
        funext t
        unfold rowC
        by_cases ht : t = s
        · rw [if_pos ht, ht, decide_eq_false (Nat.lt_irrefl s)]; rfl
        · rw [if_neg ht]]
      exact W
    refine ok_go 0 ?_
    refine sy_loop 0 lf g (α := Nat) (fun j => [(1, .slice va l.length vc), (2, .bool true), (7, .slice (some ⟨h.next, 0, none⟩) (2 ^ n) (2 * 2 ^ n)), (8, J s), (9, J j)]) (fun j g => j ≤ l.length ∧ Sto h g [(h.next, .cells (cellsF (2 ^ n) fun t => .bool (rowC true l s j t)) 4 false)]) (fun j _ => l.length - j) 0 (by kernel_rfl) (by kernel_rfl)
      ⟨by kernel_rfl, by kernel_rfl, by kernel_rfl, by kernel_rfl, by kernel_rfl, trivial⟩ (show l.length - 0 < lf by omega) ⟨Nat.zero_le _, W⟩ ?_
    clear W
    rintro m2 j F2 g2 ⟨hj, W⟩ ihj
    have hwj : IntKind.wrap .i64 (Int.ofNat (j + 1)) = Int.ofNat (j + 1) := wrap_nat (by omega)
    refine ok_go 2 ?_
    refine sy_test 0 (decide (Int.ofNat j < Int.ofNat l.length)) (by kernel_rfl) ?_ ?_
    · intro hjl
      have hjl : j < l.length := ok_nat hjl
      obtain ⟨p, hp1, hp2⟩ := rdN (hv.ext W.ext) hjl
      have htj : l.take (j + 1) = l.take j ++ [l[j]] := List.take_succ_eq_append_getElem hjl
      have hxb := hb _ (List.getElem_mem hjl)
      generalize l[j] = x at *
      have han : andI (Int.ofNat s) (Int.ofNat x) = Int.ofNat (s &&& x) := and_nat (by omega)
      refine ok_go 4 ?_
      refine sy_load 0 (r := indexAddrOp Tryz.prog 28 (.slice va l.length vc) (J j)) (h' := g2) (by kernel_rfl) hp1 ?_
      refine ok_go 1 ?_
      refine sy_load 0 (r := loadT Tryz.prog g2 3 p) (h' := g2) (by kernel_rfl) hp2 ?_
      refine ok_go 5 ?_
      refine sy_load 0 (r := indexAddrOp Tryz.prog 28 (.slice va l.length vc) (J j)) (h' := g2) (by kernel_rfl) hp1 ?_
      refine ok_go 1 ?_
      refine sy_load 0 (r := loadT Tryz.prog g2 3 p) (h' := g2) (by kernel_rfl) hp2 ?_
      refine ok_go 3 ?_
      by_cases hc : s &&& x = x
      · refine sy_yes 0 (b := decide (andI (Int.ofNat s) (Int.ofNat x) = Int.ofNat x)) (by kernel_rfl) (decide_eq_true (by rw [han, hc])) ?_
        refine ok_go 5 ?_
        refine sy_load 0 (r := indexAddrOp Tryz.prog 37 (.slice (some ⟨h.next, 0, none⟩) (2 ^ n) (2 * 2 ^ n)) (J s)) (h' := g2) (v := ptr h.next s) (by kernel_rfl) (idxS0 (e := 4) (by kernel_rfl) zB hlt) ?_
        refine ok_go 0 ?_
        refine ow_storeF (P := Tryz.prog) (T := 4) (v := .bool true) 0 0 W rfl hlt zB rfl (by kernel_rfl) fun g3 ng3 W => ?_
        rw [mk97_set] at W
        have W : Sto h g3 [(h.next, .cells (cellsF (2 ^ n) fun t => .bool (rowC true l s (j + 1) t)) 4 false)] := by
          rw [show (fun t => Value.bool (rowC true l s (j + 1) t)) = fun t => .bool (if t = s then true else rowC true l s j t) from by
            funext t
            unfold rowC
            by_cases ht : t = s
            · rw [if_pos ht, if_pos ht, htj, cvr_app, show cvr true [x] s = true from by simp [cvr, hc]]; simp
            · rw [if_neg ht, if_neg ht, if_neg ht]]
          exact W
        refine ok_go 1 ?_
        exact sy_next 0 _ g3 (by kernel_rfl) (by kernel_rfl) (ihj (j + 1) _ g3 ⟨hjl, W⟩ (show l.length - (j + 1) < l.length - j by omega) ⟨by kernel_rfl, by kernel_rfl, by kernel_rfl, by kernel_rfl, (by kernel_rfl : _ = Value.int .i64 (IntKind.wrap .i64 (Int.ofNat (j + 1)))).trans (by rw [hwj]), trivial⟩)
      · refine sy_no 0 (b := decide (andI (Int.ofNat s) (Int.ofNat x) = Int.ofNat x)) (by kernel_rfl) (decide_eq_false (by rw [han]; exact fun h => hc (Int.ofNat.inj h))) ?_
        have W : Sto h g2 [(h.next, .cells (cellsF (2 ^ n) fun t => .bool (rowC true l s (j + 1) t)) 4 false)] := by
          rw [show (fun t => Value.bool (rowC true l s (j + 1) t)) = fun t => .bool (rowC true l s j t) from by
            funext t
            unfold rowC
            by_cases ht : t = s
            · rw [if_pos ht, if_pos ht, htj, cvr_app, show cvr true [x] s = false from by simp [cvr, hc]]; simp
            · rw [if_neg ht, if_neg ht]]
          exact W
        refine ok_go 16 ?_
        exact sy_next 0 _ g2 (by kernel_rfl) (by kernel_rfl) (ihj (j + 1) _ g2 ⟨hjl, W⟩ (show l.length - (j + 1) < l.length - j by omega) ⟨by kernel_rfl, by kernel_rfl, by kernel_rfl, by kernel_rfl, (by kernel_rfl : _ = Value.int .i64 (IntKind.wrap .i64 (Int.ofNat (j + 1)))).trans (by rw [hwj]), trivial⟩)
    · intro hjl
      have hjl : j = l.length := Nat.le_antisymm hj (no_nat hjl)
      subst hjl
      have W : Sto h g2 [(h.next, .cells (cellsF (2 ^ n) fun t => .bool (decide (t < s + 1) && cvr true l t)) 4 false)] := by
        rw [show (fun t => Value.bool (decide (t < s + 1) && cvr true l t)) = fun t => .bool (rowC true l s l.length t) from by
          funext t
          unfold rowC
          by_cases ht : t = s
          · rw [if_pos ht, ht, List.take_length, decide_eq_true (Nat.lt_succ_self s)]; rfl
          · rw [if_neg ht, show decide (t < s + 1) = decide (t < s) from decide_eq_decide.2 (by omega)]]
        exact W
      refine ok_go 1 ?_
      exact sy_next 0 _ g2 (by kernel_rfl) (by kernel_rfl) (ih (s + 1) _ g2 ⟨hlt, W⟩ (show 2 ^ n - (s + 1) < 2 ^ n - s by omega) ⟨by kernel_rfl, by kernel_rfl, by kernel_rfl, (by kernel_rfl : _ = Value.int .i64 (IntKind.wrap .i64 (Int.ofNat (s + 1)))).trans (by rw [hw]), trivial⟩)
  · intro hlt
    have hlt : s = 2 ^ n := Nat.le_antisymm hs (no_nat hlt)
    subst hlt
    have hll : lst (fun t => decide (t < 2 ^ n) && cvr true l t) (2 ^ n) = lst (cvr true l) (2 ^ n) := lst_congr fun t ht => by rw [decide_eq_true ht]; rfl
    obtain ⟨v4, h4, e4, q, rfl, W4⟩ := rlist_of lf m hlf (fun t => decide (t < 2 ^ n) && cvr true l t) (2 ^ n) h2n (.slice (some ⟨h.next, 0, none⟩) (2 ^ n) (2 * 2 ^ n)) g (rd_cells (W.lt 0 rfl) (W.get 0 rfl))
    rw [hll] at e4 W4
    obtain ⟨oa, oc, ho⟩ := osl_shape q (lst (cvr true l) (2 ^ n)).length
    rw [ho] at e4
    refine ok_go 0 ?_
    refine sy_call 0 (by kernel_rfl) e4 ?_
    refine ok_go 0 ?_
    exact sy_done 0 (v := .slice oa (lst (cvr true l) (2 ^ n)).length oc) (h := h4) (by kernel_rfl) ⟨q, ho.symm, (W.over W4).sub (List.sublist_append_left ..)⟩
theorem rclos_false (lf m : Nat) (hlf : 2000 ≤ lf) (n : Nat) (hn : n ≤ 10) (l : List Nat) (hl : l.length ≤ 1024) (hb : ∀ x ∈ l, x < 2 ^ n) (v : Value) (h : Hp) (hv : Rds h v (l.map J)) :
    ∃ v' h', Ev lf (m + 2) 42 [J n, v, .bool false] h = some (v', h') ∧ ∃ q, v' = oslV q (lst (cvr false l) (2 ^ n)).length ∧ Sto h h' (oent q 3 ((lst (cvr false l) (2 ^ n)).map J)) := by
  refine fnS_ok (Q := fun v' h' => ∃ q, v' = oslV q (lst (cvr false l) (2 ^ n)).length ∧ Sto h h' (oent q 3 ((lst (cvr false l) (2 ^ n)).map J))) ?_
  have hsh := one_shl n (by omega)
  have h2n : 2 ^ n ≤ 1024 := Nat.pow_le_pow_right (by decide) hn
  obtain ⟨va, vc, hvs⟩ := hv.shape
  rw [List.length_map] at hvs
  subst hvs
  have W := Sto.start h
  refine ok_go 2 ?_
  refine sy_call 0 (r := makeSliceOp Tryz.prog h 37 (I (IntKind.i64.wrap (1 * 2 ^ min (IntKind.u64.wrap (Int.ofNat n)).toNat IntKind.i64.bits))) (I (IntKind.i64.wrap (1 * 2 ^ min (IntKind.u64.wrap (Int.ofNat n)).toNat IntKind.i64.bits)))) (by kernel_rfl) (by rw [hsh]; exact mkB (2 ^ n) h2n h) ?_
  have W := W.new (.cells (cellsF (2 ^ n) fun _ => .bool false) 4 false)
  generalize h.new (.cells (cellsF (2 ^ n) fun _ => .bool false) 4 false) = h1 at *
  refine ok_go 0 ?_
  refine sy_loop 0 lf h1 (α := Nat) (fun s => [(1, .slice va l.length vc), (2, .bool false), (7, .slice (some ⟨h.next, 0, none⟩) (2 ^ n) (2 * 2 ^ n)), (8, J s)]) (fun s g => s ≤ 2 ^ n ∧ Sto h g [(h.next, .cells (cellsF (2 ^ n) fun t => .bool (decide (t < s) && cvr false l t)) 4 false)]) (fun s _ => 2 ^ n - s) 0 (by kernel_rfl) (by kernel_rfl)
    ⟨by kernel_rfl, by kernel_rfl, by kernel_rfl, by kernel_rfl, trivial⟩ (show 2 ^ n - 0 < lf by omega) ⟨Nat.zero_le _, by simpa using W⟩ ?_
  clear W
  rintro m1 s F1 g ⟨hs, W⟩ ih
  have hw : IntKind.wrap .i64 (Int.ofNat (s + 1)) = Int.ofNat (s + 1) := wrap_nat (by omega)
  refine ok_go 2 ?_
  refine sy_test 0 (decide (Int.ofNat s < Int.ofNat (2 ^ n))) (by kernel_rfl) ?_ ?_
  · intro hlt
    have hlt : s < 2 ^ n := ok_nat hlt
    have W : Sto h g [(h.next, .cells (cellsF (2 ^ n) fun t => .bool (rowC false l s 0 t)) 4 false)] := by
      rw [show (fun t => Value.bool (rowC false l s 0 t)) = fun t => .bool (decide (t < s) && cvr false l t) from by
        funext t
        unfold rowC
        by_cases ht : t = s
        · rw [if_pos ht, ht, decide_eq_false (Nat.lt_irrefl s)]; rfl
        · rw [if_neg ht]]
      exact W
    refine ok_go 0 ?_
    refine sy_loop 0 lf g (α := Nat) (fun j => [(1, .slice va l.length vc), (2, .bool false), (7, .slice (some ⟨h.next, 0, none⟩) (2 ^ n) (2 * 2 ^ n)), (8, J s), (9, J j)]) (fun j g => j ≤ l.length ∧ Sto h g [(h.next, .cells (cellsF (2 ^ n) fun t => .bool (rowC false l s j t)) 4 false)]) (fun j _ => l.length - j) 0 (by kernel_rfl) (by kernel_rfl)
      ⟨by kernel_rfl, by kernel_rfl, by kernel_rfl, by kernel_rfl, by kernel_rfl, trivial⟩ (show l.length - 0 < lf by omega) ⟨Nat.zero_le _, W⟩ ?_
    clear W
    rintro m2 j F2 g2 ⟨hj, W⟩ ihj
    have hwj : IntKind.wrap .i64 (Int.ofNat (j + 1)) = Int.ofNat (j + 1) := wrap_nat (by omega)
    refine ok_go 2 ?_
    refine sy_test 0 (decide (Int.ofNat j < Int.ofNat l.length)) (by kernel_rfl) ?_ ?_
    · intro hjl
      have hjl : j < l.length := ok_nat hjl
      obtain ⟨p, hp1, hp2⟩ := rdN (hv.ext W.ext) hjl
      have htj : l.take (j + 1) = l.take j ++ [l[j]] := List.take_succ_eq_append_getElem hjl
      have hxb := hb _ (List.getElem_mem hjl)
      generalize l[j] = x at *
      have han : andI (Int.ofNat s) (Int.ofNat x) = Int.ofNat (s &&& x) := and_nat (by omega)
      refine ok_go 20 ?_
      refine sy_load 0 (r := indexAddrOp Tryz.prog 28 (.slice va l.length vc) (J j)) (h' := g2) (by kernel_rfl) hp1 ?_
      refine ok_go 1 ?_
      refine sy_load 0 (r := loadT Tryz.prog g2 3 p) (h' := g2) (by kernel_rfl) hp2 ?_
      refine ok_go 8 ?_
      by_cases hc : s &&& x = s
      · refine sy_yes 0 (b := decide (andI (Int.ofNat s) (Int.ofNat x) = Int.ofNat s)) (by kernel_rfl) (decide_eq_true (by rw [han, hc])) ?_
        refine ok_go 0 ?_
        refine sy_load 0 (r := indexAddrOp Tryz.prog 37 (.slice (some ⟨h.next, 0, none⟩) (2 ^ n) (2 * 2 ^ n)) (J s)) (h' := g2) (v := ptr h.next s) (by kernel_rfl) (idxS0 (e := 4) (by kernel_rfl) zB hlt) ?_
        refine ok_go 0 ?_
        refine ow_storeF (P := Tryz.prog) (T := 4) (v := .bool true) 0 0 W rfl hlt zB rfl (by kernel_rfl) fun g3 ng3 W => ?_
        rw [mk97_set] at W
        have W : Sto h g3 [(h.next, .cells (cellsF (2 ^ n) fun t => .bool (rowC false l s (j + 1) t)) 4 false)] := by
          rw [show (fun t => Value.bool (rowC false l s (j + 1) t)) = fun t => .bool (if t = s then true else rowC false l s j t) from by
            funext t
            unfold rowC
            by_cases ht : t = s
            · rw [if_pos ht, if_pos ht, htj, cvr_app, show cvr false [x] s = true from by simp [cvr, hc]]; simp
            · rw [if_neg ht, if_neg ht, if_neg ht]]
          exact W
        refine ok_go 1 ?_
        exact sy_next 0 _ g3 (by kernel_rfl) (by kernel_rfl) (ihj (j + 1) _ g3 ⟨hjl, W⟩ (show l.length - (j + 1) < l.length - j by omega) ⟨by kernel_rfl, by kernel_rfl, by kernel_rfl, by kernel_rfl, (by kernel_rfl : _ = Value.int .i64 (IntKind.wrap .i64 (Int.ofNat (j + 1)))).trans (by rw [hwj]), trivial⟩)
      · refine sy_no 0 (b := decide (andI (Int.ofNat s) (Int.ofNat x) = Int.ofNat s)) (by kernel_rfl) (decide_eq_false (by rw [han]; exact fun h => hc (Int.ofNat.inj h))) ?_
        have W : Sto h g2 [(h.next, .cells (cellsF (2 ^ n) fun t => .bool (rowC false l s (j + 1) t)) 4 false)] := by
          rw [show (fun t => Value.bool (rowC false l s (j + 1) t)) = fun t => .bool (rowC false l s j t) from by
            funext t
            unfold rowC
            by_cases ht : t = s
            · rw [if_pos ht, if_pos ht, htj, cvr_app, show cvr false [x] s = false from by simp [cvr, hc]]; simp
            · rw [if_neg ht, if_neg ht]]
          exact W
        refine ok_go 1 ?_
        exact sy_next 0 _ g2 (by kernel_rfl) (by kernel_rfl) (ihj (j + 1) _ g2 ⟨hjl, W⟩ (show l.length - (j + 1) < l.length - j by omega) ⟨by kernel_rfl, by kernel_rfl, by kernel_rfl, by kernel_rfl, (by kernel_rfl : _ = Value.int .i64 (IntKind.wrap .i64 (Int.ofNat (j + 1)))).trans (by rw [hwj]), trivial⟩)
    · intro hjl
      have hjl : j = l.length := Nat.le_antisymm hj (no_nat hjl)
      subst hjl
      have W : Sto h g2 [(h.next, .cells (cellsF (2 ^ n) fun t => .bool (decide (t < s + 1) && cvr false l t)) 4 false)] := by
        rw [show (fun t => Value.bool (decide (t < s + 1) && cvr false l t)) = fun t => .bool (rowC false l s l.length t) from by
          funext t
          unfold rowC
          by_cases ht : t = s
          · rw [if_pos ht, ht, List.take_length, decide_eq_true (Nat.lt_succ_self s)]; rfl
          · rw [if_neg ht, show decide (t < s + 1) = decide (t < s) from decide_eq_decide.2 (by omega)]]
        exact W
      refine ok_go 1 ?_
      exact sy_next 0 _ g2 (by kernel_rfl) (by kernel_rfl) (ih (s + 1) _ g2 ⟨hlt, W⟩ (show 2 ^ n - (s + 1) < 2 ^ n - s by omega) ⟨by kernel_rfl, by kernel_rfl, by kernel_rfl, (by kernel_rfl : _ = Value.int .i64 (IntKind.wrap .i64 (Int.ofNat (s + 1)))).trans (by rw [hw]), trivial⟩)
  · intro hlt
    have hlt : s = 2 ^ n := Nat.le_antisymm hs (no_nat hlt)
    subst hlt
    have hll : lst (fun t => decide (t < 2 ^ n) && cvr false l t) (2 ^ n) = lst (cvr false l) (2 ^ n) := lst_congr fun t ht => by rw [decide_eq_true ht]; rfl
    obtain ⟨v4, h4, e4, q, rfl, W4⟩ := rlist_of lf m hlf (fun t => decide (t < 2 ^ n) && cvr false l t) (2 ^ n) h2n (.slice (some ⟨h.next, 0, none⟩) (2 ^ n) (2 * 2 ^ n)) g (rd_cells (W.lt 0 rfl) (W.get 0 rfl))
    rw [hll] at e4 W4
    obtain ⟨oa, oc, ho⟩ := osl_shape q (lst (cvr false l) (2 ^ n)).length
    rw [ho] at e4
    refine ok_go 0 ?_
    refine sy_call 0 (by kernel_rfl) e4 ?_
    refine ok_go 0 ?_
    exact sy_done 0 (v := .slice oa (lst (cvr false l) (2 ^ n)).length oc) (h := h4) (by kernel_rfl) ⟨q, ho.symm, (W.over W4).sub (List.sublist_append_left ..)⟩
end Go.Proofs.YtkfbfgcflnkllaaGreatDoor
namespace Go.Proofs.YtkfbfgcflnkllaaGreatDoor
open Go Go.Eng Nim Oct
theorem clo_spec_up (n : Nat) (f : Nat → Bool) : ∀ i, i ≤ n → ∀ j, j < 2 ^ n → (cloS true (2 ^ n) f i j = true ↔ ∃ x, f x = true ∧ (∀ k, x.testBit k = true → j.testBit k = true) ∧ ∀ k, i ≤ k → x.testBit k = j.testBit k)
  | 0, _, j, hj => ⟨fun h => ⟨j, h, fun _ h => h, fun _ _ => rfl⟩, fun ⟨x, h1, _, h3⟩ => by
    have : x = j := Nat.eq_of_testBit_eq fun k => h3 k (Nat.zero_le _)
    rw [← this]; exact h1⟩
  | i + 1, hi, j, hj => by
    have ih := clo_spec_up n f i (by omega)
    have hM : cloS true (2 ^ n) f (i + 1) j = (cloS true (2 ^ n) f i j || (j.testBit i && decide (j ^^^ 2 ^ i < 2 ^ n) && cloS true (2 ^ n) f i (j ^^^ 2 ^ i))) := inn_up i (cloS true (2 ^ n) f i) (2 ^ n) j
    have hx := x_lt hj (show i < n by omega)
    rw [hM, decide_eq_true hx, Bool.and_true, Bool.or_eq_true, Bool.and_eq_true, ih j hj, ih _ hx]
    constructor
    · rintro (⟨x, h1, h2, h3⟩ | ⟨hb, x, h1, h2, h3⟩)
      · exact ⟨x, h1, h2, fun k hk => h3 k (by omega)⟩
      · refine ⟨x, h1, fun k hk => ?_, fun k hk => by rw [h3 k (by omega), tb_xn (by omega)]⟩
        by_cases hki : i = k
        · rw [← hki]; exact hb
        · have := h2 k hk
          rwa [tb_xn hki] at this
    · rintro ⟨x, h1, h2, h3⟩
      by_cases he : x.testBit i = j.testBit i
      · refine .inl ⟨x, h1, h2, fun k hk => ?_⟩
        by_cases hki : k = i
        · rw [hki]; exact he
        · exact h3 k (by omega)
      · have hxi : x.testBit i = false := by
          cases h : x.testBit i with
          | false => rfl
          | true => exact absurd (by rw [h, h2 i h]) he
        have hji : j.testBit i = true := by
          cases h : j.testBit i with
          | true => rfl
          | false => exact absurd (by rw [hxi, h]) he
        refine .inr ⟨hji, x, h1, fun k hk => ?_, fun k hk => ?_⟩
        · by_cases hki : i = k
          · rw [← hki, hxi] at hk; cases hk
          · rw [tb_xn hki]; exact h2 k hk
        · by_cases hki : i = k
          · rw [← hki, hxi, tb_xs, hji]; rfl
          · rw [tb_xn hki]; exact h3 k (by omega)
theorem clo_spec_dn (n : Nat) (f : Nat → Bool) : ∀ i, i ≤ n → ∀ j, j < 2 ^ n → (cloS false (2 ^ n) f i j = true ↔ ∃ x, f x = true ∧ (∀ k, j.testBit k = true → x.testBit k = true) ∧ ∀ k, i ≤ k → x.testBit k = j.testBit k)
  | 0, _, j, hj => ⟨fun h => ⟨j, h, fun _ h => h, fun _ _ => rfl⟩, fun ⟨x, h1, _, h3⟩ => by
    have : x = j := Nat.eq_of_testBit_eq fun k => h3 k (Nat.zero_le _)
    rw [← this]; exact h1⟩
  | i + 1, hi, j, hj => by
    have ih := clo_spec_dn n f i (by omega)
    have hM : cloS false (2 ^ n) f (i + 1) j = (cloS false (2 ^ n) f i j || (!j.testBit i && decide (j < 2 ^ n) && cloS false (2 ^ n) f i (j ^^^ 2 ^ i))) := inn_dn i (cloS false (2 ^ n) f i) (2 ^ n) j
    have hx := x_lt hj (show i < n by omega)
    rw [hM, decide_eq_true hj, Bool.and_true, Bool.or_eq_true, Bool.and_eq_true, ih j hj, ih _ hx]
    constructor
    · rintro (⟨x, h1, h2, h3⟩ | ⟨hb, x, h1, h2, h3⟩)
      · exact ⟨x, h1, h2, fun k hk => h3 k (by omega)⟩
      · have hb : j.testBit i = false := by simpa using hb
        refine ⟨x, h1, fun k hk => ?_, fun k hk => by rw [h3 k (by omega), tb_xn (by omega)]⟩
        by_cases hki : i = k
        · rw [← hki, hb] at hk; cases hk
        · exact h2 k (by rw [tb_xn hki]; exact hk)
    · rintro ⟨x, h1, h2, h3⟩
      by_cases he : x.testBit i = j.testBit i
      · refine .inl ⟨x, h1, h2, fun k hk => ?_⟩
        by_cases hki : k = i
        · rw [hki]; exact he
        · exact h3 k (by omega)
      · have hji : j.testBit i = false := by
          cases h : j.testBit i with
          | false => rfl
          | true => exact absurd (by rw [h, h2 i h]) he
        have hxi : x.testBit i = true := by
          cases h : x.testBit i with
          | true => rfl
          | false => exact absurd (by rw [h, hji]) he
        refine .inr ⟨by rw [hji]; rfl, x, h1, fun k hk => ?_, fun k hk => ?_⟩
        · by_cases hki : i = k
          · rw [← hki]; exact hxi
          · rw [tb_xn hki] at hk; exact h2 k hk
        · by_cases hki : i = k
          · rw [← hki, hxi, tb_xs, hji]; rfl
          · rw [tb_xn hki]; exact h3 k (by omega)
theorem and_sub_iff (a b : Nat) : a &&& b = b ↔ ∀ k, b.testBit k = true → a.testBit k = true := by
  constructor
  · intro h k hk
    have : (a &&& b).testBit k = b.testBit k := by rw [h]
    rw [Nat.testBit_and, hk, Bool.and_true] at this
    exact this
  · intro h
    refine Nat.eq_of_testBit_eq fun k => ?_
    rw [Nat.testBit_and]
    cases hb : b.testBit k with
    | false => rw [Bool.and_false]
    | true => rw [h k hb]; rfl
theorem clo_cvr {n : Nat} {f : Nat → Bool} (hf : ∀ j, f j = true → j < 2 ^ n) (up : Bool) : ∀ j, j < 2 ^ n → cloS up (2 ^ n) f n j = cvr up (lst f (2 ^ n)) j := fun j hj => by
  have hn : ∀ x, f x = true → ∀ k, n ≤ k → x.testBit k = j.testBit k := fun x hx k hk => by
    rw [Nat.testBit_lt_two_pow (Nat.lt_of_lt_of_le (hf x hx) (Nat.pow_le_pow_right (by decide) hk)), Nat.testBit_lt_two_pow (Nat.lt_of_lt_of_le hj (Nat.pow_le_pow_right (by decide) hk))]
  rw [Bool.eq_iff_iff]
  unfold cvr
  rw [List.any_eq_true]
  cases up with
  | true =>
    rw [clo_spec_up n f n (Nat.le_refl _) j hj]
    constructor
    · rintro ⟨x, h1, h2, _⟩
      exact ⟨x, lst_mem.2 ⟨hf x h1, h1⟩, decide_eq_true (by rw [if_pos rfl]; exact (and_sub_iff j x).2 h2)⟩
    · rintro ⟨x, h1, h2⟩
      have h2 := of_decide_eq_true h2
      rw [if_pos rfl] at h2
      exact ⟨x, (lst_mem.1 h1).2, (and_sub_iff j x).1 h2, hn x (lst_mem.1 h1).2⟩
  | false =>
    rw [clo_spec_dn n f n (Nat.le_refl _) j hj]
    constructor
    · rintro ⟨x, h1, h2, _⟩
      exact ⟨x, lst_mem.2 ⟨hf x h1, h1⟩, decide_eq_true (by rw [if_neg Bool.false_ne_true, Nat.and_comm]; exact (and_sub_iff x j).2 h2)⟩
    · rintro ⟨x, h1, h2⟩
      have h2 := of_decide_eq_true h2
      rw [if_neg Bool.false_ne_true, Nat.and_comm] at h2
      exact ⟨x, (lst_mem.1 h1).2, (and_sub_iff x j).1 h2, hn x (lst_mem.1 h1).2⟩
theorem itT_fix {n : Nat} {f : Nat → Bool} {k : Nat} (h : prT (itT n f k) n = itT n f k) : ∀ d, itT n f (k + d) = itT n f k
  | 0 => rfl
  | d + 1 => by
    show prT (itT n f (k + d)) n = _
    rw [itT_fix h d, h]
theorem itT_uniq {n : Nat} {f : Nat → Bool} {k m : Nat} (h1 : prT (itT n f k) n = itT n f k) (h2 : prT (itT n f m) n = itT n f m) : itT n f k = itT n f m := by
  rcases Nat.le_total k m with h | h
  · obtain ⟨d, rfl⟩ := Nat.exists_eq_add_of_le h
    exact (itT_fix h1 d).symm
  · obtain ⟨d, rfl⟩ := Nat.exists_eq_add_of_le h
    exact itT_fix h2 d
theorem lst_sup {f : Nat → Bool} {N : Nat} (h : ∀ j, f j = true → j < N) : ∀ d, lst f (N + d) = lst f N
  | 0 => rfl
  | d + 1 => by
    rw [← Nat.add_assoc, lst_succ, lst_sup h d]
    cases hf : f (N + d) with
    | false => rfl
    | true => have := h _ hf; omega
theorem itT_sup {n : Nat} {f : Nat → Bool} (hf : ∀ j, f j = true → j < 2 ^ n) : ∀ k, ∀ j, itT n f k j = true → j < 2 ^ n
  | 0 => hf
  | k + 1 => prT_sup (itT_sup hf k) n (Nat.le_refl _)
theorem dec_lst {n : Nat} {f : Nat → Bool} (hf : ∀ j, f j = true → j < 2 ^ n) : (fun j => decide (j ∈ lst f (2 ^ n))) = f := funext fun j => by
  rw [Bool.eq_iff_iff, decide_eq_true_eq, lst_mem]
  exact ⟨fun h => h.2, fun h => ⟨hf j h, h⟩⟩
end Go.Proofs.YtkfbfgcflnkllaaGreatDoor
namespace Go.Proofs.YtkfbfgcflnkllaaGreatDoor
open Go Go.Eng Nim Go.ChangeShapes
set_option maxRecDepth 100000
section
variable {HH : Type} {enc : TypeId × Value → HH} {B : Prot} {w0 w : World}
theorem cell_block {w : World} {a : Addr} {v : Value} (h : w.cell? a = some v) : ∃ arr e fz, w.heap[a.block]? = some (.cells arr e fz) ∧ a.spot = none ∧ arr[a.off]? = some v := by
  unfold World.cell? at h
  split at h
  · rename_i c e fz hb
    split at h
    · cases h
    · rename_i hs
      refine ⟨c, e, fz, hb, ?_, h⟩
      cases hq : a.spot with
      | none => rfl
      | some q => rw [hq] at hs; simp at hs
  · cases h
theorem add_spot {a : Addr} (h : a.spot = none) (i : Nat) : a.add i = ⟨a.block, a.off + i, none⟩ := by
  obtain ⟨b, o, s⟩ := a
  simp only at h
  subst h
  unfold Addr.add
  split
  · rename_i h0; subst h0; rfl
  · rfl
/-- A slice in memory, as the evaluator sees it: the cells one by one. -/
theorem openCells {E : Env} {h : Hp} (H : HpOK Tryz.prog B w0 E h w) (hB : ∀ k, k < w.heap.size → B.ro k) {a : Addr} {len cap : Nat} (cs : List Value) (hl : cs.length = len) (hc0 : 0 < cap → a.spot = none)
    (hlc : len ≤ cap) (hcell : ∀ i v, cs[i]? = some v → w.cell? (a.add i) = some (con E v)) (hs : scL h.next cs = true) (h1 : ∀ v ∈ cs, scalar v = true) :
    ∃ E' h' v, HpOK Tryz.prog B w0 E' h' w ∧ Agree h.next E E' ∧ h.Ext h' ∧ con E' v = .slice (some a) len cap ∧ sc h'.next v = true ∧ Rds h' v cs ∧ scalar v = true ∧ WfS v := by
  subst hl
  cases cs with
  | nil =>
    refine ⟨E.ext h.next a.block 0, ⟨h.objs, h.next + 1⟩, .slice (some ⟨h.next, a.off, a.spot⟩) 0 (2 * cap), H.bump a.block, Env.ext_agree _ _ _ _, ⟨Nat.le_succ _, fun j _ => rfl⟩, ?_, by simp [sc], ?_, rfl, ?_⟩
    · obtain ⟨b, o, s⟩ := a
      cases s with
      | none => simp [con, conCap]
      | some q =>
        have hc : cap = 0 := Nat.eq_zero_of_not_pos fun hp => by have := hc0 hp; simp at this
        subst hc
        simp [con, conCap, conOff, conSpot]
    · cases hsp : a.spot with
      | none => exact .inr ⟨h.next, a.off, _, rfl, fun hn => absurd rfl hn⟩
      | some q =>
        have hc : cap = 0 := Nat.eq_zero_of_not_pos fun hp => by have := hc0 hp; rw [hsp] at this; cases this
        subst hc
        exact .inl ⟨⟨_, rfl⟩, rfl⟩
    · cases hsp : a.spot with
      | none => exact .inl ⟨rfl, Nat.zero_le _⟩
      | some q =>
        have hc : cap = 0 := Nat.eq_zero_of_not_pos fun hp => by have := hc0 hp; rw [hsp] at this; cases this
        subst hc
        exact .inr ⟨rfl, rfl⟩
  | cons v r =>
    have h0 := hcell 0 v rfl
    have hsp : a.spot = none := hc0 (by simp at hlc; omega)
    obtain ⟨arr, e, fz, hb, _, ha⟩ := cell_block h0
    rw [add_spot hsp] at ha hb
    have ha0 : a.off + 0 < arr.size := (Array.getElem?_eq_some_iff.1 ha).1
    have hR := H.newRo (m := a.block) (off := a.off) (cs := v :: r) (hB _ (Array.getElem?_eq_some_iff.1 hb).1) hb (by omega) (fun i u hu => by
      have hi := hcell i u hu
      obtain ⟨arr', e', fz', hb', _, ha'⟩ := cell_block hi
      rw [add_spot hsp] at hb' ha'
      rw [hb] at hb'
      cases hb'
      exact ha') hs h1
    refine ⟨_, _, .slice (some ⟨h.next, a.off, none⟩) (r.length + 1) (2 * cap), hR, Env.ext_agree _ _ _ _, Hp.Ext.new _ _, ?_, by simp [sc, Hp.new], .inr ⟨h.next, a.off, _, rfl, fun _ => ⟨Nat.lt_succ_self _, ?_⟩⟩, rfl, .inl ⟨rfl, by simp at hlc; omega⟩⟩
    · obtain ⟨b, o, s⟩ := a
      simp only at hsp
      subst hsp
      simp [con, conCap]
    · unfold loadN
      rw [get_new]
      have hble : Nat.ble a.off a.off = true := Nat.ble_eq_true_of_le (Nat.le_refl _)
      simp only [hble, Nat.sub_self, List.drop_zero]
      exact takeN_all (v :: r)
theorem openInts {E : Env} {h : Hp} (H : HpOK Tryz.prog B w0 E h w) (hB : ∀ k, k < w.heap.size → B.ro k) {fuel : Nat} {c : Value} {x : DataW HH × List MemPlace}
    (ht : DataW.trod enc Tryz.prog w 0 (fun _ => true) true fuel 28 [c] = some x) :
    ∃ (E' : Env) (h' : Hp) (v : Value) (r : List Int), HpOK Tryz.prog B w0 E' h' w ∧ Agree h.next E E' ∧ h.Ext h' ∧ con E' v = c ∧ sc h'.next v = true ∧ Rds h' v (r.map I) ∧ scalar v = true ∧ r.length < 2 ^ 63 ∧ WfS v := by
  rcases open_ints (k := .i64) u28 (by kernel_rfl) (by kernel_rfl) ht with ⟨hc, _⟩ | ⟨a, len, cap, zs, hc, _, hlc, hcm, hzl, _, hcell, hwf⟩
  · simp only [List.cons.injEq, and_true] at hc
    subst hc
    exact ⟨E, h, .slice none 0 0, [], H, Agree.refl _ _, Hp.Ext.refl _, by simp [con], rfl, .inl ⟨⟨none, rfl⟩, rfl⟩, rfl, by decide, ⟨rfl, rfl⟩⟩
  · simp only [List.cons.injEq, and_true] at hc
    subst hc
    simp only [if_true] at hzl
    obtain ⟨E', h', v, k1, k2, k3, k4, k5, k6, k7, k8⟩ := openCells H hB (a := a) (len := len) (cap := cap) ((zs.take len).map I) (by simp; omega) (fun hp => by
        have := hcell 0 (by omega)
        obtain ⟨_, _, _, _, h2, _⟩ := cell_block this
        unfold Addr.add at h2
        simpa using h2) hlc (fun i v hv => by
        have hil : i < len ∧ i < zs.length := by
          have := (List.getElem?_eq_some_iff.1 hv).1
          simp at this
          exact ⟨by omega, by omega⟩
        have := hcell i hil.2
        rw [this]
        rw [List.getElem?_map, List.getElem?_take, if_pos hil.1, List.getElem?_eq_getElem hil.2] at hv
        simp only [Option.map_some, Option.some.injEq] at hv
        subst hv
        rw [List.getD_eq_getElem?_getD, List.getElem?_eq_getElem hil.2]
        simp [con]) (by rw [scL_iff]; intro v hv; obtain ⟨z, _, rfl⟩ := List.mem_map.1 hv; rfl) (fun v hv => by obtain ⟨z, _, rfl⟩ := List.mem_map.1 hv; rfl)
    refine ⟨E', h', v, zs.take len, k1, k2, k3, k4, k5, k6, k7, ?_, k8⟩
    have : maxLen = 2 ^ 63 - 1 := rfl
    rw [List.length_take]
    omega
theorem openIntsArg {E : Env} {h : Hp} (H : HpOK Tryz.prog B w0 E h w) (hB : ∀ k, k < w.heap.size → B.ro k) {v0 : Value} {base : Nat} {d : DataW HH} {p : List MemPlace} (hval : Value.okWide Tryz.prog w .any base 28 v0)
    (ht : DataW.Trod enc Tryz.prog w 0 (fun _ => true) true 28 v0 d p) :
    ∃ (E' : Env) (h' : Hp) (xa : Option Addr) (xc : Nat) (zs : List Int), HpOK Tryz.prog B w0 E' h' w ∧ con E' (.slice xa zs.length xc) = v0 ∧ sc h'.next (.slice xa zs.length xc) = true ∧ Rds h' (.slice xa zs.length xc) (zs.map I) ∧ WfS (.slice xa zs.length xc) ∧ zs.length < 2 ^ 63 := by
  obtain ⟨fuel, ht⟩ := ht
  have hsl : ∃ a l c, v0 = .slice a l c := by
    unfold Value.okWide at hval
    rw [u28] at hval
    simp only [Cell.okWide, u28, Cell.ok] at hval
    cases v0 <;> first | exact ⟨_, _, _, rfl⟩ | simp at hval
  obtain ⟨a0, l0, c0, rfl⟩ := hsl
  have hcells : (Value.slice a0 l0 c0).cells.toList = [.slice a0 l0 c0] := rfl
  rw [hcells] at ht
  obtain ⟨E', h', v, r, j1, j2, j3, j4, j5, j6, j7, j8, j9⟩ := openInts H hB ht
  obtain ⟨xa, xc, hs⟩ := j6.shape
  rw [List.length_map] at hs
  subst hs
  exact ⟨E', h', xa, xc, r, j1, j4, j5, j6, j9, j8⟩
end
end Go.Proofs.YtkfbfgcflnkllaaGreatDoor
namespace Go.Proofs.YtkfbfgcflnkllaaGreatDoor
open Go Go.Eng Nim
set_option maxRecDepth 100000
set_option maxHeartbeats 8000000
def zE (z : Int) : Int := IntKind.i64.wrap ((IntKind.u64.wrap z).tmod (IntKind.u64.wrap (IntKind.i64.wrap (8 + 1))))
theorem e_size (z : Int) : ∃ N : Nat, N ≤ 8 ∧ zE z = Int.ofNat N := by
  obtain ⟨k, hk, hr⟩ := rem_u z 9 (by decide) (by decide)
  have h9 : (IntKind.u64.wrap (IntKind.i64.wrap (8 + 1))) = IntKind.u64.wrap (Int.ofNat 9) := by decide
  refine ⟨k, by omega, ?_⟩
  unfold zE
  rw [h9, hr]
  exact wrap_nat (by omega)
theorem yesP {lf n f : Nat} {args : List Value} {h : Hp} (hk : Ok (fun v _ => v = .bool true) (fnS Tryz.prog orc lf n f args h)) : ∃ H, Ev lf (n + 1) f args h = some (.bool true, H) := by
  obtain ⟨v, h', h1, rfl⟩ := fnS_ok hk
  exact ⟨h', h1⟩
theorem sameL (m : Nat) (l : List Nat) (hl : l.length ≤ 1024) (x y : Value) (g : Hp) (hx : Rds g x (l.map J)) (hy : Rds g y (l.map J)) : Ev 100000 (m + 1) 16 [x, y] g = some (.bool true, g) := by
  have e := same_of 100000 m (l.map Int.ofNat) (l.map Int.ofNat) (by rw [List.length_map]; omega) (by rw [List.length_map]; omega) x y g (by rw [List.map_map]; exact hx) (by rw [List.map_map]; exact hy)
  rw [decide_eq_true rfl] at e
  exact e
theorem law7 (m : Nat) (z : Int) (xs : List Int) (hxs : xs.length < 2 ^ 63) (zi : Int) (x : Value) (h : Hp) (hx : Rds h x (xs.map I)) : ∃ H, Ev 100000 (m + 6) 7 [I z, x, I zi] h = some (.bool true, H) := by
  refine yesP ?_
  obtain ⟨N, hN8, hZ⟩ := e_size z
  obtain ⟨xa, xc, hxe⟩ := hx.shape
  rw [List.length_map] at hxe
  subst hxe
  have h2N : 2 ^ N ≤ 256 := Nat.pow_le_pow_right (by decide) hN8
  obtain ⟨v1, g1, e1, f0, q1, hv1, W1⟩ := tame_of 100000 (m + 4) (by decide) N 60 (by omega) (by decide) xs hxs _ h hx
  have R1 := lst_rd W1
  obtain ⟨f, hfd⟩ : ∃ f : Nat → Bool, (fun j => decide (j ∈ lst f0 (2 ^ N))) = f := ⟨_, rfl⟩
  have hsup : ∀ j, f j = true → j < 2 ^ N := fun j hj => (lst_mem.1 (of_decide_eq_true (by rw [← hfd] at hj; exact hj))).1
  have hlf : lst f0 (2 ^ N) = lst f (2 ^ N) := lst_congr fun j hj => by
    rw [← hfd, Bool.eq_iff_iff, decide_eq_true_eq, lst_mem]
    exact ⟨fun h => ⟨hj, h⟩, fun h => h.2⟩
  rw [hlf] at R1 hv1
  clear hfd
  subst hv1
  obtain ⟨oa, oc, ho⟩ := osl_shape q1 (lst f (2 ^ N)).length
  rw [ho] at e1 R1
  have hdl := dec_lst hsup
  have hb10 : ∀ F : Nat → Bool, (∀ j, F j = true → j < 2 ^ N) → lst F 1024 = lst F (2 ^ N) := fun F hF => by
    have := lst_sup hF (1024 - 2 ^ N)
    rwa [show 2 ^ N + (1024 - 2 ^ N) = 1024 by omega] at this
  rw [show J N = I (Int.ofNat N) from rfl, ← hZ] at e1
  refine ok_go 1 ?_
  refine sy_call 0 (by kernel_rfl) e1 ?_
  refine ok_go 0 ?_
  refine sy_loop 0 100000 g1 (α := Int × Nat) (fun y => [(0, J N), (2, I y.1), (7, .slice oa (lst f (2 ^ N)).length oc), (8, J y.2)]) (fun y g => y.2 ≤ 2 ∧ g1.Ext g) (fun y _ => 2 - y.2) (zi, 0) (by kernel_rfl) (by kernel_rfl)
    ⟨(by kernel_rfl : _ = I (zE z)).trans (by rw [hZ]), by kernel_rfl, by kernel_rfl, by kernel_rfl, trivial⟩ (show 2 - 0 < 100000 by omega) ⟨Nat.zero_le _, Hp.Ext.refl _⟩ ?_
  rintro m1 ⟨z2, k⟩ F1 g ⟨hk, X⟩ ih
  dsimp only at hk X
  have hw : IntKind.wrap .i64 (Int.ofNat (k + 1)) = Int.ofNat (k + 1) := wrap_nat (by omega)
  have R := R1.ext X
  refine ok_go 1 ?_
  refine sy_test 0 (decide (Int.ofNat k < 2)) (by kernel_rfl) ?_ ?_
  · intro hlt
    have hlt : k < 2 := ok_nat (b := 2) hlt
    by_cases hz : z2 < 0 ∨ z2 ≥ Int.ofNat N
    · have e2 := press_bad 100000 (m + 3) (by decide) N (by omega) z2 hz f _ g R
      refine ok_go 0 ?_
      refine sy_call 0 (by kernel_rfl) e2 ?_
      refine ok_go 3 ?_
      by_cases h0 : z2 < 0
      · refine sy_yes 0 (b := decide (z2 < 0)) (by kernel_rfl) (decide_eq_true h0) ?_
        refine ok_go 14 ?_
        exact sy_next 0 _ g (by kernel_rfl) (by kernel_rfl) (ih (IntKind.i64.wrap ((IntKind.u64.wrap z2).tmod (IntKind.u64.wrap (IntKind.i64.wrap (7 + 1)))), k + 1) _ g ⟨show k + 1 ≤ 2 by omega, X⟩ (show 2 - (k + 1) < 2 - k by omega) ⟨by kernel_rfl, by kernel_rfl, by kernel_rfl, (by kernel_rfl : _ = Value.int .i64 (IntKind.wrap .i64 (Int.ofNat (k + 1)))).trans (by rw [hw]), trivial⟩)
      · refine sy_no 0 (b := decide (z2 < 0)) (by kernel_rfl) (decide_eq_false h0) ?_
        refine ok_go 4 ?_
        refine sy_yes 0 (b := decide (z2 ≥ Int.ofNat N)) (by kernel_rfl) (decide_eq_true (hz.resolve_left h0)) ?_
        refine ok_go 10 ?_
        exact sy_next 0 _ g (by kernel_rfl) (by kernel_rfl) (ih (IntKind.i64.wrap ((IntKind.u64.wrap z2).tmod (IntKind.u64.wrap (IntKind.i64.wrap (7 + 1)))), k + 1) _ g ⟨show k + 1 ≤ 2 by omega, X⟩ (show 2 - (k + 1) < 2 - k by omega) ⟨by kernel_rfl, by kernel_rfl, by kernel_rfl, (by kernel_rfl : _ = Value.int .i64 (IntKind.wrap .i64 (Int.ofNat (k + 1)))).trans (by rw [hw]), trivial⟩)
    · obtain ⟨i, rfl⟩ := Int.eq_ofNat_of_zero_le (show 0 ≤ z2 by omega)
      have hi : i < N := by
        have h2 : ¬ (i : Int) ≥ (N : Int) := fun h => hz (.inr h)
        omega
      obtain ⟨v2, g2, e2, q2, rfl, W2⟩ := press_ok 100000 (m + 3) (by decide) N (by omega) i hi f _ g R
      rw [hdl, prn_prS hi hsup, hb10 _ (prS_sup hi hsup)] at e2 W2
      obtain ⟨v3, g3, e3, q3, rfl, W3⟩ := rpress_of 100000 (m + 3) (by decide) N (by omega) f i hi _ g2 (R.ext W2.ext)
      rw [rpr_eq hi] at e3 W3
      have e4 := sameL (m + 4) (lst (prS i f) (2 ^ N)) (by have := lst_len (prS i f) (2 ^ N); omega) _ _ g3 ((lst_rd W2).ext W3.ext) (lst_rd W3)
      obtain ⟨pa, pc, hp⟩ := osl_shape q2 (lst (prS i f) (2 ^ N)).length
      obtain ⟨ra, rc, hr⟩ := osl_shape q3 (lst (prS i f) (2 ^ N)).length
      rw [hp] at e2 e4
      rw [hr] at e3 e4
      refine ok_go 0 ?_
      refine sy_call 0 (by kernel_rfl) e2 ?_
      refine ok_go 8 ?_
      refine sy_no 0 (b := decide (Int.ofNat i ≥ Int.ofNat N)) (by kernel_rfl) (decide_eq_false (by show ¬ (N : Int) ≤ (i : Int); omega)) ?_
      refine ok_go 6 ?_
      refine sy_call 0 (by kernel_rfl) e3 ?_
      refine ok_go 1 ?_
      refine sy_call 0 (by kernel_rfl) e4 ?_
      refine ok_go 6 ?_
      exact sy_next 0 _ g3 (by kernel_rfl) (by kernel_rfl) (ih (IntKind.i64.wrap ((IntKind.u64.wrap (Int.ofNat i)).tmod (IntKind.u64.wrap (IntKind.i64.wrap (7 + 1)))), k + 1) _ g3 ⟨show k + 1 ≤ 2 by omega, (X.trans W2.ext).trans W3.ext⟩ (show 2 - (k + 1) < 2 - k by omega) ⟨by kernel_rfl, by kernel_rfl, by kernel_rfl, (by kernel_rfl : _ = Value.int .i64 (IntKind.wrap .i64 (Int.ofNat (k + 1)))).trans (by rw [hw]), trivial⟩)
  · intro hlt
    have hk2 : k = 2 := Nat.le_antisymm hk (no_nat (b := 2) hlt)
    obtain ⟨_, g2, e2, F, kk, q2, hF, hFx, rfl, W2⟩ := down_of (m + 3) N hN8 f _ g R
    rw [hdl] at hF
    rw [hb10 F (by rw [hF]; exact itT_sup hsup kk)] at e2 W2
    obtain ⟨_, g3, e3, q3, rfl, W3⟩ := clos_of 100000 (m + 3) (by decide) N (by omega) false f _ g2 (R.ext W2.ext)
    rw [hdl, hb10 _ (clo_dn N f hsup N (Nat.le_refl _)).1, lst_congr (clo_cvr hsup false)] at e3 W3
    obtain ⟨_, g4, e4, q4, rfl, W4⟩ := clos_of 100000 (m + 3) (by decide) N (by omega) true f _ g3 ((R.ext W2.ext).ext W3.ext)
    rw [hdl, hb10 _ (clo_up N f hsup N (Nat.le_refl _)).1, lst_congr (clo_cvr hsup true)] at e4 W4
    have R4 := ((R.ext W2.ext).ext W3.ext).ext W4.ext
    obtain ⟨v5, g5, e5, F5, k5, hF5, hFx5, R5, X5⟩ := rdown_of (m + 2) N hN8 f hsup _ g4 R4
    have hFF : F5 = F := by
      rw [hF5] at hFx5
      rw [hF] at hFx
      rw [hF, hF5]
      exact itT_uniq hFx5 hFx
    rw [hFF] at R5
    have hlm : ∀ y ∈ lst f (2 ^ N), y < 2 ^ N := fun y hy => (lst_mem.1 hy).1
    have hll := lst_len f (2 ^ N)
    obtain ⟨_, g6, e6, q6, rfl, W6⟩ := rclos_false 100000 (m + 3) (by decide) N (by omega) (lst f (2 ^ N)) (by omega) hlm _ g5 (R4.ext X5)
    obtain ⟨_, g7, e7, q7, rfl, W7⟩ := rclos_true 100000 (m + 3) (by decide) N (by omega) (lst f (2 ^ N)) (by omega) hlm _ g6 ((R4.ext X5).ext W6.ext)
    obtain ⟨a5, c5, h5⟩ := R5.shape
    rw [List.length_map] at h5
    subst h5
    have s1 := sameL (m + 4) (lst F (2 ^ N)) (by have := lst_len F (2 ^ N); omega) _ _ g5 ((((lst_rd W2).ext W3.ext).ext W4.ext).ext X5) R5
    have s2 := sameL (m + 4) (lst (cvr false (lst f (2 ^ N))) (2 ^ N)) (by have := lst_len (cvr false (lst f (2 ^ N))) (2 ^ N); omega) _ _ g6 ((((lst_rd W3).ext W4.ext).ext X5).ext W6.ext) (lst_rd W6)
    have s3 := sameL (m + 4) (lst (cvr true (lst f (2 ^ N))) (2 ^ N)) (by have := lst_len (cvr true (lst f (2 ^ N))) (2 ^ N); omega) _ _ g7 ((((lst_rd W4).ext X5).ext W6.ext).ext W7.ext) (lst_rd W7)
    obtain ⟨a2, c2, o2⟩ := osl_shape q2 (lst F (2 ^ N)).length
    obtain ⟨a3, c3, o3⟩ := osl_shape q3 (lst (cvr false (lst f (2 ^ N))) (2 ^ N)).length
    obtain ⟨a4, c4, o4⟩ := osl_shape q4 (lst (cvr true (lst f (2 ^ N))) (2 ^ N)).length
    obtain ⟨a6, c6, o6⟩ := osl_shape q6 (lst (cvr false (lst f (2 ^ N))) (2 ^ N)).length
    obtain ⟨a7, c7, o7⟩ := osl_shape q7 (lst (cvr true (lst f (2 ^ N))) (2 ^ N)).length
    rw [o2] at e2 s1
    rw [o3] at e3 s2
    rw [o4] at e4 s3
    rw [o6] at e6 s2
    rw [o7] at e7 s3
    refine ok_go 0 ?_
    refine sy_call 0 (by kernel_rfl) e2 ?_
    refine ok_go 2 ?_
    refine sy_call 0 (by kernel_rfl) e3 ?_
    refine ok_go 2 ?_
    refine sy_call 0 (by kernel_rfl) e4 ?_
    refine ok_go 15 ?_
    refine sy_call 0 (by kernel_rfl) e5 ?_
    refine ok_go 1 ?_
    refine sy_call 0 (by kernel_rfl) s1 ?_
    refine ok_go 5 ?_
    refine sy_call 0 (by kernel_rfl) e6 ?_
    refine ok_go 1 ?_
    refine sy_call 0 (by kernel_rfl) s2 ?_
    refine ok_go 5 ?_
    refine sy_call 0 (by kernel_rfl) e7 ?_
    refine ok_go 1 ?_
    refine sy_call 0 (by kernel_rfl) s3 ?_
    refine ok_go 4 ?_
    exact sy_done 0 (v := .bool true) (h := g7) (by kernel_rfl) rfl
theorem said7 (z : Int) (zs : List Int) (hz : zs.length < 2 ^ 63) (xa : Option Addr) (xc : Nat) (zi : Int) (h : Hp) (hx : Rds h (.slice xa zs.length xc) (zs.map I)) (_ : WfS (.slice xa zs.length xc)) : ∃ H, evInv Tryz.prog orc 100000 1000 (.fn 7 [.int .i64 z, .slice xa zs.length xc, .int .i64 zi]) h = some (.bool true, H) :=
  law7 994 z zs hz zi _ h hx
end Go.Proofs.YtkfbfgcflnkllaaGreatDoor
