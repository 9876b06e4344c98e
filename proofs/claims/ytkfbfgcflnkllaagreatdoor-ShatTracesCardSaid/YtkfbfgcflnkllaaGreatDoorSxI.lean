/- Families: what Check says, and the reference's. -/
import Derived.Test.YtkfbfgcflnkllaaGreatDoorProg
import Derived.KernelRfl
import Derived.Test.YtkfbfgcflnkllaaGreatDoorSyF
import Derived.Test.YtkfbfgcflnkllaaGreatDoorSxC
import Derived.Test.YtkfbfgcflnkllaaGreatDoorSyD
import Derived.ChangeSlices
import Derived.ChangeArms
namespace Go.Proofs.YtkfbfgcflnkllaaGreatDoor
open Go Go.Eng Nim
set_option maxRecDepth 100000
set_option maxHeartbeats 8000000
theorem rdI {h : Hp} {rv : Value} {zs : List Int} (hr : Rds h rv (zs.map I)) {k : Nat} (hk : k < zs.length) : ∃ p, indexAddrOp Tryz.prog 28 rv (J k) = some p ∧ loadT Tryz.prog h 3 p = some (I zs[k]) :=
  hr.read (e := 3) (by kernel_rfl) (by kernel_rfl) (by kernel_rfl) (by rw [List.getElem?_map, List.getElem?_eq_getElem hk]; rfl)
theorem rdN {h : Hp} {rv : Value} {r : List Nat} (hr : Rds h rv (r.map J)) {k : Nat} (hk : k < r.length) : ∃ p, indexAddrOp Tryz.prog 28 rv (J k) = some p ∧ loadT Tryz.prog h 3 p = some (J r[k]) :=
  hr.read (e := 3) (by kernel_rfl) (by kernel_rfl) (by kernel_rfl) (by rw [List.getElem?_map, List.getElem?_eq_getElem hk]; rfl)
theorem all_I (l : List Int) : (l.map I).all scalar = true := List.all_eq_true.2 fun v hv => by obtain ⟨n, _, rfl⟩ := List.mem_map.1 hv; rfl
theorem all_J (l : List Nat) : (l.map J).all scalar = true := List.all_eq_true.2 fun v hv => by obtain ⟨n, _, rfl⟩ := List.mem_map.1 hv; rfl
/-- What a cut of an argument, appended to none, comes to. -/
theorem raw_of (lf m : Nat) (k : Nat) (hk : k < 16777216) (zs : List Int) (x : Value) (h : Hp) (hx : Rds h x (zs.map I)) (hwf : WfS x) :
    ∃ v h', Ev lf (m + 1) 46 [x, J k] h = some (v, h') ∧ Rds h' v ((zs.take k).map I) ∧ h.Ext h' := by
  refine fnS_ok (Q := fun v h' => Rds h' v ((zs.take k).map I) ∧ h.Ext h') ?_
  have W := Sto.start h
  obtain ⟨xa, xc, hxs⟩ := hx.shape
  rw [List.length_map] at hxs
  subst hxs
  obtain ⟨K, hK, hK1, hK2, hK3⟩ : ∃ K : Nat, (if Int.ofNat k < Int.ofNat zs.length then Int.ofNat k else Int.ofNat zs.length) = Int.ofNat K ∧ K ≤ zs.length ∧ zs.take K = zs.take k ∧ K ≤ k := by
    by_cases h20 : k < zs.length
    · exact ⟨k, if_pos (by show (k : Int) < (zs.length : Int); omega), by omega, rfl, Nat.le_refl _⟩
    · exact ⟨zs.length, if_neg (by show ¬ (k : Int) < (zs.length : Int); omega), Nat.le_refl _, by rw [List.take_length, List.take_of_length_le (by omega)], by omega⟩
  obtain ⟨y, hy1, hy2⟩ := cut_row hwf hx (K := K) (by rw [List.length_map]; exact hK1)
  rw [← List.map_take, hK2] at hy2
  have hy1 : sliceOp Tryz.prog 28 (.slice xa zs.length xc) none (some (.int .i64 (Int.ofNat K))) none = some y := hy1
  rw [← hK] at hy1
  refine ok_go 2 ?_
  refine sy_any 0 (p := fun y => Rds h y ((zs.take k).map I)) (h' := h) ?_ ?_
  · cases xa with
    | none =>
      obtain ⟨h1, h2⟩ := hwf
      obtain rfl : zs = [] := List.eq_nil_of_length_eq_zero h1
      subst h2
      exact ⟨.slice none 0 0, .inl ⟨⟨_, rfl⟩, by rw [List.take_nil]; rfl⟩, by kernel_rfl⟩
    | some ra =>
      refine ⟨y, hy2, (by kernel_rfl : _ = (sliceOp Tryz.prog 28 (.slice (some ra) zs.length xc) none (some (.int .i64 (if Int.ofNat k < Int.ofNat zs.length then Int.ofNat k else Int.ofNat zs.length))) none).map (·, h)).trans ?_⟩
      rw [hy1]
      rfl
  intro y hy2
  obtain ⟨ya, yc, rfl⟩ := hy2.shape
  refine ok_go 0 ?_
  refine ow_rds 0 W slz28 hy2 (all_I _) (by rw [List.length_map, List.length_take]; omega) (by kernel_rfl) fun g2 sl2 ng2 hsl2 hsc2 W => ?_
  have RV : Rds g2 sl2 ((zs.take k).map I) := by
    rw [hsl2]
    exact osl_rd fun p hp => W.hold p (List.mem_append_right _ hp)
  obtain ⟨oa, oc, hos⟩ := RV.shape
  subst hos
  refine ok_go 0 ?_
  exact sy_done 0 (v := _) (h := g2) (by kernel_rfl) ⟨RV, W.ext⟩
/-- The number ahead of number i. -/
def lastI (zs : List Int) (i : Nat) : Int := if i = 0 then -1 else zs.getD (i - 1) 0
def badAt (n : Nat) (zs : List Int) (i : Nat) : Prop := zs.getD i 0 ≤ lastI zs i ∨ zs.getD i 0 ≥ 2 ^ n
def GoodTo (n : Nat) (zs : List Int) (k : Nat) : Prop := ∀ i, i < k → ¬ badAt n zs i
/-- What Check says: the first bad place, or none. -/
def FamR (n : Int) (zs : List Int) (e : Nat) : Prop := ((n < 0 ∨ 10 < n) ∧ e = 1) ∨ ∃ N : Nat, n = Int.ofNat N ∧ N ≤ 10 ∧ ((e = 80 ∧ ∃ i, i < zs.length ∧ GoodTo N zs i ∧ badAt N zs i) ∨ (e = 0 ∧ GoodTo N zs zs.length))
theorem FamR.uniq {n : Int} {zs : List Int} {e f : Nat} (h1 : FamR n zs e) (h2 : FamR n zs f) : e = f := by
  rcases h1 with ⟨a, rfl⟩ | ⟨N, rfl, hN, h1⟩ <;> rcases h2 with ⟨b, rfl⟩ | ⟨M, hM, hM2, h2⟩
  · rfl
  · subst hM
    have : ¬ ((Int.ofNat M) < 0 ∨ 10 < Int.ofNat M) := by rintro (h | h) <;> simp at h <;> omega
    exact absurd a this
  · have : ¬ ((Int.ofNat N) < 0 ∨ 10 < Int.ofNat N) := by rintro (h | h) <;> simp at h <;> omega
    exact absurd b this
  · cases hM
    rcases h1 with ⟨rfl, i, hi, _, hb⟩ | ⟨rfl, hg⟩ <;> rcases h2 with ⟨rfl, j, hj, _, hb2⟩ | ⟨rfl, hg2⟩
    · rfl
    · exact absurd hb (hg2 i hi)
    · exact absurd hb2 (hg j hj)
    · rfl
theorem FamR.ex (n : Int) (zs : List Int) : ∃ e, FamR n zs e := by
  by_cases h : n < 0 ∨ 10 < n
  · exact ⟨1, .inl ⟨h, rfl⟩⟩
  · obtain ⟨N, rfl⟩ := Int.eq_ofNat_of_zero_le (show 0 ≤ n by omega)
    have hN : N ≤ 10 := by simp at h; omega
    by_cases hg : GoodTo N zs zs.length
    · exact ⟨0, .inr ⟨N, rfl, hN, .inr ⟨rfl, hg⟩⟩⟩
    · have key : ∀ k, k ≤ zs.length → GoodTo N zs k ∨ ∃ i, i < k ∧ GoodTo N zs i ∧ badAt N zs i := fun k => by
        induction k with
        | zero => exact fun _ => .inl fun i hi => absurd hi (Nat.not_lt_zero i)
        | succ k ih =>
          intro hk
          rcases ih (by omega) with h | ⟨i, h1, h2, h3⟩
          · by_cases hb : badAt N zs k
            · exact .inr ⟨k, Nat.lt_succ_self k, h, hb⟩
            · refine .inl fun i hi => ?_
              rcases Nat.lt_succ_iff_lt_or_eq.1 hi with h' | rfl
              · exact h i h'
              · exact hb
          · exact .inr ⟨i, by omega, h2, h3⟩
      rcases key _ (Nat.le_refl _) with h | ⟨i, h1, h2, h3⟩
      · exact absurd h hg
      · exact ⟨80, .inr ⟨N, rfl, hN, .inl ⟨rfl, i, h1, h2, h3⟩⟩⟩
theorem chk_of (lf m : Nat) (n : Int) (zs : List Int) (hz : zs.length < 100000) (hlf : zs.length < lf) (x : Value) (h : Hp) (hx : Rds h x (zs.map I)) :
    ∃ e, FamR n zs e ∧ Ev lf (m + 1) 57 [I n, x] h = some (J e, h) := by
  suffices ∃ v h', Ev lf (m + 1) 57 [I n, x] h = some (v, h') ∧ ∃ e, FamR n zs e ∧ v = J e ∧ h' = h by
    obtain ⟨v, h', e1, e, e2, rfl, rfl⟩ := this
    exact ⟨e, e2, e1⟩
  refine fnS_ok (Q := fun v h' => ∃ e, FamR n zs e ∧ v = J e ∧ h' = h) ?_
  obtain ⟨xa, xc, hxs⟩ := hx.shape
  rw [List.length_map] at hxs
  subst hxs
  have W := Sto.start h
  by_cases h0 : n < 0
  · refine ok_go 1 ?_
    refine sy_yes 0 (b := decide (n < 0)) (by kernel_rfl) (decide_eq_true h0) ?_
    refine ok_go 3 ?_
    exact sy_done 0 (v := J 1) (h := h) (by kernel_rfl) ⟨1, .inl ⟨.inl h0, rfl⟩, rfl, rfl⟩
  refine ok_go 1 ?_
  refine sy_no 0 (b := decide (n < 0)) (by kernel_rfl) (decide_eq_false h0) ?_
  refine ok_go 3 ?_
  by_cases h10 : n > 10
  · refine sy_yes 0 (b := decide (n > 10)) (by kernel_rfl) (decide_eq_true h10) ?_
    refine ok_go 0 ?_
    exact sy_done 0 (v := J 1) (h := h) (by kernel_rfl) ⟨1, .inl ⟨.inr h10, rfl⟩, rfl, rfl⟩
  refine sy_no 0 (b := decide (n > 10)) (by kernel_rfl) (decide_eq_false h10) ?_
  obtain ⟨N, rfl⟩ := Int.eq_ofNat_of_zero_le (show 0 ≤ n by omega)
  have hN : N ≤ 10 := by have : ¬ (10 : Int) < (N : Int) := h10; omega
  have hsh := one_shl N (by omega)
  have hpw : Int.ofNat (2 ^ N) = (2 : Int) ^ N := by simp
  refine ok_go 1 ?_
  refine sy_loop 0 lf h (α := Nat) (fun i => [(0, J N), (5, I (lastI zs i)), (14, .slice xa zs.length xc), (15, J zs.length), (16, J i)]) (fun i g => i ≤ zs.length ∧ GoodTo N zs i ∧ g = h) (fun i _ => zs.length - i) 0 (by kernel_rfl) (by kernel_rfl)
    ⟨by kernel_rfl, by kernel_rfl, by kernel_rfl, by kernel_rfl, by kernel_rfl, trivial⟩ (show zs.length - 0 < lf by omega) ⟨Nat.zero_le _, fun i hi => absurd hi (Nat.not_lt_zero i), rfl⟩ ?_
  rintro m1 i F1 g ⟨hi, hG, rfl⟩ ih
  have hw : IntKind.wrap .i64 (Int.ofNat (i + 1)) = Int.ofNat (i + 1) := wrap_nat (by omega)
  refine ok_go 1 ?_
  refine sy_test 0 (decide (Int.ofNat i < Int.ofNat zs.length)) (by kernel_rfl) ?_ ?_
  · intro hlt
    have hlt : i < zs.length := ok_nat hlt
    obtain ⟨p, hp1, hp2⟩ := rdI hx hlt
    have hgd : zs.getD i 0 = zs[i] := by rw [List.getD_eq_getElem?_getD, List.getElem?_eq_getElem hlt]; rfl
    have hla : lastI zs (i + 1) = zs[i] := by unfold lastI; rw [if_neg (by omega), Nat.add_sub_cancel, hgd]
    refine ok_go 0 ?_
    refine sy_load 0 (r := indexAddrOp Tryz.prog 28 (.slice xa zs.length xc) (J i)) (h' := g) (by kernel_rfl) hp1 ?_
    refine ok_go 0 ?_
    refine sy_load 0 (r := loadT Tryz.prog g 3 p) (h' := g) (by kernel_rfl) hp2 ?_
    refine ok_go 1 ?_
    by_cases hb1 : zs[i] ≤ lastI zs i
    · refine sy_yes 0 (b := decide (zs[i] ≤ lastI zs i)) (by kernel_rfl) (decide_eq_true hb1) ?_
      refine ok_go 6 ?_
      exact sy_done 0 (v := J 80) (h := g) (by kernel_rfl) ⟨80, .inr ⟨N, rfl, hN, .inl ⟨rfl, i, hlt, hG, .inl (by rw [hgd]; exact hb1)⟩⟩, rfl, rfl⟩
    · refine sy_no 0 (b := decide (zs[i] ≤ lastI zs i)) (by kernel_rfl) (decide_eq_false hb1) ?_
      refine ok_go 8 ?_
      by_cases hb2 : zs[i] ≥ Int.ofNat (2 ^ N)
      · refine sy_yes 0 (b := decide (zs[i] ≥ IntKind.i64.wrap (1 * 2 ^ min (IntKind.u64.wrap (Int.ofNat N)).toNat IntKind.i64.bits))) (by kernel_rfl) (by rw [hsh]; exact decide_eq_true hb2) ?_
        refine ok_go 0 ?_
        exact sy_done 0 (v := J 80) (h := g) (by kernel_rfl) ⟨80, .inr ⟨N, rfl, hN, .inl ⟨rfl, i, hlt, hG, .inr (by rw [hgd, ← hpw]; exact hb2)⟩⟩, rfl, rfl⟩
      · refine sy_no 0 (b := decide (zs[i] ≥ IntKind.i64.wrap (1 * 2 ^ min (IntKind.u64.wrap (Int.ofNat N)).toNat IntKind.i64.bits))) (by kernel_rfl) (by rw [hsh]; exact decide_eq_false hb2) ?_
        refine ok_go 1 ?_
        refine sy_next 0 _ g (by kernel_rfl) (by kernel_rfl) (ih (i + 1) _ g ⟨hlt, fun j hj => ?_, rfl⟩ (show zs.length - (i + 1) < zs.length - i by omega) ⟨by kernel_rfl, (by kernel_rfl : _ = I zs[i]).trans (by rw [hla]), by kernel_rfl, by kernel_rfl, (by kernel_rfl : _ = Value.int .i64 (IntKind.wrap .i64 (Int.ofNat (i + 1)))).trans (by rw [hw]), trivial⟩)
        rcases Nat.lt_succ_iff_lt_or_eq.1 hj with h | rfl
        · exact hG j h
        · rintro (h | h)
          · rw [hgd] at h; exact hb1 h
          · rw [hgd, ← hpw] at h
            exact hb2 h
  · intro hlt
    have hlt : i = zs.length := Nat.le_antisymm hi (no_nat hlt)
    subst hlt
    refine ok_go 0 ?_
    exact sy_done 0 (v := J 0) (h := g) (by kernel_rfl) ⟨0, .inr ⟨N, rfl, hN, .inr ⟨rfl, hG⟩⟩, rfl, rfl⟩
end Go.Proofs.YtkfbfgcflnkllaaGreatDoor
namespace Go.Proofs.YtkfbfgcflnkllaaGreatDoor
open Go Go.Eng Nim
set_option maxRecDepth 100000
set_option maxHeartbeats 8000000
theorem rchk_of (lf m : Nat) (n : Int) (zs : List Int) (hz : zs.length < 100000) (hlf : zs.length < lf) (x : Value) (h : Hp) (hx : Rds h x (zs.map I)) :
    ∃ e, FamR n zs e ∧ Ev lf (m + 1) 54 [I n, x] h = some (J e, h) := by
  suffices ∃ v h', Ev lf (m + 1) 54 [I n, x] h = some (v, h') ∧ ∃ e, FamR n zs e ∧ v = J e ∧ h' = h by
    obtain ⟨v, h', e1, e, e2, rfl, rfl⟩ := this
    exact ⟨e, e2, e1⟩
  refine fnS_ok (Q := fun v h' => ∃ e, FamR n zs e ∧ v = J e ∧ h' = h) ?_
  obtain ⟨xa, xc, hxs⟩ := hx.shape
  rw [List.length_map] at hxs
  subst hxs
  have W := Sto.start h
  by_cases h0 : n < 0
  · refine ok_go 1 ?_
    refine sy_yes 0 (b := decide (n < 0)) (by kernel_rfl) (decide_eq_true h0) ?_
    refine ok_go 3 ?_
    exact sy_done 0 (v := J 1) (h := h) (by kernel_rfl) ⟨1, .inl ⟨.inl h0, rfl⟩, rfl, rfl⟩
  refine ok_go 1 ?_
  refine sy_no 0 (b := decide (n < 0)) (by kernel_rfl) (decide_eq_false h0) ?_
  refine ok_go 3 ?_
  by_cases h10 : n > 10
  · refine sy_yes 0 (b := decide (n > 10)) (by kernel_rfl) (decide_eq_true h10) ?_
    refine ok_go 0 ?_
    exact sy_done 0 (v := J 1) (h := h) (by kernel_rfl) ⟨1, .inl ⟨.inr h10, rfl⟩, rfl, rfl⟩
  refine sy_no 0 (b := decide (n > 10)) (by kernel_rfl) (decide_eq_false h10) ?_
  obtain ⟨N, rfl⟩ := Int.eq_ofNat_of_zero_le (show 0 ≤ n by omega)
  have hN : N ≤ 10 := by have : ¬ (10 : Int) < (N : Int) := h10; omega
  have hsh := one_shl N (by omega)
  have hpw : Int.ofNat (2 ^ N) = (2 : Int) ^ N := by simp
  refine ok_go 0 ?_
  refine sy_loop 0 lf h (α := Nat) (fun i => [(0, J N), (1, .slice xa zs.length xc), (5, J i)]) (fun i g => i ≤ zs.length ∧ GoodTo N zs i ∧ g = h) (fun i _ => zs.length - i) 0 (by kernel_rfl) (by kernel_rfl)
    ⟨by kernel_rfl, by kernel_rfl, by kernel_rfl, trivial⟩ (show zs.length - 0 < lf by omega) ⟨Nat.zero_le _, fun i hi => absurd hi (Nat.not_lt_zero i), rfl⟩ ?_
  rintro m1 i F1 g ⟨hi, hG, rfl⟩ ih
  have hw : IntKind.wrap .i64 (Int.ofNat (i + 1)) = Int.ofNat (i + 1) := wrap_nat (by omega)
  refine ok_go 2 ?_
  refine sy_test 0 (decide (Int.ofNat i < Int.ofNat zs.length)) (by kernel_rfl) ?_ ?_
  · intro hlt
    have hlt : i < zs.length := ok_nat hlt
    obtain ⟨p, hp1, hp2⟩ := rdI hx hlt
    have hgd : zs.getD i 0 = zs[i] := by rw [List.getD_eq_getElem?_getD, List.getElem?_eq_getElem hlt]; rfl
    have bad : ∀ {t : SA}, badAt N zs i → doneP (goS 0 t) = some (J 80, g) → Ok (fun v h' => ∃ e, FamR (Int.ofNat N) zs e ∧ v = J e ∧ h' = g) t := fun hb hd =>
      sy_done 0 (v := J 80) (h := g) hd ⟨80, .inr ⟨N, rfl, hN, .inl ⟨rfl, i, hlt, hG, hb⟩⟩, rfl, rfl⟩
    have hb0 : zs[i] < 0 → badAt N zs i := fun hz0 => by
      refine .inl ?_
      rw [hgd]
      unfold lastI
      split
      · omega
      · have := hG (i - 1) (by omega)
        have h3 : ¬ zs.getD (i - 1) 0 < 0 := fun hneg => by
          refine this (.inl ?_)
          have hne := fun k (_ : k < i) => hG k
          unfold lastI
          split
          · omega
          · have := hG (i - 1 - 1) (by omega)
            exact absurd hneg (by
              have key : ∀ k, k < i → 0 ≤ zs.getD k 0 := fun k => by
                induction k with
                | zero =>
                  intro hk
                  have := hG 0 hk
                  unfold badAt lastI at this
                  simp only [if_true] at this
                  omega
                | succ k ihk =>
                  intro hk
                  have h1 := ihk (by omega)
                  have := hG (k + 1) hk
                  unfold badAt lastI at this
                  rw [if_neg (by omega), Nat.add_sub_cancel] at this
                  omega
              have := key (i - 1) (by omega)
              omega)
        omega
    refine ok_go 0 ?_
    refine sy_load 0 (r := indexAddrOp Tryz.prog 28 (.slice xa zs.length xc) (J i)) (h' := g) (by kernel_rfl) hp1 ?_
    refine ok_go 0 ?_
    refine sy_load 0 (r := loadT Tryz.prog g 3 p) (h' := g) (by kernel_rfl) hp2 ?_
    refine ok_go 1 ?_
    by_cases hz0 : zs[i] < 0
    · refine sy_yes 0 (b := decide (zs[i] < 0)) (by kernel_rfl) (decide_eq_true hz0) ?_
      refine ok_go 14 ?_
      exact bad (hb0 hz0) (by kernel_rfl)
    refine sy_no 0 (b := decide (zs[i] < 0)) (by kernel_rfl) (decide_eq_false hz0) ?_
    refine ok_go 2 ?_
    refine sy_load 0 (r := indexAddrOp Tryz.prog 28 (.slice xa zs.length xc) (J i)) (h' := g) (by kernel_rfl) hp1 ?_
    refine ok_go 1 ?_
    refine sy_load 0 (r := loadT Tryz.prog g 3 p) (h' := g) (by kernel_rfl) hp2 ?_
    refine ok_go 8 ?_
    by_cases hb2 : zs[i] ≥ Int.ofNat (2 ^ N)
    · refine sy_yes 0 (b := decide (zs[i] ≥ IntKind.i64.wrap (1 * 2 ^ min (IntKind.u64.wrap (Int.ofNat N)).toNat IntKind.i64.bits))) (by kernel_rfl) (by rw [hsh]; exact decide_eq_true hb2) ?_
      refine ok_go 5 ?_
      exact bad (.inr (by rw [hgd, ← hpw]; exact hb2)) (by kernel_rfl)
    refine sy_no 0 (b := decide (zs[i] ≥ IntKind.i64.wrap (1 * 2 ^ min (IntKind.u64.wrap (Int.ofNat N)).toNat IntKind.i64.bits))) (by kernel_rfl) (by rw [hsh]; exact decide_eq_false hb2) ?_
    refine ok_go 3 ?_
    have next : badAt N zs i ∨ GoodTo N zs (i + 1) := by
      by_cases hb : badAt N zs i
      · exact .inl hb
      · refine .inr fun j hj => ?_
        rcases Nat.lt_succ_iff_lt_or_eq.1 hj with h | rfl
        · exact hG j h
        · exact hb
    by_cases hi0 : i = 0
    · subst hi0
      refine ok_go 15 ?_
      refine sy_next 0 _ g (by kernel_rfl) (by kernel_rfl) (ih 1 _ g ⟨hlt, next.resolve_left ?_, rfl⟩ (show zs.length - 1 < zs.length - 0 by omega) ⟨by kernel_rfl, by kernel_rfl, by kernel_rfl, trivial⟩)
      rintro (h | h)
      · rw [hgd] at h
        exact hz0 (by have h : zs[0] ≤ -1 := h; omega)
      · rw [hgd, ← hpw] at h
        exact hb2 h
    · obtain ⟨k, rfl⟩ : ∃ k, i = k + 1 := ⟨i - 1, by omega⟩
      have hk1 : IntKind.wrap .i64 (Int.ofNat (k + 1) - 1) = Int.ofNat k := wrap_sub (a := k + 1) (b := 1) (by omega) (by omega)
      obtain ⟨p2, hp3, hp4⟩ := rdI hx (show k < zs.length by omega)
      have hla : lastI zs (k + 1) = zs[k] := by unfold lastI; rw [if_neg (by omega), Nat.add_sub_cancel, List.getD_eq_getElem?_getD, List.getElem?_eq_getElem (by omega)]; rfl
      refine sy_yes 0 (b := decide (Int.ofNat (k + 1) > 0)) (by kernel_rfl) (decide_eq_true (by show (0 : Int) < ((k + 1 : Nat) : Int); omega)) ?_
      refine ok_go 4 ?_
      refine sy_load 0 (r := indexAddrOp Tryz.prog 28 (.slice xa zs.length xc) (I (IntKind.wrap .i64 (Int.ofNat (k + 1) - 1)))) (h' := g) (by kernel_rfl) (by rw [hk1]; exact hp3) ?_
      refine ok_go 1 ?_
      refine sy_load 0 (r := loadT Tryz.prog g 3 p2) (h' := g) (by kernel_rfl) hp4 ?_
      refine ok_go 3 ?_
      refine sy_load 0 (r := indexAddrOp Tryz.prog 28 (.slice xa zs.length xc) (J (k + 1))) (h' := g) (by kernel_rfl) hp1 ?_
      refine ok_go 1 ?_
      refine sy_load 0 (r := loadT Tryz.prog g 3 p) (h' := g) (by kernel_rfl) hp2 ?_
      refine ok_go 5 ?_
      by_cases hb3 : zs[k] ≥ zs[k + 1]
      · refine sy_yes 0 (b := decide (zs[k] ≥ zs[k + 1])) (by kernel_rfl) (decide_eq_true hb3) ?_
        refine ok_go 0 ?_
        exact bad (.inl (by rw [hgd, hla]; exact hb3)) (by kernel_rfl)
      · refine sy_no 0 (b := decide (zs[k] ≥ zs[k + 1])) (by kernel_rfl) (decide_eq_false hb3) ?_
        refine ok_go 1 ?_
        refine sy_next 0 _ g (by kernel_rfl) (by kernel_rfl) (ih (k + 1 + 1) _ g ⟨hlt, next.resolve_left ?_, rfl⟩ (show zs.length - (k + 1 + 1) < zs.length - (k + 1) by omega) ⟨by kernel_rfl, by kernel_rfl, (by kernel_rfl : _ = Value.int .i64 (IntKind.wrap .i64 (Int.ofNat (k + 1 + 1)))).trans (by rw [hw]), trivial⟩)
        rintro (h | h)
        · rw [hgd, hla] at h; exact hb3 h
        · rw [hgd, ← hpw] at h; exact hb2 h
  · intro hlt
    have hlt : i = zs.length := Nat.le_antisymm hi (no_nat hlt)
    subst hlt
    refine ok_go 0 ?_
    exact sy_done 0 (v := J 0) (h := g) (by kernel_rfl) ⟨0, .inr ⟨N, rfl, hN, .inr ⟨rfl, hG⟩⟩, rfl, rfl⟩
end Go.Proofs.YtkfbfgcflnkllaaGreatDoor
namespace Go.Proofs.YtkfbfgcflnkllaaGreatDoor
open Go Go.Eng Nim
set_option maxRecDepth 100000
set_option maxHeartbeats 8000000
theorem same_of (lf m : Nat) (xs ys : List Int) (hlf : xs.length < lf) (hx1 : xs.length < 2 ^ 62) (x y : Value) (g : Hp) (hx : Rds g x (xs.map I)) (hy : Rds g y (ys.map I)) : Ev lf (m + 1) 16 [x, y] g = some (.bool (decide (xs = ys)), g) := by
  refine fn_eq ?_
  obtain ⟨xa, xc, hxs⟩ := hx.shape
  obtain ⟨ya, yc, hys⟩ := hy.shape
  rw [List.length_map] at hxs hys
  subst hxs hys
  have W := Sto.start g
  refine ok_go 3 ?_
  by_cases hne : xs.length = ys.length
  · refine sy_no 0 (b := Int.ofNat xs.length != Int.ofNat ys.length) (by kernel_rfl) (by rw [hne]; exact bne_self_eq_false _) ?_
    refine ok_go 0 ?_
    refine sy_loop 0 lf g (α := Nat) (fun i => [(0, .slice xa xs.length xc), (1, .slice ya ys.length yc), (5, J i)]) (fun i g' => i ≤ xs.length ∧ xs.take i = ys.take i ∧ g' = g) (fun i _ => xs.length - i) 0 (by kernel_rfl) (by kernel_rfl)
      ⟨by kernel_rfl, by kernel_rfl, by kernel_rfl, trivial⟩ (show xs.length - 0 < lf by omega) ⟨Nat.zero_le _, rfl, rfl⟩ ?_
    rintro m1 i F1 g ⟨hi, hpre, rfl⟩ ih
    have hw : IntKind.wrap .i64 (Int.ofNat (i + 1)) = Int.ofNat (i + 1) := wrap_nat (by omega)
    refine ok_go 2 ?_
    refine sy_test 0 (decide (Int.ofNat i < Int.ofNat xs.length)) (by kernel_rfl) ?_ ?_
    · intro hlt
      have hlt : i < xs.length := ok_nat hlt
      obtain ⟨p, hp1, hp2⟩ := rdI hx hlt
      obtain ⟨q, hq1, hq2⟩ := rdI hy (show i < ys.length by omega)
      refine ok_go 0 ?_
      refine sy_load 0 (r := indexAddrOp Tryz.prog 28 (.slice xa xs.length xc) (J i)) (h' := g) (by kernel_rfl) hp1 ?_
      refine ok_go 0 ?_
      refine sy_load 0 (r := loadT Tryz.prog g 3 p) (h' := g) (by kernel_rfl) hp2 ?_
      refine ok_go 0 ?_
      refine sy_load 0 (r := indexAddrOp Tryz.prog 28 (.slice ya ys.length yc) (J i)) (h' := g) (by kernel_rfl) hq1 ?_
      refine ok_go 0 ?_
      refine sy_load 0 (r := loadT Tryz.prog g 3 q) (h' := g) (by kernel_rfl) hq2 ?_
      refine ok_go 1 ?_
      by_cases he : xs[i] = ys[i]
      · refine sy_no 0 (b := xs[i] != ys[i]) (by kernel_rfl) (by rw [he]; exact bne_self_eq_false _) ?_
        refine ok_go 1 ?_
        exact sy_next 0 _ g (by kernel_rfl) (by kernel_rfl) (ih (i + 1) _ g ⟨hlt, by rw [List.take_succ_eq_append_getElem hlt, List.take_succ_eq_append_getElem (by omega), hpre, he], rfl⟩ (show xs.length - (i + 1) < xs.length - i by omega) ⟨by kernel_rfl, by kernel_rfl, (by kernel_rfl : _ = Value.int .i64 (IntKind.wrap .i64 (Int.ofNat (i + 1)))).trans (by rw [hw]), trivial⟩)
      · refine sy_yes 0 (b := xs[i] != ys[i]) (by kernel_rfl) (bne_iff_ne.2 he) ?_
        refine ok_go 0 ?_
        refine sy_done 0 (v := .bool false) (h := g) (by kernel_rfl) ⟨?_, rfl⟩
        rw [decide_eq_false fun h => he (by subst h; rfl)]
    · intro hlt
      have hlt : i = xs.length := Nat.le_antisymm hi (no_nat hlt)
      subst hlt
      refine ok_go 0 ?_
      refine sy_done 0 (v := .bool true) (h := g) (by kernel_rfl) ⟨?_, rfl⟩
      rw [List.take_length, hne, List.take_length] at hpre
      rw [decide_eq_true hpre]
  · refine sy_yes 0 (b := Int.ofNat xs.length != Int.ofNat ys.length) (by kernel_rfl) (bne_iff_ne.2 fun h => hne (Int.ofNat.inj h)) ?_
    refine ok_go 0 ?_
    refine sy_done 0 (v := .bool false) (h := g) (by kernel_rfl) ⟨?_, rfl⟩
    rw [decide_eq_false fun h => hne (by rw [h])]
theorem x_rem {k : IntKind} {t : TypeId} {a b : Int} (hb : b ≠ 0) : pureX (binOp .rem t (.int k a) (.int k b)) = some (.int k (a.tmod b)) := by
  refine pureX_of ?_ rfl
  simp only [binOp, ne_eq, not_true_eq_false, if_false, Op.intDiv, hb]
  rfl
theorem size_of (lf m : Nat) (z : Int) (k : Nat) (hk : k < 1000000) : ∃ r : Nat, r ≤ k ∧ ∀ h, Ev lf (m + 1) 17 [I z, J k] h = some (J r, h) := by
  obtain ⟨u, hu⟩ : ∃ u : Nat, IntKind.wrap .u64 z = Int.ofNat u := Int.eq_ofNat_of_zero_le (by
    show 0 ≤ z % 2 ^ 64
    exact Int.emod_nonneg _ (by decide))
  have hk1 : IntKind.wrap .i64 (Int.ofNat k + 1) = Int.ofNat (k + 1) := wrap_add (a := k) (b := 1) (by omega)
  have hk2 : IntKind.wrap .u64 (Int.ofNat (k + 1)) = Int.ofNat (k + 1) := Int.emod_eq_of_lt (Int.natCast_nonneg _) (show ((k + 1 : Nat) : Int) < 18446744073709551616 by omega)
  have hr : u % (k + 1) ≤ k := Nat.le_of_lt_succ (Nat.mod_lt _ (Nat.succ_pos k))
  refine ⟨u % (k + 1), hr, fun h => fn_eq ?_⟩
  have hv : IntKind.wrap .i64 ((IntKind.wrap .u64 z).tmod (IntKind.wrap .u64 (IntKind.wrap .i64 (Int.ofNat k + 1)))) = Int.ofNat (u % (k + 1)) := by
    rw [hk1, hk2, hu]
    exact wrap_nat (n := u % (k + 1)) (by omega)
  refine ok_go 3 ?_
  refine sy_load 0 (r := pureX (binOp .rem 36 (.int .u64 (IntKind.wrap .u64 z)) (.int .u64 (IntKind.wrap .u64 (IntKind.wrap .i64 (Int.ofNat k + 1)))))) (h' := h) (by kernel_rfl) (x_rem (by rw [hk1, hk2]; exact fun h => absurd (Int.ofNat.inj h) (Nat.succ_ne_zero k))) ?_
  refine ok_go 1 ?_
  refine sy_done 0 (v := I (IntKind.wrap .i64 ((IntKind.wrap .u64 z).tmod (IntKind.wrap .u64 (IntKind.wrap .i64 (Int.ofNat k + 1)))))) (h := h) (by kernel_rfl) ⟨by rw [hv], rfl⟩
end Go.Proofs.YtkfbfgcflnkllaaGreatDoor
namespace Go.Proofs.YtkfbfgcflnkllaaGreatDoor
open Go Go.Eng Nim Ch
set_option maxRecDepth 100000
set_option maxHeartbeats 8000000
/-- Open elements, and partners. -/
def pmS (n s : Nat) : Nat → List Nat × List Int
  | 0 => ([], List.replicate n 0)
  | i + 1 => if s.testBit i = false then ((pmS n s i).1 ++ [i], (pmS n s i).2.set i (-1)) else match (pmS n s i).1.getLast? with
    | none => ((pmS n s i).1, (pmS n s i).2.set i (-1))
    | some k => ((pmS n s i).1.dropLast, (((pmS n s i).2.set i (-1)).set i (Int.ofNat k)).set k (Int.ofNat i))
theorem pmS_len (n s : Nat) : ∀ i, (pmS n s i).2.length = n
  | 0 => by simp [pmS]
  | i + 1 => by
    have := pmS_len n s i
    unfold pmS
    split
    · simpa using this
    · split <;> simpa using this
theorem pmS_lt (n s : Nat) : ∀ i, (∀ k ∈ (pmS n s i).1, k < i) ∧ (pmS n s i).1.length ≤ i
  | 0 => by simp [pmS]
  | i + 1 => by
    obtain ⟨h3, h4⟩ := pmS_lt n s i
    unfold pmS
    split
    · refine ⟨fun k hk => ?_, by simp; omega⟩
      rcases List.mem_append.1 hk with hk | hk
      · have := h3 k hk; omega
      · rw [List.mem_singleton.1 hk]; exact Nat.lt_succ_self i
    · split
      · exact ⟨fun k hk => by have := h3 k hk; omega, by dsimp only; omega⟩
      · exact ⟨fun x hx => by have := h3 x (List.dropLast_subset _ hx); omega, by simp; omega⟩
def pm (n s : Nat) : List Int := (pmS n s n).2
theorem make_sl {t e : TypeId} {z : Value} {inf : TypeInfo} (hu : Tryz.prog.underlying t = some (.slice e)) (hz : zeroOf Tryz.prog e = some z) (hi : Tryz.prog.info? e = some inf) (hb : Nat.ble inf.bytes 4096 = true) (hc : z.cells.toList = [z]) (hs : Nat.beq z.cells.size inf.size = true) (hsc : scalar z = true) (n : Nat) (hn : n ≤ most) (h : Hp) :
    makeSliceOp Tryz.prog h t (J n) (J n) = some (.slice (some ⟨h.next, 0, none⟩) n (2 * n), h.new (.cells (List.replicate n z) e false)) := by
  have hzz : ∀ k, zeros [z] k = List.replicate k z := fun k => by
    induction k with
    | zero => rfl
    | succ k ih => rw [zeros, ih]; rfl
  have hnn : natOf (J n) = some n := rfl
  simp only [makeSliceOp, hu, hnn, hz, hi, Nat.ble_eq_true_of_le (Nat.le_refl n), Nat.ble_eq_true_of_le hn, hb, hs, hc, List.all_cons, hsc, List.all_nil, Bool.and_true, hzz]
theorem mk28 (n : Nat) (hn : n ≤ most) (h : Hp) : makeSliceOp Tryz.prog h 28 (J n) (J n) = some (.slice (some ⟨h.next, 0, none⟩) n (2 * n), h.new (.cells (List.replicate n (J 0)) 3 false)) :=
  make_sl (by kernel_rfl) (by kernel_rfl) rfl (by kernel_rfl) rfl (by kernel_rfl) rfl n hn h
theorem mk37 (n : Nat) (hn : n ≤ most) (h : Hp) : makeSliceOp Tryz.prog h 37 (J n) (J n) = some (.slice (some ⟨h.next, 0, none⟩) n (2 * n), h.new (.cells (List.replicate n (.bool false)) 4 false)) :=
  make_sl (by kernel_rfl) (by kernel_rfl) rfl (by kernel_rfl) rfl (by kernel_rfl) rfl n hn h
theorem rmat_of (lf m : Nat) (hlf : 2000 ≤ lf) (n s : Nat) (hn : n ≤ 10) (_ : s < 1024) (h : Hp) :
    ∃ v h', Ev lf (m + 1) 61 [J n, J s] h = some (v, h') ∧ Rds h' v ((pm n s).map I) ∧ h.Ext h' := by
  refine fnS_ok (Q := fun v h' => Rds h' v ((pm n s).map I) ∧ h.Ext h') ?_
  have W := Sto.start h
  refine ok_go 0 ?_
  refine sy_call 0 (by kernel_rfl) (mk28 n (by unfold most; omega) h) ?_
  have W := W.new (.cells (List.replicate n (J 0)) 3 false)
  generalize hg1 : h.new (.cells (List.replicate n (J 0)) 3 false) = g1 at *
  have W : Sto h g1 [(h.next, .cells ((List.replicate n (0 : Int)).map I) 3 false)] := by rw [List.map_replicate]; exact W
  clear hg1
  generalize h.next = b5 at *
  have hout : ∀ (g : Hp) (cs : List Value) (R : List (Nat × AObj)), Sto h g ((b5, .cells cs 3 false) :: R) → b5 < g.next ∧ g.get b5 = some (.cells cs 3 false) := fun g cs R W => ⟨W.lt 0 rfl, W.get 0 rfl⟩
  refine ok_go 0 ?_
  refine sy_loop 0 lf g1 (α := Nat × Nat × List Value × Option Addr × Nat) (fun x => [(0, J n), (1, J s), (5, .slice (some ⟨b5, 0, none⟩) n (2 * n)), (6, .slice x.2.2.2.1 (pmS n s x.1).1.length x.2.2.2.2), (7, J x.1)]) (fun x g => x.1 ≤ n ∧ OSv x.2.1 x.2.2.1.length (pmS n s x.1).1.length (.slice x.2.2.2.1 (pmS n s x.1).1.length x.2.2.2.2) ∧ x.2.2.1.length ≤ x.1 ∧ x.2.2.1.take (pmS n s x.1).1.length = (pmS n s x.1).1.map J ∧ Sto h g ((b5, .cells ((pmS n s x.1).2.map I) 3 false) :: oent x.2.1 3 x.2.2.1)) (fun x _ => n - x.1) (0, 0, [], none, 0) (by kernel_rfl) (by kernel_rfl)
    ⟨by kernel_rfl, by kernel_rfl, by kernel_rfl, by kernel_rfl, by kernel_rfl, trivial⟩ (show n - 0 < lf by omega) ⟨Nat.zero_le n, .inl ⟨rfl, rfl, rfl⟩, Nat.le_refl _, rfl, W⟩ ?_
  clear W
  rintro m1 ⟨i, q, cs, oa, oc⟩ F1 g ⟨hi, hO, hcl, hct, W⟩ ih
  dsimp only at hi hO hcl hct W
  obtain ⟨hob, hol⟩ := pmS_lt n s i
  have hpl := pmS_len n s i
  have hw : IntKind.wrap .i64 (Int.ofNat (i + 1)) = Int.ofNat (i + 1) := wrap_nat (by omega)
  have hstep : pmS n s (i + 1) = if s.testBit i = false then ((pmS n s i).1 ++ [i], (pmS n s i).2.set i (-1)) else match (pmS n s i).1.getLast? with
    | none => ((pmS n s i).1, (pmS n s i).2.set i (-1))
    | some k => ((pmS n s i).1.dropLast, (((pmS n s i).2.set i (-1)).set i (Int.ofNat k)).set k (Int.ofNat i)) := rfl
  refine ok_go 1 ?_
  refine sy_test 0 (decide (Int.ofNat i < Int.ofNat n)) (by kernel_rfl) ?_ ?_
  · intro hlt
    have hlt : i < n := ok_nat hlt
    have hbit : s.testBit i = decide (s / 2 ^ i % 2 = 1) := Nat.testBit_eq_decide_div_mod_eq
    refine ok_go 0 ?_
    refine sy_load 0 (r := indexAddrOp Tryz.prog 28 (.slice (some ⟨b5, 0, none⟩) n (2 * n)) (J i)) (h' := g) (v := ptr b5 i) (by kernel_rfl) (idxS0 (e := 3) (by kernel_rfl) (by kernel_rfl) hlt) ?_
    refine ok_go 0 ?_
    refine ow_store (P := Tryz.prog) (T := 3) (off := i) (v := I (-1)) 0 0 W rfl (by rw [List.length_map, hpl]; exact hlt) (by kernel_rfl) rfl (by kernel_rfl) fun g2 ng2 W => ?_
    rw [← List.map_set] at W
    have W : Sto h g2 ((b5, .cells (((pmS n s i).2.set i (-1)).map I) 3 false) :: oent q 3 cs) := W
    have hdv : ((Int.ofNat s).fdiv (2 ^ min (IntKind.u64.wrap (Int.ofNat i)).toNat IntKind.i64.bits)).tmod 2 = Int.ofNat (s / 2 ^ i % 2) := by
      rw [min_v i (by omega), show (Int.ofNat s).fdiv (2 ^ i) = Int.ofNat (s / 2 ^ i) from shr_nat _ _]
      rfl
    generalize hbb : s / 2 ^ i % 2 = bb at hbit hdv
    have hbb2 : bb < 2 := by rw [← hbb]; exact Nat.mod_lt _ (by decide)
    refine ok_go 4 ?_
    refine sy_test 0 (((Int.ofNat s).fdiv (2 ^ min (IntKind.u64.wrap (Int.ofNat i)).toNat IntKind.i64.bits)).tmod 2 == 0) (by kernel_rfl) ?_ ?_
    · intro h0
      rw [hdv] at h0
      have h0 : bb = 0 := Int.ofNat.inj (eq_of_beq h0)
      have hbit : s.testBit i = false := by rw [hbit, h0]; rfl
      rw [if_pos hbit] at hstep
      refine ow_new 0 W (AObj.cells [Value.int IntKind.i64 (Int.ofNat (Prod.fst (i, q, cs, oa, oc)))] 3 false) (fun q => Value.slice (some { block := q, off := 0 }) 1 2) (by kernel_rfl) fun k1 nk1 Wk1 => ?_
      have W := Wk1
      have W : Sto h k1 ((g2.next, .cells [J i] 3 false) :: ([(b5, .cells (((pmS n s i).2.set i (-1)).map I) 3 false)] ++ oent q 3 cs)) := W
      obtain ⟨v', k2, q', cs', e2, hO', hcl', hct', hsv, W⟩ := os_app W hO rfl (by omega)
      obtain ⟨oa', oc', rfl⟩ := hO'.shape
      refine sy_call 0 (by kernel_rfl) e2 ?_
      refine ok_go 1 ?_
      exact sy_next 0 _ k2 (by kernel_rfl) (by kernel_rfl) (ih (i + 1, q', cs', oa', oc') _ k2 ⟨hlt, by dsimp only; rw [hstep, List.length_append]; exact hO', by dsimp only; omega, by dsimp only; rw [hstep, List.length_append, List.map_append, ← hct]; exact hct', by dsimp only; rw [hstep]; exact W⟩ (show n - (i + 1) < n - i by omega) ⟨by kernel_rfl, by kernel_rfl, by kernel_rfl, (by kernel_rfl : _ = Value.slice oa' ((pmS n s i).1.length + 1) oc').trans (by dsimp only; rw [hstep, List.length_append]; rfl), (by kernel_rfl : _ = Value.int .i64 (IntKind.wrap .i64 (Int.ofNat (i + 1)))).trans (by rw [hw]), trivial⟩)
    · intro h0
      rw [hdv] at h0
      have h0 : bb ≠ 0 := fun e => by rw [e] at h0; cases h0
      have hbit : s.testBit i = true := by rw [hbit]; exact decide_eq_true (by omega)
      rw [if_neg (by rw [hbit]; decide)] at hstep
      refine ok_go 2 ?_
      by_cases hlen : (pmS n s i).1.length = 0
      · have hnil : (pmS n s i).1 = [] := List.eq_nil_of_length_eq_zero hlen
        rw [show (pmS n s i).1.getLast? = none by rw [hnil]; rfl] at hstep
        refine sy_no 0 (b := decide (Int.ofNat (pmS n s i).1.length > 0)) (by kernel_rfl) (by rw [hlen]; rfl) ?_
        refine ok_go 1 ?_
        have hstep : pmS n s (i + 1) = ((pmS n s i).1, (pmS n s i).2.set i (-1)) := hstep
        exact sy_next 0 _ g2 (by kernel_rfl) (by kernel_rfl) (ih (i + 1, q, cs, oa, oc) _ g2 ⟨hlt, by dsimp only; rw [hstep]; exact hO, by dsimp only; omega, by dsimp only; rw [hstep]; exact hct, by dsimp only; rw [hstep]; exact W⟩ (show n - (i + 1) < n - i by omega) ⟨by kernel_rfl, by kernel_rfl, by kernel_rfl, (by kernel_rfl : _ = Value.slice oa (pmS n s i).1.length oc).trans (by rw [hstep]), (by kernel_rfl : _ = Value.int .i64 (IntKind.wrap .i64 (Int.ofNat (i + 1)))).trans (by rw [hw]), trivial⟩)
      · obtain ⟨L, hL⟩ : ∃ L, (pmS n s i).1.length = L + 1 := ⟨(pmS n s i).1.length - 1, by omega⟩
        have hk1 : IntKind.i64.wrap (Int.ofNat (pmS n s i).1.length - 1) = Int.ofNat L := by rw [hL]; exact wrap_sub (a := L + 1) (b := 1) (by omega) (by omega)
        obtain ⟨k, hk⟩ : ∃ k, (pmS n s i).1[L]? = some k := ⟨_, List.getElem?_eq_getElem (by omega)⟩
        have hlast : (pmS n s i).1.getLast? = some k := by rw [List.getLast?_eq_getElem?, hL]; exact hk
        have hki := hob k (List.mem_of_getElem? hk)
        rw [hlast] at hstep
        have hstep : pmS n s (i + 1) = ((pmS n s i).1.dropLast, (((pmS n s i).2.set i (-1)).set i (Int.ofNat k)).set k (Int.ofNat i)) := hstep
        obtain ⟨hc0, hlc, hv⟩ : 0 < cs.length ∧ (pmS n s i).1.length ≤ cs.length ∧ Value.slice oa (pmS n s i).1.length oc = .slice (some ⟨q, 0, none⟩) (pmS n s i).1.length (2 * cs.length + 1) := by
          rcases hO with ⟨a, b, _⟩ | hh
          · omega
          · exact hh
        cases hv
        have hcL : cs[L]? = some (J k) := by
          have : (cs.take (pmS n s i).1.length)[L]? = ((pmS n s i).1.map J)[L]? := by rw [hct]
          rw [List.getElem?_take, if_pos (by omega), List.getElem?_map, hk] at this
          exact this
        have hone : oent q 3 cs = [(q, .cells cs 3 true)] := by
          cases cs with
          | nil => cases hc0
          | cons a r => rfl
        rw [hone] at W
        refine sy_yes 0 (b := decide (Int.ofNat (pmS n s i).1.length > 0)) (by kernel_rfl) (decide_eq_true (by rw [hL]; show (0 : Int) < ((L + 1 : Nat) : Int); omega)) ?_
        refine ok_go 2 ?_
        refine sy_load 0 (r := indexAddrOp Tryz.prog 28 (.slice (some ⟨q, 0, none⟩) (pmS n s i).1.length (2 * cs.length + 1)) (I (IntKind.i64.wrap (Int.ofNat (pmS n s i).1.length - 1)))) (h' := g2) (v := ptr q L) (by kernel_rfl) (by rw [hk1]; exact idxS0 (e := 3) (by kernel_rfl) (by kernel_rfl) (by omega)) ?_
        refine ok_go 0 ?_
        refine ow_load (P := Tryz.prog) (T := 3) (off := L) 0 1 W rfl hcL (by kernel_rfl) (by kernel_rfl) ?_
        refine ok_go 2 ?_
        refine sy_load 0 (r := sliceOp Tryz.prog 28 (.slice (some ⟨q, 0, none⟩) (pmS n s i).1.length (2 * cs.length + 1)) none (some (I (IntKind.i64.wrap (Int.ofNat (pmS n s i).1.length - 1)))) none) (h' := g2) (v := .slice (some ⟨q, 0, none⟩) L (2 * cs.length + 1)) (by kernel_rfl) (by rw [hk1]; exact gl_hi (e := 3) (by kernel_rfl) (by kernel_rfl) (by omega) hc0) ?_
        refine ok_go 0 ?_
        refine sy_load 0 (r := indexAddrOp Tryz.prog 28 (.slice (some ⟨b5, 0, none⟩) n (2 * n)) (J i)) (h' := g2) (v := ptr b5 i) (by kernel_rfl) (idxS0 (e := 3) (by kernel_rfl) (by kernel_rfl) hlt) ?_
        refine ok_go 0 ?_
        refine ow_store (P := Tryz.prog) (T := 3) (off := i) (v := J k) 0 0 W rfl (by rw [List.length_map, List.length_set, hpl]; exact hlt) (by kernel_rfl) rfl (by kernel_rfl) fun g3 ng3 W => ?_
        have W : Sto h g3 [(b5, .cells ((((pmS n s i).2.set i (-1)).map I).set i (I (Int.ofNat k))) 3 false), (q, .cells cs 3 true)] := W
        rw [← List.map_set] at W
        refine ok_go 0 ?_
        refine sy_load 0 (r := indexAddrOp Tryz.prog 28 (.slice (some ⟨b5, 0, none⟩) n (2 * n)) (J k)) (h' := g3) (v := ptr b5 k) (by kernel_rfl) (idxS0 (e := 3) (by kernel_rfl) (by kernel_rfl) (by omega)) ?_
        refine ok_go 0 ?_
        refine ow_store (P := Tryz.prog) (T := 3) (off := k) (v := J i) 0 0 W rfl (by rw [List.length_map, List.length_set, List.length_set, hpl]; omega) (by kernel_rfl) rfl (by kernel_rfl) fun g4 ng4 W => ?_
        have W : Sto h g4 [(b5, .cells (((((pmS n s i).2.set i (-1)).set i (Int.ofNat k)).map I).set k (I (Int.ofNat i))) 3 false), (q, .cells cs 3 true)] := W
        rw [← List.map_set, ← hone] at W
        have hdl : (pmS n s i).1.dropLast.length = L := by rw [List.length_dropLast]; omega
        refine ok_go 1 ?_
        exact sy_next 0 _ g4 (by kernel_rfl) (by kernel_rfl) (ih (i + 1, q, cs, some ⟨q, 0, none⟩, 2 * cs.length + 1) _ g4 ⟨hlt, by dsimp only; rw [hstep]; dsimp only; rw [hdl]; exact .inr ⟨hc0, by omega, rfl⟩, by dsimp only; omega, by
          dsimp only
          rw [hstep]
          dsimp only
          rw [hdl, List.dropLast_eq_take, hL, Nat.add_sub_cancel, List.map_take, ← hct, List.take_take, Nat.min_eq_left (by omega)], by dsimp only; rw [hstep]; exact W⟩ (show n - (i + 1) < n - i by omega) ⟨by kernel_rfl, by kernel_rfl, by kernel_rfl, (by kernel_rfl : _ = Value.slice (some ⟨q, 0, none⟩) L (2 * cs.length + 1)).trans (by rw [hstep]; dsimp only; rw [hdl]), (by kernel_rfl : _ = Value.int .i64 (IntKind.wrap .i64 (Int.ofNat (i + 1)))).trans (by rw [hw]), trivial⟩)
  · intro hlt
    have hlt : i = n := Nat.le_antisymm hi (no_nat hlt)
    subst hlt
    refine ok_go 0 ?_
    refine sy_done 0 (v := .slice (some ⟨b5, 0, none⟩) i (2 * i)) (h := g) (by kernel_rfl) ⟨?_, W.ext⟩
    obtain ⟨h1, h2⟩ := hout g _ _ W
    refine .inr ⟨b5, 0, _, by rw [List.length_map]; unfold pm; rw [hpl], fun _ => ⟨h1, ?_⟩⟩
    unfold loadN
    rw [h2]
    exact takeN_all _
end Go.Proofs.YtkfbfgcflnkllaaGreatDoor
namespace Go.Proofs.YtkfbfgcflnkllaaGreatDoor
open Go Go.Eng Nim
set_option maxRecDepth 100000
set_option maxHeartbeats 8000000
/-- The array of marks. -/
def mk97 (f : Nat → Bool) : List Value := cellsF 1024 fun i => .bool (f i)
theorem u97 : Tryz.prog.underlying 97 = some (.array 1024 4) := by kernel_rfl
theorem idxM {i x : Nat} (hx : x < 1024) : indexAddrOp Tryz.prog 97 (ptr i 0) (J x) = some (ptr i x) := by
  have hs : sizeT Tryz.prog 4 = some 1 := by kernel_rfl
  have hb : Nat.blt x 1024 = true := Nat.ble_eq_true_of_le hx
  simp only [indexAddrOp, natOf, ptr, u97, hs, addTo]
  rw [show Nat.blt x 1024 = true from hb]
  simp
theorem mk97_set {f : Nat → Bool} {k : Nat} {b : Bool} : updF (fun i => Value.bool (f i)) k (.bool b) = fun i => .bool (if i = k then b else f i) := by
  funext i
  unfold updF
  split <;> simp_all
theorem mk97_take (f : Nat → Bool) : takeN 1024 (mk97 f) = some (mk97 f) := by
  have := takeN_all (mk97 f)
  rwa [show (mk97 f).length = 1024 from cellsF_len ..] at this
theorem mk97_sc (f : Nat → Bool) : (mk97 f).all scalar = true := List.all_eq_true.2 fun v hv => by
  obtain ⟨n, _, rfl⟩ := List.mem_map.1 hv
  rfl
theorem marked_of (lf m : Nat) (hlf : 2000 ≤ lf) (l : List Nat) (hl : l.length < 2000) (hb : ∀ x ∈ l, x < 1024) (v : Value) (h : Hp) (hv : Rds h v (l.map J)) :
    ∃ v' h', Ev lf (m + 1) 62 [v] h = some (v', h') ∧ v' = .agg (mk97 fun i => decide (i ∈ l)).toArray ∧ h.Ext h' := by
  refine fnS_ok (Q := fun v' h' => v' = .agg (mk97 fun i => decide (i ∈ l)).toArray ∧ h.Ext h') ?_
  obtain ⟨va, vc, hvs⟩ := hv.shape
  rw [List.length_map] at hvs
  subst hvs
  have W := Sto.start h
  refine ok_go 0 ?_
  refine ow_new 0 W (.cells (mk97 fun _ => false) 97 false) (fun i => ptr i 0) (by kernel_rfl) fun g1 ng1 W => ?_
  refine ok_go 0 ?_
  refine ow_new 0 W (.cells (mk97 fun _ => false) 97 false) (fun i => ptr i 0) (by kernel_rfl) fun g2 ng2 W => ?_
  refine ok_go 1 ?_
  refine sy_loop 0 lf g2 (α := Nat) (fun i => [(2, ptr h.next 0), (3, ptr g1.next 0), (6, .slice va l.length vc), (7, J l.length), (8, J i)]) (fun i g => i ≤ l.length ∧ Sto h g [(g1.next, .cells (mk97 fun k => decide (k ∈ l.take i)) 97 false), (h.next, .cells (mk97 fun _ => false) 97 false)]) (fun i _ => l.length - i) 0 (by kernel_rfl) (by kernel_rfl)
    ⟨by kernel_rfl, by kernel_rfl, by kernel_rfl, by kernel_rfl, by kernel_rfl, trivial⟩ (show l.length - 0 < lf by omega) ⟨Nat.zero_le _, by
      simpa using W⟩ ?_
  clear W
  rintro m1 i F1 g ⟨hi, W⟩ ih
  have hw : IntKind.wrap .i64 (Int.ofNat (i + 1)) = Int.ofNat (i + 1) := wrap_nat (by omega)
  refine ok_go 1 ?_
  refine sy_test 0 (decide (Int.ofNat i < Int.ofNat l.length)) (by kernel_rfl) ?_ ?_
  · intro hlt
    have hlt : i < l.length := ok_nat hlt
    have hx : l[i]? = some l[i] := List.getElem?_eq_getElem hlt
    have hxb := hb _ (List.mem_of_getElem? hx)
    obtain ⟨p, hp1, hp2⟩ := rdN (hv.ext W.ext) hlt
    generalize hxe : l[i] = x at *
    refine ok_go 0 ?_
    refine sy_load 0 (r := indexAddrOp Tryz.prog 28 (.slice va l.length vc) (J i)) (h' := g) (by kernel_rfl) hp1 ?_
    refine ok_go 0 ?_
    refine sy_load 0 (r := loadT Tryz.prog g 3 p) (h' := g) (by kernel_rfl) hp2 ?_
    refine ok_go 0 ?_
    refine sy_load 0 (r := indexAddrOp Tryz.prog 97 (ptr g1.next 0) (J x)) (h' := g) (by kernel_rfl) (idxM hxb) ?_
    refine ok_go 0 ?_
    refine ow_storeF (P := Tryz.prog) (T := 4) (v := .bool true) 0 0 W rfl hxb zB rfl (by kernel_rfl) fun g2 ng2 W => ?_
    rw [mk97_set] at W
    have W : Sto h g2 [(g1.next, .cells (mk97 fun k => decide (k ∈ l.take (i + 1))) 97 false), (h.next, .cells (mk97 fun _ => false) 97 false)] := by
      rw [show (fun k => decide (k ∈ l.take (i + 1))) = fun k => if k = x then true else decide (k ∈ l.take i) from by
        funext k
        rw [List.take_succ_eq_append_getElem hlt, hxe]
        by_cases hk : k = x
        · simp [hk]
        · simp [hk]]
      exact W
    refine ok_go 1 ?_
    exact sy_next 0 _ g2 (by kernel_rfl) (by kernel_rfl) (ih (i + 1) _ g2 ⟨hlt, W⟩ (show l.length - (i + 1) < l.length - i by omega) ⟨by kernel_rfl, by kernel_rfl, by kernel_rfl, by kernel_rfl, (by kernel_rfl : _ = Value.int .i64 (IntKind.wrap .i64 (Int.ofNat (i + 1)))).trans (by rw [hw]), trivial⟩)
  · intro hlt
    have hlt : i = l.length := Nat.le_antisymm hi (no_nat hlt)
    subst hlt
    rw [List.take_length] at W
    generalize hM : (mk97 fun k => decide (k ∈ l)) = M at *
    have hMl : M.length = 1024 := by rw [← hM]; exact cellsF_len ..
    have hMt : takeN 1024 M = some M := by rw [← hM]; exact mk97_take _
    have hMs : M.all scalar = true := by rw [← hM]; exact mk97_sc _
    refine ok_go 0 ?_
    refine ow_loadA (P := Tryz.prog) (T := 97) 0 0 W rfl (by kernel_rfl) (by kernel_rfl) hMt (by kernel_rfl) ?_
    refine ok_go 0 ?_
    refine ow_storeA (P := Tryz.prog) (T := 97) (v := .agg M.toArray) 0 1 W M rfl rfl (by rw [hMl]; exact (cellsF_len ..).symm) (by rw [hMl]; kernel_rfl) hMs (by kernel_rfl) fun g2 ng2 W => ?_
    refine ok_go 0 ?_
    refine ow_loadA (P := Tryz.prog) (T := 97) 0 1 W rfl (by kernel_rfl) (by kernel_rfl) hMt (by kernel_rfl) ?_
    refine ok_go 0 ?_
    exact sy_done 0 (v := .agg M.toArray) (h := g2) (by kernel_rfl) ⟨rfl, W.ext⟩
end Go.Proofs.YtkfbfgcflnkllaaGreatDoor
namespace Go.Proofs.YtkfbfgcflnkllaaGreatDoor
open Go Go.Eng Nim
set_option maxRecDepth 100000
set_option maxHeartbeats 8000000
/-- What is marked below n, in order. -/
def lst (f : Nat → Bool) (n : Nat) : List Nat := (List.range n).filter f
theorem lst_succ (f : Nat → Bool) (n : Nat) : lst f (n + 1) = if f n then lst f n ++ [n] else lst f n := by
  unfold lst
  rw [List.range_succ, List.filter_append]
  cases h : f n <;> simp [h]
theorem lst_len (f : Nat → Bool) (n : Nat) : (lst f n).length ≤ n := by
  unfold lst
  exact Nat.le_trans (List.length_filter_le ..) (by rw [List.length_range]; exact Nat.le_refl _)
theorem list_of (lf m : Nat) (hlf : 2000 ≤ lf) (f : Nat → Bool) (b : Nat) (opn : Bool) (h : Hp) (hb : h.get b = some (.cells (mk97 f) 97 opn)) (hbn : b < h.next) :
    ∃ v h', Ev lf (m + 1) 63 [ptr b 0] h = some (v, h') ∧ (∃ q, v = oslV q (lst f 1024).length ∧ Sto h h' (oent q 3 ((lst f 1024).map J))) := by
  refine fnS_ok (Q := fun v h' => ∃ q, v = oslV q (lst f 1024).length ∧ Sto h h' (oent q 3 ((lst f 1024).map J))) ?_
  have W := Sto.start h
  refine ok_go 0 ?_
  refine sy_loop 0 lf h (α := Nat × Nat × Option Addr × Nat) (fun x => [(6, ptr b 0), (3, .slice x.2.2.1 (lst f x.1).length x.2.2.2), (7, J x.1)]) (fun x g => x.1 ≤ 1024 ∧ .slice x.2.2.1 (lst f x.1).length x.2.2.2 = oslV x.2.1 (lst f x.1).length ∧ Sto h g (oent x.2.1 3 ((lst f x.1).map J))) (fun x _ => 1024 - x.1) (0, 0, none, 0) (by kernel_rfl) (by kernel_rfl)
    ⟨by kernel_rfl, by kernel_rfl, by kernel_rfl, trivial⟩ (show 1024 - 0 < lf by omega) ⟨Nat.zero_le _, rfl, W⟩ ?_
  clear W
  rintro m1 ⟨i, q, oa, oc⟩ F1 g ⟨hi, hos, W⟩ ih
  dsimp only at hi hos W
  have hw : IntKind.wrap .i64 (Int.ofNat (i + 1)) = Int.ofNat (i + 1) := wrap_nat (by omega)
  have hll := lst_len f i
  have hls := lst_succ f i
  refine ok_go 1 ?_
  refine sy_test 0 (decide (Int.ofNat i < 1024)) (by kernel_rfl) ?_ ?_
  · intro hlt
    have hlt : i < 1024 := ok_nat (b := 1024) hlt
    have hbg := (W.ext.get b hbn).trans hb
    refine ok_go 1 ?_
    refine sy_load 0 (r := indexAddrOp Tryz.prog 97 (ptr b 0) (J i)) (h' := g) (by kernel_rfl) (idxM hlt) ?_
    refine ok_go 0 ?_
    refine sy_load 0 (r := loadT Tryz.prog g 4 (ptr b i)) (h' := g) (v := .bool (f i)) (by kernel_rfl) (load1 agB hbg (cellsF_get hlt)) ?_
    refine ok_go 0 ?_
    cases hf : f i with
    | true =>
      rw [hf, if_pos rfl] at hls
      generalize lst f i = L at *
      refine ow_new 1 W (AObj.cells [Value.int IntKind.i64 (Int.ofNat (Prod.fst (i, q, oa, oc)))] 3 false) (fun q => Value.slice (some { block := q, off := 0 }) 1 2) (by kernel_rfl) fun k1 nk1 Wk1 => ?_
      have W := Wk1
      have W : Sto h k1 ((g.next, .cells [J i] 3 false) :: ([] ++ oent q 3 (L.map J))) := W
      refine ow_app (P := Tryz.prog) (t := 28) (e := 3) (z := 1) (c := L.length) (i := q) 0 W slz28 (by rw [List.length_map, Nat.mul_one]) rfl rfl (by omega) (by rw [← hos]; kernel_rfl) fun k2 sl nk2 hsl hsc W => ?_
      obtain ⟨oa2, oc2, ho2⟩ := osl_shape k1.next (L.length + 1)
      rw [ho2] at hsl
      subst hsl
      have W : Sto h k2 (oent k1.next 3 ((L ++ [i]).map J)) := by rw [List.map_append]; exact W
      refine ok_go 1 ?_
      exact sy_next 0 _ k2 (by kernel_rfl) (by kernel_rfl) (ih (i + 1, k1.next, oa2, oc2) _ k2 ⟨hlt, by dsimp only; rw [hls, List.length_append]; exact ho2.symm, by dsimp only; rw [hls]; exact W⟩ (show 1024 - (i + 1) < 1024 - i by omega) ⟨by kernel_rfl, (by kernel_rfl : _ = Value.slice oa2 (L.length + 1) oc2).trans (by dsimp only; rw [hls, List.length_append]; rfl), (by kernel_rfl : _ = Value.int .i64 (IntKind.wrap .i64 (Int.ofNat (i + 1)))).trans (by rw [hw]), trivial⟩)
    | false =>
      rw [hf, if_neg Bool.false_ne_true] at hls
      generalize lst f i = L at *
      refine ok_go 2 ?_
      exact sy_next 0 _ g (by kernel_rfl) (by kernel_rfl) (ih (i + 1, q, oa, oc) _ g ⟨hlt, by dsimp only; rw [hls]; exact hos, by dsimp only; rw [hls]; exact W⟩ (show 1024 - (i + 1) < 1024 - i by omega) ⟨by kernel_rfl, (by kernel_rfl : _ = Value.slice oa L.length oc).trans (by dsimp only; rw [hls]), (by kernel_rfl : _ = Value.int .i64 (IntKind.wrap .i64 (Int.ofNat (i + 1)))).trans (by rw [hw]), trivial⟩)
  · intro hlt
    have hlt : i = 1024 := Nat.le_antisymm hi (no_nat (b := 1024) hlt)
    subst hlt
    refine ok_go 0 ?_
    exact sy_done 0 (v := .slice oa (lst f 1024).length oc) (h := g) (by kernel_rfl) ⟨q, hos, W⟩
theorem lst_rd {h g : Hp} {f : Nat → Bool} {n q : Nat} (W : Sto h g (oent q 3 ((lst f n).map J))) : Rds g (oslV q (lst f n).length) ((lst f n).map J) := by
  have := osl_rd (H := g) (e := 3) (i := q) (zs := (lst f n).map J) fun p hp => (W.all p hp).2
  rwa [List.length_map] at this
theorem rdB {h : Hp} {rv : Value} {N : Nat} {f : Nat → Bool} (hr : Rds h rv (cellsF N fun i => .bool (f i))) {k : Nat} (hk : k < N) : ∃ p, indexAddrOp Tryz.prog 37 rv (J k) = some p ∧ loadT Tryz.prog h 4 p = some (.bool (f k)) :=
  hr.read (e := 4) (by kernel_rfl) (by kernel_rfl) (by kernel_rfl) (cellsF_get hk)
theorem rlist_of (lf m : Nat) (hlf : 2000 ≤ lf) (f : Nat → Bool) (N : Nat) (hN : N ≤ 1024) (v : Value) (h : Hp) (hv : Rds h v (cellsF N fun i => .bool (f i))) :
    ∃ v' h', Ev lf (m + 1) 77 [v] h = some (v', h') ∧ (∃ q, v' = oslV q (lst f N).length ∧ Sto h h' (oent q 3 ((lst f N).map J))) := by
  refine fnS_ok (Q := fun v h' => ∃ q, v = oslV q (lst f N).length ∧ Sto h h' (oent q 3 ((lst f N).map J))) ?_
  obtain ⟨va, vc, hvs⟩ := hv.shape
  rw [cellsF_len] at hvs
  subst hvs
  have W := Sto.start h
  refine ok_go 0 ?_
  refine sy_loop 0 lf h (α := Nat × Nat × Option Addr × Nat) (fun x => [(0, .slice va N vc), (3, .slice x.2.2.1 (lst f x.1).length x.2.2.2), (4, J x.1)]) (fun x g => x.1 ≤ N ∧ .slice x.2.2.1 (lst f x.1).length x.2.2.2 = oslV x.2.1 (lst f x.1).length ∧ Sto h g (oent x.2.1 3 ((lst f x.1).map J))) (fun x _ => N - x.1) (0, 0, none, 0) (by kernel_rfl) (by kernel_rfl)
    ⟨by kernel_rfl, by kernel_rfl, by kernel_rfl, trivial⟩ (show N - 0 < lf by omega) ⟨Nat.zero_le _, rfl, W⟩ ?_
  clear W
  rintro m1 ⟨i, q, oa, oc⟩ F1 g ⟨hi, hos, W⟩ ih
  dsimp only at hi hos W
  have hw : IntKind.wrap .i64 (Int.ofNat (i + 1)) = Int.ofNat (i + 1) := wrap_nat (by omega)
  have hll := lst_len f i
  have hls := lst_succ f i
  refine ok_go 2 ?_
  refine sy_test 0 (decide (Int.ofNat i < Int.ofNat N)) (by kernel_rfl) ?_ ?_
  · intro hlt
    have hlt : i < N := ok_nat hlt
    obtain ⟨p, hp1, hp2⟩ := rdB (hv.ext W.ext) hlt
    refine ok_go 0 ?_
    refine sy_load 0 (r := indexAddrOp Tryz.prog 37 (.slice va N vc) (J i)) (h' := g) (by kernel_rfl) hp1 ?_
    refine ok_go 0 ?_
    refine sy_load 0 (r := loadT Tryz.prog g 4 p) (h' := g) (v := .bool (f i)) (by kernel_rfl) hp2 ?_
    refine ok_go 0 ?_
    cases hf : f i with
    | true =>
      rw [hf, if_pos rfl] at hls
      generalize lst f i = L at *
      refine ow_new 1 W (AObj.cells [Value.int IntKind.i64 (Int.ofNat (Prod.fst (i, q, oa, oc)))] 3 false) (fun q => Value.slice (some { block := q, off := 0 }) 1 2) (by kernel_rfl) fun k1 nk1 Wk1 => ?_
      have W := Wk1
      have W : Sto h k1 ((g.next, .cells [J i] 3 false) :: ([] ++ oent q 3 (L.map J))) := W
      refine ow_app (P := Tryz.prog) (t := 28) (e := 3) (z := 1) (c := L.length) (i := q) 0 W slz28 (by rw [List.length_map, Nat.mul_one]) rfl rfl (by omega) (by rw [← hos]; kernel_rfl) fun k2 sl nk2 hsl hsc W => ?_
      obtain ⟨oa2, oc2, ho2⟩ := osl_shape k1.next (L.length + 1)
      rw [ho2] at hsl
      subst hsl
      have W : Sto h k2 (oent k1.next 3 ((L ++ [i]).map J)) := by rw [List.map_append]; exact W
      refine ok_go 1 ?_
      exact sy_next 0 _ k2 (by kernel_rfl) (by kernel_rfl) (ih (i + 1, k1.next, oa2, oc2) _ k2 ⟨hlt, by dsimp only; rw [hls, List.length_append]; exact ho2.symm, by dsimp only; rw [hls]; exact W⟩ (show N - (i + 1) < N - i by omega) ⟨by kernel_rfl, (by kernel_rfl : _ = Value.slice oa2 (L.length + 1) oc2).trans (by dsimp only; rw [hls, List.length_append]; rfl), (by kernel_rfl : _ = Value.int .i64 (IntKind.wrap .i64 (Int.ofNat (i + 1)))).trans (by rw [hw]), trivial⟩)
    | false =>
      rw [hf, if_neg Bool.false_ne_true] at hls
      generalize lst f i = L at *
      refine ok_go 2 ?_
      exact sy_next 0 _ g (by kernel_rfl) (by kernel_rfl) (ih (i + 1, q, oa, oc) _ g ⟨hlt, by dsimp only; rw [hls]; exact hos, by dsimp only; rw [hls]; exact W⟩ (show N - (i + 1) < N - i by omega) ⟨by kernel_rfl, (by kernel_rfl : _ = Value.slice oa L.length oc).trans (by dsimp only; rw [hls]), (by kernel_rfl : _ = Value.int .i64 (IntKind.wrap .i64 (Int.ofNat (i + 1)))).trans (by rw [hw]), trivial⟩)
  · intro hlt
    have hlt : i = N := Nat.le_antisymm hi (no_nat hlt)
    subst hlt
    refine ok_go 0 ?_
    exact sy_done 0 (v := .slice oa (lst f i).length oc) (h := g) (by kernel_rfl) ⟨q, hos, W⟩
end Go.Proofs.YtkfbfgcflnkllaaGreatDoor
namespace Go.Proofs.YtkfbfgcflnkllaaGreatDoor
open Go Go.Eng Nim
set_option maxRecDepth 100000
set_option maxHeartbeats 8000000
theorem rep_cells (n : Nat) (v : Value) : List.replicate n v = cellsF n fun _ => v := by
  unfold cellsF
  rw [List.map_const', List.length_range]
theorem mkB (n : Nat) (hn : n ≤ 1024) (h : Hp) : makeSliceOp Tryz.prog h 37 (J n) (J n) = some (.slice (some ⟨h.next, 0, none⟩) n (2 * n), h.new (.cells (cellsF n fun _ => .bool false) 4 false)) := by
  rw [← rep_cells]
  exact mk37 n (by unfold Eng.most; omega) h
theorem rem_u (x : Int) (N : Nat) (hN : 0 < N) (hN2 : N < 2 ^ 62) : ∃ k, k < N ∧ (IntKind.wrap .u64 x).tmod (IntKind.wrap .u64 (Int.ofNat N)) = Int.ofNat k := by
  obtain ⟨u, hu⟩ : ∃ u : Nat, IntKind.wrap .u64 x = Int.ofNat u := Int.eq_ofNat_of_zero_le (by
    show 0 ≤ x % 2 ^ 64
    exact Int.emod_nonneg _ (by decide))
  have h2 : IntKind.wrap .u64 (Int.ofNat N) = Int.ofNat N := Int.emod_eq_of_lt (Int.natCast_nonneg _) (show ((N : Nat) : Int) < 18446744073709551616 by omega)
  exact ⟨u % N, Nat.mod_lt _ hN, by rw [hu, h2]; rfl⟩
theorem wrap_ne (N : Nat) (hN : 0 < N) (hN2 : N < 2 ^ 62) : IntKind.wrap .u64 (Int.ofNat N) ≠ 0 := by
  have h2 : IntKind.wrap .u64 (Int.ofNat N) = Int.ofNat N := Int.emod_eq_of_lt (Int.natCast_nonneg _) (show ((N : Nat) : Int) < 18446744073709551616 by omega)
  rw [h2]
  exact fun h => by have : N = 0 := Int.ofNat.inj h; omega
theorem tame_of (lf m : Nat) (hlf : 2000 ≤ lf) (n most : Nat) (hn : n ≤ 10) (hm : most ≤ 1000) (zs : List Int) (hzs : zs.length < 2 ^ 63) (v : Value) (h : Hp) (hv : Rds h v (zs.map I)) :
    ∃ v' h', Ev lf (m + 1) 20 [J n, v, J most] h = some (v', h') ∧ ∃ f q, v' = oslV q (lst f (2 ^ n)).length ∧ Sto h h' (oent q 3 ((lst f (2 ^ n)).map J)) := by
  refine fnS_ok (Q := fun v' h' => ∃ f q, v' = oslV q (lst f (2 ^ n)).length ∧ Sto h h' (oent q 3 ((lst f (2 ^ n)).map J))) ?_
  have hsh := one_shl n (by omega)
  have h2n : 2 ^ n ≤ 1024 := Nat.pow_le_pow_right (by decide) hn
  have hpos := Nat.two_pow_pos n
  obtain ⟨va, vc, hvs⟩ := hv.shape
  rw [List.length_map] at hvs
  subst hvs
  have W := Sto.start h
  refine ok_go 2 ?_
  refine sy_call 0 (r := makeSliceOp Tryz.prog h 37 (I (IntKind.i64.wrap (1 * 2 ^ min (IntKind.u64.wrap (Int.ofNat n)).toNat IntKind.i64.bits))) (I (IntKind.i64.wrap (1 * 2 ^ min (IntKind.u64.wrap (Int.ofNat n)).toNat IntKind.i64.bits)))) (by kernel_rfl) (by rw [hsh]; exact mkB (2 ^ n) h2n h) ?_
  have W := W.new (.cells (cellsF (2 ^ n) fun _ => .bool false) 4 false)
  generalize h.new (.cells (cellsF (2 ^ n) fun _ => .bool false) 4 false) = h1 at *
  refine ok_go 0 ?_
  refine sy_loop 0 lf h1 (α := Nat × (Nat → Bool)) (fun x => [(1, .slice va zs.length vc), (2, J most), (7, .slice (some ⟨h.next, 0, none⟩) (2 ^ n) (2 * 2 ^ n)), (8, J x.1)]) (fun x g => x.1 ≤ most ∧ Sto h g [(h.next, .cells (cellsF (2 ^ n) fun k => .bool (x.2 k)) 4 false)]) (fun x _ => most - x.1) (0, fun _ => false) (by kernel_rfl) (by kernel_rfl)
    ⟨by kernel_rfl, by kernel_rfl, by kernel_rfl, by kernel_rfl, trivial⟩ (show most - 0 < lf by omega) ⟨Nat.zero_le _, W⟩ ?_
  clear W
  rintro m1 ⟨i, f⟩ F1 g ⟨hi, W⟩ ih
  dsimp only at hi W
  have hw : IntKind.wrap .i64 (Int.ofNat (i + 1)) = Int.ofNat (i + 1) := wrap_nat (by omega)
  refine ok_go 2 ?_
  by_cases h1 : i < zs.length
  · refine sy_yes 0 (b := decide (Int.ofNat i < Int.ofNat zs.length)) (by kernel_rfl) (decide_eq_true (by show (i : Int) < (zs.length : Int); omega)) ?_
    refine ok_go 4 ?_
    by_cases h2 : i < most
    · refine sy_yes 0 (b := decide (Int.ofNat i < Int.ofNat most)) (by kernel_rfl) (decide_eq_true (by show (i : Int) < (most : Int); omega)) ?_
      obtain ⟨p, hp1, hp2⟩ := rdI (hv.ext W.ext) h1
      generalize zs[i] = x at *
      obtain ⟨k, hk, hrem⟩ := rem_u x (2 ^ n) hpos (by omega)
      refine ok_go 0 ?_
      refine sy_load 0 (r := indexAddrOp Tryz.prog 28 (.slice va zs.length vc) (J i)) (h' := g) (by kernel_rfl) hp1 ?_
      refine ok_go 0 ?_
      refine sy_load 0 (r := loadT Tryz.prog g 3 p) (h' := g) (by kernel_rfl) hp2 ?_
      refine ok_go 3 ?_
      refine sy_load 0 (r := pureX (binOp .rem 36 (.int .u64 (IntKind.wrap .u64 x)) (.int .u64 (IntKind.wrap .u64 (Int.ofNat (2 ^ n)))))) (h' := g) (by kernel_rfl) (x_rem (wrap_ne (2 ^ n) hpos (by omega))) ?_
      refine ok_go 0 ?_
      refine sy_load 0 (r := indexAddrOp Tryz.prog 37 (.slice (some ⟨h.next, 0, none⟩) (2 ^ n) (2 * 2 ^ n)) (.int .u64 ((IntKind.wrap .u64 x).tmod (IntKind.wrap .u64 (Int.ofNat (2 ^ n)))))) (h' := g) (v := ptr h.next k) (by kernel_rfl) (by rw [hrem]; exact idxS0 (e := 4) (by kernel_rfl) zB hk) ?_
      refine ok_go 0 ?_
      refine ow_storeF (P := Tryz.prog) (T := 4) (v := .bool true) 0 0 W rfl hk zB rfl (by kernel_rfl) fun g2 ng2 W => ?_
      rw [mk97_set] at W
      refine ok_go 1 ?_
      exact sy_next 0 _ g2 (by kernel_rfl) (by kernel_rfl) (ih (i + 1, fun j => if j = k then true else f j) _ g2 ⟨h2, W⟩ (show most - (i + 1) < most - i by omega) ⟨by kernel_rfl, by kernel_rfl, by kernel_rfl, (by kernel_rfl : _ = Value.int .i64 (IntKind.wrap .i64 (Int.ofNat (i + 1)))).trans (by rw [hw]), trivial⟩)
    · refine sy_no 0 (b := decide (Int.ofNat i < Int.ofNat most)) (by kernel_rfl) (decide_eq_false (by show ¬ (i : Int) < (most : Int); omega)) ?_
      refine ok_go 0 ?_
      refine sy_loop 0 lf g (α := Nat × Nat × Option Addr × Nat) (fun x => [(7, .slice (some ⟨h.next, 0, none⟩) (2 ^ n) (2 * 2 ^ n)), (9, .slice x.2.2.1 (lst f x.1).length x.2.2.2), (10, J x.1)]) (fun x g => x.1 ≤ 2 ^ n ∧ .slice x.2.2.1 (lst f x.1).length x.2.2.2 = oslV x.2.1 (lst f x.1).length ∧ Sto h g ((h.next, .cells (cellsF (2 ^ n) fun k => .bool (f k)) 4 false) :: oent x.2.1 3 ((lst f x.1).map J))) (fun x _ => 2 ^ n - x.1) (0, 0, none, 0) (by kernel_rfl) (by kernel_rfl)
        ⟨by kernel_rfl, by kernel_rfl, by kernel_rfl, trivial⟩ (show 2 ^ n - 0 < lf by omega) ⟨Nat.zero_le _, rfl, W⟩ ?_
      clear W
      rintro m2 ⟨k, q, oa, oc⟩ F2 g2 ⟨hk, hos, W⟩ ih2
      dsimp only at hk hos W
      have hw2 : IntKind.wrap .i64 (Int.ofNat (k + 1)) = Int.ofNat (k + 1) := wrap_nat (by omega)
      have hll := lst_len f k
      have hls := lst_succ f k
      refine ok_go 2 ?_
      refine sy_test 0 (decide (Int.ofNat k < Int.ofNat (2 ^ n))) (by kernel_rfl) ?_ ?_
      · intro hlt
        have hlt : k < 2 ^ n := ok_nat hlt
        refine ok_go 0 ?_
        refine sy_load 0 (r := indexAddrOp Tryz.prog 37 (.slice (some ⟨h.next, 0, none⟩) (2 ^ n) (2 * 2 ^ n)) (J k)) (h' := g2) (v := ptr h.next k) (by kernel_rfl) (idxS0 (e := 4) (by kernel_rfl) zB hlt) ?_
        refine ok_go 0 ?_
        refine ow_loadF (P := Tryz.prog) (T := 4) 0 0 W rfl hlt agB (by kernel_rfl) ?_
        refine ok_go 0 ?_
        cases hf : f k with
        | true =>
          rw [hf, if_pos rfl] at hls
          generalize lst f k = L at *
          refine ow_new 1 W (AObj.cells [Value.int IntKind.i64 (Int.ofNat (Prod.fst (k, q, oa, oc)))] 3 false) (fun q => Value.slice (some { block := q, off := 0 }) 1 2) (by kernel_rfl) fun k1 nk1 Wk1 => ?_
          have W := Wk1
          have W : Sto h k1 ((g2.next, .cells [J k] 3 false) :: ([(h.next, .cells (cellsF (2 ^ n) fun k => .bool (f k)) 4 false)] ++ oent q 3 (L.map J))) := W
          refine ow_app (P := Tryz.prog) (t := 28) (e := 3) (z := 1) (c := L.length) (i := q) 0 W slz28 (by rw [List.length_map, Nat.mul_one]) rfl rfl (by omega) (by rw [← hos]; kernel_rfl) fun k2 sl nk2 hsl hsc W => ?_
          obtain ⟨oa2, oc2, ho2⟩ := osl_shape k1.next (L.length + 1)
          rw [ho2] at hsl
          subst hsl
          have W : Sto h k2 ((h.next, .cells (cellsF (2 ^ n) fun k => .bool (f k)) 4 false) :: oent k1.next 3 ((L ++ [k]).map J)) := by rw [List.map_append]; exact W
          refine ok_go 1 ?_
          exact sy_next 0 _ k2 (by kernel_rfl) (by kernel_rfl) (ih2 (k + 1, k1.next, oa2, oc2) _ k2 ⟨hlt, by dsimp only; rw [hls, List.length_append]; exact ho2.symm, by dsimp only; rw [hls]; exact W⟩ (show 2 ^ n - (k + 1) < 2 ^ n - k by omega) ⟨by kernel_rfl, (by kernel_rfl : _ = Value.slice oa2 (L.length + 1) oc2).trans (by dsimp only; rw [hls, List.length_append]; rfl), (by kernel_rfl : _ = Value.int .i64 (IntKind.wrap .i64 (Int.ofNat (k + 1)))).trans (by rw [hw2]), trivial⟩)
        | false =>
          rw [hf, if_neg Bool.false_ne_true] at hls
          generalize lst f k = L at *
          refine ok_go 2 ?_
          exact sy_next 0 _ g2 (by kernel_rfl) (by kernel_rfl) (ih2 (k + 1, q, oa, oc) _ g2 ⟨hlt, by dsimp only; rw [hls]; exact hos, by dsimp only; rw [hls]; exact W⟩ (show 2 ^ n - (k + 1) < 2 ^ n - k by omega) ⟨by kernel_rfl, (by kernel_rfl : _ = Value.slice oa L.length oc).trans (by dsimp only; rw [hls]), (by kernel_rfl : _ = Value.int .i64 (IntKind.wrap .i64 (Int.ofNat (k + 1)))).trans (by rw [hw2]), trivial⟩)
      · intro hlt
        have hlt : k = 2 ^ n := Nat.le_antisymm hk (no_nat hlt)
        subst hlt
        refine ok_go 0 ?_
        exact sy_done 0 (v := .slice oa (lst f (2 ^ n)).length oc) (h := g2) (by kernel_rfl) ⟨f, q, hos, W.drop 1⟩
  · refine sy_no 0 (b := decide (Int.ofNat i < Int.ofNat zs.length)) (by kernel_rfl) (decide_eq_false (by show ¬ (i : Int) < (zs.length : Int); omega)) ?_
    refine ok_go 4 ?_
    refine sy_loop 0 lf g (α := Nat × Nat × Option Addr × Nat) (fun x => [(7, .slice (some ⟨h.next, 0, none⟩) (2 ^ n) (2 * 2 ^ n)), (9, .slice x.2.2.1 (lst f x.1).length x.2.2.2), (10, J x.1)]) (fun x g => x.1 ≤ 2 ^ n ∧ .slice x.2.2.1 (lst f x.1).length x.2.2.2 = oslV x.2.1 (lst f x.1).length ∧ Sto h g ((h.next, .cells (cellsF (2 ^ n) fun k => .bool (f k)) 4 false) :: oent x.2.1 3 ((lst f x.1).map J))) (fun x _ => 2 ^ n - x.1) (0, 0, none, 0) (by kernel_rfl) (by kernel_rfl)
      ⟨by kernel_rfl, by kernel_rfl, by kernel_rfl, trivial⟩ (show 2 ^ n - 0 < lf by omega) ⟨Nat.zero_le _, rfl, W⟩ ?_
    clear W
    rintro m2 ⟨k, q, oa, oc⟩ F2 g2 ⟨hk, hos, W⟩ ih2
    dsimp only at hk hos W
    have hw2 : IntKind.wrap .i64 (Int.ofNat (k + 1)) = Int.ofNat (k + 1) := wrap_nat (by omega)
    have hll := lst_len f k
    have hls := lst_succ f k
    refine ok_go 2 ?_
    refine sy_test 0 (decide (Int.ofNat k < Int.ofNat (2 ^ n))) (by kernel_rfl) ?_ ?_
    · intro hlt
      have hlt : k < 2 ^ n := ok_nat hlt
      refine ok_go 0 ?_
      refine sy_load 0 (r := indexAddrOp Tryz.prog 37 (.slice (some ⟨h.next, 0, none⟩) (2 ^ n) (2 * 2 ^ n)) (J k)) (h' := g2) (v := ptr h.next k) (by kernel_rfl) (idxS0 (e := 4) (by kernel_rfl) zB hlt) ?_
      refine ok_go 0 ?_
      refine ow_loadF (P := Tryz.prog) (T := 4) 0 0 W rfl hlt agB (by kernel_rfl) ?_
      refine ok_go 0 ?_
      cases hf : f k with
      | true =>
        rw [hf, if_pos rfl] at hls
        generalize lst f k = L at *
        refine ow_new 1 W (AObj.cells [Value.int IntKind.i64 (Int.ofNat (Prod.fst (k, q, oa, oc)))] 3 false) (fun q => Value.slice (some { block := q, off := 0 }) 1 2) (by kernel_rfl) fun k1 nk1 Wk1 => ?_
        have W := Wk1
        have W : Sto h k1 ((g2.next, .cells [J k] 3 false) :: ([(h.next, .cells (cellsF (2 ^ n) fun k => .bool (f k)) 4 false)] ++ oent q 3 (L.map J))) := W
        refine ow_app (P := Tryz.prog) (t := 28) (e := 3) (z := 1) (c := L.length) (i := q) 0 W slz28 (by rw [List.length_map, Nat.mul_one]) rfl rfl (by omega) (by rw [← hos]; kernel_rfl) fun k2 sl nk2 hsl hsc W => ?_
        obtain ⟨oa2, oc2, ho2⟩ := osl_shape k1.next (L.length + 1)
        rw [ho2] at hsl
        subst hsl
        have W : Sto h k2 ((h.next, .cells (cellsF (2 ^ n) fun k => .bool (f k)) 4 false) :: oent k1.next 3 ((L ++ [k]).map J)) := by rw [List.map_append]; exact W
        refine ok_go 1 ?_
        exact sy_next 0 _ k2 (by kernel_rfl) (by kernel_rfl) (ih2 (k + 1, k1.next, oa2, oc2) _ k2 ⟨hlt, by dsimp only; rw [hls, List.length_append]; exact ho2.symm, by dsimp only; rw [hls]; exact W⟩ (show 2 ^ n - (k + 1) < 2 ^ n - k by omega) ⟨by kernel_rfl, (by kernel_rfl : _ = Value.slice oa2 (L.length + 1) oc2).trans (by dsimp only; rw [hls, List.length_append]; rfl), (by kernel_rfl : _ = Value.int .i64 (IntKind.wrap .i64 (Int.ofNat (k + 1)))).trans (by rw [hw2]), trivial⟩)
      | false =>
        rw [hf, if_neg Bool.false_ne_true] at hls
        generalize lst f k = L at *
        refine ok_go 2 ?_
        exact sy_next 0 _ g2 (by kernel_rfl) (by kernel_rfl) (ih2 (k + 1, q, oa, oc) _ g2 ⟨hlt, by dsimp only; rw [hls]; exact hos, by dsimp only; rw [hls]; exact W⟩ (show 2 ^ n - (k + 1) < 2 ^ n - k by omega) ⟨by kernel_rfl, (by kernel_rfl : _ = Value.slice oa L.length oc).trans (by dsimp only; rw [hls]), (by kernel_rfl : _ = Value.int .i64 (IntKind.wrap .i64 (Int.ofNat (k + 1)))).trans (by rw [hw2]), trivial⟩)
    · intro hlt
      have hlt : k = 2 ^ n := Nat.le_antisymm hk (no_nat hlt)
      subst hlt
      refine ok_go 0 ?_
      exact sy_done 0 (v := .slice oa (lst f (2 ^ n)).length oc) (h := g2) (by kernel_rfl) ⟨f, q, hos, W.drop 1⟩
end Go.Proofs.YtkfbfgcflnkllaaGreatDoor
namespace Go.Proofs.YtkfbfgcflnkllaaGreatDoor
open Go Go.Eng Nim
set_option maxRecDepth 100000
set_option maxHeartbeats 8000000
def stS (up : Bool) (B s : Nat) (f : Nat → Bool) : Nat → Bool := if s &&& B = 0 then (if up then fun j => if j = s ||| B then (f (s ||| B) || f s) else f j else fun j => if j = s then (f s || f (s ||| B)) else f j) else f
def innS (up : Bool) (B : Nat) (f : Nat → Bool) : Nat → Nat → Bool
  | 0 => f
  | s + 1 => stS up B s (innS up B f s)
def cloS (up : Bool) (N : Nat) (f : Nat → Bool) : Nat → Nat → Bool
  | 0 => f
  | i + 1 => innS up (2 ^ i) (cloS up N f i) N
theorem lst_mem {f : Nat → Bool} {n x : Nat} : x ∈ lst f n ↔ x < n ∧ f x = true := by
  unfold lst
  rw [List.mem_filter, List.mem_range]
theorem lst_rise (f : Nat → Bool) (n : Nat) : (lst f n).Pairwise (· < ·) := by
  unfold lst
  exact List.Pairwise.filter _ List.pairwise_lt_range
theorem chk_lst (lf m : Nat) (hlf : 2000 ≤ lf) (n : Nat) (hn : n ≤ 10) (f : Nat → Bool) (v : Value) (h : Hp) (hv : Rds h v ((lst f (2 ^ n)).map J)) : Ev lf (m + 1) 57 [J n, v] h = some (J 0, h) := by
  have h2n : 2 ^ n ≤ 1024 := Nat.pow_le_pow_right (by decide) hn
  have hll := lst_len f (2 ^ n)
  obtain ⟨e, he, e1⟩ := chk_of lf m (Int.ofNat n) ((lst f (2 ^ n)).map Int.ofNat) (by rw [List.length_map]; omega) (by rw [List.length_map]; omega) v h (by rw [List.map_map]; exact hv)
  have h0 : FamR (Int.ofNat n) ((lst f (2 ^ n)).map Int.ofNat) 0 := by
    refine .inr ⟨n, rfl, hn, .inr ⟨rfl, ?_⟩⟩
    intro i hi hbad
    rw [List.length_map] at hi
    have hget : ∀ k (hk : k < (lst f (2 ^ n)).length), ((lst f (2 ^ n)).map Int.ofNat).getD k 0 = Int.ofNat (lst f (2 ^ n))[k] := fun k hk => by
      rw [List.getD_eq_getElem?_getD, List.getElem?_map, List.getElem?_eq_getElem hk]
      rfl
    have hlt := (lst_mem.1 (List.getElem_mem hi)).1
    have hp2 : (2 : Int) ^ n = Int.ofNat (2 ^ n) := by simp
    rcases hbad with hb | hb
    · rw [hget i hi] at hb
      unfold lastI at hb
      split at hb
      · have : Int.ofNat (lst f (2 ^ n))[i] ≥ 0 := Int.natCast_nonneg _
        omega
      · have hr := List.pairwise_iff_getElem.1 (lst_rise f (2 ^ n)) (i - 1) i (by omega) hi (by omega)
        rw [hget (i - 1) (by omega)] at hb
        have : (lst f (2 ^ n))[i] ≤ (lst f (2 ^ n))[i - 1] := Int.ofNat_le.1 hb
        omega
    · rw [hget i hi, hp2] at hb
      have : 2 ^ n ≤ (lst f (2 ^ n))[i] := Int.ofNat_le.1 hb
      omega
  rw [he.uniq h0] at e1
  exact e1
theorem clos_of (lf m : Nat) (hlf : 2000 ≤ lf) (n : Nat) (hn : n ≤ 10) (up : Bool) (f : Nat → Bool) (v : Value) (h : Hp) (hv : Rds h v ((lst f (2 ^ n)).map J)) :
    ∃ v' h', Ev lf (m + 2) 19 [J n, v, .bool up] h = some (v', h') ∧ ∃ q, v' = .tuple #[oslV q (lst (cloS up (2 ^ n) (fun k => decide (k ∈ lst f (2 ^ n))) n) 1024).length, J 0] ∧ Sto h h' (oent q 3 ((lst (cloS up (2 ^ n) (fun k => decide (k ∈ lst f (2 ^ n))) n) 1024).map J)) := by
  refine fnS_ok (Q := fun v' h' => ∃ q, v' = .tuple #[oslV q (lst (cloS up (2 ^ n) (fun k => decide (k ∈ lst f (2 ^ n))) n) 1024).length, J 0] ∧ Sto h h' (oent q 3 ((lst (cloS up (2 ^ n) (fun k => decide (k ∈ lst f (2 ^ n))) n) 1024).map J))) ?_
  have hsh := one_shl n (by omega)
  have h2n : 2 ^ n ≤ 1024 := Nat.pow_le_pow_right (by decide) hn
  have hll := lst_len f (2 ^ n)
  have e1 := chk_lst lf m hlf n hn f v h hv
  obtain ⟨_, h1, e2, rfl, X1⟩ := marked_of lf m hlf (lst f (2 ^ n)) (by omega) (fun x hx => by have := (lst_mem.1 hx).1; omega) v h hv
  obtain ⟨va, vc, hvs⟩ := hv.shape
  rw [List.length_map] at hvs
  subst hvs
  have W := (Sto.start h).call X1
  generalize hL : lst f (2 ^ n) = L at *
  generalize hF : (fun i => decide (i ∈ L)) = f at *
  have hMl : (mk97 f).length = 1024 := cellsF_len ..
  refine ok_go 0 ?_
  refine sy_call 0 (by kernel_rfl) e1 ?_
  refine ok_go 2 ?_
  generalize hMM : mk97 f = MM at *
  refine sy_call 0 (by kernel_rfl) e2 ?_
  refine ok_go 0 ?_
  refine ow_new 0 W (.cells (mk97 fun _ => false) 97 false) (fun i => ptr i 0) (by kernel_rfl) fun h2 nh2 W => ?_
  generalize h1.next = b at *
  refine ok_go 0 ?_
  refine ow_storeA (P := Tryz.prog) (T := 97) (v := .agg MM.toArray) 0 0 W MM rfl rfl (by rw [hMl]; exact (cellsF_len ..).symm) (by rw [hMl]; kernel_rfl) (by rw [← hMM]; exact mk97_sc _) (by kernel_rfl) fun h3 nh3 W => ?_
  rw [← hMM] at W
  have W : Sto h h3 [(b, .cells (mk97 (cloS up (2 ^ n) f 0)) 97 false)] := W
  refine ok_go 0 ?_
  refine sy_loop 0 lf h3 (α := Nat) (fun i => [(0, J n), (2, .bool up), (9, ptr b 0), (21, J n), (22, J i)]) (fun i g => i ≤ n ∧ Sto h g [(b, .cells (mk97 (cloS up (2 ^ n) f i)) 97 false)]) (fun i _ => n - i) 0 (by kernel_rfl) (by kernel_rfl)
    ⟨by kernel_rfl, by kernel_rfl, by kernel_rfl, by kernel_rfl, by kernel_rfl, trivial⟩ (show n - 0 < lf by omega) ⟨Nat.zero_le _, W⟩ ?_
  clear W e1 e2 nh2 nh3 X1 hMM
  rintro m1 i F1 g ⟨hi, W⟩ ih
  have hw : IntKind.wrap .i64 (Int.ofNat (i + 1)) = Int.ofNat (i + 1) := wrap_nat (by omega)
  refine ok_go 1 ?_
  refine sy_test 0 (decide (Int.ofNat i < Int.ofNat n)) (by kernel_rfl) ?_ ?_
  · intro hlt
    have hlt : i < n := ok_nat hlt
    have hshi := one_shl i (by omega)
    have h2i : 2 ^ i < 2 ^ n := Nat.pow_lt_pow_right (by decide) hlt
    refine ok_go 4 ?_
    refine sy_loop 0 lf g (α := Nat) (fun s => [(0, J n), (2, .bool up), (9, ptr b 0), (21, J n), (22, J i), (11, J (2 ^ i)), (30, I (IntKind.i64.wrap (1 * 2 ^ min (IntKind.u64.wrap (Int.ofNat n)).toNat IntKind.i64.bits))), (31, J s)]) (fun s g => s ≤ 2 ^ n ∧ Sto h g [(b, .cells (mk97 (innS up (2 ^ i) (cloS up (2 ^ n) f i) s)) 97 false)]) (fun s _ => 2 ^ n - s) 0 (by kernel_rfl) (by kernel_rfl)
      ⟨by kernel_rfl, by kernel_rfl, by kernel_rfl, by kernel_rfl, by kernel_rfl, (by kernel_rfl : _ = Value.int .i64 (IntKind.i64.wrap (1 * 2 ^ min (IntKind.u64.wrap (Int.ofNat i)).toNat IntKind.i64.bits))).trans (by rw [hshi]), by kernel_rfl, by kernel_rfl, trivial⟩ (show 2 ^ n - 0 < lf by omega) ⟨Nat.zero_le _, W⟩ ?_
    clear W
    rintro m2 s F2 g2 ⟨hs, W⟩ ihs
    have hws : IntKind.wrap .i64 (Int.ofNat (s + 1)) = Int.ofNat (s + 1) := wrap_nat (by omega)
    refine ok_go 1 ?_
    refine sy_test 0 (decide (Int.ofNat s < IntKind.i64.wrap (1 * 2 ^ min (IntKind.u64.wrap (Int.ofNat n)).toNat IntKind.i64.bits))) (by kernel_rfl) ?_ ?_
    · intro hlt2
      rw [hsh] at hlt2
      have hlt2 : s < 2 ^ n := ok_nat hlt2
      have han : andI (Int.ofNat s) (Int.ofNat (2 ^ i)) = Int.ofNat (s &&& 2 ^ i) := and_nat (by omega)
      have hor : orI (Int.ofNat s) (Int.ofNat (2 ^ i)) = Int.ofNat (s ||| 2 ^ i) := or_nat (by omega) (by omega)
      have ho10 : s ||| 2 ^ i < 1024 := Nat.lt_of_lt_of_le (Nat.or_lt_two_pow hlt2 h2i) h2n
      have hs10 : s < 1024 := by omega
      refine ok_go 2 ?_
      by_cases hz : s &&& 2 ^ i = 0
      · refine sy_yes 0 (b := decide (andI (Int.ofNat s) (Int.ofNat (2 ^ i)) = 0)) (by kernel_rfl) (decide_eq_true (by rw [han, hz]; rfl)) ?_
        cases up with
        | true =>
          generalize hM : innS true (2 ^ i) (cloS true (2 ^ n) f i) s = M at *
          have hst : innS true (2 ^ i) (cloS true (2 ^ n) f i) (s + 1) = fun j => if j = (s ||| 2 ^ i) then (M (s ||| 2 ^ i) || M s) else M j := by
            rw [← hM]
            show stS true (2 ^ i) s _ = _
            unfold stS
            rw [if_pos hz]
            rfl
          refine ok_go 4 ?_
          refine sy_load 0 (r := indexAddrOp Tryz.prog 97 (ptr b 0) (I (orI (Int.ofNat s) (Int.ofNat (2 ^ i))))) (h' := g2) (v := ptr b (s ||| 2 ^ i)) (by kernel_rfl) (by rw [hor]; exact idxM ho10) ?_
          refine ok_go 0 ?_
          refine ow_loadF (P := Tryz.prog) (T := 4) 0 0 W rfl ho10 agB (by kernel_rfl) ?_
          refine ok_go 0 ?_
          cases hfa : M (s ||| 2 ^ i) with
          | true =>
            rw [hfa, Bool.true_or] at hst
            refine ok_go 4 ?_
            refine sy_load 0 (r := indexAddrOp Tryz.prog 97 (ptr b 0) (I (orI (Int.ofNat s) (Int.ofNat (2 ^ i))))) (h' := g2) (v := ptr b (s ||| 2 ^ i)) (by kernel_rfl) (by rw [hor]; exact idxM ho10) ?_
            refine ok_go 0 ?_
            refine ow_storeF (P := Tryz.prog) (T := 4) (v := .bool true) 0 0 W rfl ho10 zB rfl (by kernel_rfl) fun g3 ng3 W => ?_
            rw [mk97_set] at W
            have W : Sto h g3 [(b, .cells (mk97 (innS true (2 ^ i) (cloS true (2 ^ n) f i) (s + 1))) 97 false)] := by
              rw [hst]
              exact W
            refine ok_go 1 ?_
            exact sy_next 0 _ g3 (by kernel_rfl) (by kernel_rfl) (ihs (s + 1) _ g3 ⟨hlt2, W⟩ (show 2 ^ n - (s + 1) < 2 ^ n - s by omega) ⟨by kernel_rfl, by kernel_rfl, by kernel_rfl, by kernel_rfl, by kernel_rfl, by kernel_rfl, by kernel_rfl, (by kernel_rfl : _ = Value.int .i64 (IntKind.wrap .i64 (Int.ofNat (s + 1)))).trans (by rw [hws]), trivial⟩)
          | false =>
            rw [hfa, Bool.false_or] at hst
            refine ok_go 2 ?_
            refine sy_load 0 (r := indexAddrOp Tryz.prog 97 (ptr b 0) (J s)) (h' := g2) (v := ptr b s) (by kernel_rfl) (idxM hs10) ?_
            refine ok_go 1 ?_
            refine ow_loadF (P := Tryz.prog) (T := 4) 0 0 W rfl hs10 agB (by kernel_rfl) ?_
            refine ok_go 1 ?_
            refine sy_load 0 (r := indexAddrOp Tryz.prog 97 (ptr b 0) (I (orI (Int.ofNat s) (Int.ofNat (2 ^ i))))) (h' := g2) (v := ptr b (s ||| 2 ^ i)) (by kernel_rfl) (by rw [hor]; exact idxM ho10) ?_
            refine ok_go 0 ?_
            refine ow_storeF (P := Tryz.prog) (T := 4) (v := .bool (M s)) 0 0 W rfl ho10 zB rfl (by kernel_rfl) fun g3 ng3 W => ?_
            rw [mk97_set] at W
            have W : Sto h g3 [(b, .cells (mk97 (innS true (2 ^ i) (cloS true (2 ^ n) f i) (s + 1))) 97 false)] := by
              rw [hst]
              exact W
            refine ok_go 1 ?_
            exact sy_next 0 _ g3 (by kernel_rfl) (by kernel_rfl) (ihs (s + 1) _ g3 ⟨hlt2, W⟩ (show 2 ^ n - (s + 1) < 2 ^ n - s by omega) ⟨by kernel_rfl, by kernel_rfl, by kernel_rfl, by kernel_rfl, by kernel_rfl, by kernel_rfl, by kernel_rfl, (by kernel_rfl : _ = Value.int .i64 (IntKind.wrap .i64 (Int.ofNat (s + 1)))).trans (by rw [hws]), trivial⟩)
        | false =>
          generalize hM : innS false (2 ^ i) (cloS false (2 ^ n) f i) s = M at *
          refine ok_go 4 ?_
          refine sy_yes 0 (b := decide (andI (Int.ofNat s) (Int.ofNat (2 ^ i)) = 0)) (by kernel_rfl) (decide_eq_true (by rw [han, hz]; rfl)) ?_
          have hst : innS false (2 ^ i) (cloS false (2 ^ n) f i) (s + 1) = fun j => if j = s then (M s || M (s ||| 2 ^ i)) else M j := by
            rw [← hM]
            show stS false (2 ^ i) s _ = _
            unfold stS
            rw [if_pos hz]
            rfl
          refine ok_go 0 ?_
          refine sy_load 0 (r := indexAddrOp Tryz.prog 97 (ptr b 0) (J s)) (h' := g2) (v := ptr b s) (by kernel_rfl) (idxM hs10) ?_
          refine ok_go 0 ?_
          refine ow_loadF (P := Tryz.prog) (T := 4) 0 0 W rfl hs10 agB (by kernel_rfl) ?_
          refine ok_go 0 ?_
          cases hfa : M s with
          | true =>
            rw [hfa, Bool.true_or] at hst
            refine ok_go 6 ?_
            refine sy_load 0 (r := indexAddrOp Tryz.prog 97 (ptr b 0) (J s)) (h' := g2) (v := ptr b s) (by kernel_rfl) (idxM hs10) ?_
            refine ok_go 0 ?_
            refine ow_storeF (P := Tryz.prog) (T := 4) (v := .bool true) 0 0 W rfl hs10 zB rfl (by kernel_rfl) fun g3 ng3 W => ?_
            rw [mk97_set] at W
            have W : Sto h g3 [(b, .cells (mk97 (innS false (2 ^ i) (cloS false (2 ^ n) f i) (s + 1))) 97 false)] := by
              rw [hst]
              exact W
            refine ok_go 1 ?_
            exact sy_next 0 _ g3 (by kernel_rfl) (by kernel_rfl) (ihs (s + 1) _ g3 ⟨hlt2, W⟩ (show 2 ^ n - (s + 1) < 2 ^ n - s by omega) ⟨by kernel_rfl, by kernel_rfl, by kernel_rfl, by kernel_rfl, by kernel_rfl, by kernel_rfl, by kernel_rfl, (by kernel_rfl : _ = Value.int .i64 (IntKind.wrap .i64 (Int.ofNat (s + 1)))).trans (by rw [hws]), trivial⟩)
          | false =>
            rw [hfa, Bool.false_or] at hst
            refine ok_go 5 ?_
            refine sy_load 0 (r := indexAddrOp Tryz.prog 97 (ptr b 0) (I (orI (Int.ofNat s) (Int.ofNat (2 ^ i))))) (h' := g2) (v := ptr b (s ||| 2 ^ i)) (by kernel_rfl) (by rw [hor]; exact idxM ho10) ?_
            refine ok_go 1 ?_
            refine ow_loadF (P := Tryz.prog) (T := 4) 0 0 W rfl ho10 agB (by kernel_rfl) ?_
            refine ok_go 1 ?_
            refine sy_load 0 (r := indexAddrOp Tryz.prog 97 (ptr b 0) (J s)) (h' := g2) (v := ptr b s) (by kernel_rfl) (idxM hs10) ?_
            refine ok_go 0 ?_
            refine ow_storeF (P := Tryz.prog) (T := 4) (v := .bool (M (s ||| 2 ^ i))) 0 0 W rfl hs10 zB rfl (by kernel_rfl) fun g3 ng3 W => ?_
            rw [mk97_set] at W
            have W : Sto h g3 [(b, .cells (mk97 (innS false (2 ^ i) (cloS false (2 ^ n) f i) (s + 1))) 97 false)] := by
              rw [hst]
              exact W
            refine ok_go 1 ?_
            exact sy_next 0 _ g3 (by kernel_rfl) (by kernel_rfl) (ihs (s + 1) _ g3 ⟨hlt2, W⟩ (show 2 ^ n - (s + 1) < 2 ^ n - s by omega) ⟨by kernel_rfl, by kernel_rfl, by kernel_rfl, by kernel_rfl, by kernel_rfl, by kernel_rfl, by kernel_rfl, (by kernel_rfl : _ = Value.int .i64 (IntKind.wrap .i64 (Int.ofNat (s + 1)))).trans (by rw [hws]), trivial⟩)
      · have hzI : ¬ andI (Int.ofNat s) (Int.ofNat (2 ^ i)) = 0 := by rw [han]; exact fun h => hz (Int.ofNat.inj h)
        refine sy_no 0 (b := decide (andI (Int.ofNat s) (Int.ofNat (2 ^ i)) = 0)) (by kernel_rfl) (decide_eq_false hzI) ?_
        refine ok_go 4 ?_
        refine sy_no 0 (b := decide (andI (Int.ofNat s) (Int.ofNat (2 ^ i)) = 0)) (by kernel_rfl) (decide_eq_false hzI) ?_
        have W : Sto h g2 [(b, .cells (mk97 (innS up (2 ^ i) (cloS up (2 ^ n) f i) (s + 1))) 97 false)] := by
          show Sto h g2 [(b, .cells (mk97 (stS up (2 ^ i) s _)) 97 false)]
          unfold stS
          rw [if_neg hz]
          exact W
        refine ok_go 1 ?_
        exact sy_next 0 _ g2 (by kernel_rfl) (by kernel_rfl) (ihs (s + 1) _ g2 ⟨hlt2, W⟩ (show 2 ^ n - (s + 1) < 2 ^ n - s by omega) ⟨by kernel_rfl, by kernel_rfl, by kernel_rfl, by kernel_rfl, by kernel_rfl, by kernel_rfl, by kernel_rfl, (by kernel_rfl : _ = Value.int .i64 (IntKind.wrap .i64 (Int.ofNat (s + 1)))).trans (by rw [hws]), trivial⟩)
    · intro hlt2
      rw [hsh] at hlt2
      have hlt2 : s = 2 ^ n := Nat.le_antisymm hs (no_nat hlt2)
      subst hlt2
      refine ok_go 1 ?_
      exact sy_next 0 _ g2 (by kernel_rfl) (by kernel_rfl) (ih (i + 1) _ g2 ⟨hlt, W⟩ (show n - (i + 1) < n - i by omega) ⟨by kernel_rfl, by kernel_rfl, by kernel_rfl, by kernel_rfl, (by kernel_rfl : _ = Value.int .i64 (IntKind.wrap .i64 (Int.ofNat (i + 1)))).trans (by rw [hw]), trivial⟩)
  · intro hlt
    have hlt : i = n := Nat.le_antisymm hi (no_nat hlt)
    subst hlt
    obtain ⟨v4, h4, e4, q, rfl, W4⟩ := list_of lf m hlf (cloS up (2 ^ i) f i) b false g (W.get 0 rfl) (W.all _ List.mem_cons_self).2.1
    obtain ⟨oa, oc, ho⟩ := osl_shape q (lst (cloS up (2 ^ i) f i) 1024).length
    rw [ho] at e4
    refine ok_go 0 ?_
    refine sy_call 0 (by kernel_rfl) e4 ?_
    refine ok_go 0 ?_
    exact sy_done 0 (v := .tuple #[.slice oa (lst (cloS up (2 ^ i) f i) 1024).length oc, J 0]) (h := h4) (by kernel_rfl) ⟨q, by rw [ho], (W.over W4).sub (List.sublist_append_left ..)⟩
end Go.Proofs.YtkfbfgcflnkllaaGreatDoor
namespace Go.Proofs.YtkfbfgcflnkllaaGreatDoor
open Go Go.Eng Nim Oct
def upC (n : Nat) (A : Nat → Bool) : Prop := ∀ k, k < n → ∀ s, s < 2 ^ n → s.testBit k = false → A s = true → A (s ^^^ 2 ^ k) = true
def dnC (n : Nat) (A : Nat → Bool) : Prop := ∀ k, k < n → ∀ s, s < 2 ^ n → s.testBit k = false → A (s ^^^ 2 ^ k) = true → A s = true
theorem tb_x (s i k : Nat) : (s ^^^ 2 ^ i).testBit k = (s.testBit k ^^ decide (i = k)) := by
  rw [Nat.testBit_xor, Nat.testBit_two_pow]
theorem tb_xs (s i : Nat) : (s ^^^ 2 ^ i).testBit i = !s.testBit i := by
  rw [tb_x, decide_eq_true rfl, Bool.xor_true]
theorem tb_xn {s i k : Nat} (h : i ≠ k) : (s ^^^ 2 ^ i).testBit k = s.testBit k := by
  rw [tb_x, decide_eq_false h, Bool.xor_false]
theorem x_x (s b : Nat) : s ^^^ b ^^^ b = s := by rw [Nat.xor_assoc, Nat.xor_self, Nat.xor_zero]
theorem x_lt {s k n : Nat} (hs : s < 2 ^ n) (hk : k < n) : s ^^^ 2 ^ k < 2 ^ n := Nat.xor_lt_two_pow hs (Nat.pow_lt_pow_right (by decide) hk)
theorem inn_up (i : Nat) (f : Nat → Bool) : ∀ s j, innS true (2 ^ i) f s j = (f j || (j.testBit i && decide (j ^^^ 2 ^ i < s) && f (j ^^^ 2 ^ i)))
  | 0, j => by simp [innS]
  | s + 1, j => by
    show stS true (2 ^ i) s (innS true (2 ^ i) f s) j = _
    unfold stS
    by_cases hz : s &&& 2 ^ i = 0
    · have hb := (and_bit s i).1 hz
      rw [if_pos hz, if_pos rfl]
      by_cases hj : j = s ||| 2 ^ i
      · rw [if_pos hj]
        have hjx : j = s ^^^ 2 ^ i := hj.trans (or_bit hb)
        have hx : j ^^^ 2 ^ i = s := by rw [hjx, x_x]
        have ht : j.testBit i = true := by rw [hjx, tb_xs, hb]; rfl
        rw [← hj, inn_up i f s j, inn_up i f s s, hx, ht, hb]
        simp
      · rw [if_neg hj, inn_up i f s j]
        cases ht : j.testBit i with
        | false => simp
        | true =>
          have : j ^^^ 2 ^ i ≠ s := fun e => hj (by rw [or_bit hb, ← e, x_x])
          rw [show decide (j ^^^ 2 ^ i < s + 1) = decide (j ^^^ 2 ^ i < s) from decide_eq_decide.2 (by omega)]
    · have hb : s.testBit i = true := by
        cases h : s.testBit i with
        | true => rfl
        | false => exact absurd ((and_bit s i).2 h) hz
      rw [if_neg hz, inn_up i f s j]
      cases ht : j.testBit i with
      | false => simp
      | true =>
        have : j ^^^ 2 ^ i ≠ s := fun e => by
          have := tb_xs j i
          rw [e, hb, ht] at this
          cases this
        rw [show decide (j ^^^ 2 ^ i < s + 1) = decide (j ^^^ 2 ^ i < s) from decide_eq_decide.2 (by omega)]
theorem inn_dn (i : Nat) (f : Nat → Bool) : ∀ s j, innS false (2 ^ i) f s j = (f j || (!j.testBit i && decide (j < s) && f (j ^^^ 2 ^ i)))
  | 0, j => by simp [innS]
  | s + 1, j => by
    show stS false (2 ^ i) s (innS false (2 ^ i) f s) j = _
    unfold stS
    by_cases hz : s &&& 2 ^ i = 0
    · have hb := (and_bit s i).1 hz
      rw [if_pos hz, if_neg Bool.false_ne_true]
      by_cases hj : j = s
      · subst hj
        rw [if_pos rfl, inn_dn i f j j, or_bit hb, inn_dn i f j (j ^^^ 2 ^ i), tb_xs, hb]
        simp
      · rw [if_neg hj, inn_dn i f s j, show decide (j < s + 1) = decide (j < s) from decide_eq_decide.2 (by omega)]
    · have hb : s.testBit i = true := by
        cases h : s.testBit i with
        | true => rfl
        | false => exact absurd ((and_bit s i).2 h) hz
      rw [if_neg hz, inn_dn i f s j]
      by_cases hj : j = s
      · subst hj
        rw [hb]
        simp
      · rw [show decide (j < s + 1) = decide (j < s) from decide_eq_decide.2 (by omega)]
theorem x_comm (s a b : Nat) : s ^^^ a ^^^ b = s ^^^ b ^^^ a := by rw [Nat.xor_assoc, Nat.xor_comm a b, ← Nat.xor_assoc]
/-- What is closed towards the first bits, and lies below 2^n. -/
theorem clo_up (n : Nat) (f : Nat → Bool) (hf : ∀ j, f j = true → j < 2 ^ n) : ∀ i, i ≤ n → (∀ j, cloS true (2 ^ n) f i j = true → j < 2 ^ n) ∧ ∀ k, k < i → ∀ s, s < 2 ^ n → s.testBit k = false → cloS true (2 ^ n) f i s = true → cloS true (2 ^ n) f i (s ^^^ 2 ^ k) = true
  | 0, _ => ⟨hf, fun k hk => by omega⟩
  | i + 1, hi => by
    obtain ⟨h1, h2⟩ := clo_up n f hf i (by omega)
    have hM : ∀ j, cloS true (2 ^ n) f (i + 1) j = (cloS true (2 ^ n) f i j || (j.testBit i && decide (j ^^^ 2 ^ i < 2 ^ n) && cloS true (2 ^ n) f i (j ^^^ 2 ^ i))) := inn_up i (cloS true (2 ^ n) f i) (2 ^ n)
    generalize cloS true (2 ^ n) f i = g at *
    generalize cloS true (2 ^ n) f (i + 1) = M at *
    refine ⟨fun j hj => ?_, fun k hk s hs hb hA => ?_⟩
    · rw [hM, Bool.or_eq_true, Bool.and_eq_true, Bool.and_eq_true, decide_eq_true_eq] at hj
      rcases hj with h | ⟨⟨_, h⟩, _⟩
      · exact h1 j h
      · have := x_lt h (show i < n by omega)
        rwa [x_x] at this
    · rw [hM, Bool.or_eq_true, Bool.and_eq_true, Bool.and_eq_true, decide_eq_true_eq] at hA ⊢
      by_cases hki : k = i
      · subst hki
        rcases hA with h | ⟨⟨h, _⟩, _⟩
        · exact .inr ⟨⟨by rw [tb_xs, hb]; rfl, by rw [x_x]; exact hs⟩, by rw [x_x]; exact h⟩
        · rw [hb] at h; cases h
      · rcases hA with h | ⟨⟨h3, h4⟩, h5⟩
        · exact .inl (h2 k (by omega) s hs hb h)
        · refine .inr ⟨⟨by rw [tb_xn hki]; exact h3, by rw [x_comm]; exact x_lt h4 (by omega)⟩, ?_⟩
          rw [x_comm]
          exact h2 k (by omega) _ h4 (by rw [tb_xn (fun e => hki e.symm)]; exact hb) h5
theorem clo_dn (n : Nat) (f : Nat → Bool) (hf : ∀ j, f j = true → j < 2 ^ n) : ∀ i, i ≤ n → (∀ j, cloS false (2 ^ n) f i j = true → j < 2 ^ n) ∧ ∀ k, k < i → ∀ s, s < 2 ^ n → s.testBit k = false → cloS false (2 ^ n) f i (s ^^^ 2 ^ k) = true → cloS false (2 ^ n) f i s = true
  | 0, _ => ⟨hf, fun k hk => by omega⟩
  | i + 1, hi => by
    obtain ⟨h1, h2⟩ := clo_dn n f hf i (by omega)
    have hM : ∀ j, cloS false (2 ^ n) f (i + 1) j = (cloS false (2 ^ n) f i j || (!j.testBit i && decide (j < 2 ^ n) && cloS false (2 ^ n) f i (j ^^^ 2 ^ i))) := inn_dn i (cloS false (2 ^ n) f i) (2 ^ n)
    generalize cloS false (2 ^ n) f i = g at *
    generalize cloS false (2 ^ n) f (i + 1) = M at *
    refine ⟨fun j hj => ?_, fun k hk s hs hb hA => ?_⟩
    · rw [hM, Bool.or_eq_true, Bool.and_eq_true, Bool.and_eq_true, decide_eq_true_eq] at hj
      rcases hj with h | ⟨⟨_, h⟩, _⟩
      · exact h1 j h
      · exact h
    · rw [hM, Bool.or_eq_true, Bool.and_eq_true, Bool.and_eq_true, decide_eq_true_eq] at hA ⊢
      by_cases hki : k = i
      · subst hki
        rcases hA with h | ⟨⟨h, _⟩, _⟩
        · exact .inr ⟨⟨by rw [hb]; rfl, hs⟩, h⟩
        · rw [tb_xs, hb] at h; cases h
      · rcases hA with h | ⟨⟨h3, h4⟩, h5⟩
        · exact .inl (h2 k (by omega) s hs hb h)
        · rw [tb_xn hki] at h3
          refine .inr ⟨⟨h3, hs⟩, ?_⟩
          rw [x_comm] at h5
          exact h2 k (by omega) _ (x_lt hs (by omega)) (by rw [tb_xn (fun e => hki e.symm)]; exact hb) h5
/-! Kleitman. -/
def cnt (f : Nat → Bool) : Nat → Nat
  | 0 => 0
  | n + 1 => cnt f n + if f n then 1 else 0
theorem cnt_lst (f : Nat → Bool) : ∀ n, (lst f n).length = cnt f n
  | 0 => rfl
  | n + 1 => by
    rw [lst_succ, cnt, ← cnt_lst f n]
    split <;> simp
theorem cnt_add (f : Nat → Bool) (a : Nat) : ∀ b, cnt f (a + b) = cnt f a + cnt (fun s => f (a + s)) b
  | 0 => rfl
  | b + 1 => by
    rw [← Nat.add_assoc, cnt, cnt_add f a b, cnt, Nat.add_assoc]
theorem cnt_le {f g : Nat → Bool} : ∀ {n}, (∀ s, s < n → f s = true → g s = true) → cnt f n ≤ cnt g n
  | 0, _ => Nat.le_refl _
  | n + 1, h => by
    have h1 := cnt_le (n := n) fun s hs => h s (by omega)
    have h2 := h n (by omega)
    rw [cnt, cnt]
    cases hf : f n with
    | false => simp; omega
    | true => rw [h2 hf]; simp; omega
theorem cnt_congr {f g : Nat → Bool} {n : Nat} (h : ∀ s, s < n → f s = g s) : cnt f n = cnt g n :=
  Nat.le_antisymm (cnt_le fun s hs e => by rw [← h s hs]; exact e) (cnt_le fun s hs e => by rw [h s hs]; exact e)
theorem top_x {s n : Nat} (hs : s < 2 ^ n) : 2 ^ n + s = s ^^^ 2 ^ n := by
  have := Nat.two_pow_add_eq_or_of_lt hs 1
  rw [Nat.mul_one] at this
  rw [this, Nat.or_comm, or_bit (Nat.testBit_lt_two_pow hs)]
theorem upC_lo {n : Nat} {A : Nat → Bool} (h : upC (n + 1) A) : upC n A := fun k hk s hs => h k (by omega) s (by rw [Nat.pow_succ]; omega)
theorem upC_hi {n : Nat} {A : Nat → Bool} (h : upC (n + 1) A) : upC n fun s => A (2 ^ n + s) := fun k hk s hs hb hA => by
  show A (2 ^ n + (s ^^^ 2 ^ k)) = true
  have hA : A (2 ^ n + s) = true := hA
  rw [top_x (x_lt hs hk), x_comm]
  rw [top_x hs] at hA
  refine h k (by omega) _ ?_ ?_ hA
  · rw [← top_x hs, Nat.pow_succ]; omega
  · rw [tb_xn (by omega)]; exact hb
theorem upC_mid {n : Nat} {A : Nat → Bool} (h : upC (n + 1) A) : ∀ s, s < 2 ^ n → A s = true → A (2 ^ n + s) = true := fun s hs hA => by
  rw [top_x hs]
  exact h n (by omega) s (by rw [Nat.pow_succ]; omega) (Nat.testBit_lt_two_pow hs) hA
theorem kleit : ∀ (n : Nat) (A B : Nat → Bool), upC n A → upC n B → cnt A (2 ^ n) * cnt B (2 ^ n) ≤ cnt (fun s => A s && B s) (2 ^ n) * 2 ^ n
  | 0, A, B, _, _ => by
    show cnt A 1 * cnt B 1 ≤ cnt (fun s => A s && B s) 1 * 1
    simp only [cnt]
    rcases Bool.eq_false_or_eq_true (A 0) with h | h <;> rcases Bool.eq_false_or_eq_true (B 0) with h' | h' <;> simp [h, h']
  | n + 1, A, B, hA, hB => by
    have h0 := kleit n A B (upC_lo hA) (upC_lo hB)
    have h1 := kleit n _ _ (upC_hi hA) (upC_hi hB)
    have ha := cnt_le (upC_mid hA)
    have hb := cnt_le (upC_mid hB)
    rw [show 2 ^ (n + 1) = 2 ^ n + 2 ^ n by rw [Nat.pow_succ]; omega, cnt_add, cnt_add, cnt_add]
    generalize cnt A (2 ^ n) = a0 at *
    generalize cnt B (2 ^ n) = b0 at *
    generalize cnt (fun s => A (2 ^ n + s)) (2 ^ n) = a1 at *
    generalize cnt (fun s => B (2 ^ n + s)) (2 ^ n) = b1 at *
    generalize cnt (fun s => A s && B s) (2 ^ n) = c0 at *
    generalize cnt (fun s => A (2 ^ n + s) && B (2 ^ n + s)) (2 ^ n) = c1 at *
    generalize 2 ^ n = N at *
    obtain ⟨d, rfl⟩ := Nat.exists_eq_add_of_le ha
    obtain ⟨e, rfl⟩ := Nat.exists_eq_add_of_le hb
    simp only [Nat.add_mul, Nat.mul_add] at *
    omega
theorem cnt_not (B : Nat → Bool) : ∀ n, cnt (fun s => !B s) n + cnt B n = n
  | 0 => rfl
  | n + 1 => by
    have := cnt_not B n
    rw [cnt, cnt]
    cases B n <;> simp <;> omega
theorem cnt_split (A B : Nat → Bool) : ∀ n, cnt (fun s => A s && !B s) n + cnt (fun s => A s && B s) n = cnt A n
  | 0 => rfl
  | n + 1 => by
    have := cnt_split A B n
    rw [cnt, cnt, cnt]
    cases A n <;> cases B n <;> simp <;> omega
theorem kleit_dn (n : Nat) (A B : Nat → Bool) (hA : upC n A) (hB : dnC n B) : cnt (fun s => A s && B s) (2 ^ n) * 2 ^ n ≤ cnt A (2 ^ n) * cnt B (2 ^ n) := by
  have hB' : upC n fun s => !B s := fun k hk s hs hb h => by
    show (!B (s ^^^ 2 ^ k)) = true
    have h : (!B s) = true := h
    cases hx : B (s ^^^ 2 ^ k) with
    | false => rfl
    | true => rw [hB k hk s hs hb hx] at h; cases h
  have h1 := kleit n A _ hA hB'
  have h2 := cnt_not B (2 ^ n)
  have h3 := cnt_split A B (2 ^ n)
  generalize cnt (fun s => A s && !B s) (2 ^ n) = u at *
  generalize cnt (fun s => A s && B s) (2 ^ n) = c at *
  generalize cnt A (2 ^ n) = a at *
  generalize cnt (fun s => !B s) (2 ^ n) = v at *
  generalize cnt B (2 ^ n) = b at *
  generalize 2 ^ n = N at *
  subst h3
  subst h2
  simp only [Nat.add_mul, Nat.mul_add] at *
  omega
end Go.Proofs.YtkfbfgcflnkllaaGreatDoor
namespace Go.Proofs.YtkfbfgcflnkllaaGreatDoor
open Go Go.Eng Nim
set_option maxRecDepth 100000
set_option maxHeartbeats 8000000
/-- How many of the pairs agree. -/
def prs (xs ys : List Nat) : Nat := (xs.map fun x => ys.count x).sum
theorem common_of (lf m : Nat) (hlf : 2000 ≤ lf) (xs ys : List Nat) (hx1 : xs.length ≤ 1024) (hy1 : ys.length ≤ 1024) (x y : Value) (h : Hp) (hx : Rds h x (xs.map J)) (hy : Rds h y (ys.map J)) :
    Ev lf (m + 1) 21 [x, y] h = some (J (prs xs ys), h) := by
  refine fn_eq ?_
  obtain ⟨xa, xc, hxs⟩ := hx.shape
  obtain ⟨ya, yc, hys⟩ := hy.shape
  rw [List.length_map] at hxs hys
  subst hxs hys
  refine ok_go 0 ?_
  refine sy_loop 0 lf h (α := Nat) (fun i => [(0, .slice xa xs.length xc), (1, .slice ya ys.length yc), (5, J (prs (xs.take i) ys)), (6, J i)]) (fun i g => i ≤ xs.length ∧ prs (xs.take i) ys ≤ i * 1024 ∧ g = h) (fun i _ => xs.length - i) 0 (by kernel_rfl) (by kernel_rfl)
    ⟨by kernel_rfl, by kernel_rfl, by kernel_rfl, by kernel_rfl, trivial⟩ (show xs.length - 0 < lf by omega) ⟨Nat.zero_le _, Nat.le_refl _, rfl⟩ ?_
  rintro m1 i F1 g ⟨hi, hpl, rfl⟩ ih
  have hw : IntKind.wrap .i64 (Int.ofNat (i + 1)) = Int.ofNat (i + 1) := wrap_nat (by omega)
  refine ok_go 2 ?_
  refine sy_test 0 (decide (Int.ofNat i < Int.ofNat xs.length)) (by kernel_rfl) ?_ ?_
  · intro hlt
    have hlt : i < xs.length := ok_nat hlt
    obtain ⟨p, hp1, hp2⟩ := rdN hx hlt
    have hps : prs (xs.take (i + 1)) ys = prs (xs.take i) ys + ys.count xs[i] := by
      unfold prs
      rw [List.take_succ_eq_append_getElem hlt, List.map_append, List.sum_append]
      simp
    generalize prs (xs.take i) ys = P at *
    generalize xs[i] = a at *
    refine ok_go 0 ?_
    refine sy_loop 0 lf g (α := Nat) (fun j => [(0, .slice xa xs.length xc), (1, .slice ya ys.length yc), (5, J (P + (ys.take j).count a)), (6, J i), (7, J j)]) (fun j g' => j ≤ ys.length ∧ g' = g) (fun j _ => ys.length - j) 0 (by kernel_rfl) (by kernel_rfl)
      ⟨by kernel_rfl, by kernel_rfl, (by kernel_rfl : _ = J P).trans (by rw [List.take_zero]; rfl), by kernel_rfl, by kernel_rfl, trivial⟩ (show ys.length - 0 < lf by omega) ⟨Nat.zero_le _, rfl⟩ ?_
    rintro m2 j F2 g ⟨hj, rfl⟩ ihj
    have hwj : IntKind.wrap .i64 (Int.ofNat (j + 1)) = Int.ofNat (j + 1) := wrap_nat (by omega)
    have hcl : (ys.take j).count a ≤ j := Nat.le_trans List.count_le_length (by rw [List.length_take]; omega)
    refine ok_go 2 ?_
    refine sy_test 0 (decide (Int.ofNat j < Int.ofNat ys.length)) (by kernel_rfl) ?_ ?_
    · intro hjl
      have hjl : j < ys.length := ok_nat hjl
      obtain ⟨p2, hq1, hq2⟩ := rdN hy hjl
      have hcs : (ys.take (j + 1)).count a = (ys.take j).count a + if ys[j] = a then 1 else 0 := by
        rw [List.take_succ_eq_append_getElem hjl, List.count_append, List.count_singleton]
        simp
      generalize ys[j] = b at *
      generalize (ys.take j).count a = C at *
      have hwc : IntKind.wrap .i64 (Int.ofNat (P + C + 1)) = Int.ofNat (P + C + 1) := wrap_nat (by omega)
      refine ok_go 0 ?_
      refine sy_load 0 (r := indexAddrOp Tryz.prog 28 (.slice xa xs.length xc) (J i)) (h' := g) (by kernel_rfl) hp1 ?_
      refine ok_go 0 ?_
      refine sy_load 0 (r := loadT Tryz.prog g 3 p) (h' := g) (by kernel_rfl) hp2 ?_
      refine ok_go 0 ?_
      refine sy_load 0 (r := indexAddrOp Tryz.prog 28 (.slice ya ys.length yc) (J j)) (h' := g) (by kernel_rfl) hq1 ?_
      refine ok_go 0 ?_
      refine sy_load 0 (r := loadT Tryz.prog g 3 p2) (h' := g) (by kernel_rfl) hq2 ?_
      refine ok_go 1 ?_
      by_cases he : b = a
      · rw [if_pos he] at hcs
        refine sy_yes 0 (b := decide (Int.ofNat a = Int.ofNat b)) (by kernel_rfl) (decide_eq_true (by rw [he])) ?_
        refine ok_go 2 ?_
        exact sy_next 0 _ g (by kernel_rfl) (by kernel_rfl) (ihj (j + 1) _ g ⟨hjl, rfl⟩ (show ys.length - (j + 1) < ys.length - j by omega) ⟨by kernel_rfl, by kernel_rfl, (by kernel_rfl : _ = Value.int .i64 (IntKind.wrap .i64 (Int.ofNat (P + C + 1)))).trans (by rw [hwc, hcs]; rfl), by kernel_rfl, (by kernel_rfl : _ = Value.int .i64 (IntKind.wrap .i64 (Int.ofNat (j + 1)))).trans (by rw [hwj]), trivial⟩)
      · rw [if_neg he] at hcs
        refine sy_no 0 (b := decide (Int.ofNat a = Int.ofNat b)) (by kernel_rfl) (decide_eq_false fun h => he (Int.ofNat.inj h).symm) ?_
        refine ok_go 1 ?_
        exact sy_next 0 _ g (by kernel_rfl) (by kernel_rfl) (ihj (j + 1) _ g ⟨hjl, rfl⟩ (show ys.length - (j + 1) < ys.length - j by omega) ⟨by kernel_rfl, by kernel_rfl, (by kernel_rfl : _ = J (P + C)).trans (by rw [hcs]; rfl), by kernel_rfl, (by kernel_rfl : _ = Value.int .i64 (IntKind.wrap .i64 (Int.ofNat (j + 1)))).trans (by rw [hwj]), trivial⟩)
    · intro hjl
      have hjl : j = ys.length := Nat.le_antisymm hj (no_nat hjl)
      subst hjl
      rw [List.take_length] at hcl
      refine ok_go 1 ?_
      exact sy_next 0 _ g (by kernel_rfl) (by kernel_rfl) (ih (i + 1) _ g ⟨hlt, by rw [hps]; omega, rfl⟩ (show xs.length - (i + 1) < xs.length - i by omega) ⟨by kernel_rfl, by kernel_rfl, (by kernel_rfl : _ = J (P + (ys.take ys.length).count a)).trans (by rw [hps, List.take_length]), (by kernel_rfl : _ = Value.int .i64 (IntKind.wrap .i64 (Int.ofNat (i + 1)))).trans (by rw [hw]), trivial⟩)
  · intro hlt
    have hlt : i = xs.length := Nat.le_antisymm hi (no_nat hlt)
    subst hlt
    refine ok_go 0 ?_
    exact sy_done 0 (v := J (prs (xs.take xs.length) ys)) (h := g) (by kernel_rfl) ⟨by rw [List.take_length], rfl⟩
end Go.Proofs.YtkfbfgcflnkllaaGreatDoor
namespace Go.Proofs.YtkfbfgcflnkllaaGreatDoor
open Go Go.Eng Nim
set_option maxRecDepth 100000
set_option maxHeartbeats 8000000
def pcF : Nat → Nat → Nat
  | 0, _ => 0
  | k + 1, x => x % 2 + pcF k (x / 2)
theorem pcF_zero : ∀ k, pcF k 0 = 0
  | 0 => rfl
  | k + 1 => by rw [pcF, show (0 / 2 = 0) from rfl, pcF_zero k]
theorem pcF_le : ∀ k x, pcF k x ≤ k
  | 0, _ => Nat.le_refl _
  | k + 1, x => by rw [pcF]; have := pcF_le k (x / 2); omega
theorem sz_of (lf m : Nat) (hlf : 2000 ≤ lf) (x : Nat) (hx : x < 2 ^ 10) (h : Hp) : Ev lf (m + 1) 22 [J x] h = some (J (pcF 10 x), h) := by
  refine fn_eq ?_
  refine ok_go 0 ?_
  refine sy_loop 0 lf h (α := Nat × Nat × Nat) (fun y => [(0, J y.1), (3, J y.2.1)]) (fun y g => y.1 ≤ x ∧ y.1 < 2 ^ y.2.2 ∧ y.2.1 + pcF y.2.2 y.1 = pcF 10 x ∧ g = h) (fun y _ => y.1) (x, 0, 10) (by kernel_rfl) (by kernel_rfl)
    ⟨by kernel_rfl, by kernel_rfl, trivial⟩ (show x < lf by omega) ⟨Nat.le_refl _, hx, Nat.zero_add _, rfl⟩ ?_
  have hpl := pcF_le 10 x
  rintro m1 ⟨y, c, k⟩ F1 g ⟨hyx, hy, hc, rfl⟩ ih
  dsimp only at hyx hy hc
  refine ok_go 1 ?_
  by_cases h0 : 0 < y
  · refine sy_yes 0 (b := decide (Int.ofNat y > 0)) (by kernel_rfl) (decide_eq_true (by show (0 : Int) < (y : Int); omega)) ?_
    obtain ⟨k, rfl⟩ : ∃ j, k = j + 1 := ⟨k - 1, by
      cases k with
      | zero => exact absurd hy (by omega)
      | succ k => rfl⟩
    rw [pcF] at hc
    have hw : IntKind.wrap .i64 (Int.ofNat (c + y % 2)) = Int.ofNat (c + y % 2) := wrap_nat (by omega)
    have hw2 : IntKind.wrap .i64 (Int.ofNat (y / 2)) = Int.ofNat (y / 2) := wrap_nat (by have := Nat.div_le_self y 2; omega)
    refine ok_go 3 ?_
    exact sy_next 0 _ g (by kernel_rfl) (by kernel_rfl) (ih (y / 2, c + y % 2, k) _ g ⟨Nat.le_trans (Nat.div_le_self y 2) hyx, show y / 2 < 2 ^ k by rw [Nat.pow_succ] at hy; omega, by dsimp only; omega, rfl⟩ (show y / 2 < y by omega) ⟨(by kernel_rfl : _ = Value.int .i64 (IntKind.wrap .i64 (Int.ofNat (y / 2)))).trans (by rw [hw2]), (by kernel_rfl : _ = Value.int .i64 (IntKind.wrap .i64 (Int.ofNat (c + y % 2)))).trans (by rw [hw]), trivial⟩)
  · have h0 : y = 0 := by omega
    subst h0
    rw [pcF_zero, Nat.add_zero] at hc
    subst hc
    refine ok_go 1 ?_
    exact sy_done 0 (v := J (pcF 10 x)) (h := g) (by kernel_rfl) ⟨rfl, rfl⟩
def chN (n : Nat) : Nat := [1, 1, 2, 3, 6, 10, 20, 35].getD n 0
theorem choose_of (m n : Nat) (hn : n ≤ 7) (h : Hp) : Ev 100000 (m + 1) 23 [J n, J (n / 2)] h = some (J (chN n), h) := by
  obtain rfl | rfl | rfl | rfl | rfl | rfl | rfl | rfl : n = 0 ∨ n = 1 ∨ n = 2 ∨ n = 3 ∨ n = 4 ∨ n = 5 ∨ n = 6 ∨ n = 7 := by omega
  all_goals kernel_rfl
end Go.Proofs.YtkfbfgcflnkllaaGreatDoor
namespace Go.Proofs.YtkfbfgcflnkllaaGreatDoor
open Go Go.Eng Nim Go.ChangeShapes
set_option maxRecDepth 100000
section
variable {HH : Type} {enc : TypeId × Value → HH} {B : Prot} {w0 w : World}
theorem cell_block {w : World} {a : Addr} {v : Value} (h : w.cell? a = some v) : ∃ arr e fz, w.heap[a.block]? = some (.cells arr e fz) ∧ a.spot = none ∧ arr[a.off]? = some v := by
  unfold World.cell? at h
  split at h
  · rename_i c e fz hb
    split at h
    · cases h
    · rename_i hs
      refine ⟨c, e, fz, hb, ?_, h⟩
      cases hq : a.spot with
      | none => rfl
      | some q => rw [hq] at hs; simp at hs
  · cases h
theorem add_spot {a : Addr} (h : a.spot = none) (i : Nat) : a.add i = ⟨a.block, a.off + i, none⟩ := by
  obtain ⟨b, o, s⟩ := a
  simp only at h
  subst h
  unfold Addr.add
  split
  · rename_i h0; subst h0; rfl
  · rfl
/-- A slice in memory, as the evaluator sees it: the cells one by one. -/
theorem openCells {E : Env} {h : Hp} (H : HpOK Tryz.prog B w0 E h w) (hB : ∀ k, k < w.heap.size → B.ro k) {a : Addr} {len cap : Nat} (cs : List Value) (hl : cs.length = len) (hc0 : 0 < cap → a.spot = none)
    (hlc : len ≤ cap) (hcell : ∀ i v, cs[i]? = some v → w.cell? (a.add i) = some (con E v)) (hs : scL h.next cs = true) (h1 : ∀ v ∈ cs, scalar v = true) :
    ∃ E' h' v, HpOK Tryz.prog B w0 E' h' w ∧ Agree h.next E E' ∧ h.Ext h' ∧ con E' v = .slice (some a) len cap ∧ sc h'.next v = true ∧ Rds h' v cs ∧ scalar v = true ∧ WfS v := by
  subst hl
  cases cs with
  | nil =>
    refine ⟨E.ext h.next a.block 0, ⟨h.objs, h.next + 1⟩, .slice (some ⟨h.next, a.off, a.spot⟩) 0 (2 * cap), H.bump a.block, Env.ext_agree _ _ _ _, ⟨Nat.le_succ _, fun j _ => rfl⟩, ?_, by simp [sc], ?_, rfl, ?_⟩
    · obtain ⟨b, o, s⟩ := a
      cases s with
      | none => simp [con, conCap]
      | some q =>
        have hc : cap = 0 := Nat.eq_zero_of_not_pos fun hp => by have := hc0 hp; simp at this
        subst hc
        simp [con, conCap, conOff, conSpot]
    · cases hsp : a.spot with
      | none => exact .inr ⟨h.next, a.off, _, rfl, fun hn => absurd rfl hn⟩
      | some q =>
        have hc : cap = 0 := Nat.eq_zero_of_not_pos fun hp => by have := hc0 hp; rw [hsp] at this; cases this
        subst hc
        exact .inl ⟨⟨_, rfl⟩, rfl⟩
    · cases hsp : a.spot with
      | none => exact .inl ⟨rfl, Nat.zero_le _⟩
      | some q =>
        have hc : cap = 0 := Nat.eq_zero_of_not_pos fun hp => by have := hc0 hp; rw [hsp] at this; cases this
        subst hc
        exact .inr ⟨rfl, rfl⟩
  | cons v r =>
    have h0 := hcell 0 v rfl
    have hsp : a.spot = none := hc0 (by simp at hlc; omega)
    obtain ⟨arr, e, fz, hb, _, ha⟩ := cell_block h0
    rw [add_spot hsp] at ha hb
    have ha0 : a.off + 0 < arr.size := (Array.getElem?_eq_some_iff.1 ha).1
    have hR := H.newRo (m := a.block) (off := a.off) (cs := v :: r) (hB _ (Array.getElem?_eq_some_iff.1 hb).1) hb (by omega) (fun i u hu => by
      have hi := hcell i u hu
      obtain ⟨arr', e', fz', hb', _, ha'⟩ := cell_block hi
      rw [add_spot hsp] at hb' ha'
      rw [hb] at hb'
      cases hb'
      exact ha') hs h1
    refine ⟨_, _, .slice (some ⟨h.next, a.off, none⟩) (r.length + 1) (2 * cap), hR, Env.ext_agree _ _ _ _, Hp.Ext.new _ _, ?_, by simp [sc, Hp.new], .inr ⟨h.next, a.off, _, rfl, fun _ => ⟨Nat.lt_succ_self _, ?_⟩⟩, rfl, .inl ⟨rfl, by simp at hlc; omega⟩⟩
    · obtain ⟨b, o, s⟩ := a
      simp only at hsp
      subst hsp
      simp [con, conCap]
    · unfold loadN
      rw [get_new]
      have hble : Nat.ble a.off a.off = true := Nat.ble_eq_true_of_le (Nat.le_refl _)
      simp only [hble, Nat.sub_self, List.drop_zero]
      exact takeN_all (v :: r)
theorem openInts {E : Env} {h : Hp} (H : HpOK Tryz.prog B w0 E h w) (hB : ∀ k, k < w.heap.size → B.ro k) {fuel : Nat} {c : Value} {x : DataW HH × List MemPlace}
    (ht : DataW.trod enc Tryz.prog w 0 (fun _ => true) true fuel 28 [c] = some x) :
    ∃ (E' : Env) (h' : Hp) (v : Value) (r : List Int), HpOK Tryz.prog B w0 E' h' w ∧ Agree h.next E E' ∧ h.Ext h' ∧ con E' v = c ∧ sc h'.next v = true ∧ Rds h' v (r.map I) ∧ scalar v = true ∧ r.length < 2 ^ 63 ∧ WfS v := by
  rcases open_ints (k := .i64) u28 (by kernel_rfl) (by kernel_rfl) ht with ⟨hc, _⟩ | ⟨a, len, cap, zs, hc, _, hlc, hcm, hzl, _, hcell, hwf⟩
  · simp only [List.cons.injEq, and_true] at hc
    subst hc
    exact ⟨E, h, .slice none 0 0, [], H, Agree.refl _ _, Hp.Ext.refl _, by simp [con], rfl, .inl ⟨⟨none, rfl⟩, rfl⟩, rfl, by decide, ⟨rfl, rfl⟩⟩
  · simp only [List.cons.injEq, and_true] at hc
    subst hc
    simp only [if_true] at hzl
    obtain ⟨E', h', v, k1, k2, k3, k4, k5, k6, k7, k8⟩ := openCells H hB (a := a) (len := len) (cap := cap) ((zs.take len).map I) (by simp; omega) (fun hp => by
        have := hcell 0 (by omega)
        obtain ⟨_, _, _, _, h2, _⟩ := cell_block this
        unfold Addr.add at h2
        simpa using h2) hlc (fun i v hv => by
        have hil : i < len ∧ i < zs.length := by
          have := (List.getElem?_eq_some_iff.1 hv).1
          simp at this
          exact ⟨by omega, by omega⟩
        have := hcell i hil.2
        rw [this]
        rw [List.getElem?_map, List.getElem?_take, if_pos hil.1, List.getElem?_eq_getElem hil.2] at hv
        simp only [Option.map_some, Option.some.injEq] at hv
        subst hv
        rw [List.getD_eq_getElem?_getD, List.getElem?_eq_getElem hil.2]
        simp [con]) (by rw [scL_iff]; intro v hv; obtain ⟨z, _, rfl⟩ := List.mem_map.1 hv; rfl) (fun v hv => by obtain ⟨z, _, rfl⟩ := List.mem_map.1 hv; rfl)
    refine ⟨E', h', v, zs.take len, k1, k2, k3, k4, k5, k6, k7, ?_, k8⟩
    have : maxLen = 2 ^ 63 - 1 := rfl
    rw [List.length_take]
    omega
theorem openIntsArg {E : Env} {h : Hp} (H : HpOK Tryz.prog B w0 E h w) (hB : ∀ k, k < w.heap.size → B.ro k) {v0 : Value} {base : Nat} {d : DataW HH} {p : List MemPlace} (hval : Value.okWide Tryz.prog w .any base 28 v0)
    (ht : DataW.Trod enc Tryz.prog w 0 (fun _ => true) true 28 v0 d p) :
    ∃ (E' : Env) (h' : Hp) (xa : Option Addr) (xc : Nat) (zs : List Int), HpOK Tryz.prog B w0 E' h' w ∧ con E' (.slice xa zs.length xc) = v0 ∧ sc h'.next (.slice xa zs.length xc) = true ∧ Rds h' (.slice xa zs.length xc) (zs.map I) ∧ WfS (.slice xa zs.length xc) ∧ zs.length < 2 ^ 63 := by
  obtain ⟨fuel, ht⟩ := ht
  have hsl : ∃ a l c, v0 = .slice a l c := by
    unfold Value.okWide at hval
    rw [u28] at hval
    simp only [Cell.okWide, u28, Cell.ok] at hval
    cases v0 <;> first | exact ⟨_, _, _, rfl⟩ | simp at hval
  obtain ⟨a0, l0, c0, rfl⟩ := hsl
  have hcells : (Value.slice a0 l0 c0).cells.toList = [.slice a0 l0 c0] := rfl
  rw [hcells] at ht
  obtain ⟨E', h', v, r, j1, j2, j3, j4, j5, j6, j7, j8, j9⟩ := openInts H hB ht
  obtain ⟨xa, xc, hs⟩ := j6.shape
  rw [List.length_map] at hs
  subst hs
  exact ⟨E', h', xa, xc, r, j1, j4, j5, j6, j9, j8⟩
end
end Go.Proofs.YtkfbfgcflnkllaaGreatDoor
namespace Go.Proofs.YtkfbfgcflnkllaaGreatDoor
open Go Go.Eng Nim
set_option maxRecDepth 100000
set_option maxHeartbeats 8000000
theorem trace_of (lf m : Nat) (M0 : Nat) (hM0 : M0 < 1024) (hlf : 2000 ≤ lf) (l : List Nat) (hl : l.length < 2000) (hb : ∀ x ∈ l, x < 1024) (v : Value) (h : Hp) (hv : Rds h v (l.map J)) :
    ∃ v' h', Ev lf (m + 1) 76 [v, J M0] h = some (v', h') ∧ v' = .agg (mk97 fun i => decide (i ∈ l.map (· &&& M0))).toArray ∧ h.Ext h' := by
  refine fnS_ok (Q := fun v' h' => v' = .agg (mk97 fun i => decide (i ∈ l.map (· &&& M0))).toArray ∧ h.Ext h') ?_
  obtain ⟨va, vc, hvs⟩ := hv.shape
  rw [List.length_map] at hvs
  subst hvs
  have W := Sto.start h
  refine ok_go 0 ?_
  refine ow_new 0 W (.cells (mk97 fun _ => false) 97 false) (fun i => ptr i 0) (by kernel_rfl) fun g1 ng1 W => ?_
  refine ok_go 0 ?_
  refine ow_new 0 W (.cells (mk97 fun _ => false) 97 false) (fun i => ptr i 0) (by kernel_rfl) fun g2 ng2 W => ?_
  refine ok_go 1 ?_
  refine sy_loop 0 lf g2 (α := Nat) (fun i => [(1, J M0), (4, ptr h.next 0), (5, ptr g1.next 0), (8, .slice va l.length vc), (9, J l.length), (10, J i)]) (fun i g => i ≤ l.length ∧ Sto h g [(g1.next, .cells (mk97 fun k => decide (k ∈ (l.take i).map (· &&& M0))) 97 false), (h.next, .cells (mk97 fun _ => false) 97 false)]) (fun i _ => l.length - i) 0 (by kernel_rfl) (by kernel_rfl)
    ⟨by kernel_rfl, by kernel_rfl, by kernel_rfl, by kernel_rfl, by kernel_rfl, by kernel_rfl, trivial⟩ (show l.length - 0 < lf by omega) ⟨Nat.zero_le _, by
      simpa using W⟩ ?_
  clear W
  rintro m1 i F1 g ⟨hi, W⟩ ih
  have hw : IntKind.wrap .i64 (Int.ofNat (i + 1)) = Int.ofNat (i + 1) := wrap_nat (by omega)
  refine ok_go 1 ?_
  refine sy_test 0 (decide (Int.ofNat i < Int.ofNat l.length)) (by kernel_rfl) ?_ ?_
  · intro hlt
    have hlt : i < l.length := ok_nat hlt
    have hx : l[i]? = some l[i] := List.getElem?_eq_getElem hlt
    have hxb := hb _ (List.mem_of_getElem? hx)
    obtain ⟨p, hp1, hp2⟩ := rdN (hv.ext W.ext) hlt
    generalize hxe : l[i] = x at *
    have hxm : x &&& M0 < 1024 := Nat.lt_of_le_of_lt Nat.and_le_left hxb
    refine ok_go 0 ?_
    refine sy_load 0 (r := indexAddrOp Tryz.prog 28 (.slice va l.length vc) (J i)) (h' := g) (by kernel_rfl) hp1 ?_
    refine ok_go 0 ?_
    refine sy_load 0 (r := loadT Tryz.prog g 3 p) (h' := g) (by kernel_rfl) hp2 ?_
    refine ok_go 1 ?_
    refine sy_load 0 (r := indexAddrOp Tryz.prog 97 (ptr g1.next 0) (I (andI (Int.ofNat x) (Int.ofNat M0)))) (h' := g) (v := ptr g1.next (x &&& M0)) (by kernel_rfl) (by rw [and_nat (by omega)]; exact idxM hxm) ?_
    refine ok_go 0 ?_
    refine ow_storeF (P := Tryz.prog) (T := 4) (v := .bool true) 0 0 W rfl hxm zB rfl (by kernel_rfl) fun g2 ng2 W => ?_
    rw [mk97_set] at W
    have W : Sto h g2 [(g1.next, .cells (mk97 fun k => decide (k ∈ (l.take (i + 1)).map (· &&& M0))) 97 false), (h.next, .cells (mk97 fun _ => false) 97 false)] := by
      rw [show (fun k => decide (k ∈ (l.take (i + 1)).map (· &&& M0))) = fun k => if k = x &&& M0 then true else decide (k ∈ (l.take i).map (· &&& M0)) from by
        funext k
        rw [List.take_succ_eq_append_getElem hlt, hxe]
        by_cases hk : k = x &&& M0
        · simp [hk]
        · simp [hk]]
      exact W
    refine ok_go 1 ?_
    exact sy_next 0 _ g2 (by kernel_rfl) (by kernel_rfl) (ih (i + 1) _ g2 ⟨hlt, W⟩ (show l.length - (i + 1) < l.length - i by omega) ⟨by kernel_rfl, by kernel_rfl, by kernel_rfl, by kernel_rfl, by kernel_rfl, (by kernel_rfl : _ = Value.int .i64 (IntKind.wrap .i64 (Int.ofNat (i + 1)))).trans (by rw [hw]), trivial⟩)
  · intro hlt
    have hlt : i = l.length := Nat.le_antisymm hi (no_nat hlt)
    subst hlt
    rw [List.take_length] at W
    generalize hM : (mk97 fun k => decide (k ∈ l.map (· &&& M0))) = M at *
    have hMl : M.length = 1024 := by rw [← hM]; exact cellsF_len ..
    have hMt : takeN 1024 M = some M := by rw [← hM]; exact mk97_take _
    have hMs : M.all scalar = true := by rw [← hM]; exact mk97_sc _
    refine ok_go 0 ?_
    refine ow_loadA (P := Tryz.prog) (T := 97) 0 0 W rfl (by kernel_rfl) (by kernel_rfl) hMt (by kernel_rfl) ?_
    refine ok_go 0 ?_
    refine ow_storeA (P := Tryz.prog) (T := 97) (v := .agg M.toArray) 0 1 W M rfl rfl (by rw [hMl]; exact (cellsF_len ..).symm) (by rw [hMl]; kernel_rfl) hMs (by kernel_rfl) fun g2 ng2 W => ?_
    refine ok_go 0 ?_
    refine ow_loadA (P := Tryz.prog) (T := 97) 0 1 W rfl (by kernel_rfl) (by kernel_rfl) hMt (by kernel_rfl) ?_
    refine ok_go 0 ?_
    exact sy_done 0 (v := .agg M.toArray) (h := g2) (by kernel_rfl) ⟨rfl, W.ext⟩
end Go.Proofs.YtkfbfgcflnkllaaGreatDoor
namespace Go.Proofs.YtkfbfgcflnkllaaGreatDoor
open Go Go.Eng Nim
set_option maxRecDepth 100000
set_option maxHeartbeats 8000000
theorem tr_ok (lf m : Nat) (hlf : 2000 ≤ lf) (n : Nat) (hn : n ≤ 10) (M0 : Nat) (hM0 : M0 < 2 ^ n) (f : Nat → Bool) (v : Value) (h : Hp) (hv : Rds h v ((lst f (2 ^ n)).map J)) :
    ∃ v' h', Ev lf (m + 2) 32 [J n, v, J M0] h = some (v', h') ∧ ∃ q, v' = .tuple #[oslV q (lst (fun k => decide (k ∈ (lst f (2 ^ n)).map (· &&& M0))) 1024).length, J 0] ∧ Sto h h' (oent q 3 ((lst (fun k => decide (k ∈ (lst f (2 ^ n)).map (· &&& M0))) 1024).map J)) := by
  refine fnS_ok (Q := fun v' h' => ∃ q, v' = .tuple #[oslV q (lst (fun k => decide (k ∈ (lst f (2 ^ n)).map (· &&& M0))) 1024).length, J 0] ∧ Sto h h' (oent q 3 ((lst (fun k => decide (k ∈ (lst f (2 ^ n)).map (· &&& M0))) 1024).map J))) ?_
  have hsh := one_shl n (by omega)
  have h2n : 2 ^ n ≤ 1024 := Nat.pow_le_pow_right (by decide) hn
  have hll := lst_len f (2 ^ n)
  have e1 := chk_lst lf m hlf n hn f v h hv
  obtain ⟨_, h1, e2, rfl, X1⟩ := trace_of lf m M0 (by omega) hlf (lst f (2 ^ n)) (by omega) (fun x hx => by have := (lst_mem.1 hx).1; omega) v h hv
  obtain ⟨va, vc, hvs⟩ := hv.shape
  rw [List.length_map] at hvs
  subst hvs
  have W := (Sto.start h).call X1
  generalize hL : lst f (2 ^ n) = L at *
  generalize hF : (fun i => decide (i ∈ L.map (· &&& M0))) = f at *
  have hMl : (mk97 f).length = 1024 := cellsF_len ..
  refine ok_go 0 ?_
  refine sy_call 0 (by kernel_rfl) e1 ?_
  refine ok_go 12 ?_
  refine sy_no 0 (b := decide (Int.ofNat M0 ≥ IntKind.i64.wrap (1 * 2 ^ min (IntKind.u64.wrap (Int.ofNat n)).toNat IntKind.i64.bits))) (by kernel_rfl) (decide_eq_false (by rw [hsh]; show ¬ ((2 ^ n : Nat) : Int) ≤ (M0 : Int); omega)) ?_
  refine ok_go 0 ?_
  generalize hMM : mk97 f = MM at *
  refine sy_call 0 (by kernel_rfl) e2 ?_
  refine ok_go 0 ?_
  refine ow_new 0 W (.cells (mk97 fun _ => false) 97 false) (fun i => ptr i 0) (by kernel_rfl) fun h2 nh2 W => ?_
  generalize h1.next = b at *
  refine ok_go 0 ?_
  refine ow_storeA (P := Tryz.prog) (T := 97) (v := .agg MM.toArray) 0 0 W MM rfl rfl (by rw [hMl]; exact (cellsF_len ..).symm) (by rw [hMl]; kernel_rfl) (by rw [← hMM]; exact mk97_sc _) (by kernel_rfl) fun h4 nh3 W => ?_
  rw [← hMM] at W
  have W : Sto h h4 [(b, .cells (mk97 f) 97 false)] := W
  obtain ⟨v4, h5, e4, q, rfl, W4⟩ := list_of lf m hlf f b false h4 (W.get 0 rfl) (W.lt 0 rfl)
  obtain ⟨oa, oc, ho⟩ := osl_shape q (lst f 1024).length
  rw [ho] at e4
  refine ok_go 0 ?_
  refine sy_call 0 (by kernel_rfl) e4 ?_
  refine ok_go 0 ?_
  exact sy_done 0 (v := .tuple #[.slice oa (lst f 1024).length oc, J 0]) (h := h5) (by kernel_rfl) ⟨q, by rw [ho], (W.over W4).sub (List.sublist_append_left ..)⟩
end Go.Proofs.YtkfbfgcflnkllaaGreatDoor
namespace Go.Proofs.YtkfbfgcflnkllaaGreatDoor
open Go Go.Eng Nim
set_option maxRecDepth 100000
set_option maxHeartbeats 8000000
theorem tr_bad (lf m : Nat) (hlf : 2000 ≤ lf) (n : Nat) (hn : n ≤ 10) (z : Int) (hz : z < 0 ∨ z ≥ Int.ofNat (2 ^ n)) (f : Nat → Bool) (v : Value) (h : Hp) (hv : Rds h v ((lst f (2 ^ n)).map J)) :
    Ev lf (m + 2) 32 [J n, v, I z] h = some (.tuple #[.slice none 0 0, J 1], h) := by
  refine fn_eq ?_
  have hsh := one_shl n (by omega)
  have e1 := chk_lst lf m hlf n hn f v h hv
  obtain ⟨va, vc, hvs⟩ := hv.shape
  rw [List.length_map] at hvs
  subst hvs
  generalize lst f (2 ^ n) = l at *
  refine ok_go 0 ?_
  refine sy_call 0 (by kernel_rfl) e1 ?_
  refine ok_go 3 ?_
  by_cases h0 : z < 0
  · refine sy_yes 0 (b := decide (z < 0)) (by kernel_rfl) (decide_eq_true h0) ?_
    refine ok_go 6 ?_
    exact sy_done 0 (v := .tuple #[.slice none 0 0, J 1]) (h := h) (by kernel_rfl) ⟨rfl, rfl⟩
  · refine sy_no 0 (b := decide (z < 0)) (by kernel_rfl) (decide_eq_false h0) ?_
    refine ok_go 8 ?_
    refine sy_yes 0 (b := decide (z ≥ IntKind.i64.wrap (1 * 2 ^ min (IntKind.u64.wrap (Int.ofNat n)).toNat IntKind.i64.bits))) (by kernel_rfl) (decide_eq_true (by rw [hsh]; exact hz.resolve_left h0)) ?_
    refine ok_go 0 ?_
    exact sy_done 0 (v := .tuple #[.slice none 0 0, J 1]) (h := h) (by kernel_rfl) ⟨rfl, rfl⟩
end Go.Proofs.YtkfbfgcflnkllaaGreatDoor
namespace Go.Proofs.YtkfbfgcflnkllaaGreatDoor
open Go Go.Eng Nim
set_option maxRecDepth 100000
set_option maxHeartbeats 8000000
theorem rtr_of (lf m : Nat) (hlf : 2000 ≤ lf) (n : Nat) (hn : n ≤ 10) (M0 : Nat) (l : List Nat) (hl : l.length ≤ 1024) (hb : ∀ x ∈ l, x < 2 ^ n) (v : Value) (h : Hp) (hv : Rds h v (l.map J)) :
    ∃ v' h', Ev lf (m + 2) 33 [J n, v, J M0] h = some (v', h') ∧ ∃ q, v' = oslV q (lst (fun k => decide (k ∈ l.map (· &&& M0))) (2 ^ n)).length ∧ Sto h h' (oent q 3 ((lst (fun k => decide (k ∈ l.map (· &&& M0))) (2 ^ n)).map J)) := by
  refine fnS_ok (Q := fun v' h' => ∃ q, v' = oslV q (lst (fun k => decide (k ∈ l.map (· &&& M0))) (2 ^ n)).length ∧ Sto h h' (oent q 3 ((lst (fun k => decide (k ∈ l.map (· &&& M0))) (2 ^ n)).map J))) ?_
  have hsh := one_shl n (by omega)
  have h2n : 2 ^ n ≤ 1024 := Nat.pow_le_pow_right (by decide) hn
  obtain ⟨va, vc, hvs⟩ := hv.shape
  rw [List.length_map] at hvs
  subst hvs
  have W := Sto.start h
  refine ok_go 2 ?_
  refine sy_call 0 (r := makeSliceOp Tryz.prog h 37 (I (IntKind.i64.wrap (1 * 2 ^ min (IntKind.u64.wrap (Int.ofNat n)).toNat IntKind.i64.bits))) (I (IntKind.i64.wrap (1 * 2 ^ min (IntKind.u64.wrap (Int.ofNat n)).toNat IntKind.i64.bits)))) (by kernel_rfl) (by rw [hsh]; exact mkB (2 ^ n) h2n h) ?_
  have W := W.new (.cells (cellsF (2 ^ n) fun _ => .bool false) 4 false)
  generalize h.new (.cells (cellsF (2 ^ n) fun _ => .bool false) 4 false) = h1 at *
  refine ok_go 0 ?_
  refine sy_loop 0 lf h1 (α := Nat) (fun i => [(1, .slice va l.length vc), (2, J M0), (7, .slice (some ⟨h.next, 0, none⟩) (2 ^ n) (2 * 2 ^ n)), (8, J i)]) (fun i g => i ≤ l.length ∧ Sto h g [(h.next, .cells (cellsF (2 ^ n) fun k => .bool (decide (k ∈ (l.take i).map (· &&& M0)))) 4 false)]) (fun i _ => l.length - i) 0 (by kernel_rfl) (by kernel_rfl)
    ⟨by kernel_rfl, by kernel_rfl, by kernel_rfl, by kernel_rfl, trivial⟩ (show l.length - 0 < lf by omega) ⟨Nat.zero_le _, by simpa using W⟩ ?_
  clear W
  rintro m1 i F1 g ⟨hi, W⟩ ih
  have hw : IntKind.wrap .i64 (Int.ofNat (i + 1)) = Int.ofNat (i + 1) := wrap_nat (by omega)
  refine ok_go 2 ?_
  refine sy_test 0 (decide (Int.ofNat i < Int.ofNat l.length)) (by kernel_rfl) ?_ ?_
  · intro hlt
    have hlt : i < l.length := ok_nat hlt
    have hx : l[i]? = some l[i] := List.getElem?_eq_getElem hlt
    have hxb := hb _ (List.mem_of_getElem? hx)
    obtain ⟨p, hp1, hp2⟩ := rdN (hv.ext W.ext) hlt
    generalize hxe : l[i] = x at *
    have hxm : x &&& M0 < 2 ^ n := Nat.lt_of_le_of_lt Nat.and_le_left hxb
    have han : andI (Int.ofNat x) (Int.ofNat M0) = Int.ofNat (x &&& M0) := and_nat (by omega)
    refine ok_go 0 ?_
    refine sy_load 0 (r := indexAddrOp Tryz.prog 28 (.slice va l.length vc) (J i)) (h' := g) (by kernel_rfl) hp1 ?_
    refine ok_go 0 ?_
    refine sy_load 0 (r := loadT Tryz.prog g 3 p) (h' := g) (by kernel_rfl) hp2 ?_
    refine ok_go 1 ?_
    refine sy_load 0 (r := indexAddrOp Tryz.prog 37 (.slice (some ⟨h.next, 0, none⟩) (2 ^ n) (2 * 2 ^ n)) (I (andI (Int.ofNat x) (Int.ofNat M0)))) (h' := g) (v := ptr h.next (x &&& M0)) (by kernel_rfl) (by rw [han]; exact idxS0 (e := 4) (by kernel_rfl) zB hxm) ?_
    refine ok_go 0 ?_
    refine ow_storeF (P := Tryz.prog) (T := 4) (v := .bool true) 0 0 W rfl hxm zB rfl (by kernel_rfl) fun g2 ng2 W => ?_
    rw [mk97_set] at W
    have W : Sto h g2 [(h.next, .cells (cellsF (2 ^ n) fun k => .bool (decide (k ∈ (l.take (i + 1)).map (· &&& M0)))) 4 false)] := by
      rw [show (fun k => Value.bool (decide (k ∈ (l.take (i + 1)).map (· &&& M0)))) = fun k => .bool (if k = x &&& M0 then true else decide (k ∈ (l.take i).map (· &&& M0))) from by
        funext k
        rw [List.take_succ_eq_append_getElem hlt, hxe]
        by_cases hk : k = x &&& M0
        · simp [hk]
        · simp [hk]]
      exact W
    refine ok_go 1 ?_
    exact sy_next 0 _ g2 (by kernel_rfl) (by kernel_rfl) (ih (i + 1) _ g2 ⟨hlt, W⟩ (show l.length - (i + 1) < l.length - i by omega) ⟨by kernel_rfl, by kernel_rfl, by kernel_rfl, (by kernel_rfl : _ = Value.int .i64 (IntKind.wrap .i64 (Int.ofNat (i + 1)))).trans (by rw [hw]), trivial⟩)
  · intro hlt
    have hlt : i = l.length := Nat.le_antisymm hi (no_nat hlt)
    subst hlt
    rw [List.take_length] at W
    obtain ⟨v4, h4, e4, q, rfl, W4⟩ := rlist_of lf m hlf (fun k => decide (k ∈ l.map (· &&& M0))) (2 ^ n) h2n (.slice (some ⟨h.next, 0, none⟩) (2 ^ n) (2 * 2 ^ n)) g (rd_cells (W.lt 0 rfl) (W.get 0 rfl))
    obtain ⟨oa, oc, ho⟩ := osl_shape q (lst (fun k => decide (k ∈ l.map (· &&& M0))) (2 ^ n)).length
    rw [ho] at e4
    refine ok_go 0 ?_
    refine sy_call 0 (by kernel_rfl) e4 ?_
    refine ok_go 0 ?_
    exact sy_done 0 (v := .slice oa (lst (fun k => decide (k ∈ l.map (· &&& M0))) (2 ^ n)).length oc) (h := h4) (by kernel_rfl) ⟨q, ho.symm, (W.over W4).sub (List.sublist_append_left ..)⟩
end Go.Proofs.YtkfbfgcflnkllaaGreatDoor
namespace Go.Proofs.YtkfbfgcflnkllaaGreatDoor
open Go Go.Eng Nim
set_option maxRecDepth 100000
set_option maxHeartbeats 8000000
def trF (l : List Nat) (s : Nat) (k : Nat) : Bool := decide (k ∈ l.map (· &&& s))
def shB (l : List Nat) (N s : Nat) : Bool := Nat.beq (lst (trF l s) N).length (2 ^ pcF 10 s)
theorem rshat_of (lf m : Nat) (hlf : 2000 ≤ lf) (n : Nat) (hn : n ≤ 10) (l : List Nat) (hl : l.length ≤ 1024) (hb : ∀ x ∈ l, x < 2 ^ n) (v : Value) (h : Hp) (hv : Rds h v (l.map J)) :
    ∃ v' h', Ev lf (m + 3) 37 [J n, v] h = some (v', h') ∧ ∃ q, v' = oslV q (lst (shB l (2 ^ n)) (2 ^ n)).length ∧ Sto h h' (oent q 3 ((lst (shB l (2 ^ n)) (2 ^ n)).map J)) := by
  refine fnS_ok (Q := fun v' h' => ∃ q, v' = oslV q (lst (shB l (2 ^ n)) (2 ^ n)).length ∧ Sto h h' (oent q 3 ((lst (shB l (2 ^ n)) (2 ^ n)).map J))) ?_
  have hsh := one_shl n (by omega)
  have h2n : 2 ^ n ≤ 1024 := Nat.pow_le_pow_right (by decide) hn
  obtain ⟨va, vc, hvs⟩ := hv.shape
  rw [List.length_map] at hvs
  subst hvs
  have W := Sto.start h
  refine ok_go 0 ?_
  refine sy_loop 0 lf h (α := Nat × Nat × Option Addr × Nat) (fun x => [(0, J n), (1, .slice va l.length vc), (5, .slice x.2.2.1 (lst (shB l (2 ^ n)) x.1).length x.2.2.2), (6, J x.1)]) (fun x g => x.1 ≤ 2 ^ n ∧ .slice x.2.2.1 (lst (shB l (2 ^ n)) x.1).length x.2.2.2 = oslV x.2.1 (lst (shB l (2 ^ n)) x.1).length ∧ Sto h g (oent x.2.1 3 ((lst (shB l (2 ^ n)) x.1).map J))) (fun x _ => 2 ^ n - x.1) (0, 0, none, 0) (by kernel_rfl) (by kernel_rfl)
    ⟨by kernel_rfl, by kernel_rfl, by kernel_rfl, by kernel_rfl, trivial⟩ (show 2 ^ n - 0 < lf by omega) ⟨Nat.zero_le _, rfl, W⟩ ?_
  clear W
  rintro m1 ⟨i, q, oa, oc⟩ F1 g ⟨hi, hos, W⟩ ih
  dsimp only at hi hos W
  have hw : IntKind.wrap .i64 (Int.ofNat (i + 1)) = Int.ofNat (i + 1) := wrap_nat (by omega)
  have hll := lst_len (shB l (2 ^ n)) i
  have hls := lst_succ (shB l (2 ^ n)) i
  refine ok_go 3 ?_
  refine sy_test 0 (decide (Int.ofNat i < IntKind.i64.wrap (1 * 2 ^ min (IntKind.u64.wrap (Int.ofNat n)).toNat IntKind.i64.bits))) (by kernel_rfl) ?_ ?_
  · intro hlt
    rw [hsh] at hlt
    have hlt : i < 2 ^ n := ok_nat hlt
    obtain ⟨v2, g2, e2, q2, rfl, W2⟩ := rtr_of lf m hlf n hn i l hl hb _ g (hv.ext W.ext)
    have hT : (fun k => decide (k ∈ l.map (· &&& i))) = trF l i := rfl
    rw [hT] at e2 W2
    obtain ⟨ta, tc, ht⟩ := osl_shape q2 (lst (trF l i) (2 ^ n)).length
    rw [ht] at e2
    have W := W.call W2.ext
    have e3 := sz_of lf (m + 1) hlf i (by omega) g2
    have hpl := pcF_le 10 i
    have hsp := one_shl (pcF 10 i) (by omega)
    have hbq : shB l (2 ^ n) i = Nat.beq (lst (trF l i) (2 ^ n)).length (2 ^ pcF 10 i) := rfl
    generalize (lst (trF l i) (2 ^ n)).length = TL at *
    generalize pcF 10 i = pc at *
    refine ok_go 0 ?_
    refine sy_call 0 (by kernel_rfl) e2 ?_
    refine ok_go 1 ?_
    refine sy_call 0 (by kernel_rfl) e3 ?_
    refine ok_go 3 ?_
    cases hf : shB l (2 ^ n) i with
    | true =>
      rw [hf, if_pos rfl] at hls
      rw [hf] at hbq
      have heq : TL = 2 ^ pc := Nat.eq_of_beq_eq_true hbq.symm
      refine sy_yes 0 (b := decide (Int.ofNat TL = IntKind.i64.wrap (1 * 2 ^ min (IntKind.u64.wrap (Int.ofNat pc)).toNat IntKind.i64.bits))) (by kernel_rfl) (decide_eq_true (by rw [hsp, heq])) ?_
      generalize lst (shB l (2 ^ n)) i = L at *
      refine ow_new 0 W (AObj.cells [Value.int IntKind.i64 (Int.ofNat (Prod.fst (i, q, oa, oc)))] 3 false) (fun q => Value.slice (some { block := q, off := 0 }) 1 2) (by kernel_rfl) fun k1 nk1 Wk1 => ?_
      have W := Wk1
      have W : Sto h k1 ((g2.next, .cells [J i] 3 false) :: ([] ++ oent q 3 (L.map J))) := W
      refine ow_app (P := Tryz.prog) (t := 28) (e := 3) (z := 1) (c := L.length) (i := q) 0 W slz28 (by rw [List.length_map, Nat.mul_one]) rfl rfl (by omega) (by rw [← hos]; kernel_rfl) fun k2 sl nk2 hsl hsc W => ?_
      obtain ⟨oa2, oc2, ho2⟩ := osl_shape k1.next (L.length + 1)
      rw [ho2] at hsl
      subst hsl
      have W : Sto h k2 (oent k1.next 3 ((L ++ [i]).map J)) := by rw [List.map_append]; exact W
      refine ok_go 1 ?_
      exact sy_next 0 _ k2 (by kernel_rfl) (by kernel_rfl) (ih (i + 1, k1.next, oa2, oc2) _ k2 ⟨hlt, by dsimp only; rw [hls, List.length_append]; exact ho2.symm, by dsimp only; rw [hls]; exact W⟩ (show 2 ^ n - (i + 1) < 2 ^ n - i by omega) ⟨by kernel_rfl, by kernel_rfl, (by kernel_rfl : _ = Value.slice oa2 (L.length + 1) oc2).trans (by dsimp only; rw [hls, List.length_append]; rfl), (by kernel_rfl : _ = Value.int .i64 (IntKind.wrap .i64 (Int.ofNat (i + 1)))).trans (by rw [hw]), trivial⟩)
    | false =>
      rw [hf, if_neg Bool.false_ne_true] at hls
      rw [hf] at hbq
      have hne : TL ≠ 2 ^ pc := fun h => by rw [h, Nat.beq_refl] at hbq; cases hbq
      refine sy_no 0 (b := decide (Int.ofNat TL = IntKind.i64.wrap (1 * 2 ^ min (IntKind.u64.wrap (Int.ofNat pc)).toNat IntKind.i64.bits))) (by kernel_rfl) (decide_eq_false (by rw [hsp]; exact fun h => hne (Int.ofNat.inj h))) ?_
      generalize lst (shB l (2 ^ n)) i = L at *
      refine ok_go 1 ?_
      exact sy_next 0 _ g2 (by kernel_rfl) (by kernel_rfl) (ih (i + 1, q, oa, oc) _ g2 ⟨hlt, by dsimp only; rw [hls]; exact hos, by dsimp only; rw [hls]; exact W⟩ (show 2 ^ n - (i + 1) < 2 ^ n - i by omega) ⟨by kernel_rfl, by kernel_rfl, (by kernel_rfl : _ = Value.slice oa L.length oc).trans (by dsimp only; rw [hls]), (by kernel_rfl : _ = Value.int .i64 (IntKind.wrap .i64 (Int.ofNat (i + 1)))).trans (by rw [hw]), trivial⟩)
  · intro hlt
    rw [hsh] at hlt
    have hlt : i = 2 ^ n := Nat.le_antisymm hi (no_nat hlt)
    subst hlt
    refine ok_go 0 ?_
    exact sy_done 0 (v := .slice oa (lst (shB l (2 ^ n)) (2 ^ n)).length oc) (h := g) (by kernel_rfl) ⟨q, hos, W⟩
end Go.Proofs.YtkfbfgcflnkllaaGreatDoor
namespace Go.Proofs.YtkfbfgcflnkllaaGreatDoor
open Go Go.Eng Nim
set_option maxRecDepth 100000
set_option maxHeartbeats 8000000
/-- The largest size so far, and the first set that has it. -/
def dimS : List Nat → Int × Nat → Int × Nat
  | [], p => p
  | x :: r, p => dimS r (if Int.ofNat (pcF 10 x) > p.1 then (Int.ofNat (pcF 10 x), x) else p)
theorem dimS_app (a b : List Nat) : ∀ p, dimS (a ++ b) p = dimS b (dimS a p) := by
  induction a with
  | nil => intro p; rfl
  | cons x r ih => intro p; exact ih _
theorem rdim_of (lf m : Nat) (hlf : 2000 ≤ lf) (n : Nat) (hn : n ≤ 10) (l : List Nat) (hl : l.length ≤ 1024) (hb : ∀ x ∈ l, x < 2 ^ n) (v : Value) (h : Hp) (hv : Rds h v (l.map J)) :
    ∃ v' h', Ev lf (m + 4) 36 [J n, v] h = some (v', h') ∧ v' = .tuple #[I (dimS (lst (shB l (2 ^ n)) (2 ^ n)) (-1, 0)).1, J (dimS (lst (shB l (2 ^ n)) (2 ^ n)) (-1, 0)).2] ∧ h.Ext h' := by
  refine fnS_ok (Q := fun v' h' => v' = .tuple #[I (dimS (lst (shB l (2 ^ n)) (2 ^ n)) (-1, 0)).1, J (dimS (lst (shB l (2 ^ n)) (2 ^ n)) (-1, 0)).2] ∧ h.Ext h') ?_
  have h2n : 2 ^ n ≤ 1024 := Nat.pow_le_pow_right (by decide) hn
  obtain ⟨v2, g2, e2, q2, rfl, W2⟩ := rshat_of lf m hlf n hn l hl hb v h hv
  have R := lst_rd W2
  have hlm : ∀ x ∈ lst (shB l (2 ^ n)) (2 ^ n), x < 1024 := fun x hx => by have := (lst_mem.1 hx).1; omega
  have hll := lst_len (shB l (2 ^ n)) (2 ^ n)
  obtain ⟨va, vc, hvs⟩ := hv.shape
  rw [List.length_map] at hvs
  subst hvs
  generalize lst (shB l (2 ^ n)) (2 ^ n) = L at *
  obtain ⟨ta, tc, ht⟩ := osl_shape q2 L.length
  rw [ht] at e2 R
  refine ok_go 0 ?_
  refine sy_call 0 (by kernel_rfl) e2 ?_
  refine ok_go 0 ?_
  refine sy_loop 0 lf g2 (α := Nat) (fun i => [(6, I (dimS (L.take i) (-1, 0)).1), (7, J (dimS (L.take i) (-1, 0)).2), (8, .slice ta L.length tc), (9, J i)]) (fun i g => i ≤ L.length ∧ g = g2) (fun i _ => L.length - i) 0 (by kernel_rfl) (by kernel_rfl)
    ⟨by kernel_rfl, by kernel_rfl, by kernel_rfl, by kernel_rfl, trivial⟩ (show L.length - 0 < lf by omega) ⟨Nat.zero_le _, rfl⟩ ?_
  rintro m1 i F1 g ⟨hi, rfl⟩ ih
  have hw : IntKind.wrap .i64 (Int.ofNat (i + 1)) = Int.ofNat (i + 1) := wrap_nat (by omega)
  refine ok_go 2 ?_
  refine sy_test 0 (decide (Int.ofNat i < Int.ofNat L.length)) (by kernel_rfl) ?_ ?_
  · intro hlt
    have hlt : i < L.length := ok_nat hlt
    obtain ⟨p, hp1, hp2⟩ := rdN R hlt
    have hd : dimS (L.take (i + 1)) (-1, 0) = if Int.ofNat (pcF 10 L[i]) > (dimS (L.take i) (-1, 0)).1 then (Int.ofNat (pcF 10 L[i]), L[i]) else dimS (L.take i) (-1, 0) := by
      rw [List.take_succ_eq_append_getElem hlt, dimS_app]; rfl
    have e3 := sz_of lf (m + 2) hlf L[i] (hlm _ (List.getElem_mem hlt)) g
    generalize L[i] = x at *
    generalize dimS (L.take i) (-1, 0) = D at *
    obtain ⟨d, w⟩ := D
    dsimp only at *
    refine ok_go 0 ?_
    refine sy_load 0 (r := indexAddrOp Tryz.prog 28 (.slice ta L.length tc) (J i)) (h' := g) (by kernel_rfl) hp1 ?_
    refine ok_go 0 ?_
    refine sy_load 0 (r := loadT Tryz.prog g 3 p) (h' := g) (by kernel_rfl) hp2 ?_
    refine ok_go 0 ?_
    refine sy_call 0 (by kernel_rfl) e3 ?_
    refine ok_go 1 ?_
    by_cases hc : Int.ofNat (pcF 10 x) > d
    · rw [if_pos hc] at hd
      refine sy_yes 0 (b := decide (Int.ofNat (pcF 10 x) > d)) (by kernel_rfl) (decide_eq_true hc) ?_
      refine ok_go 0 ?_
      refine sy_load 0 (r := indexAddrOp Tryz.prog 28 (.slice ta L.length tc) (J i)) (h' := g) (by kernel_rfl) hp1 ?_
      refine ok_go 0 ?_
      refine sy_load 0 (r := loadT Tryz.prog g 3 p) (h' := g) (by kernel_rfl) hp2 ?_
      refine ok_go 0 ?_
      refine sy_call 0 (by kernel_rfl) e3 ?_
      refine ok_go 0 ?_
      refine sy_load 0 (r := indexAddrOp Tryz.prog 28 (.slice ta L.length tc) (J i)) (h' := g) (by kernel_rfl) hp1 ?_
      refine ok_go 0 ?_
      refine sy_load 0 (r := loadT Tryz.prog g 3 p) (h' := g) (by kernel_rfl) hp2 ?_
      refine ok_go 1 ?_
      exact sy_next 0 _ g (by kernel_rfl) (by kernel_rfl) (ih (i + 1) _ g ⟨hlt, rfl⟩ (show L.length - (i + 1) < L.length - i by omega) ⟨(by kernel_rfl : _ = J (pcF 10 x)).trans (by rw [hd]), (by kernel_rfl : _ = J x).trans (by rw [hd]), by kernel_rfl, (by kernel_rfl : _ = Value.int .i64 (IntKind.wrap .i64 (Int.ofNat (i + 1)))).trans (by rw [hw]), trivial⟩)
    · rw [if_neg hc] at hd
      refine sy_no 0 (b := decide (Int.ofNat (pcF 10 x) > d)) (by kernel_rfl) (decide_eq_false hc) ?_
      refine ok_go 1 ?_
      exact sy_next 0 _ g (by kernel_rfl) (by kernel_rfl) (ih (i + 1) _ g ⟨hlt, rfl⟩ (show L.length - (i + 1) < L.length - i by omega) ⟨(by kernel_rfl : _ = I d).trans (by rw [hd]), (by kernel_rfl : _ = J w).trans (by rw [hd]), by kernel_rfl, (by kernel_rfl : _ = Value.int .i64 (IntKind.wrap .i64 (Int.ofNat (i + 1)))).trans (by rw [hw]), trivial⟩)
  · intro hlt
    have hlt : i = L.length := Nat.le_antisymm hi (no_nat hlt)
    subst hlt
    refine ok_go 0 ?_
    exact sy_done 0 (v := .tuple #[I (dimS (L.take L.length) (-1, 0)).1, J (dimS (L.take L.length) (-1, 0)).2]) (h := g) (by kernel_rfl) ⟨by rw [List.take_length], W2.ext⟩
end Go.Proofs.YtkfbfgcflnkllaaGreatDoor
namespace Go.Proofs.YtkfbfgcflnkllaaGreatDoor
open Go Go.Eng Nim
set_option maxRecDepth 100000
set_option maxHeartbeats 8000000
/-- The next set within s. -/
def nxt (s k : Nat) : Nat := s - (s &&& (s - k - 1))
def inB (k s : Nat) : Bool := Nat.beq (k &&& s) k
def subOK (s k : Nat) : Bool := !(inB k s) || ((andI (IntKind.i64.wrap (Int.ofNat k - Int.ofNat s)) (Int.ofNat s) == Int.ofNat (nxt s k)) && inB (nxt s k) s && Nat.blt k (nxt s k) && Nat.ble (nxt s k) s && (List.range (nxt s k)).all fun j => Nat.ble j k || !(inB j s))
theorem sub_all : ((List.range 128).all fun s => (List.range s).all fun k => subOK s k) = true := by decide +kernel
theorem sub_nx {s k : Nat} (hs : s < 128) (hk : k < s) (hin : inB k s = true) : andI (IntKind.i64.wrap (Int.ofNat k - Int.ofNat s)) (Int.ofNat s) = Int.ofNat (nxt s k) ∧ inB (nxt s k) s = true ∧ k < nxt s k ∧ nxt s k ≤ s ∧ ∀ j, k < j → j < nxt s k → inB j s = false := by
  have h := List.all_eq_true.1 (List.all_eq_true.1 sub_all s (List.mem_range.2 hs)) k (List.mem_range.2 hk)
  unfold subOK at h
  rw [hin] at h
  simp only [Bool.not_true, Bool.false_or, Bool.and_eq_true] at h
  obtain ⟨⟨⟨⟨h1, h2⟩, h3⟩, h4⟩, h5⟩ := h
  refine ⟨eq_of_beq h1, h2, Nat.blt_eq.mp h3, Nat.le_of_ble_eq_true h4, fun j h6 h7 => ?_⟩
  have := List.all_eq_true.1 h5 j (List.mem_range.2 h7)
  rw [Bool.or_eq_true] at this
  rcases this with h8 | h8
  · have := Nat.le_of_ble_eq_true h8; omega
  · rwa [Bool.not_eq_true'] at h8
/-- All sets within s below k are marked. -/
def upto (t : Nat → Bool) (s k : Nat) : Bool := (List.range k).all fun j => !(inB j s) || t j
theorem upto_iff {t : Nat → Bool} {s k : Nat} : upto t s k = true ↔ ∀ j, j < k → inB j s = true → t j = true := by
  unfold upto
  rw [List.all_eq_true]
  constructor
  · intro h j hj hi
    have := h j (List.mem_range.2 hj)
    rw [hi] at this
    simpa using this
  · intro h j hj
    cases hi : inB j s with
    | false => rfl
    | true => simp [h j (List.mem_range.1 hj) hi]
theorem upto_nx {t : Nat → Bool} {s k K : Nat} (hin : inB k s = true) (hk : k < K) (hno : ∀ j, k < j → j < K → inB j s = false) : upto t s K = (upto t s k && t k) := by
  rw [Bool.eq_iff_iff, Bool.and_eq_true, upto_iff, upto_iff]
  constructor
  · intro h
    exact ⟨fun j hj hi => h j (by omega) hi, h k hk hin⟩
  · rintro ⟨h1, h2⟩ j hj hi
    rcases Nat.lt_trichotomy j k with h3 | h3 | h3
    · exact h1 j h3 hi
    · exact h3 ▸ h2
    · rw [hno j h3 hj] at hi; cases hi
theorem upto_zero (t : Nat → Bool) (s : Nat) : upto t s 0 = true := rfl
/-- Whether s is shattered. -/
def shG (l : List Nat) (s : Nat) : Bool := upto (trF l s) s (s + 1)
theorem inB_le {k s : Nat} (h : inB k s = true) : k ≤ s := by
  have : k &&& s = k := Nat.eq_of_beq_eq_true h
  have h2 : k &&& s ≤ s := Nat.and_le_right
  omega
theorem shG_iff {l : List Nat} {s : Nat} : shG l s = true ↔ ∀ k, k &&& s = k → ∃ x ∈ l, x &&& s = k := by
  unfold shG
  rw [upto_iff]
  constructor
  · intro h k hk
    have hi : inB k s = true := by unfold inB; rw [hk]; exact Nat.beq_refl k
    have := h k (by have := inB_le hi; omega) hi
    simpa [trF] using this
  · intro h j _ hi
    obtain ⟨x, hx, h2⟩ := h j (Nat.eq_of_beq_eq_true hi)
    simp only [trF, decide_eq_true_eq, List.mem_map]
    exact ⟨x, hx, h2⟩
/-- What is marked by less can't be as many, but if they are alike. -/
theorem lst_sub {f g : Nat → Bool} {n : Nat} (h : ∀ k, k < n → f k = true → g k = true) : (lst f n).length ≤ (lst g n).length ∧ ((lst f n).length = (lst g n).length → ∀ k, k < n → g k = true → f k = true) := by
  induction n with
  | zero => exact ⟨Nat.le_refl _, fun _ k hk => absurd hk (Nat.not_lt_zero _)⟩
  | succ n ih =>
    obtain ⟨h1, h2⟩ := ih fun k hk => h k (by omega)
    have hn := h n (by omega)
    rw [lst_succ, lst_succ]
    cases hf : f n with
    | true =>
      rw [hf] at hn
      rw [hn rfl]
      simp only [if_true, List.length_append, List.length_singleton]
      refine ⟨by omega, fun he k hk hg => ?_⟩
      rcases Nat.eq_or_lt_of_le (Nat.le_of_lt_succ hk) with h3 | h3
      · exact h3 ▸ hf
      · exact h2 (by omega) k h3 hg
    | false =>
      cases hg : g n with
      | true =>
        simp only [if_true, Bool.false_eq_true, if_false, List.length_append, List.length_singleton]
        exact ⟨by omega, fun he => by omega⟩
      | false =>
        simp only [Bool.false_eq_true, if_false]
        refine ⟨h1, fun he k hk h4 => ?_⟩
        rcases Nat.eq_or_lt_of_le (Nat.le_of_lt_succ hk) with h3 | h3
        · rw [h3, hg] at h4; cases h4
        · exact h2 he k h3 h4
theorem lst_cg {f g : Nat → Bool} {n : Nat} (h : ∀ j, j < n → f j = g j) : lst f n = lst g n := by
  unfold lst
  exact List.filter_congr fun j hj => h j (List.mem_range.1 hj)
theorem cnt_all : ((List.range 8).all fun n => (List.range (2 ^ n)).all fun s => Nat.beq (lst (fun k => inB k s) (2 ^ n)).length (2 ^ pcF 10 s)) = true := by decide +kernel
theorem cnt_sub {n s : Nat} (hn : n ≤ 7) (hs : s < 2 ^ n) : (lst (fun k => inB k s) (2 ^ n)).length = 2 ^ pcF 10 s :=
  Nat.eq_of_beq_eq_true (List.all_eq_true.1 (List.all_eq_true.1 cnt_all n (List.mem_range.2 (by omega))) s (List.mem_range.2 hs))
/-- The reference's test and the program's. -/
theorem shB_shG {l : List Nat} {n s : Nat} (hn : n ≤ 7) (hs : s < 2 ^ n) : shB l (2 ^ n) s = shG l s := by
  have htr : ∀ k, k < 2 ^ n → trF l s k = true → inB k s = true := fun k _ h => by
    simp only [trF, decide_eq_true_eq, List.mem_map] at h
    obtain ⟨x, _, rfl⟩ := h
    unfold inB
    rw [Nat.and_assoc, Nat.and_self]
    exact Nat.beq_refl _
  obtain ⟨h1, h2⟩ := lst_sub htr
  rw [cnt_sub hn hs] at h2
  rw [Bool.eq_iff_iff]
  unfold shG shB
  rw [upto_iff]
  constructor
  · intro h j hj hi
    exact h2 (Nat.eq_of_beq_eq_true h) j (by omega) hi
  · intro h
    have : lst (trF l s) (2 ^ n) = lst (fun k => inB k s) (2 ^ n) := lst_cg fun k hk => by
      rw [Bool.eq_iff_iff]
      exact ⟨htr k hk, fun hi => h k (by have := inB_le hi; omega) hi⟩
    rw [this, cnt_sub hn hs]
    exact Nat.beq_refl _
end Go.Proofs.YtkfbfgcflnkllaaGreatDoor
namespace Go.Proofs.YtkfbfgcflnkllaaGreatDoor
open Go Go.Eng Nim
set_option maxRecDepth 100000
set_option maxHeartbeats 8000000
theorem within_of (lf m M0 : Nat) (h : Hp) : ∃ v h', Ev lf (m + 1) 109 [J M0] h = some (v, h') ∧ v = .func (.func 151) #[] #[ptr h.next 0] ∧ h'.next = h.next + 1 ∧ Sto h h' [(h.next, .cells [J M0] 3 false)] := by
  refine fnS_ok (Q := fun v h' => v = .func (.func 151) #[] #[ptr h.next 0] ∧ h'.next = h.next + 1 ∧ Sto h h' [(h.next, .cells [J M0] 3 false)]) ?_
  have W := Sto.start h
  refine ow_new 0 W (AObj.cells [Value.int IntKind.i64 (Int.ofNat M0)] 3 false) (fun q => Value.pointer (some { block := q, off := 0 })) (by kernel_rfl) fun g1 ng1 Wg1 => ?_
  have W := Wg1
  refine ok_go 1 ?_
  refine ok_go 0 ?_
  refine sy_done 0 (v := .func (.func 151) #[] #[ptr h.next 0]) (h := g1) (by kernel_rfl) ⟨rfl, by omega, W⟩
theorem within_run (lf m y cp M0 : Nat) (hM : M0 < 128) (hlf : 2000 ≤ lf) (Iv : Nat → Hp → Prop)
    (hI : ∀ k g, Iv k g → g.get cp = some (.cells [J M0] 3 false))
    (hy : ∀ k K g, k ≤ M0 → inB k M0 = true → k < K → (∀ j, k < j → j < K → inB j M0 = false) → Iv k g → ∃ g', evInv Tryz.prog orc lf m (.yield y [J k]) g = some (.bool true, g') ∧ Iv K g') (h : Hp) (h0 : Iv 0 h) :
    ∃ v h', Ev lf (m + 1) 151 [.func (.yield y) #[] #[], ptr cp 0] h = some (v, h') ∧ Iv (M0 + 1) h' := by
  refine fnS_ok (Q := fun v h' => Iv (M0 + 1) h') ?_
  refine ok_go 0 ?_
  refine sy_loop 0 lf h (α := Nat) (fun k => [(0, .func (.yield y) #[] #[]), (1, ptr cp 0), (3, J k)]) (fun k g => (k ≤ M0 ∧ inB k M0 = true) ∧ Iv k g) (fun k _ => M0 - k) 0 (by kernel_rfl) (by kernel_rfl)
    ⟨by kernel_rfl, by kernel_rfl, by kernel_rfl, trivial⟩ (show M0 - 0 < lf by omega) ⟨⟨Nat.zero_le _, by unfold inB; rw [Nat.zero_and]; rfl⟩, h0⟩ ?_
  rintro m1 k F1 g ⟨⟨hk, hin⟩, hJ⟩ ih
  rcases Nat.eq_or_lt_of_le hk with he | hlt
  · subst he
    obtain ⟨g2, e2, J2⟩ := hy k (k + 1) g hk hin (by omega) (fun j h1 h2 => by omega) hJ
    have gc := hI _ _ J2
    refine ok_go 0 ?_
    refine sy_call 0 (by kernel_rfl) e2 ?_
    refine ok_go 2 ?_
    refine sy_load 0 (r := loadT Tryz.prog g2 3 (ptr cp 0)) (h' := g2) (v := J k) (by kernel_rfl) (load1 agI gc rfl) ?_
    refine ok_go 3 ?_
    refine sy_no 0 (b := Int.ofNat k != Int.ofNat k) (by kernel_rfl) (by rw [bne_self_eq_false]) ?_
    refine ok_go 0 ?_
    exact sy_done 0 (v := .tuple #[]) (h := g2) (by kernel_rfl) J2
  · obtain ⟨n1, n2, n3, n4, n5⟩ := sub_nx hM hlt hin
    obtain ⟨g2, e2, J2⟩ := hy k (nxt M0 k) g hk hin n3 n5 hJ
    have gc := hI _ _ J2
    refine ok_go 0 ?_
    refine sy_call 0 (by kernel_rfl) e2 ?_
    refine ok_go 2 ?_
    refine sy_load 0 (r := loadT Tryz.prog g2 3 (ptr cp 0)) (h' := g2) (v := J M0) (by kernel_rfl) (load1 agI gc rfl) ?_
    refine ok_go 3 ?_
    refine sy_yes 0 (b := Int.ofNat k != Int.ofNat M0) (by kernel_rfl) (bne_iff_ne.2 fun h => by have := Int.ofNat.inj h; omega) ?_
    refine ok_go 0 ?_
    refine sy_load 0 (r := loadT Tryz.prog g2 3 (ptr cp 0)) (h' := g2) (v := J M0) (by kernel_rfl) (load1 agI gc rfl) ?_
    refine ok_go 1 ?_
    refine sy_load 0 (r := loadT Tryz.prog g2 3 (ptr cp 0)) (h' := g2) (v := J M0) (by kernel_rfl) (load1 agI gc rfl) ?_
    refine ok_go 1 ?_
    exact sy_next 0 _ g2 (by kernel_rfl) (by kernel_rfl) (ih (nxt M0 k) _ g2 ⟨⟨n4, n2⟩, J2⟩ (show M0 - nxt M0 k < M0 - k by omega) ⟨by kernel_rfl, by kernel_rfl, (by kernel_rfl : _ = I (andI (IntKind.i64.wrap (Int.ofNat k - Int.ofNat M0)) (Int.ofNat M0))).trans (by rw [n1]), trivial⟩)
end Go.Proofs.YtkfbfgcflnkllaaGreatDoor
namespace Go.Proofs.YtkfbfgcflnkllaaGreatDoor
open Go Go.Eng Nim
set_option maxRecDepth 100000
set_option maxHeartbeats 8000000
theorem shat_run (lf m y pa pb n : Nat) (hn : n ≤ 7) (l : List Nat) (hl : l.length ≤ 1024) (hb : ∀ x ∈ l, x < 1024) (hlf : 2000 ≤ lf) (va : Option Addr) (vc : Nat) (h0 : Hp) (hv : Rds h0 (.slice va l.length vc) (l.map J)) (CI : Nat → List (Nat × AObj) → Prop)
    (hno : ∀ s C, s < 2 ^ n → shG l s = false → CI s C → CI (s + 1) C)
    (hy : ∀ s C g F, s < 2 ^ n → shG l s = true → CI s C → Sto h0 g (C ++ F) → ∃ g' C', evInv Tryz.prog orc lf (m + 2) (.yield y [J s]) g = some (.bool true, g') ∧ Sto h0 g' (C' ++ F) ∧ CI (s + 1) C')
    (C0 F0 : List (Nat × AObj)) (h : Hp) (hC0 : CI 0 C0) (W : Sto h0 h ((pa, .cells [J n] 3 false) :: (pb, .cells [.slice va l.length vc] 28 false) :: (F0 ++ C0))) :
    ∃ v h', Ev lf (m + 3) 108 [.func (.yield y) #[] #[], ptr pa 0, ptr pb 0] h = some (v, h') ∧ ∃ C', CI (2 ^ n) C' ∧ Sto h0 h' ((pa, .cells [J n] 3 false) :: (pb, .cells [.slice va l.length vc] 28 false) :: (F0 ++ C')) := by
  refine fnS_ok (Q := fun v h' => ∃ C', CI (2 ^ n) C' ∧ Sto h0 h' ((pa, .cells [J n] 3 false) :: (pb, .cells [.slice va l.length vc] 28 false) :: (F0 ++ C'))) ?_
  have hsh := one_shl n (by omega)
  have h2n : 2 ^ n ≤ 128 := Nat.pow_le_pow_right (by decide) hn
  refine ow_load (P := Tryz.prog) (T := 3) (off := 0) 0 0 W rfl rfl (by kernel_rfl) (by kernel_rfl) ?_
  refine ok_go 2 ?_
  let B : List Nat → List (Nat × AObj) → List (Nat × AObj) := fun ds C => (pa, .cells [J n] 3 false) :: (pb, .cells [.slice va l.length vc] 28 false) :: ((F0 ++ ds.map (fun d => (d, AObj.defd false))) ++ C)
  refine sy_loop 0 lf h (α := Nat × List (Nat × AObj) × List Nat) (fun x => [(0, .func (.yield y) #[] #[]), (1, ptr pa 0), (2, ptr pb 0), (10, J (2 ^ n)), (11, J x.1), (slotD, marksV x.2.2)])
    (fun x g => x.1 ≤ 2 ^ n ∧ CI x.1 x.2.1 ∧ Sto h0 g (B x.2.2 x.2.1)) (fun x _ => 2 ^ n - x.1) (0, C0, []) (by kernel_rfl) (by kernel_rfl)
    ⟨by kernel_rfl, by kernel_rfl, by kernel_rfl, (by kernel_rfl : _ = I (IntKind.i64.wrap (1 * 2 ^ min (IntKind.u64.wrap (Int.ofNat n)).toNat IntKind.i64.bits))).trans (by rw [hsh]), by kernel_rfl, by kernel_rfl, trivial⟩ (show 2 ^ n - 0 < lf by omega) ⟨Nat.zero_le _, hC0, by
      show Sto h0 h (_ :: _ :: ((F0 ++ []) ++ C0))
      rw [List.append_nil]; exact W⟩ ?_
  rintro m1 ⟨s, C, ds⟩ F1 g ⟨hs, hC, W⟩ ih
  dsimp only at hs hC W
  have W : Sto h0 g ((pa, .cells [J n] 3 false) :: (pb, .cells [.slice va l.length vc] 28 false) :: ((F0 ++ ds.map (fun d => (d, AObj.defd false))) ++ C)) := W
  have hw : IntKind.wrap .i64 (Int.ofNat (s + 1)) = Int.ofNat (s + 1) := wrap_nat (by omega)
  refine ok_go 1 ?_
  refine sy_test 0 (decide (Int.ofNat s < Int.ofNat (2 ^ n))) (by kernel_rfl) ?_ ?_
  · intro hlt
    have hlt : s < 2 ^ n := ok_nat hlt
    obtain ⟨_, k1, e1, rfl, X1⟩ := trace_of lf (m + 1) s (by omega) hlf l (by omega) hb _ g (hv.ext W.ext)
    have hT : (fun i => decide (i ∈ l.map (· &&& s))) = trF l s := rfl
    rw [hT] at e1
    have hMl : (mk97 (trF l s)).length = 1024 := cellsF_len ..
    generalize hMM : mk97 (trF l s) = MM at *
    refine ow_load (P := Tryz.prog) (T := 28) (off := 0) 0 1 W rfl rfl (by kernel_rfl) (by kernel_rfl) ?_
    refine sy_call 0 (by kernel_rfl) e1 ?_
    have W := W.call X1
    refine ok_go 0 ?_
    refine ow_new 0 W (.cells (mk97 fun _ => false) 97 false) (fun i => ptr i 0) (by kernel_rfl) fun k2 nk2 W => ?_
    refine ok_go 0 ?_
    refine ow_storeA (P := Tryz.prog) (T := 97) (v := .agg MM.toArray) 0 0 W MM rfl rfl (by rw [hMl]; exact (cellsF_len ..).symm) (by rw [hMl]; kernel_rfl) (by rw [← hMM]; exact mk97_sc _) (by kernel_rfl) fun k3 nk3 W => ?_
    rw [← hMM] at W
    have W : Sto h0 k3 ((k1.next, .cells (mk97 (trF l s)) 97 false) :: (pa, .cells [J n] 3 false) :: (pb, .cells [.slice va l.length vc] 28 false) :: ((F0 ++ ds.map (fun d => (d, AObj.defd false))) ++ C)) := W
    refine ow_new 0 W (AObj.cells [Value.bool false] 4 false) (fun q => Value.pointer (some { block := q, off := 0 })) (by kernel_rfl) fun k4 nk4 Wk4 => ?_
    have W := Wk4
    refine ow_store (P := Tryz.prog) (T := 4) (off := 0) (v := Value.bool true) 0 0 W rfl (Nat.le_of_ble_eq_true (by kernel_rfl)) (by kernel_rfl) (by first | rfl | assumption) (by kernel_rfl) fun k5 nk5 Wk5 => ?_
    have W := Wk5
    refine ow_new 0 W (AObj.cells [Value.int IntKind.i64 (Int.ofNat (Prod.fst (s, C, ds)))] 3 false) (fun q => Value.func (Fn.func 151) { toList := [] } { toList := [Value.pointer (some { block := q, off := 0 })] }) (by kernel_rfl) fun k6 nk6 Wk6 => ?_
    have W := Wk6
    refine ow_range 0 (callF := evInv Tryz.prog orc lf (m + 2)) (P := Tryz.prog) (lf := lf) (m := 34) (rcOf Tryz.prog 108 0) W [(5, ptr k1.next 0), (6, ptr k3.next 0)] 151 [.func (.yield (k6.next + 1)) #[] #[], ptr k5.next 0]
      (by kernel_rfl) (fun F => by kernel_rfl) ⟨by kernel_rfl, by kernel_rfl, trivial⟩ (by kernel_rfl) (by kernel_rfl) fun F1 f2 HH hr nH W => ?_
    let CC : RC := rcOf Tryz.prog 108 0
    let Iv : Nat → Hp → Prop := fun k q => Sto h0 q ((k6.next + 1, CC.obj F1 k6.next .ready none) :: (k6.next, .defd false) :: (k5.next, .cells [J s] 3 false) :: (k3.next, .cells [.bool (upto (trF l s) s k)] 4 false) :: (k1.next, .cells (mk97 (trF l s)) 97 false) :: (pa, .cells [J n] 3 false) :: (pb, .cells [.slice va l.length vc] 28 false) :: ((F0 ++ ds.map (fun d => (d, AObj.defd false))) ++ C))
    have hyI : ∀ k K q, k ≤ s → inB k s = true → k < K → (∀ j, k < j → j < K → inB j s = false) → Iv k q → ∃ q', evInv Tryz.prog orc lf (m + 1) (.yield (k6.next + 1) [J k]) q = some (.bool true, q') ∧ Iv K q' := fun k K q hks hin hkK hnK W => by
      have key : ∃ w q', evInv Tryz.prog orc lf (m + 1) (.yield (k6.next + 1) [J k]) q = some (w, q') ∧ (w = .bool true ∧ Iv K q') := by
        refine yld_ok (c := CC) (Q := fun w q' => w = .bool true ∧ Iv K q') hr (W.get 0 rfl) (by kernel_rfl) ?_
        have W : Sto h0 q ((k6.next + 1, CC.obj F1 k6.next .ready none) :: (k6.next, .defd false) :: (k5.next, .cells [J s] 3 false) :: (k3.next, .cells [.bool (upto (trF l s) s k)] 4 false) :: (k1.next, .cells (mk97 (trF l s)) 97 false) :: (pa, .cells [J n] 3 false) :: (pb, .cells [.slice va l.length vc] 28 false) :: ((F0 ++ ds.map (fun d => (d, AObj.defd false))) ++ C)) := W
        have hup := upto_nx (t := trF l s) hin hkK hnK
        have hkb : k < 1024 := by omega
        refine ow_busy 0 0 W rfl (by kernel_rfl) fun b1 nb1 Wb1 => ?_
        have W := Wb1
        refine ow_load (P := Tryz.prog) (T := 4) (off := 0) 0 3 W rfl rfl (by kernel_rfl) (by kernel_rfl) ?_
        by_cases hu : upto (trF l s) s k = true
        · refine sy_yes 0 (b := upto (trF l s) s k) (by kernel_rfl) hu ?_
          refine ok_go 1 ?_
          refine sy_load 0 (r := indexAddrOp Tryz.prog 97 (ptr k1.next 0) (J k)) (h' := b1) (v := ptr k1.next k) (by kernel_rfl) (idxM hkb) ?_
          refine ok_go 1 ?_
          refine ow_loadF (P := Tryz.prog) (T := 4) (off := k) 0 4 W rfl hkb (by kernel_rfl) (by kernel_rfl) ?_
          refine ow_store (P := Tryz.prog) (T := 4) (off := 0) (v := Value.bool (trF l s k)) 1 3 W rfl (Nat.le_of_ble_eq_true (by kernel_rfl)) (by kernel_rfl) (by first | rfl | assumption) (by kernel_rfl) fun c1 nc1 Wc1 => ?_
          have W := Wc1
          refine ow_round 0 0 W rfl (by kernel_rfl) fun c2 nc2 Wc2 => ?_
          have W := Wc2
          rw [hu, Bool.true_and] at hup
          have W : Sto h0 c2 ((k6.next + 1, CC.obj F1 k6.next .ready none) :: (k6.next, .defd false) :: (k5.next, .cells [J s] 3 false) :: (k3.next, .cells [.bool (trF l s k)] 4 false) :: (k1.next, .cells (mk97 (trF l s)) 97 false) :: (pa, .cells [J n] 3 false) :: (pb, .cells [.slice va l.length vc] 28 false) :: ((F0 ++ ds.map (fun d => (d, AObj.defd false))) ++ C)) := W
          rw [← hup] at W
          refine sy_done 0 (v := Value.bool true) (h := c2) (by kernel_rfl) ?_
          exact ⟨rfl, W⟩
        · have hu := Bool.eq_false_iff.2 hu
          refine sy_no 0 (b := upto (trF l s) s k) (by kernel_rfl) hu ?_
          refine ow_store (P := Tryz.prog) (T := 4) (off := 0) (v := Value.bool false) 3 3 W rfl (Nat.le_of_ble_eq_true (by kernel_rfl)) (by kernel_rfl) (by first | rfl | assumption) (by kernel_rfl) fun c1 nc1 Wc1 => ?_
          have W := Wc1
          refine ow_round 0 0 W rfl (by kernel_rfl) fun c2 nc2 Wc2 => ?_
          have W := Wc2
          rw [hu, Bool.false_and] at hup
          have W : Sto h0 c2 ((k6.next + 1, CC.obj F1 k6.next .ready none) :: (k6.next, .defd false) :: (k5.next, .cells [J s] 3 false) :: (k3.next, .cells [.bool (upto (trF l s) s K)] 4 false) :: (k1.next, .cells (mk97 (trF l s)) 97 false) :: (pa, .cells [J n] 3 false) :: (pb, .cells [.slice va l.length vc] 28 false) :: ((F0 ++ ds.map (fun d => (d, AObj.defd false))) ++ C)) := by rw [hup]; exact W
          refine sy_done 0 (v := Value.bool true) (h := c2) (by kernel_rfl) ?_
          exact ⟨rfl, W⟩
      obtain ⟨w, q', e, rfl, J1⟩ := key
      exact ⟨q', e, J1⟩
    obtain ⟨v8, h8, e8, J8⟩ := within_run lf (m + 1) (k6.next + 1) k5.next s (by omega) hlf Iv (fun k g W => W.get 2 rfl) hyI HH W
    refine ⟨v8, h8, .ready, none, k6.next, .normal, _, e8, J8, by decide, rfl, fun h9 n9 W => ?_⟩
    have hsg : upto (trF l s) s (s + 1) = shG l s := rfl
    rw [hsg] at W
    have W : Sto h0 h9 ([(k5.next, .cells [J s] 3 false), (k3.next, .cells [.bool (shG l s)] 4 false), (k1.next, .cells (mk97 (trF l s)) 97 false)] ++ B (k6.next :: ds) C) := W.perm (by
      show List.Perm ((k6.next, AObj.defd false) :: (_ :: _ :: _ :: _ :: _ :: ((F0 ++ ds.map (fun d => (d, AObj.defd false))) ++ C))) (_ :: _ :: _ :: _ :: _ :: ((F0 ++ (k6.next, AObj.defd false) :: ds.map (fun d => (d, AObj.defd false))) ++ C))
      refine (List.perm_middle (l₁ := [_, _, _, _, _])).symm.trans ?_
      refine List.Perm.append_left [_, _, _, _, _] ?_
      exact List.Perm.append_right C List.perm_middle.symm)
    have W : Sto h0 h9 ((k5.next, .cells [J s] 3 false) :: (k3.next, .cells [.bool (shG l s)] 4 false) :: (k1.next, .cells (mk97 (trF l s)) 97 false) :: B (k6.next :: ds) C) := W
    by_cases hsv : shG l s = true
    · refine ow_load (P := Tryz.prog) (T := 4) (off := 0) 0 1 W rfl rfl (by kernel_rfl) (by kernel_rfl) ?_
      refine sy_yes 0 (b := shG l s) (by kernel_rfl) hsv ?_
      obtain ⟨g5, C5, e5, W5, hC5⟩ := hy s C h9 (B (k6.next :: ds) []) hlt hsv hC (by
        have := W.drop 3
        refine this.perm ?_
        show List.Perm (_ :: _ :: ((F0 ++ (k6.next :: ds).map (fun d => (d, AObj.defd false))) ++ C)) (C ++ (_ :: _ :: ((F0 ++ (k6.next :: ds).map (fun d => (d, AObj.defd false))) ++ [])))
        rw [List.append_nil]
        exact (List.perm_append_comm (l₁ := _ :: _ :: (F0 ++ (k6.next :: ds).map (fun d => (d, AObj.defd false))))))
      have W : Sto h0 g5 (B (k6.next :: ds) C5) := W5.perm (by
        show List.Perm (C5 ++ (_ :: _ :: ((F0 ++ (k6.next :: ds).map (fun d => (d, AObj.defd false))) ++ []))) (_ :: _ :: ((F0 ++ (k6.next :: ds).map (fun d => (d, AObj.defd false))) ++ C5))
        rw [List.append_nil]
        exact (List.perm_append_comm (l₂ := _ :: _ :: (F0 ++ (k6.next :: ds).map (fun d => (d, AObj.defd false))))))
      refine ok_go 2 ?_
      refine sy_call 0 (by kernel_rfl) e5 ?_
      refine ok_go 5 ?_
      exact sy_next 0 _ g5 (by kernel_rfl) (by kernel_rfl) (ih (s + 1, C5, k6.next :: ds) _ g5 ⟨hlt, hC5, W⟩ (show 2 ^ n - (s + 1) < 2 ^ n - s by omega) ⟨by kernel_rfl, by kernel_rfl, by kernel_rfl, by kernel_rfl, (by kernel_rfl : _ = Value.int .i64 (IntKind.wrap .i64 (Int.ofNat (s + 1)))).trans (by rw [hw]), by kernel_rfl, trivial⟩)
    · have hsv := Bool.eq_false_iff.2 hsv
      refine ow_load (P := Tryz.prog) (T := 4) (off := 0) 0 1 W rfl rfl (by kernel_rfl) (by kernel_rfl) ?_
      refine sy_no 0 (b := shG l s) (by kernel_rfl) hsv ?_
      have W := W.drop 3
      refine ok_go 6 ?_
      exact sy_next 0 _ h9 (by kernel_rfl) (by kernel_rfl) (ih (s + 1, C, k6.next :: ds) _ h9 ⟨hlt, hno s C hlt hsv hC, W⟩ (show 2 ^ n - (s + 1) < 2 ^ n - s by omega) ⟨by kernel_rfl, by kernel_rfl, by kernel_rfl, by kernel_rfl, (by kernel_rfl : _ = Value.int .i64 (IntKind.wrap .i64 (Int.ofNat (s + 1)))).trans (by rw [hw]), by kernel_rfl, trivial⟩)
  · intro hlt
    have hlt : s = 2 ^ n := Nat.le_antisymm hs (no_nat hlt)
    subst hlt
    have W : Sto h0 g (ds.map (fun d => (d, AObj.defd false)) ++ ((pa, .cells [J n] 3 false) :: (pb, .cells [.slice va l.length vc] 28 false) :: (F0 ++ C))) := W.perm (by
      refine List.Perm.trans ?_ (List.perm_append_comm)
      show List.Perm (_ :: _ :: ((F0 ++ ds.map (fun d => (d, AObj.defd false))) ++ C)) (_ :: _ :: ((F0 ++ C) ++ ds.map (fun d => (d, AObj.defd false))))
      refine List.Perm.cons _ (List.Perm.cons _ ?_)
      rw [List.append_assoc, List.append_assoc]
      exact List.Perm.append_left F0 List.perm_append_comm)
    refine ok_go 0 ?_
    refine ow_marks 0 ds W (by kernel_rfl) fun g6 ng6 W => ?_
    refine sy_done 0 (v := Value.tuple { toList := [] }) (h := g6) (by kernel_rfl) ?_
    exact ⟨C, hC, W⟩
end Go.Proofs.YtkfbfgcflnkllaaGreatDoor
namespace Go.Proofs.YtkfbfgcflnkllaaGreatDoor
open Go Go.Eng Nim
set_option maxRecDepth 100000
set_option maxHeartbeats 8000000
theorem appseq_of (lf m pa pb n : Nat) (hn : n ≤ 7) (l : List Nat) (hl : l.length ≤ 1024) (hb : ∀ x ∈ l, x < 1024) (hlf : 2000 ≤ lf) (va : Option Addr) (vc : Nat) (h0 h : Hp) (hv : Rds h0 (.slice va l.length vc) (l.map J))
    (W : Sto h0 h [(pa, .cells [J n] 3 false), (pb, .cells [.slice va l.length vc] 28 false)]) :
    ∃ v h', Ev lf (m + 4) 107 [.slice none 0 0, .func (.func 108) #[] #[ptr pa 0, ptr pb 0]] h = some (v, h') ∧ ∃ q, v = oslV q (lst (shG l) (2 ^ n)).length ∧ Sto h0 h' (oent q 3 ((lst (shG l) (2 ^ n)).map J)) := by
  refine fnS_ok (Q := fun v h' => ∃ q, v = oslV q (lst (shG l) (2 ^ n)).length ∧ Sto h0 h' (oent q 3 ((lst (shG l) (2 ^ n)).map J))) ?_
  have h2n : 2 ^ n ≤ 128 := Nat.pow_le_pow_right (by decide) hn
  refine ow_new 0 W (AObj.cells [Value.slice none 0 0] 28 false) (fun q => Value.pointer (some { block := q, off := 0 })) (by kernel_rfl) fun g1 ng1 Wg1 => ?_
  have W := Wg1
  refine ow_range 0 (callF := evInv Tryz.prog orc lf (m + 3)) (P := Tryz.prog) (lf := lf) (m := 13) (rcOf Tryz.prog 107 0) W [(2, ptr h.next 0)] 108 [.func (.yield (g1.next + 1)) #[] #[], ptr pa 0, ptr pb 0]
    (by kernel_rfl) (fun F => by kernel_rfl) ⟨by kernel_rfl, trivial⟩ (by kernel_rfl) (by kernel_rfl) fun F1 f2 HH hr nH W => ?_
  let CC : RC := rcOf Tryz.prog 107 0
  let CI : Nat → List (Nat × AObj) → Prop := fun s C => s ≤ 2 ^ n ∧ ∃ q sl, sl = oslV q (lst (shG l) s).length ∧ scalar sl = true ∧ C = (g1.next + 1, CC.obj F1 g1.next .ready none) :: (g1.next, .defd false) :: (h.next, .cells [sl] 28 false) :: oent q 3 ((lst (shG l) s).map J)
  have body : ∀ s C g F, s < 2 ^ n → shG l s = true → CI s C → Sto h0 g (C ++ F) → ∃ w g', evInv Tryz.prog orc lf (m + 2) (.yield (g1.next + 1) [J s]) g = some (w, g') ∧ ∃ C', w = .bool true ∧ Sto h0 g' (C' ++ F) ∧ CI (s + 1) C' := fun s C g F hs hg hC W => by
    obtain ⟨_, q, sl, hsl, hsc, rfl⟩ := hC
    have hll := lst_len (shG l) s
    have hls := lst_succ (shG l) s
    rw [if_pos hg] at hls
    refine yld_ok (c := CC) (Q := fun w g' => ∃ C', w = .bool true ∧ Sto h0 g' (C' ++ F) ∧ CI (s + 1) C') hr (W.get 0 rfl) (by kernel_rfl) ?_
    have W : Sto h0 g ((g1.next + 1, CC.obj F1 g1.next .ready none) :: (g1.next, .defd false) :: (h.next, .cells [sl] 28 false) :: (oent q 3 ((lst (shG l) s).map J) ++ F)) := W
    refine ow_busy 0 0 W rfl (by kernel_rfl) fun b1 nb1 Wb1 => ?_
    have W := Wb1
    refine ow_load (P := Tryz.prog) (T := 28) (off := 0) 0 2 W rfl rfl (by kernel_rfl) (by kernel_rfl) ?_
    refine ow_new 0 W (AObj.cells [Value.int IntKind.i64 (Int.ofNat s)] 3 false) (fun q => Value.slice (some { block := q, off := 0 }) 1 2) (by kernel_rfl) fun b2 nb2 Wb2 => ?_
    have W := Wb2
    have W : Sto h0 b2 ((b1.next, .cells [J s] 3 false) :: (([(g1.next + 1, CC.obj F1 g1.next .busy none), (g1.next, .defd false), (h.next, .cells [sl] 28 false)] ++ F) ++ oent q 3 ((lst (shG l) s).map J))) := W.perm (List.Perm.cons _ (List.Perm.append_left [_, _, _] (List.perm_append_comm)))
    refine ow_app (P := Tryz.prog) (t := 28) (e := 3) (z := 1) (c := (lst (shG l) s).length) (i := q) 0 W slz28 (by rw [List.length_map, Nat.mul_one]) rfl rfl (by omega) (by rw [← hsl]; kernel_rfl) fun b3 sl2 nb3 hsl2 hsc2 W => ?_
    have W : Sto h0 b3 ((g1.next + 1, CC.obj F1 g1.next .busy none) :: (g1.next, .defd false) :: (h.next, .cells [sl] 28 false) :: (F ++ oent b2.next 3 ((lst (shG l) s).map J ++ [J s]))) := W
    refine ow_store (P := Tryz.prog) (T := 28) (off := 0) (v := sl2) 0 2 W rfl (Nat.le_of_ble_eq_true (by kernel_rfl)) (by kernel_rfl) (by first | rfl | assumption) (by kernel_rfl) fun c1 nc1 Wc1 => ?_
    have W := Wc1
    refine ow_round 0 0 W rfl (by kernel_rfl) fun c2 nc2 Wc2 => ?_
    have W := Wc2
    refine sy_done 0 (v := Value.bool true) (h := c2) (by kernel_rfl) ?_
    have W : Sto h0 c2 ((g1.next + 1, CC.obj F1 g1.next .ready none) :: (g1.next, .defd false) :: (h.next, .cells [sl2] 28 false) :: (F ++ oent b2.next 3 ((lst (shG l) s).map J ++ [J s]))) := W
    exact ⟨_, rfl, W.perm (List.Perm.cons _ (List.Perm.cons _ (List.Perm.cons _ List.perm_append_comm))), hs, b2.next, sl2, by rw [hls, List.length_append]; exact hsl2, hsc2, by rw [hls, List.map_append]⟩
  obtain ⟨v8, h8, e8, C8, ⟨_, q, sl, hsl, hsc, rfl⟩, W8⟩ := shat_run lf m (g1.next + 1) pa pb n hn l hl hb hlf va vc h0 hv CI
    (fun s C hs hg hC => by
      obtain ⟨_, q, sl, hsl, hsc, rfl⟩ := hC
      have hls := lst_succ (shG l) s
      rw [if_neg (by rw [hg]; simp)] at hls
      exact ⟨hs, q, sl, by rw [hls]; exact hsl, hsc, by rw [hls]⟩)
    (fun s C g F hs hg hC W => by
      obtain ⟨w, g', e, C', rfl, W', h1⟩ := body s C g F hs hg hC W
      exact ⟨g', C', e, W', h1⟩)
    [(g1.next + 1, CC.obj F1 g1.next .ready none), (g1.next, .defd false), (h.next, .cells [.slice none 0 0] 28 false)] [] HH ⟨Nat.zero_le _, 0, .slice none 0 0, rfl, rfl, rfl⟩
    (W.perm (List.perm_append_comm (l₁ := [_, _, _]) (l₂ := [_, _])))
  have W8 : Sto h0 h8 ((g1.next + 1, (rcOf Tryz.prog 107 0).obj F1 g1.next .ready none) :: (g1.next, .defd false) :: (h.next, .cells [sl] 28 false) :: (oent q 3 ((lst (shG l) (2 ^ n)).map J) ++ [(pa, .cells [J n] 3 false), (pb, .cells [.slice va l.length vc] 28 false)])) := W8.perm (List.perm_append_comm (l₁ := [_, _]))
  refine ⟨v8, h8, .ready, none, g1.next, .normal, _, e8, W8, by decide, rfl, fun h9 n9 W => ?_⟩
  refine ow_load (P := Tryz.prog) (T := 28) (off := 0) 0 1 W rfl rfl (by kernel_rfl) (by kernel_rfl) ?_
  have W : Sto h0 h9 ([g1.next].map (fun d => (d, AObj.defd false)) ++ ((h.next, .cells [sl] 28 false) :: (oent q 3 ((lst (shG l) (2 ^ n)).map J) ++ [(pa, .cells [J n] 3 false), (pb, .cells [.slice va l.length vc] 28 false)]))) := W
  refine ow_marks 0 [g1.next] W (by kernel_rfl) fun h10 n10 W => ?_
  refine sy_done 0 (v := sl) (h := h10) (by kernel_rfl) ?_
  exact ⟨q, hsl, (W.drop 1).sub (List.sublist_append_left _ _)⟩
theorem collect_of (lf m pa pb n : Nat) (hn : n ≤ 7) (l : List Nat) (hl : l.length ≤ 1024) (hb : ∀ x ∈ l, x < 1024) (hlf : 2000 ≤ lf) (va : Option Addr) (vc : Nat) (h0 h : Hp) (hv : Rds h0 (.slice va l.length vc) (l.map J))
    (W : Sto h0 h [(pa, .cells [J n] 3 false), (pb, .cells [.slice va l.length vc] 28 false)]) :
    ∃ v h', Ev lf (m + 5) 78 [.func (.func 108) #[] #[ptr pa 0, ptr pb 0]] h = some (v, h') ∧ ∃ q, v = oslV q (lst (shG l) (2 ^ n)).length ∧ Sto h0 h' (oent q 3 ((lst (shG l) (2 ^ n)).map J)) := by
  refine fnS_ok (Q := fun v h' => ∃ q, v = oslV q (lst (shG l) (2 ^ n)).length ∧ Sto h0 h' (oent q 3 ((lst (shG l) (2 ^ n)).map J))) ?_
  obtain ⟨_, h2, e2, q, rfl, W2⟩ := appseq_of lf m pa pb n hn l hl hb hlf va vc h0 h hv W
  obtain ⟨oa, oc, ho⟩ := osl_shape q (lst (shG l) (2 ^ n)).length
  rw [ho] at e2
  refine ok_go 0 ?_
  refine sy_call 0 (by kernel_rfl) e2 ?_
  refine ok_go 0 ?_
  exact sy_done 0 (v := .slice oa (lst (shG l) (2 ^ n)).length oc) (h := h2) (by kernel_rfl) ⟨q, ho.symm, W2⟩
theorem shattered_of (lf m : Nat) (hlf : 2000 ≤ lf) (n : Nat) (hn : n ≤ 7) (f : Nat → Bool) (v : Value) (h : Hp) (hv : Rds h v ((lst f (2 ^ n)).map J)) :
    ∃ v' h', Ev lf (m + 6) 34 [J n, v] h = some (v', h') ∧ ∃ q, v' = .tuple #[oslV q (lst (shG (lst f (2 ^ n))) (2 ^ n)).length, J 0] ∧ Sto h h' (oent q 3 ((lst (shG (lst f (2 ^ n))) (2 ^ n)).map J)) := by
  refine fnS_ok (Q := fun v' h' => ∃ q, v' = .tuple #[oslV q (lst (shG (lst f (2 ^ n))) (2 ^ n)).length, J 0] ∧ Sto h h' (oent q 3 ((lst (shG (lst f (2 ^ n))) (2 ^ n)).map J))) ?_
  have h2n : 2 ^ n ≤ 128 := Nat.pow_le_pow_right (by decide) hn
  have hll := lst_len f (2 ^ n)
  have e1 := chk_lst lf (m + 4) hlf n (by omega) f v h hv
  obtain ⟨va, vc, hvs⟩ := hv.shape
  rw [List.length_map] at hvs
  subst hvs
  have hlm : ∀ x ∈ lst f (2 ^ n), x < 1024 := fun x hx => by have := (lst_mem.1 hx).1; omega
  generalize lst f (2 ^ n) = L at *
  have W := Sto.start h
  refine ok_go 0 ?_
  refine sy_call 0 (by kernel_rfl) e1 ?_
  have W := ((W.new (.cells [J n] 3 false)).new (.cells [.slice va L.length vc] 28 false)).perm (List.Perm.swap _ _ _)
  obtain ⟨_, h2, e2, q, rfl, W2⟩ := collect_of lf m h.next (h.next + 1) n hn L (by omega) hlm hlf va vc h _ hv W
  obtain ⟨oa, oc, ho⟩ := osl_shape q (lst (shG L) (2 ^ n)).length
  rw [ho] at e2
  refine ok_go 3 ?_
  refine sy_call 0 (by kernel_rfl) e2 ?_
  refine ok_go 0 ?_
  exact sy_done 0 (v := .tuple #[.slice oa (lst (shG L) (2 ^ n)).length oc, J 0]) (h := h2) (by kernel_rfl) ⟨q, by rw [ho], W2⟩
end Go.Proofs.YtkfbfgcflnkllaaGreatDoor
namespace Go.Proofs.YtkfbfgcflnkllaaGreatDoor
open Go Go.Eng Nim
set_option maxRecDepth 100000
set_option maxHeartbeats 8000000
def anU (z k : Int) : Int := IntKind.u64.wrap (Int.ofNat (BitVec.ofInt IntKind.u64.bits z &&& BitVec.ofInt IntKind.u64.bits k).toNat)
def shU (z : Int) (k : Int) : Int := z.fdiv (2 ^ min (Int.toNat k) IntKind.u64.bits)
def ptB (a : Int) : Int := IntKind.u64.wrap (anU (shU a 1) 6148914691236517205 + anU a 6148914691236517205)
def ptC (a : Int) : Int := IntKind.u64.wrap (anU (shU a 2) 3689348814741910323 + anU a 3689348814741910323)
def ptD (a : Int) : Int := anU (IntKind.u64.wrap (shU a 4 + a)) 1085102592571150095
def ptE (k a : Int) : Int := IntKind.u64.wrap (a + shU a k)
def cntE (x : Nat) : Int :=
  let g := ptE 32 (ptE 16 (ptE 8 (ptD (ptC (ptB (IntKind.u64.wrap (Int.ofNat x)))))))
  IntKind.i64.wrap (Int.ofNat (BitVec.ofInt IntKind.i64.bits (IntKind.i64.wrap g) &&& BitVec.ofInt IntKind.i64.bits 127).toNat)
theorem cntE_all : ((List.range 1024).all fun x => cntE x == Int.ofNat (pcF 10 x)) = true := by decide +kernel
theorem cntE_eq {x : Nat} (hx : x < 1024) : cntE x = Int.ofNat (pcF 10 x) := eq_of_beq (List.all_eq_true.1 cntE_all x (List.mem_range.2 hx))
theorem count_of (lf m : Nat) (x : Nat) (hx : x < 1024) (h : Hp) : Ev lf (m + 3) 66 [J x] h = some (J (pcF 10 x), h) := by
  have he : cntE x = Int.ofNat (pcF 10 x) := eq_of_beq (List.all_eq_true.1 cntE_all x (List.mem_range.2 hx))
  show _ = some (I (Int.ofNat (pcF 10 x)), h)
  rw [← he]
  refine fn_eq ?_
  exact sy_done 2 (v := I (cntE x)) (h := h) (by kernel_rfl) ⟨rfl, rfl⟩
end Go.Proofs.YtkfbfgcflnkllaaGreatDoor
namespace Go.Proofs.YtkfbfgcflnkllaaGreatDoor
open Go Go.Eng Nim
set_option maxRecDepth 100000
set_option maxHeartbeats 8000000
theorem dim_of (lf m : Nat) (hlf : 2000 ≤ lf) (n : Nat) (hn : n ≤ 7) (f : Nat → Bool) (v : Value) (h : Hp) (hv : Rds h v ((lst f (2 ^ n)).map J)) :
    ∃ v' h', Ev lf (m + 6) 35 [J n, v] h = some (v', h') ∧ v' = .tuple #[I (dimS (lst (shG (lst f (2 ^ n))) (2 ^ n)) (-1, 0)).1, J (dimS (lst (shG (lst f (2 ^ n))) (2 ^ n)) (-1, 0)).2, J 0] ∧ h.Ext h' := by
  refine fnS_ok (Q := fun v' h' => v' = .tuple #[I (dimS (lst (shG (lst f (2 ^ n))) (2 ^ n)) (-1, 0)).1, J (dimS (lst (shG (lst f (2 ^ n))) (2 ^ n)) (-1, 0)).2, J 0] ∧ h.Ext h') ?_
  have h2n : 2 ^ n ≤ 128 := Nat.pow_le_pow_right (by decide) hn
  have hll := lst_len f (2 ^ n)
  have e1 := chk_lst lf (m + 4) hlf n (by omega) f v h hv
  obtain ⟨va, vc, hvs⟩ := hv.shape
  rw [List.length_map] at hvs
  subst hvs
  have hlm : ∀ x ∈ lst f (2 ^ n), x < 1024 := fun x hx => by have := (lst_mem.1 hx).1; omega
  generalize lst f (2 ^ n) = L at *
  have W := Sto.start h
  refine ok_go 0 ?_
  refine sy_call 0 (by kernel_rfl) e1 ?_
  refine ow_new 2 W (AObj.cells [J 0] 3 false) (fun q => ptr q 0) (by kernel_rfl) fun g1 ng1 W => ?_
  refine ow_new 0 W (AObj.cells [J 0] 3 false) (fun q => ptr q 0) (by kernel_rfl) fun g2 ng2 W => ?_
  refine ow_store (P := Tryz.prog) (T := 3) (off := 0) (v := I (Int.negSucc 0)) 0 1 W rfl (Nat.le_of_ble_eq_true (by kernel_rfl)) (by kernel_rfl) (by first | rfl | assumption) (by kernel_rfl) fun g3 ng3 W => ?_
  refine ow_store (P := Tryz.prog) (T := 3) (off := 0) (v := J 0) 0 0 W rfl (Nat.le_of_ble_eq_true (by kernel_rfl)) (by kernel_rfl) (by first | rfl | assumption) (by kernel_rfl) fun g4 ng4 W => ?_
  have W := (W.new (.cells [J n] 3 false)).new (.cells [.slice va L.length vc] 28 false)
  obtain ⟨g6, hg6⟩ : ∃ g6, (g4.new (.cells [J n] 3 false)).new (.cells [.slice va L.length vc] 28 false) = g6 := ⟨_, rfl⟩
  refine sy_call 0 (r := some (.func (.func 108) #[] #[ptr g4.next 0, ptr (g4.next + 1) 0], (g4.new (.cells [J n] 3 false)).new (.cells [.slice va L.length vc] 28 false))) (by kernel_rfl) (congrArg (fun H => some (Value.func (.func 108) #[] #[ptr g4.next 0, ptr (g4.next + 1) 0], H)) hg6) ?_
  rw [hg6] at W
  have W := W.perm (List.Perm.swap _ _ _)
  have W : Sto h g6 ((g4.next, .cells [J n] 3 false) :: (g4.next + 1, .cells [.slice va L.length vc] 28 false) :: (g1.next, .cells [J 0] 3 false) :: [(h.next, .cells [I (Int.negSucc 0)] 3 false)]) := W
  refine ow_range 0 (callF := evInv Tryz.prog orc lf (m + 5)) (P := Tryz.prog) (lf := lf) (m := 30) (rcOf Tryz.prog 35 0) W [(8, ptr h.next 0), (9, ptr g1.next 0)] 108 [.func (.yield (g6.next + 1)) #[] #[], ptr g4.next 0, ptr (g4.next + 1) 0]
    (by kernel_rfl) (fun F => by kernel_rfl) ⟨by kernel_rfl, by kernel_rfl, trivial⟩ (by kernel_rfl) (by kernel_rfl) fun F1 f2 HH hr nH W => ?_
  let CC : RC := rcOf Tryz.prog 35 0
  let CI : Nat → List (Nat × AObj) → Prop := fun s C => s ≤ 2 ^ n ∧ C = (g6.next + 1, CC.obj F1 g6.next .ready none) :: (g6.next, .defd false) :: (g1.next, .cells [J (dimS (lst (shG L) s) (-1, 0)).2] 3 false) :: [(h.next, .cells [I (dimS (lst (shG L) s) (-1, 0)).1] 3 false)]
  have body : ∀ s C g F, s < 2 ^ n → shG L s = true → CI s C → Sto h g (C ++ F) → ∃ w g', evInv Tryz.prog orc lf (m + 4) (.yield (g6.next + 1) [J s]) g = some (w, g') ∧ ∃ C', w = .bool true ∧ Sto h g' (C' ++ F) ∧ CI (s + 1) C' := fun s C g F hs hg hC W => by
    obtain ⟨_, rfl⟩ := hC
    have hls := lst_succ (shG L) s
    rw [if_pos hg] at hls
    have hd : dimS (lst (shG L) (s + 1)) (-1, 0) = if Int.ofNat (pcF 10 s) > (dimS (lst (shG L) s) (-1, 0)).1 then (Int.ofNat (pcF 10 s), s) else dimS (lst (shG L) s) (-1, 0) := by
      rw [hls, dimS_app]; rfl
    refine yld_ok (c := CC) (Q := fun w g' => ∃ C', w = .bool true ∧ Sto h g' (C' ++ F) ∧ CI (s + 1) C') hr (W.get 0 rfl) (by kernel_rfl) ?_
    have hCI : ∀ C, C = (g6.next + 1, CC.obj F1 g6.next .ready none) :: (g6.next, AObj.defd false) :: (g1.next, AObj.cells [J (if Int.ofNat (pcF 10 s) > (dimS (lst (shG L) s) (-1, 0)).1 then (Int.ofNat (pcF 10 s), s) else dimS (lst (shG L) s) (-1, 0)).2] 3 false) :: [(h.next, AObj.cells [I (if Int.ofNat (pcF 10 s) > (dimS (lst (shG L) s) (-1, 0)).1 then (Int.ofNat (pcF 10 s), s) else dimS (lst (shG L) s) (-1, 0)).1] 3 false)] → CI (s + 1) C := fun C hC => ⟨hs, by rw [hd]; exact hC⟩
    generalize CI (s + 1) = CJ at *
    clear hd hls
    generalize dimS (lst (shG L) s) (-1, 0) = D at *
    obtain ⟨d, w⟩ := D
    dsimp only at hCI
    have W : Sto h g ((g6.next + 1, CC.obj F1 g6.next .ready none) :: (g6.next, .defd false) :: (g1.next, .cells [J w] 3 false) :: (h.next, .cells [I d] 3 false) :: F) := W
    have ec := fun g => count_of lf m s (by omega) g
    refine ow_busy 0 0 W rfl (by kernel_rfl) fun b1 nb1 Wb1 => ?_
    have W := Wb1
    refine ow_load (P := Tryz.prog) (T := 3) (off := 0) 1 3 W rfl rfl (by kernel_rfl) (by kernel_rfl) ?_
    refine ok_go 1 ?_
    refine sy_need 0 [1] [⟨some (Value.tuple { toList := [] }, b1), Value.tuple { toList := [] }, b1⟩] (by kernel_rfl) ⟨rfl, trivial⟩ ?_
    have hce := cntE_eq (x := s) (by omega)
    rw [← hce] at hCI
    clear ec
    generalize hcz : cntE s = cz at *
    by_cases hc : cz > d
    · rw [if_pos hc] at hCI
      subst hcz
      refine sy_yes 0 (b := decide (cntE s > d)) (by kernel_rfl) (decide_eq_true hc) ?_
      refine ow_store (P := Tryz.prog) (T := 3) (off := 0) (v := Value.int IntKind.i64 (IntKind.wrap IntKind.i64 (Int.ofNat (BitVec.toNat (BitVec.ofInt (IntKind.bits IntKind.i64) (IntKind.wrap IntKind.i64 (IntKind.wrap IntKind.u64 (IntKind.wrap IntKind.u64 (IntKind.wrap IntKind.u64 (IntKind.wrap IntKind.u64 ↑(BitVec.toNat (BitVec.ofInt (IntKind.bits IntKind.u64) (IntKind.wrap IntKind.u64 (Int.fdiv (IntKind.wrap IntKind.u64 (IntKind.wrap IntKind.u64 ↑(BitVec.toNat (BitVec.ofInt (IntKind.bits IntKind.u64) (Int.fdiv (IntKind.wrap IntKind.u64 (IntKind.wrap IntKind.u64 ↑(BitVec.toNat (BitVec.ofInt (IntKind.bits IntKind.u64) (Int.fdiv (IntKind.wrap IntKind.u64 (Int.ofNat s)) (2 ^ min (Int.toNat 1) (IntKind.bits IntKind.u64))) &&& BitVec.ofInt (IntKind.bits IntKind.u64) 6148914691236517205)) + IntKind.wrap IntKind.u64 ↑(BitVec.toNat (BitVec.ofInt (IntKind.bits IntKind.u64) (IntKind.wrap IntKind.u64 (Int.ofNat s)) &&& BitVec.ofInt (IntKind.bits IntKind.u64) 6148914691236517205)))) (2 ^ min (Int.toNat 2) (IntKind.bits IntKind.u64))) &&& BitVec.ofInt (IntKind.bits IntKind.u64) 3689348814741910323)) + IntKind.wrap IntKind.u64 ↑(BitVec.toNat (BitVec.ofInt (IntKind.bits IntKind.u64) (IntKind.wrap IntKind.u64 (IntKind.wrap IntKind.u64 ↑(BitVec.toNat (BitVec.ofInt (IntKind.bits IntKind.u64) (Int.fdiv (IntKind.wrap IntKind.u64 (Int.ofNat s)) (2 ^ min (Int.toNat 1) (IntKind.bits IntKind.u64))) &&& BitVec.ofInt (IntKind.bits IntKind.u64) 6148914691236517205)) + IntKind.wrap IntKind.u64 ↑(BitVec.toNat (BitVec.ofInt (IntKind.bits IntKind.u64) (IntKind.wrap IntKind.u64 (Int.ofNat s)) &&& BitVec.ofInt (IntKind.bits IntKind.u64) 6148914691236517205)))) &&& BitVec.ofInt (IntKind.bits IntKind.u64) 3689348814741910323)))) (2 ^ min (Int.toNat 4) (IntKind.bits IntKind.u64)) + IntKind.wrap IntKind.u64 (IntKind.wrap IntKind.u64 ↑(BitVec.toNat (BitVec.ofInt (IntKind.bits IntKind.u64) (Int.fdiv (IntKind.wrap IntKind.u64 (IntKind.wrap IntKind.u64 ↑(BitVec.toNat (BitVec.ofInt (IntKind.bits IntKind.u64) (Int.fdiv (IntKind.wrap IntKind.u64 (Int.ofNat s)) (2 ^ min (Int.toNat 1) (IntKind.bits IntKind.u64))) &&& BitVec.ofInt (IntKind.bits IntKind.u64) 6148914691236517205)) + IntKind.wrap IntKind.u64 ↑(BitVec.toNat (BitVec.ofInt (IntKind.bits IntKind.u64) (IntKind.wrap IntKind.u64 (Int.ofNat s)) &&& BitVec.ofInt (IntKind.bits IntKind.u64) 6148914691236517205)))) (2 ^ min (Int.toNat 2) (IntKind.bits IntKind.u64))) &&& BitVec.ofInt (IntKind.bits IntKind.u64) 3689348814741910323)) + IntKind.wrap IntKind.u64 ↑(BitVec.toNat (BitVec.ofInt (IntKind.bits IntKind.u64) (IntKind.wrap IntKind.u64 (IntKind.wrap IntKind.u64 ↑(BitVec.toNat (BitVec.ofInt (IntKind.bits IntKind.u64) (Int.fdiv (IntKind.wrap IntKind.u64 (Int.ofNat s)) (2 ^ min (Int.toNat 1) (IntKind.bits IntKind.u64))) &&& BitVec.ofInt (IntKind.bits IntKind.u64) 6148914691236517205)) + IntKind.wrap IntKind.u64 ↑(BitVec.toNat (BitVec.ofInt (IntKind.bits IntKind.u64) (IntKind.wrap IntKind.u64 (Int.ofNat s)) &&& BitVec.ofInt (IntKind.bits IntKind.u64) 6148914691236517205)))) &&& BitVec.ofInt (IntKind.bits IntKind.u64) 3689348814741910323))))) &&& BitVec.ofInt (IntKind.bits IntKind.u64) 1085102592571150095)) + Int.fdiv (IntKind.wrap IntKind.u64 ↑(BitVec.toNat (BitVec.ofInt (IntKind.bits IntKind.u64) (IntKind.wrap IntKind.u64 (Int.fdiv (IntKind.wrap IntKind.u64 (IntKind.wrap IntKind.u64 ↑(BitVec.toNat (BitVec.ofInt (IntKind.bits IntKind.u64) (Int.fdiv (IntKind.wrap IntKind.u64 (IntKind.wrap IntKind.u64 ↑(BitVec.toNat (BitVec.ofInt (IntKind.bits IntKind.u64) (Int.fdiv (IntKind.wrap IntKind.u64 (Int.ofNat s)) (2 ^ min (Int.toNat 1) (IntKind.bits IntKind.u64))) &&& BitVec.ofInt (IntKind.bits IntKind.u64) 6148914691236517205)) + IntKind.wrap IntKind.u64 ↑(BitVec.toNat (BitVec.ofInt (IntKind.bits IntKind.u64) (IntKind.wrap IntKind.u64 (Int.ofNat s)) &&& BitVec.ofInt (IntKind.bits IntKind.u64) 6148914691236517205)))) (2 ^ min (Int.toNat 2) (IntKind.bits IntKind.u64))) &&& BitVec.ofInt (IntKind.bits IntKind.u64) 3689348814741910323)) + IntKind.wrap IntKind.u64 ↑(BitVec.toNat (BitVec.ofInt (IntKind.bits IntKind.u64) (IntKind.wrap IntKind.u64 (IntKind.wrap IntKind.u64 ↑(BitVec.toNat (BitVec.ofInt (IntKind.bits IntKind.u64) (Int.fdiv (IntKind.wrap IntKind.u64 (Int.ofNat s)) (2 ^ min (Int.toNat 1) (IntKind.bits IntKind.u64))) &&& BitVec.ofInt (IntKind.bits IntKind.u64) 6148914691236517205)) + IntKind.wrap IntKind.u64 ↑(BitVec.toNat (BitVec.ofInt (IntKind.bits IntKind.u64) (IntKind.wrap IntKind.u64 (Int.ofNat s)) &&& BitVec.ofInt (IntKind.bits IntKind.u64) 6148914691236517205)))) &&& BitVec.ofInt (IntKind.bits IntKind.u64) 3689348814741910323)))) (2 ^ min (Int.toNat 4) (IntKind.bits IntKind.u64)) + IntKind.wrap IntKind.u64 (IntKind.wrap IntKind.u64 ↑(BitVec.toNat (BitVec.ofInt (IntKind.bits IntKind.u64) (Int.fdiv (IntKind.wrap IntKind.u64 (IntKind.wrap IntKind.u64 ↑(BitVec.toNat (BitVec.ofInt (IntKind.bits IntKind.u64) (Int.fdiv (IntKind.wrap IntKind.u64 (Int.ofNat s)) (2 ^ min (Int.toNat 1) (IntKind.bits IntKind.u64))) &&& BitVec.ofInt (IntKind.bits IntKind.u64) 6148914691236517205)) + IntKind.wrap IntKind.u64 ↑(BitVec.toNat (BitVec.ofInt (IntKind.bits IntKind.u64) (IntKind.wrap IntKind.u64 (Int.ofNat s)) &&& BitVec.ofInt (IntKind.bits IntKind.u64) 6148914691236517205)))) (2 ^ min (Int.toNat 2) (IntKind.bits IntKind.u64))) &&& BitVec.ofInt (IntKind.bits IntKind.u64) 3689348814741910323)) + IntKind.wrap IntKind.u64 ↑(BitVec.toNat (BitVec.ofInt (IntKind.bits IntKind.u64) (IntKind.wrap IntKind.u64 (IntKind.wrap IntKind.u64 ↑(BitVec.toNat (BitVec.ofInt (IntKind.bits IntKind.u64) (Int.fdiv (IntKind.wrap IntKind.u64 (Int.ofNat s)) (2 ^ min (Int.toNat 1) (IntKind.bits IntKind.u64))) &&& BitVec.ofInt (IntKind.bits IntKind.u64) 6148914691236517205)) + IntKind.wrap IntKind.u64 ↑(BitVec.toNat (BitVec.ofInt (IntKind.bits IntKind.u64) (IntKind.wrap IntKind.u64 (Int.ofNat s)) &&& BitVec.ofInt (IntKind.bits IntKind.u64) 6148914691236517205)))) &&& BitVec.ofInt (IntKind.bits IntKind.u64) 3689348814741910323))))) &&& BitVec.ofInt (IntKind.bits IntKind.u64) 1085102592571150095))) (2 ^ min (Int.toNat 8) (IntKind.bits IntKind.u64))) + Int.fdiv (IntKind.wrap IntKind.u64 (IntKind.wrap IntKind.u64 ↑(BitVec.toNat (BitVec.ofInt (IntKind.bits IntKind.u64) (IntKind.wrap IntKind.u64 (Int.fdiv (IntKind.wrap IntKind.u64 (IntKind.wrap IntKind.u64 ↑(BitVec.toNat (BitVec.ofInt (IntKind.bits IntKind.u64) (Int.fdiv (IntKind.wrap IntKind.u64 (IntKind.wrap IntKind.u64 ↑(BitVec.toNat (BitVec.ofInt (IntKind.bits IntKind.u64) (Int.fdiv (IntKind.wrap IntKind.u64 (Int.ofNat s)) (2 ^ min (Int.toNat 1) (IntKind.bits IntKind.u64))) &&& BitVec.ofInt (IntKind.bits IntKind.u64) 6148914691236517205)) + IntKind.wrap IntKind.u64 ↑(BitVec.toNat (BitVec.ofInt (IntKind.bits IntKind.u64) (IntKind.wrap IntKind.u64 (Int.ofNat s)) &&& BitVec.ofInt (IntKind.bits IntKind.u64) 6148914691236517205)))) (2 ^ min (Int.toNat 2) (IntKind.bits IntKind.u64))) &&& BitVec.ofInt (IntKind.bits IntKind.u64) 3689348814741910323)) + IntKind.wrap IntKind.u64 ↑(BitVec.toNat (BitVec.ofInt (IntKind.bits IntKind.u64) (IntKind.wrap IntKind.u64 (IntKind.wrap IntKind.u64 ↑(BitVec.toNat (BitVec.ofInt (IntKind.bits IntKind.u64) (Int.fdiv (IntKind.wrap IntKind.u64 (Int.ofNat s)) (2 ^ min (Int.toNat 1) (IntKind.bits IntKind.u64))) &&& BitVec.ofInt (IntKind.bits IntKind.u64) 6148914691236517205)) + IntKind.wrap IntKind.u64 ↑(BitVec.toNat (BitVec.ofInt (IntKind.bits IntKind.u64) (IntKind.wrap IntKind.u64 (Int.ofNat s)) &&& BitVec.ofInt (IntKind.bits IntKind.u64) 6148914691236517205)))) &&& BitVec.ofInt (IntKind.bits IntKind.u64) 3689348814741910323)))) (2 ^ min (Int.toNat 4) (IntKind.bits IntKind.u64)) + IntKind.wrap IntKind.u64 (IntKind.wrap IntKind.u64 ↑(BitVec.toNat (BitVec.ofInt (IntKind.bits IntKind.u64) (Int.fdiv (IntKind.wrap IntKind.u64 (IntKind.wrap IntKind.u64 ↑(BitVec.toNat (BitVec.ofInt (IntKind.bits IntKind.u64) (Int.fdiv (IntKind.wrap IntKind.u64 (Int.ofNat s)) (2 ^ min (Int.toNat 1) (IntKind.bits IntKind.u64))) &&& BitVec.ofInt (IntKind.bits IntKind.u64) 6148914691236517205)) + IntKind.wrap IntKind.u64 ↑(BitVec.toNat (BitVec.ofInt (IntKind.bits IntKind.u64) (IntKind.wrap IntKind.u64 (Int.ofNat s)) &&& BitVec.ofInt (IntKind.bits IntKind.u64) 6148914691236517205)))) (2 ^ min (Int.toNat 2) (IntKind.bits IntKind.u64))) &&& BitVec.ofInt (IntKind.bits IntKind.u64) 3689348814741910323)) + IntKind.wrap IntKind.u64 ↑(BitVec.toNat (BitVec.ofInt (IntKind.bits IntKind.u64) (IntKind.wrap IntKind.u64 (IntKind.wrap IntKind.u64 ↑(BitVec.toNat (BitVec.ofInt (IntKind.bits IntKind.u64) (Int.fdiv (IntKind.wrap IntKind.u64 (Int.ofNat s)) (2 ^ min (Int.toNat 1) (IntKind.bits IntKind.u64))) &&& BitVec.ofInt (IntKind.bits IntKind.u64) 6148914691236517205)) + IntKind.wrap IntKind.u64 ↑(BitVec.toNat (BitVec.ofInt (IntKind.bits IntKind.u64) (IntKind.wrap IntKind.u64 (Int.ofNat s)) &&& BitVec.ofInt (IntKind.bits IntKind.u64) 6148914691236517205)))) &&& BitVec.ofInt (IntKind.bits IntKind.u64) 3689348814741910323))))) &&& BitVec.ofInt (IntKind.bits IntKind.u64) 1085102592571150095)) + Int.fdiv (IntKind.wrap IntKind.u64 ↑(BitVec.toNat (BitVec.ofInt (IntKind.bits IntKind.u64) (IntKind.wrap IntKind.u64 (Int.fdiv (IntKind.wrap IntKind.u64 (IntKind.wrap IntKind.u64 ↑(BitVec.toNat (BitVec.ofInt (IntKind.bits IntKind.u64) (Int.fdiv (IntKind.wrap IntKind.u64 (IntKind.wrap IntKind.u64 ↑(BitVec.toNat (BitVec.ofInt (IntKind.bits IntKind.u64) (Int.fdiv (IntKind.wrap IntKind.u64 (Int.ofNat s)) (2 ^ min (Int.toNat 1) (IntKind.bits IntKind.u64))) &&& BitVec.ofInt (IntKind.bits IntKind.u64) 6148914691236517205)) + IntKind.wrap IntKind.u64 ↑(BitVec.toNat (BitVec.ofInt (IntKind.bits IntKind.u64) (IntKind.wrap IntKind.u64 (Int.ofNat s)) &&& BitVec.ofInt (IntKind.bits IntKind.u64) 6148914691236517205)))) (2 ^ min (Int.toNat 2) (IntKind.bits IntKind.u64))) &&& BitVec.ofInt (IntKind.bits IntKind.u64) 3689348814741910323)) + IntKind.wrap IntKind.u64 ↑(BitVec.toNat (BitVec.ofInt (IntKind.bits IntKind.u64) (IntKind.wrap IntKind.u64 (IntKind.wrap IntKind.u64 ↑(BitVec.toNat (BitVec.ofInt (IntKind.bits IntKind.u64) (Int.fdiv (IntKind.wrap IntKind.u64 (Int.ofNat s)) (2 ^ min (Int.toNat 1) (IntKind.bits IntKind.u64))) &&& BitVec.ofInt (IntKind.bits IntKind.u64) 6148914691236517205)) + IntKind.wrap IntKind.u64 ↑(BitVec.toNat (BitVec.ofInt (IntKind.bits IntKind.u64) (IntKind.wrap IntKind.u64 (Int.ofNat s)) &&& BitVec.ofInt (IntKind.bits IntKind.u64) 6148914691236517205)))) &&& BitVec.ofInt (IntKind.bits IntKind.u64) 3689348814741910323)))) (2 ^ min (Int.toNat 4) (IntKind.bits IntKind.u64)) + IntKind.wrap IntKind.u64 (IntKind.wrap IntKind.u64 ↑(BitVec.toNat (BitVec.ofInt (IntKind.bits IntKind.u64) (Int.fdiv (IntKind.wrap IntKind.u64 (IntKind.wrap IntKind.u64 ↑(BitVec.toNat (BitVec.ofInt (IntKind.bits IntKind.u64) (Int.fdiv (IntKind.wrap IntKind.u64 (Int.ofNat s)) (2 ^ min (Int.toNat 1) (IntKind.bits IntKind.u64))) &&& BitVec.ofInt (IntKind.bits IntKind.u64) 6148914691236517205)) + IntKind.wrap IntKind.u64 ↑(BitVec.toNat (BitVec.ofInt (IntKind.bits IntKind.u64) (IntKind.wrap IntKind.u64 (Int.ofNat s)) &&& BitVec.ofInt (IntKind.bits IntKind.u64) 6148914691236517205)))) (2 ^ min (Int.toNat 2) (IntKind.bits IntKind.u64))) &&& BitVec.ofInt (IntKind.bits IntKind.u64) 3689348814741910323)) + IntKind.wrap IntKind.u64 ↑(BitVec.toNat (BitVec.ofInt (IntKind.bits IntKind.u64) (IntKind.wrap IntKind.u64 (IntKind.wrap IntKind.u64 ↑(BitVec.toNat (BitVec.ofInt (IntKind.bits IntKind.u64) (Int.fdiv (IntKind.wrap IntKind.u64 (Int.ofNat s)) (2 ^ min (Int.toNat 1) (IntKind.bits IntKind.u64))) &&& BitVec.ofInt (IntKind.bits IntKind.u64) 6148914691236517205)) + IntKind.wrap IntKind.u64 ↑(BitVec.toNat (BitVec.ofInt (IntKind.bits IntKind.u64) (IntKind.wrap IntKind.u64 (Int.ofNat s)) &&& BitVec.ofInt (IntKind.bits IntKind.u64) 6148914691236517205)))) &&& BitVec.ofInt (IntKind.bits IntKind.u64) 3689348814741910323))))) &&& BitVec.ofInt (IntKind.bits IntKind.u64) 1085102592571150095))) (2 ^ min (Int.toNat 8) (IntKind.bits IntKind.u64)))) (2 ^ min (Int.toNat 16) (IntKind.bits IntKind.u64))) + Int.fdiv (IntKind.wrap IntKind.u64 (IntKind.wrap IntKind.u64 (IntKind.wrap IntKind.u64 ↑(BitVec.toNat (BitVec.ofInt (IntKind.bits IntKind.u64) (IntKind.wrap IntKind.u64 (Int.fdiv (IntKind.wrap IntKind.u64 (IntKind.wrap IntKind.u64 ↑(BitVec.toNat (BitVec.ofInt (IntKind.bits IntKind.u64) (Int.fdiv (IntKind.wrap IntKind.u64 (IntKind.wrap IntKind.u64 ↑(BitVec.toNat (BitVec.ofInt (IntKind.bits IntKind.u64) (Int.fdiv (IntKind.wrap IntKind.u64 (Int.ofNat s)) (2 ^ min (Int.toNat 1) (IntKind.bits IntKind.u64))) &&& BitVec.ofInt (IntKind.bits IntKind.u64) 6148914691236517205)) + IntKind.wrap IntKind.u64 ↑(BitVec.toNat (BitVec.ofInt (IntKind.bits IntKind.u64) (IntKind.wrap IntKind.u64 (Int.ofNat s)) &&& BitVec.ofInt (IntKind.bits IntKind.u64) 6148914691236517205)))) (2 ^ min (Int.toNat 2) (IntKind.bits IntKind.u64))) &&& BitVec.ofInt (IntKind.bits IntKind.u64) 3689348814741910323)) + IntKind.wrap IntKind.u64 ↑(BitVec.toNat (BitVec.ofInt (IntKind.bits IntKind.u64) (IntKind.wrap IntKind.u64 (IntKind.wrap IntKind.u64 ↑(BitVec.toNat (BitVec.ofInt (IntKind.bits IntKind.u64) (Int.fdiv (IntKind.wrap IntKind.u64 (Int.ofNat s)) (2 ^ min (Int.toNat 1) (IntKind.bits IntKind.u64))) &&& BitVec.ofInt (IntKind.bits IntKind.u64) 6148914691236517205)) + IntKind.wrap IntKind.u64 ↑(BitVec.toNat (BitVec.ofInt (IntKind.bits IntKind.u64) (IntKind.wrap IntKind.u64 (Int.ofNat s)) &&& BitVec.ofInt (IntKind.bits IntKind.u64) 6148914691236517205)))) &&& BitVec.ofInt (IntKind.bits IntKind.u64) 3689348814741910323)))) (2 ^ min (Int.toNat 4) (IntKind.bits IntKind.u64)) + IntKind.wrap IntKind.u64 (IntKind.wrap IntKind.u64 ↑(BitVec.toNat (BitVec.ofInt (IntKind.bits IntKind.u64) (Int.fdiv (IntKind.wrap IntKind.u64 (IntKind.wrap IntKind.u64 ↑(BitVec.toNat (BitVec.ofInt (IntKind.bits IntKind.u64) (Int.fdiv (IntKind.wrap IntKind.u64 (Int.ofNat s)) (2 ^ min (Int.toNat 1) (IntKind.bits IntKind.u64))) &&& BitVec.ofInt (IntKind.bits IntKind.u64) 6148914691236517205)) + IntKind.wrap IntKind.u64 ↑(BitVec.toNat (BitVec.ofInt (IntKind.bits IntKind.u64) (IntKind.wrap IntKind.u64 (Int.ofNat s)) &&& BitVec.ofInt (IntKind.bits IntKind.u64) 6148914691236517205)))) (2 ^ min (Int.toNat 2) (IntKind.bits IntKind.u64))) &&& BitVec.ofInt (IntKind.bits IntKind.u64) 3689348814741910323)) + IntKind.wrap IntKind.u64 ↑(BitVec.toNat (BitVec.ofInt (IntKind.bits IntKind.u64) (IntKind.wrap IntKind.u64 (IntKind.wrap IntKind.u64 ↑(BitVec.toNat (BitVec.ofInt (IntKind.bits IntKind.u64) (Int.fdiv (IntKind.wrap IntKind.u64 (Int.ofNat s)) (2 ^ min (Int.toNat 1) (IntKind.bits IntKind.u64))) &&& BitVec.ofInt (IntKind.bits IntKind.u64) 6148914691236517205)) + IntKind.wrap IntKind.u64 ↑(BitVec.toNat (BitVec.ofInt (IntKind.bits IntKind.u64) (IntKind.wrap IntKind.u64 (Int.ofNat s)) &&& BitVec.ofInt (IntKind.bits IntKind.u64) 6148914691236517205)))) &&& BitVec.ofInt (IntKind.bits IntKind.u64) 3689348814741910323))))) &&& BitVec.ofInt (IntKind.bits IntKind.u64) 1085102592571150095)) + Int.fdiv (IntKind.wrap IntKind.u64 ↑(BitVec.toNat (BitVec.ofInt (IntKind.bits IntKind.u64) (IntKind.wrap IntKind.u64 (Int.fdiv (IntKind.wrap IntKind.u64 (IntKind.wrap IntKind.u64 ↑(BitVec.toNat (BitVec.ofInt (IntKind.bits IntKind.u64) (Int.fdiv (IntKind.wrap IntKind.u64 (IntKind.wrap IntKind.u64 ↑(BitVec.toNat (BitVec.ofInt (IntKind.bits IntKind.u64) (Int.fdiv (IntKind.wrap IntKind.u64 (Int.ofNat s)) (2 ^ min (Int.toNat 1) (IntKind.bits IntKind.u64))) &&& BitVec.ofInt (IntKind.bits IntKind.u64) 6148914691236517205)) + IntKind.wrap IntKind.u64 ↑(BitVec.toNat (BitVec.ofInt (IntKind.bits IntKind.u64) (IntKind.wrap IntKind.u64 (Int.ofNat s)) &&& BitVec.ofInt (IntKind.bits IntKind.u64) 6148914691236517205)))) (2 ^ min (Int.toNat 2) (IntKind.bits IntKind.u64))) &&& BitVec.ofInt (IntKind.bits IntKind.u64) 3689348814741910323)) + IntKind.wrap IntKind.u64 ↑(BitVec.toNat (BitVec.ofInt (IntKind.bits IntKind.u64) (IntKind.wrap IntKind.u64 (IntKind.wrap IntKind.u64 ↑(BitVec.toNat (BitVec.ofInt (IntKind.bits IntKind.u64) (Int.fdiv (IntKind.wrap IntKind.u64 (Int.ofNat s)) (2 ^ min (Int.toNat 1) (IntKind.bits IntKind.u64))) &&& BitVec.ofInt (IntKind.bits IntKind.u64) 6148914691236517205)) + IntKind.wrap IntKind.u64 ↑(BitVec.toNat (BitVec.ofInt (IntKind.bits IntKind.u64) (IntKind.wrap IntKind.u64 (Int.ofNat s)) &&& BitVec.ofInt (IntKind.bits IntKind.u64) 6148914691236517205)))) &&& BitVec.ofInt (IntKind.bits IntKind.u64) 3689348814741910323)))) (2 ^ min (Int.toNat 4) (IntKind.bits IntKind.u64)) + IntKind.wrap IntKind.u64 (IntKind.wrap IntKind.u64 ↑(BitVec.toNat (BitVec.ofInt (IntKind.bits IntKind.u64) (Int.fdiv (IntKind.wrap IntKind.u64 (IntKind.wrap IntKind.u64 ↑(BitVec.toNat (BitVec.ofInt (IntKind.bits IntKind.u64) (Int.fdiv (IntKind.wrap IntKind.u64 (Int.ofNat s)) (2 ^ min (Int.toNat 1) (IntKind.bits IntKind.u64))) &&& BitVec.ofInt (IntKind.bits IntKind.u64) 6148914691236517205)) + IntKind.wrap IntKind.u64 ↑(BitVec.toNat (BitVec.ofInt (IntKind.bits IntKind.u64) (IntKind.wrap IntKind.u64 (Int.ofNat s)) &&& BitVec.ofInt (IntKind.bits IntKind.u64) 6148914691236517205)))) (2 ^ min (Int.toNat 2) (IntKind.bits IntKind.u64))) &&& BitVec.ofInt (IntKind.bits IntKind.u64) 3689348814741910323)) + IntKind.wrap IntKind.u64 ↑(BitVec.toNat (BitVec.ofInt (IntKind.bits IntKind.u64) (IntKind.wrap IntKind.u64 (IntKind.wrap IntKind.u64 ↑(BitVec.toNat (BitVec.ofInt (IntKind.bits IntKind.u64) (Int.fdiv (IntKind.wrap IntKind.u64 (Int.ofNat s)) (2 ^ min (Int.toNat 1) (IntKind.bits IntKind.u64))) &&& BitVec.ofInt (IntKind.bits IntKind.u64) 6148914691236517205)) + IntKind.wrap IntKind.u64 ↑(BitVec.toNat (BitVec.ofInt (IntKind.bits IntKind.u64) (IntKind.wrap IntKind.u64 (Int.ofNat s)) &&& BitVec.ofInt (IntKind.bits IntKind.u64) 6148914691236517205)))) &&& BitVec.ofInt (IntKind.bits IntKind.u64) 3689348814741910323))))) &&& BitVec.ofInt (IntKind.bits IntKind.u64) 1085102592571150095))) (2 ^ min (Int.toNat 8) (IntKind.bits IntKind.u64))) + Int.fdiv (IntKind.wrap IntKind.u64 (IntKind.wrap IntKind.u64 ↑(BitVec.toNat (BitVec.ofInt (IntKind.bits IntKind.u64) (IntKind.wrap IntKind.u64 (Int.fdiv (IntKind.wrap IntKind.u64 (IntKind.wrap IntKind.u64 ↑(BitVec.toNat (BitVec.ofInt (IntKind.bits IntKind.u64) (Int.fdiv (IntKind.wrap IntKind.u64 (IntKind.wrap IntKind.u64 ↑(BitVec.toNat (BitVec.ofInt (IntKind.bits IntKind.u64) (Int.fdiv (IntKind.wrap IntKind.u64 (Int.ofNat s)) (2 ^ min (Int.toNat 1) (IntKind.bits IntKind.u64))) &&& BitVec.ofInt (IntKind.bits IntKind.u64) 6148914691236517205)) + IntKind.wrap IntKind.u64 ↑(BitVec.toNat (BitVec.ofInt (IntKind.bits IntKind.u64) (IntKind.wrap IntKind.u64 (Int.ofNat s)) &&& BitVec.ofInt (IntKind.bits IntKind.u64) 6148914691236517205)))) (2 ^ min (Int.toNat 2) (IntKind.bits IntKind.u64))) &&& BitVec.ofInt (IntKind.bits IntKind.u64) 3689348814741910323)) + IntKind.wrap IntKind.u64 ↑(BitVec.toNat (BitVec.ofInt (IntKind.bits IntKind.u64) (IntKind.wrap IntKind.u64 (IntKind.wrap IntKind.u64 ↑(BitVec.toNat (BitVec.ofInt (IntKind.bits IntKind.u64) (Int.fdiv (IntKind.wrap IntKind.u64 (Int.ofNat s)) (2 ^ min (Int.toNat 1) (IntKind.bits IntKind.u64))) &&& BitVec.ofInt (IntKind.bits IntKind.u64) 6148914691236517205)) + IntKind.wrap IntKind.u64 ↑(BitVec.toNat (BitVec.ofInt (IntKind.bits IntKind.u64) (IntKind.wrap IntKind.u64 (Int.ofNat s)) &&& BitVec.ofInt (IntKind.bits IntKind.u64) 6148914691236517205)))) &&& BitVec.ofInt (IntKind.bits IntKind.u64) 3689348814741910323)))) (2 ^ min (Int.toNat 4) (IntKind.bits IntKind.u64)) + IntKind.wrap IntKind.u64 (IntKind.wrap IntKind.u64 ↑(BitVec.toNat (BitVec.ofInt (IntKind.bits IntKind.u64) (Int.fdiv (IntKind.wrap IntKind.u64 (IntKind.wrap IntKind.u64 ↑(BitVec.toNat (BitVec.ofInt (IntKind.bits IntKind.u64) (Int.fdiv (IntKind.wrap IntKind.u64 (Int.ofNat s)) (2 ^ min (Int.toNat 1) (IntKind.bits IntKind.u64))) &&& BitVec.ofInt (IntKind.bits IntKind.u64) 6148914691236517205)) + IntKind.wrap IntKind.u64 ↑(BitVec.toNat (BitVec.ofInt (IntKind.bits IntKind.u64) (IntKind.wrap IntKind.u64 (Int.ofNat s)) &&& BitVec.ofInt (IntKind.bits IntKind.u64) 6148914691236517205)))) (2 ^ min (Int.toNat 2) (IntKind.bits IntKind.u64))) &&& BitVec.ofInt (IntKind.bits IntKind.u64) 3689348814741910323)) + IntKind.wrap IntKind.u64 ↑(BitVec.toNat (BitVec.ofInt (IntKind.bits IntKind.u64) (IntKind.wrap IntKind.u64 (IntKind.wrap IntKind.u64 ↑(BitVec.toNat (BitVec.ofInt (IntKind.bits IntKind.u64) (Int.fdiv (IntKind.wrap IntKind.u64 (Int.ofNat s)) (2 ^ min (Int.toNat 1) (IntKind.bits IntKind.u64))) &&& BitVec.ofInt (IntKind.bits IntKind.u64) 6148914691236517205)) + IntKind.wrap IntKind.u64 ↑(BitVec.toNat (BitVec.ofInt (IntKind.bits IntKind.u64) (IntKind.wrap IntKind.u64 (Int.ofNat s)) &&& BitVec.ofInt (IntKind.bits IntKind.u64) 6148914691236517205)))) &&& BitVec.ofInt (IntKind.bits IntKind.u64) 3689348814741910323))))) &&& BitVec.ofInt (IntKind.bits IntKind.u64) 1085102592571150095)) + Int.fdiv (IntKind.wrap IntKind.u64 ↑(BitVec.toNat (BitVec.ofInt (IntKind.bits IntKind.u64) (IntKind.wrap IntKind.u64 (Int.fdiv (IntKind.wrap IntKind.u64 (IntKind.wrap IntKind.u64 ↑(BitVec.toNat (BitVec.ofInt (IntKind.bits IntKind.u64) (Int.fdiv (IntKind.wrap IntKind.u64 (IntKind.wrap IntKind.u64 ↑(BitVec.toNat (BitVec.ofInt (IntKind.bits IntKind.u64) (Int.fdiv (IntKind.wrap IntKind.u64 (Int.ofNat s)) (2 ^ min (Int.toNat 1) (IntKind.bits IntKind.u64))) &&& BitVec.ofInt (IntKind.bits IntKind.u64) 6148914691236517205)) + IntKind.wrap IntKind.u64 ↑(BitVec.toNat (BitVec.ofInt (IntKind.bits IntKind.u64) (IntKind.wrap IntKind.u64 (Int.ofNat s)) &&& BitVec.ofInt (IntKind.bits IntKind.u64) 6148914691236517205)))) (2 ^ min (Int.toNat 2) (IntKind.bits IntKind.u64))) &&& BitVec.ofInt (IntKind.bits IntKind.u64) 3689348814741910323)) + IntKind.wrap IntKind.u64 ↑(BitVec.toNat (BitVec.ofInt (IntKind.bits IntKind.u64) (IntKind.wrap IntKind.u64 (IntKind.wrap IntKind.u64 ↑(BitVec.toNat (BitVec.ofInt (IntKind.bits IntKind.u64) (Int.fdiv (IntKind.wrap IntKind.u64 (Int.ofNat s)) (2 ^ min (Int.toNat 1) (IntKind.bits IntKind.u64))) &&& BitVec.ofInt (IntKind.bits IntKind.u64) 6148914691236517205)) + IntKind.wrap IntKind.u64 ↑(BitVec.toNat (BitVec.ofInt (IntKind.bits IntKind.u64) (IntKind.wrap IntKind.u64 (Int.ofNat s)) &&& BitVec.ofInt (IntKind.bits IntKind.u64) 6148914691236517205)))) &&& BitVec.ofInt (IntKind.bits IntKind.u64) 3689348814741910323)))) (2 ^ min (Int.toNat 4) (IntKind.bits IntKind.u64)) + IntKind.wrap IntKind.u64 (IntKind.wrap IntKind.u64 ↑(BitVec.toNat (BitVec.ofInt (IntKind.bits IntKind.u64) (Int.fdiv (IntKind.wrap IntKind.u64 (IntKind.wrap IntKind.u64 ↑(BitVec.toNat (BitVec.ofInt (IntKind.bits IntKind.u64) (Int.fdiv (IntKind.wrap IntKind.u64 (Int.ofNat s)) (2 ^ min (Int.toNat 1) (IntKind.bits IntKind.u64))) &&& BitVec.ofInt (IntKind.bits IntKind.u64) 6148914691236517205)) + IntKind.wrap IntKind.u64 ↑(BitVec.toNat (BitVec.ofInt (IntKind.bits IntKind.u64) (IntKind.wrap IntKind.u64 (Int.ofNat s)) &&& BitVec.ofInt (IntKind.bits IntKind.u64) 6148914691236517205)))) (2 ^ min (Int.toNat 2) (IntKind.bits IntKind.u64))) &&& BitVec.ofInt (IntKind.bits IntKind.u64) 3689348814741910323)) + IntKind.wrap IntKind.u64 ↑(BitVec.toNat (BitVec.ofInt (IntKind.bits IntKind.u64) (IntKind.wrap IntKind.u64 (IntKind.wrap IntKind.u64 ↑(BitVec.toNat (BitVec.ofInt (IntKind.bits IntKind.u64) (Int.fdiv (IntKind.wrap IntKind.u64 (Int.ofNat s)) (2 ^ min (Int.toNat 1) (IntKind.bits IntKind.u64))) &&& BitVec.ofInt (IntKind.bits IntKind.u64) 6148914691236517205)) + IntKind.wrap IntKind.u64 ↑(BitVec.toNat (BitVec.ofInt (IntKind.bits IntKind.u64) (IntKind.wrap IntKind.u64 (Int.ofNat s)) &&& BitVec.ofInt (IntKind.bits IntKind.u64) 6148914691236517205)))) &&& BitVec.ofInt (IntKind.bits IntKind.u64) 3689348814741910323))))) &&& BitVec.ofInt (IntKind.bits IntKind.u64) 1085102592571150095))) (2 ^ min (Int.toNat 8) (IntKind.bits IntKind.u64)))) (2 ^ min (Int.toNat 16) (IntKind.bits IntKind.u64)))) (2 ^ min (Int.toNat 32) (IntKind.bits IntKind.u64))))) &&& BitVec.ofInt (IntKind.bits IntKind.i64) 127))))) 1 3 W rfl (Nat.le_of_ble_eq_true (by kernel_rfl)) (by kernel_rfl) (by first | rfl | assumption) (by kernel_rfl) fun c1 nc1 Wc1 => ?_
      have W := Wc1
      refine ow_store (P := Tryz.prog) (T := 3) (off := 0) (v := Value.int IntKind.i64 (Int.ofNat s)) 0 2 W rfl (Nat.le_of_ble_eq_true (by kernel_rfl)) (by kernel_rfl) (by first | rfl | assumption) (by kernel_rfl) fun c2 nc2 Wc2 => ?_
      have W := Wc2
      refine ow_round 0 0 W rfl (by kernel_rfl) fun c3 nc3 Wc3 => ?_
      have W := Wc3
      refine sy_done 0 (v := Value.bool true) (h := c3) (by kernel_rfl) ?_
      have W : Sto h c3 ((g6.next + 1, CC.obj F1 g6.next .ready none) :: (g6.next, .defd false) :: (g1.next, .cells [J s] 3 false) :: (h.next, .cells [I (cntE s)] 3 false) :: F) := W
      exact ⟨_, rfl, W, hCI _ rfl⟩
    · rw [if_neg hc] at hCI
      subst hcz
      refine sy_no 0 (b := decide (cntE s > d)) (by kernel_rfl) (decide_eq_false hc) ?_
      refine ow_round 0 0 W rfl (by kernel_rfl) fun c1 nc1 Wc1 => ?_
      have W := Wc1
      refine sy_done 0 (v := Value.bool true) (h := c1) (by kernel_rfl) ?_
      have W : Sto h c1 ((g6.next + 1, CC.obj F1 g6.next .ready none) :: (g6.next, .defd false) :: (g1.next, .cells [J w] 3 false) :: (h.next, .cells [I d] 3 false) :: F) := W
      exact ⟨_, rfl, W, hCI _ rfl⟩
  obtain ⟨v8, h8, e8, C8, ⟨_, rfl⟩, W8⟩ := shat_run lf (m + 2) (g6.next + 1) g4.next (g4.next + 1) n hn L (by omega) hlm hlf va vc h hv CI
    (fun s C hs hg hC => by
      obtain ⟨_, rfl⟩ := hC
      have hls := lst_succ (shG L) s
      rw [if_neg (by rw [hg]; simp)] at hls
      exact ⟨hs, by rw [hls]⟩)
    (fun s C g F hs hg hC W => by
      obtain ⟨w, g', e, C', rfl, W', h1⟩ := body s C g F hs hg hC W
      exact ⟨g', C', e, W', h1⟩)
    _ [] HH ⟨Nat.zero_le _, rfl⟩
    (W.perm (List.Perm.append_right [_, _] (List.perm_append_comm (l₁ := [_, _]) (l₂ := [_, _]))))
  have W8 : Sto h h8 ((g6.next + 1, (rcOf Tryz.prog 35 0).obj F1 g6.next .ready none) :: (g6.next, .defd false) :: (g4.next, .cells [J n] 3 false) :: (g4.next + 1, .cells [.slice va L.length vc] 28 false) :: (g1.next, .cells [J (dimS (lst (shG L) (2 ^ n)) (-1, 0)).2] 3 false) :: [(h.next, .cells [I (dimS (lst (shG L) (2 ^ n)) (-1, 0)).1] 3 false)]) := W8.perm (List.Perm.append_right [_, _] (List.perm_append_comm (l₁ := [_, _]) (l₂ := [_, _])))
  refine ⟨v8, h8, .ready, none, g6.next, .normal, _, e8, W8, by decide, rfl, fun h9 n9 W => ?_⟩
  generalize dimS (lst (shG L) (2 ^ n)) (-1, 0) = D at *
  refine ow_load (P := Tryz.prog) (T := 3) (off := 0) 0 4 W rfl rfl (by kernel_rfl) (by kernel_rfl) ?_
  refine ow_load (P := Tryz.prog) (T := 3) (off := 0) 0 3 W rfl rfl (by kernel_rfl) (by kernel_rfl) ?_
  have W : Sto h h9 ([g6.next].map (fun d => (d, AObj.defd false)) ++ [(g4.next, .cells [J n] 3 false), (g4.next + 1, .cells [.slice va L.length vc] 28 false), (g1.next, .cells [J D.2] 3 false), (h.next, .cells [I D.1] 3 false)]) := W
  refine ow_marks 0 [g6.next] W (by kernel_rfl) fun h10 n10 W => ?_
  refine sy_done 0 (v := .tuple #[I D.1, J D.2, J 0]) (h := h10) (by kernel_rfl) ⟨rfl, W.ext⟩
end Go.Proofs.YtkfbfgcflnkllaaGreatDoor
namespace Go.Proofs.YtkfbfgcflnkllaaGreatDoor
open Go Go.Eng Nim
set_option maxRecDepth 100000
set_option maxHeartbeats 8000000
def zT (z : Int) : Int := IntKind.i64.wrap ((IntKind.u64.wrap z).tmod (IntKind.u64.wrap (IntKind.i64.wrap (6 + 1))))
theorem t_size (z : Int) : ∃ N : Nat, N ≤ 6 ∧ zT z = Int.ofNat N := by
  obtain ⟨k, hk, hr⟩ := rem_u z 7 (by decide) (by decide)
  have h9 : (IntKind.u64.wrap (IntKind.i64.wrap (6 + 1))) = IntKind.u64.wrap (Int.ofNat 7) := by decide
  refine ⟨k, by omega, ?_⟩
  unfold zT
  rw [h9, hr]
  exact wrap_nat (by omega)
theorem lst_sp {f : Nat → Bool} {N : Nat} (h : ∀ j, f j = true → j < N) : ∀ d, lst f (N + d) = lst f N
  | 0 => rfl
  | d + 1 => by
    rw [← Nat.add_assoc, lst_succ, lst_sp h d]
    rw [if_neg fun h1 => by have := h _ h1; omega]
theorem yesT {lf n f : Nat} {args : List Value} {h : Hp} (hk : Ok (fun v _ => v = .bool true) (fnS Tryz.prog orc lf n f args h)) : ∃ H, Ev lf (n + 1) f args h = some (.bool true, H) := by
  obtain ⟨v, h', h1, rfl⟩ := fnS_ok hk
  exact ⟨h', h1⟩
theorem sameT (m : Nat) (l : List Nat) (hl : l.length ≤ 1024) (x y : Value) (g : Hp) (hx : Rds g x (l.map J)) (hy : Rds g y (l.map J)) : Ev 100000 (m + 1) 16 [x, y] g = some (.bool true, g) := by
  have e := same_of 100000 m (l.map Int.ofNat) (l.map Int.ofNat) (by rw [List.length_map]; omega) (by rw [List.length_map]; omega) x y g (by rw [List.map_map]; exact hx) (by rw [List.map_map]; exact hy)
  rw [decide_eq_true rfl] at e
  exact e
theorem one_shlu (i : Nat) (hi : i < 62) : IntKind.u64.wrap (1 * 2 ^ min (IntKind.u64.wrap (Int.ofNat i)).toNat IntKind.u64.bits) = Int.ofNat (2 ^ i) := by
  have h2 : 2 ^ i < 2 ^ 62 := Nat.pow_lt_pow_right (by decide) hi
  have hm : min (IntKind.u64.wrap (Int.ofNat i)).toNat IntKind.u64.bits = i := min_v i (by omega)
  rw [hm]
  have h3 : (1 : Int) * 2 ^ i = Int.ofNat (2 ^ i) := by rw [Int.one_mul]; exact (Int.natCast_pow 2 i).symm
  rw [h3]
  exact Int.emod_eq_of_lt (Int.natCast_nonneg _) (show ((2 ^ i : Nat) : Int) < 18446744073709551616 by omega)
theorem law6 (m : Nat) (z : Int) (xs : List Int) (hxs : xs.length < 2 ^ 63) (zi : Int) (x : Value) (h : Hp) (hx : Rds h x (xs.map I)) : ∃ H, Ev 100000 (m + 7) 6 [I z, x, I zi] h = some (.bool true, H) := by
  refine yesT ?_
  obtain ⟨N, hN8, hZ⟩ := t_size z
  obtain ⟨xa, xc, hxe⟩ := hx.shape
  rw [List.length_map] at hxe
  subst hxe
  have h2N : 2 ^ N ≤ 64 := Nat.pow_le_pow_right (by decide) hN8
  have hpos : 0 < 2 ^ N := Nat.two_pow_pos N
  have hsh := one_shl N (by omega)
  have hshu := one_shlu N (by omega)
  obtain ⟨v1, g1, e1, f, q1, hv1, W1⟩ := tame_of 100000 (m + 5) (by decide) N 40 (by omega) (by decide) xs hxs _ h hx
  have R1 := lst_rd W1
  subst hv1
  obtain ⟨oa, oc, ho⟩ := osl_shape q1 (lst f (2 ^ N)).length
  rw [ho] at e1 R1
  have hll := lst_len f (2 ^ N)
  have hlm : ∀ y ∈ lst f (2 ^ N), y < 2 ^ N := fun y hy => (lst_mem.1 hy).1
  rw [show J N = I (Int.ofNat N) from rfl, ← hZ] at e1
  refine ok_go 1 ?_
  refine sy_call 0 (by kernel_rfl) e1 ?_
  refine ok_go 0 ?_
  refine sy_loop 0 100000 g1 (α := Int × Nat) (fun y => [(0, J N), (2, I y.1), (7, .slice oa (lst f (2 ^ N)).length oc), (8, J y.2)]) (fun y g => y.2 ≤ 2 ∧ g1.Ext g) (fun y _ => 2 - y.2) (zi, 0) (by kernel_rfl) (by kernel_rfl)
    ⟨(by kernel_rfl : _ = I (zT z)).trans (by rw [hZ]), by kernel_rfl, by kernel_rfl, by kernel_rfl, trivial⟩ (show 2 - 0 < 100000 by omega) ⟨Nat.zero_le _, Hp.Ext.refl _⟩ ?_
  rintro m1 ⟨z2, k⟩ F1 g ⟨hk, X⟩ ih
  dsimp only at hk X
  have hw : IntKind.wrap .i64 (Int.ofNat (k + 1)) = Int.ofNat (k + 1) := wrap_nat (by omega)
  have R := R1.ext X
  refine ok_go 1 ?_
  refine sy_test 0 (decide (Int.ofNat k < 2)) (by kernel_rfl) ?_ ?_
  · intro hlt
    have hlt : k < 2 := ok_nat (b := 2) hlt
    by_cases hz : z2 < 0 ∨ z2 ≥ Int.ofNat (2 ^ N)
    · have e2 := tr_bad 100000 (m + 4) (by decide) N (by omega) z2 hz f _ g R
      refine ok_go 0 ?_
      refine sy_call 0 (by kernel_rfl) e2 ?_
      refine ok_go 3 ?_
      by_cases h0 : z2 < 0
      · refine sy_yes 0 (b := decide (z2 < 0)) (by kernel_rfl) (decide_eq_true h0) ?_
        refine ok_go 17 ?_
        refine sy_load 0 (r := pureX (binOp .rem 36 (.int .u64 (IntKind.u64.wrap z2)) (.int .u64 (IntKind.u64.wrap (1 * 2 ^ min (IntKind.u64.wrap (Int.ofNat N)).toNat IntKind.u64.bits))))) (h' := g) (by kernel_rfl) (x_rem (by rw [hshu]; exact fun h => by have h2 : ((2 ^ N : Nat) : Int) = 0 := h; omega)) ?_
        refine ok_go 2 ?_
        exact sy_next 0 _ g (by kernel_rfl) (by kernel_rfl) (ih (IntKind.i64.wrap ((IntKind.u64.wrap z2).tmod (IntKind.u64.wrap (1 * 2 ^ min (IntKind.u64.wrap (Int.ofNat N)).toNat IntKind.u64.bits))), k + 1) _ g ⟨show k + 1 ≤ 2 by omega, X⟩ (show 2 - (k + 1) < 2 - k by omega) ⟨by kernel_rfl, by kernel_rfl, by kernel_rfl, (by kernel_rfl : _ = Value.int .i64 (IntKind.wrap .i64 (Int.ofNat (k + 1)))).trans (by rw [hw]), trivial⟩)
      · refine sy_no 0 (b := decide (z2 < 0)) (by kernel_rfl) (decide_eq_false h0) ?_
        refine ok_go 8 ?_
        refine sy_yes 0 (b := decide (z2 ≥ IntKind.i64.wrap (1 * 2 ^ min (IntKind.u64.wrap (Int.ofNat N)).toNat IntKind.i64.bits))) (by kernel_rfl) (by rw [hsh]; exact decide_eq_true (hz.resolve_left h0)) ?_
        refine ok_go 11 ?_
        refine sy_load 0 (r := pureX (binOp .rem 36 (.int .u64 (IntKind.u64.wrap z2)) (.int .u64 (IntKind.u64.wrap (1 * 2 ^ min (IntKind.u64.wrap (Int.ofNat N)).toNat IntKind.u64.bits))))) (h' := g) (by kernel_rfl) (x_rem (by rw [hshu]; exact fun h => by have h2 : ((2 ^ N : Nat) : Int) = 0 := h; omega)) ?_
        refine ok_go 2 ?_
        exact sy_next 0 _ g (by kernel_rfl) (by kernel_rfl) (ih (IntKind.i64.wrap ((IntKind.u64.wrap z2).tmod (IntKind.u64.wrap (1 * 2 ^ min (IntKind.u64.wrap (Int.ofNat N)).toNat IntKind.u64.bits))), k + 1) _ g ⟨show k + 1 ≤ 2 by omega, X⟩ (show 2 - (k + 1) < 2 - k by omega) ⟨by kernel_rfl, by kernel_rfl, by kernel_rfl, (by kernel_rfl : _ = Value.int .i64 (IntKind.wrap .i64 (Int.ofNat (k + 1)))).trans (by rw [hw]), trivial⟩)
    · obtain ⟨i, rfl⟩ := Int.eq_ofNat_of_zero_le (show 0 ≤ z2 by omega)
      have hi : i < 2 ^ N := by
        have h2 : ¬ (i : Int) ≥ ((2 ^ N : Nat) : Int) := fun h => hz (.inr h)
        omega
      obtain ⟨v2, g2, e2, q2, rfl, W2⟩ := tr_ok 100000 (m + 4) (by decide) N (by omega) i hi f _ g R
      obtain ⟨v3, g3, e3, q3, rfl, W3⟩ := rtr_of 100000 (m + 4) (by decide) N (by omega) i (lst f (2 ^ N)) (by omega) hlm _ g2 (R.ext W2.ext)
      have hTT : lst (fun k => decide (k ∈ (lst f (2 ^ N)).map (· &&& i))) 1024 = lst (fun k => decide (k ∈ (lst f (2 ^ N)).map (· &&& i))) (2 ^ N) := by
        have := lst_sp (f := fun k => decide (k ∈ (lst f (2 ^ N)).map (· &&& i))) (N := 2 ^ N) (fun j hj => by
          have hj : j ∈ (lst f (2 ^ N)).map (· &&& i) := of_decide_eq_true hj
          obtain ⟨y, hy, rfl⟩ := List.mem_map.1 hj
          have h1 := hlm y hy
          have h2 : y &&& i ≤ y := Nat.and_le_left
          show y &&& i < 2 ^ N
          omega) (1024 - 2 ^ N)
        rwa [show 2 ^ N + (1024 - 2 ^ N) = 1024 by omega] at this
      rw [hTT] at e2 W2
      have hTl := lst_len (fun k => decide (k ∈ (lst f (2 ^ N)).map (· &&& i))) (2 ^ N)
      have RT2 := (lst_rd W2).ext W3.ext
      have RT3 := lst_rd W3
      generalize hTd : lst (fun k => decide (k ∈ (lst f (2 ^ N)).map (· &&& i))) (2 ^ N) = T at *
      have e4 := sameT (m + 5) T (by omega) _ _ g3 RT2 RT3
      obtain ⟨pa, pc, hp⟩ := osl_shape q2 T.length
      obtain ⟨ra, rc, hr⟩ := osl_shape q3 T.length
      rw [hp] at e2 e4
      rw [hr] at e3 e4
      refine ok_go 0 ?_
      refine sy_call 0 (by kernel_rfl) e2 ?_
      refine ok_go 12 ?_
      refine sy_no 0 (b := decide (Int.ofNat i ≥ IntKind.i64.wrap (1 * 2 ^ min (IntKind.u64.wrap (Int.ofNat N)).toNat IntKind.i64.bits))) (by kernel_rfl) (decide_eq_false (by rw [hsh]; show ¬ ((2 ^ N : Nat) : Int) ≤ (i : Int); omega)) ?_
      refine ok_go 6 ?_
      refine sy_call 0 (by kernel_rfl) e3 ?_
      refine ok_go 1 ?_
      refine sy_call 0 (by kernel_rfl) e4 ?_
      refine ok_go 7 ?_
      refine sy_load 0 (r := pureX (binOp .rem 36 (.int .u64 (IntKind.u64.wrap (Int.ofNat i))) (.int .u64 (IntKind.u64.wrap (1 * 2 ^ min (IntKind.u64.wrap (Int.ofNat N)).toNat IntKind.u64.bits))))) (h' := g3) (by kernel_rfl) (x_rem (by rw [hshu]; exact fun h => by have h2 : ((2 ^ N : Nat) : Int) = 0 := h; omega)) ?_
      refine ok_go 2 ?_
      exact sy_next 0 _ g3 (by kernel_rfl) (by kernel_rfl) (ih (IntKind.i64.wrap ((IntKind.u64.wrap (Int.ofNat i)).tmod (IntKind.u64.wrap (1 * 2 ^ min (IntKind.u64.wrap (Int.ofNat N)).toNat IntKind.u64.bits))), k + 1) _ g3 ⟨show k + 1 ≤ 2 by omega, (X.trans W2.ext).trans W3.ext⟩ (show 2 - (k + 1) < 2 - k by omega) ⟨by kernel_rfl, by kernel_rfl, by kernel_rfl, (by kernel_rfl : _ = Value.int .i64 (IntKind.wrap .i64 (Int.ofNat (k + 1)))).trans (by rw [hw]), trivial⟩)
  · intro hlt
    have hk2 : k = 2 := Nat.le_antisymm hk (no_nat (b := 2) hlt)
    obtain ⟨_, g2, e2, q2, rfl, W2⟩ := shattered_of 100000 m (by decide) N (by omega) f _ g R
    obtain ⟨_, g3, e3, rfl, X3⟩ := dim_of 100000 m (by decide) N (by omega) f _ g2 (R.ext W2.ext)
    obtain ⟨_, g4, e4, rfl, X4⟩ := rdim_of 100000 (m + 2) (by decide) N (by omega) (lst f (2 ^ N)) (by omega) hlm _ g3 ((R.ext W2.ext).ext X3)
    obtain ⟨_, g5, e5, q5, rfl, W5⟩ := rshat_of 100000 (m + 3) (by decide) N (by omega) (lst f (2 ^ N)) (by omega) hlm _ g4 (((R.ext W2.ext).ext X3).ext X4)
    have hBG : lst (shB (lst f (2 ^ N)) (2 ^ N)) (2 ^ N) = lst (shG (lst f (2 ^ N))) (2 ^ N) := lst_cg fun j hj => shB_shG (by omega) hj
    rw [hBG] at e4 e5 W5
    have hlG := lst_len (shG (lst f (2 ^ N))) (2 ^ N)
    have R2 := (((lst_rd W2).ext X3).ext X4).ext W5.ext
    have R5 := lst_rd W5
    generalize hG : lst (shG (lst f (2 ^ N))) (2 ^ N) = G at *
    have e6 := sameT (m + 5) G (by omega) _ _ g5 R2 R5
    generalize dimS G (-1, 0) = D at *
    obtain ⟨sa, sc, hs⟩ := osl_shape q2 G.length
    obtain ⟨ra, rc, hr⟩ := osl_shape q5 G.length
    rw [hs] at e2 e6
    rw [hr] at e5 e6
    refine ok_go 0 ?_
    refine sy_call 0 (by kernel_rfl) e2 ?_
    refine ok_go 2 ?_
    refine sy_call 0 (by kernel_rfl) e3 ?_
    refine ok_go 3 ?_
    refine sy_call 0 (by kernel_rfl) e4 ?_
    refine ok_go 11 ?_
    refine sy_call 0 (by kernel_rfl) e5 ?_
    refine ok_go 1 ?_
    refine sy_call 0 (by kernel_rfl) e6 ?_
    refine ok_go 6 ?_
    refine sy_yes 0 (b := D.1 == D.1) (by kernel_rfl) (beq_self_eq_true _) ?_
    refine ok_go 4 ?_
    refine sy_yes 0 (b := Int.ofNat D.2 == Int.ofNat D.2) (by kernel_rfl) (beq_self_eq_true _) ?_
    refine ok_go 2 ?_
    exact sy_done 0 (v := .bool true) (h := g5) (by kernel_rfl) rfl
theorem said6 (z : Int) (zs : List Int) (hz : zs.length < 2 ^ 63) (xa : Option Addr) (xc : Nat) (zi : Int) (h : Hp) (hx : Rds h (.slice xa zs.length xc) (zs.map I)) (_ : WfS (.slice xa zs.length xc)) : ∃ H, evInv Tryz.prog orc 100000 1000 (.fn 6 [.int .i64 z, .slice xa zs.length xc, .int .i64 zi]) h = some (.bool true, H) :=
  law6 993 z zs hz zi _ h hx
end Go.Proofs.YtkfbfgcflnkllaaGreatDoor
