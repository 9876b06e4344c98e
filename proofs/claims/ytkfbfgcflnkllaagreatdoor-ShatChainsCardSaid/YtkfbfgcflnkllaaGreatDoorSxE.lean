/- Families: what Check says, and the reference's. -/
import Derived.Test.YtkfbfgcflnkllaaGreatDoorProg
import Derived.KernelRfl
import Derived.Test.YtkfbfgcflnkllaaGreatDoorSyF
import Derived.Test.YtkfbfgcflnkllaaGreatDoorSxC
namespace Go.Proofs.YtkfbfgcflnkllaaGreatDoor
open Go Go.Eng Nim
set_option maxRecDepth 100000
set_option maxHeartbeats 8000000
theorem rdI {h : Hp} {rv : Value} {zs : List Int} (hr : Rds h rv (zs.map I)) {k : Nat} (hk : k < zs.length) : ∃ p, indexAddrOp Tryz.prog 28 rv (J k) = some p ∧ loadT Tryz.prog h 3 p = some (I zs[k]) :=
  hr.read (e := 3) (by kernel_rfl) (by kernel_rfl) (by kernel_rfl) (by rw [List.getElem?_map, List.getElem?_eq_getElem hk]; rfl)
theorem rdN {h : Hp} {rv : Value} {r : List Nat} (hr : Rds h rv (r.map J)) {k : Nat} (hk : k < r.length) : ∃ p, indexAddrOp Tryz.prog 28 rv (J k) = some p ∧ loadT Tryz.prog h 3 p = some (J r[k]) :=
  hr.read (e := 3) (by kernel_rfl) (by kernel_rfl) (by kernel_rfl) (by rw [List.getElem?_map, List.getElem?_eq_getElem hk]; rfl)
theorem all_I (l : List Int) : (l.map I).all scalar = true := List.all_eq_true.2 fun v hv => by obtain ⟨n, _, rfl⟩ := List.mem_map.1 hv; rfl
theorem all_J (l : List Nat) : (l.map J).all scalar = true := List.all_eq_true.2 fun v hv => by obtain ⟨n, _, rfl⟩ := List.mem_map.1 hv; rfl
/-- What a cut of an argument, appended to none, comes to. -/
theorem raw_of (lf m : Nat) (k : Nat) (hk : k < 16777216) (zs : List Int) (x : Value) (h : Hp) (hx : Rds h x (zs.map I)) (hwf : WfS x) :
    ∃ v h', Ev lf (m + 1) 46 [x, J k] h = some (v, h') ∧ Rds h' v ((zs.take k).map I) ∧ h.Ext h' := by
  refine fnS_ok (Q := fun v h' => Rds h' v ((zs.take k).map I) ∧ h.Ext h') ?_
  have W := Sto.start h
  obtain ⟨xa, xc, hxs⟩ := hx.shape
  rw [List.length_map] at hxs
  subst hxs
  obtain ⟨K, hK, hK1, hK2, hK3⟩ : ∃ K : Nat, (if Int.ofNat k < Int.ofNat zs.length then Int.ofNat k else Int.ofNat zs.length) = Int.ofNat K ∧ K ≤ zs.length ∧ zs.take K = zs.take k ∧ K ≤ k := by
    by_cases h20 : k < zs.length
    · exact ⟨k, if_pos (by show (k : Int) < (zs.length : Int); omega), by omega, rfl, Nat.le_refl _⟩
    · exact ⟨zs.length, if_neg (by show ¬ (k : Int) < (zs.length : Int); omega), Nat.le_refl _, by rw [List.take_length, List.take_of_length_le (by omega)], by omega⟩
  obtain ⟨y, hy1, hy2⟩ := cut_row hwf hx (K := K) (by rw [List.length_map]; exact hK1)
  rw [← List.map_take, hK2] at hy2
  have hy1 : sliceOp Tryz.prog 28 (.slice xa zs.length xc) none (some (.int .i64 (Int.ofNat K))) none = some y := hy1
  rw [← hK] at hy1
  refine ok_go 2 ?_
  refine sy_any 0 (p := fun y => Rds h y ((zs.take k).map I)) (h' := h) ?_ ?_
  · cases xa with
    | none =>
      obtain ⟨h1, h2⟩ := hwf
      obtain rfl : zs = [] := List.eq_nil_of_length_eq_zero h1
      subst h2
      exact ⟨.slice none 0 0, .inl ⟨⟨_, rfl⟩, by rw [List.take_nil]; rfl⟩, by kernel_rfl⟩
    | some ra =>
      refine ⟨y, hy2, (by kernel_rfl : _ = (sliceOp Tryz.prog 28 (.slice (some ra) zs.length xc) none (some (.int .i64 (if Int.ofNat k < Int.ofNat zs.length then Int.ofNat k else Int.ofNat zs.length))) none).map (·, h)).trans ?_⟩
      rw [hy1]
      rfl
  intro y hy2
  obtain ⟨ya, yc, rfl⟩ := hy2.shape
  refine ok_go 0 ?_
  refine ow_rds 0 W slz28 hy2 (all_I _) (by rw [List.length_map, List.length_take]; omega) (by kernel_rfl) fun g2 sl2 ng2 hsl2 hsc2 W => ?_
  have RV : Rds g2 sl2 ((zs.take k).map I) := by
    rw [hsl2]
    exact osl_rd fun p hp => W.hold p (List.mem_append_right _ hp)
  obtain ⟨oa, oc, hos⟩ := RV.shape
  subst hos
  refine ok_go 0 ?_
  exact sy_done 0 (v := _) (h := g2) (by kernel_rfl) ⟨RV, W.ext⟩
/-- The number ahead of number i. -/
def lastI (zs : List Int) (i : Nat) : Int := if i = 0 then -1 else zs.getD (i - 1) 0
def badAt (n : Nat) (zs : List Int) (i : Nat) : Prop := zs.getD i 0 ≤ lastI zs i ∨ zs.getD i 0 ≥ 2 ^ n
def GoodTo (n : Nat) (zs : List Int) (k : Nat) : Prop := ∀ i, i < k → ¬ badAt n zs i
/-- What Check says: the first bad place, or none. -/
def FamR (n : Int) (zs : List Int) (e : Nat) : Prop := ((n < 0 ∨ 10 < n) ∧ e = 1) ∨ ∃ N : Nat, n = Int.ofNat N ∧ N ≤ 10 ∧ ((e = 80 ∧ ∃ i, i < zs.length ∧ GoodTo N zs i ∧ badAt N zs i) ∨ (e = 0 ∧ GoodTo N zs zs.length))
theorem FamR.uniq {n : Int} {zs : List Int} {e f : Nat} (h1 : FamR n zs e) (h2 : FamR n zs f) : e = f := by
  rcases h1 with ⟨a, rfl⟩ | ⟨N, rfl, hN, h1⟩ <;> rcases h2 with ⟨b, rfl⟩ | ⟨M, hM, hM2, h2⟩
  · rfl
  · subst hM
    have : ¬ ((Int.ofNat M) < 0 ∨ 10 < Int.ofNat M) := by rintro (h | h) <;> simp at h <;> omega
    exact absurd a this
  · have : ¬ ((Int.ofNat N) < 0 ∨ 10 < Int.ofNat N) := by rintro (h | h) <;> simp at h <;> omega
    exact absurd b this
  · cases hM
    rcases h1 with ⟨rfl, i, hi, _, hb⟩ | ⟨rfl, hg⟩ <;> rcases h2 with ⟨rfl, j, hj, _, hb2⟩ | ⟨rfl, hg2⟩
    · rfl
    · exact absurd hb (hg2 i hi)
    · exact absurd hb2 (hg j hj)
    · rfl
theorem FamR.ex (n : Int) (zs : List Int) : ∃ e, FamR n zs e := by
  by_cases h : n < 0 ∨ 10 < n
  · exact ⟨1, .inl ⟨h, rfl⟩⟩
  · obtain ⟨N, rfl⟩ := Int.eq_ofNat_of_zero_le (show 0 ≤ n by omega)
    have hN : N ≤ 10 := by simp at h; omega
    by_cases hg : GoodTo N zs zs.length
    · exact ⟨0, .inr ⟨N, rfl, hN, .inr ⟨rfl, hg⟩⟩⟩
    · have key : ∀ k, k ≤ zs.length → GoodTo N zs k ∨ ∃ i, i < k ∧ GoodTo N zs i ∧ badAt N zs i := fun k => by
        induction k with
        | zero => exact fun _ => .inl fun i hi => absurd hi (Nat.not_lt_zero i)
        | succ k ih =>
          intro hk
          rcases ih (by omega) with h | ⟨i, h1, h2, h3⟩
          · by_cases hb : badAt N zs k
            · exact .inr ⟨k, Nat.lt_succ_self k, h, hb⟩
            · refine .inl fun i hi => ?_
              rcases Nat.lt_succ_iff_lt_or_eq.1 hi with h' | rfl
              · exact h i h'
              · exact hb
          · exact .inr ⟨i, by omega, h2, h3⟩
      rcases key _ (Nat.le_refl _) with h | ⟨i, h1, h2, h3⟩
      · exact absurd h hg
      · exact ⟨80, .inr ⟨N, rfl, hN, .inl ⟨rfl, i, h1, h2, h3⟩⟩⟩
theorem chk_of (lf m : Nat) (n : Int) (zs : List Int) (hz : zs.length < 100000) (hlf : zs.length < lf) (x : Value) (h : Hp) (hx : Rds h x (zs.map I)) :
    ∃ e, FamR n zs e ∧ Ev lf (m + 1) 57 [I n, x] h = some (J e, h) := by
  suffices ∃ v h', Ev lf (m + 1) 57 [I n, x] h = some (v, h') ∧ ∃ e, FamR n zs e ∧ v = J e ∧ h' = h by
    obtain ⟨v, h', e1, e, e2, rfl, rfl⟩ := this
    exact ⟨e, e2, e1⟩
  refine fnS_ok (Q := fun v h' => ∃ e, FamR n zs e ∧ v = J e ∧ h' = h) ?_
  obtain ⟨xa, xc, hxs⟩ := hx.shape
  rw [List.length_map] at hxs
  subst hxs
  have W := Sto.start h
  by_cases h0 : n < 0
  · refine ok_go 1 ?_
    refine sy_yes 0 (b := decide (n < 0)) (by kernel_rfl) (decide_eq_true h0) ?_
    refine ok_go 3 ?_
    exact sy_done 0 (v := J 1) (h := h) (by kernel_rfl) ⟨1, .inl ⟨.inl h0, rfl⟩, rfl, rfl⟩
  refine ok_go 1 ?_
  refine sy_no 0 (b := decide (n < 0)) (by kernel_rfl) (decide_eq_false h0) ?_
  refine ok_go 3 ?_
  by_cases h10 : n > 10
  · refine sy_yes 0 (b := decide (n > 10)) (by kernel_rfl) (decide_eq_true h10) ?_
    refine ok_go 0 ?_
    exact sy_done 0 (v := J 1) (h := h) (by kernel_rfl) ⟨1, .inl ⟨.inr h10, rfl⟩, rfl, rfl⟩
  refine sy_no 0 (b := decide (n > 10)) (by kernel_rfl) (decide_eq_false h10) ?_
  obtain ⟨N, rfl⟩ := Int.eq_ofNat_of_zero_le (show 0 ≤ n by omega)
  have hN : N ≤ 10 := by have : ¬ (10 : Int) < (N : Int) := h10; omega
  have hsh := one_shl N (by omega)
  have hpw : Int.ofNat (2 ^ N) = (2 : Int) ^ N := by simp
  refine ok_go 1 ?_
  refine sy_loop 0 lf h (α := Nat) (fun i => [(0, J N), (5, I (lastI zs i)), (14, .slice xa zs.length xc), (15, J zs.length), (16, J i)]) (fun i g => i ≤ zs.length ∧ GoodTo N zs i ∧ g = h) (fun i _ => zs.length - i) 0 (by kernel_rfl) (by kernel_rfl)
    ⟨by kernel_rfl, by kernel_rfl, by kernel_rfl, by kernel_rfl, by kernel_rfl, trivial⟩ (show zs.length - 0 < lf by omega) ⟨Nat.zero_le _, fun i hi => absurd hi (Nat.not_lt_zero i), rfl⟩ ?_
  rintro m1 i F1 g ⟨hi, hG, rfl⟩ ih
  have hw : IntKind.wrap .i64 (Int.ofNat (i + 1)) = Int.ofNat (i + 1) := wrap_nat (by omega)
  refine ok_go 1 ?_
  refine sy_test 0 (decide (Int.ofNat i < Int.ofNat zs.length)) (by kernel_rfl) ?_ ?_
  · intro hlt
    have hlt : i < zs.length := ok_nat hlt
    obtain ⟨p, hp1, hp2⟩ := rdI hx hlt
    have hgd : zs.getD i 0 = zs[i] := by rw [List.getD_eq_getElem?_getD, List.getElem?_eq_getElem hlt]; rfl
    have hla : lastI zs (i + 1) = zs[i] := by unfold lastI; rw [if_neg (by omega), Nat.add_sub_cancel, hgd]
    refine ok_go 0 ?_
    refine sy_load 0 (r := indexAddrOp Tryz.prog 28 (.slice xa zs.length xc) (J i)) (h' := g) (by kernel_rfl) hp1 ?_
    refine ok_go 0 ?_
    refine sy_load 0 (r := loadT Tryz.prog g 3 p) (h' := g) (by kernel_rfl) hp2 ?_
    refine ok_go 1 ?_
    by_cases hb1 : zs[i] ≤ lastI zs i
    · refine sy_yes 0 (b := decide (zs[i] ≤ lastI zs i)) (by kernel_rfl) (decide_eq_true hb1) ?_
      refine ok_go 6 ?_
      exact sy_done 0 (v := J 80) (h := g) (by kernel_rfl) ⟨80, .inr ⟨N, rfl, hN, .inl ⟨rfl, i, hlt, hG, .inl (by rw [hgd]; exact hb1)⟩⟩, rfl, rfl⟩
    · refine sy_no 0 (b := decide (zs[i] ≤ lastI zs i)) (by kernel_rfl) (decide_eq_false hb1) ?_
      refine ok_go 8 ?_
      by_cases hb2 : zs[i] ≥ Int.ofNat (2 ^ N)
      · refine sy_yes 0 (b := decide (zs[i] ≥ IntKind.i64.wrap (1 * 2 ^ min (IntKind.u64.wrap (Int.ofNat N)).toNat IntKind.i64.bits))) (by kernel_rfl) (by rw [hsh]; exact decide_eq_true hb2) ?_
        refine ok_go 0 ?_
        exact sy_done 0 (v := J 80) (h := g) (by kernel_rfl) ⟨80, .inr ⟨N, rfl, hN, .inl ⟨rfl, i, hlt, hG, .inr (by rw [hgd, ← hpw]; exact hb2)⟩⟩, rfl, rfl⟩
      · refine sy_no 0 (b := decide (zs[i] ≥ IntKind.i64.wrap (1 * 2 ^ min (IntKind.u64.wrap (Int.ofNat N)).toNat IntKind.i64.bits))) (by kernel_rfl) (by rw [hsh]; exact decide_eq_false hb2) ?_
        refine ok_go 1 ?_
        refine sy_next 0 _ g (by kernel_rfl) (by kernel_rfl) (ih (i + 1) _ g ⟨hlt, fun j hj => ?_, rfl⟩ (show zs.length - (i + 1) < zs.length - i by omega) ⟨by kernel_rfl, (by kernel_rfl : _ = I zs[i]).trans (by rw [hla]), by kernel_rfl, by kernel_rfl, (by kernel_rfl : _ = Value.int .i64 (IntKind.wrap .i64 (Int.ofNat (i + 1)))).trans (by rw [hw]), trivial⟩)
        rcases Nat.lt_succ_iff_lt_or_eq.1 hj with h | rfl
        · exact hG j h
        · rintro (h | h)
          · rw [hgd] at h; exact hb1 h
          · rw [hgd, ← hpw] at h
            exact hb2 h
  · intro hlt
    have hlt : i = zs.length := Nat.le_antisymm hi (no_nat hlt)
    subst hlt
    refine ok_go 0 ?_
    exact sy_done 0 (v := J 0) (h := g) (by kernel_rfl) ⟨0, .inr ⟨N, rfl, hN, .inr ⟨rfl, hG⟩⟩, rfl, rfl⟩
end Go.Proofs.YtkfbfgcflnkllaaGreatDoor
namespace Go.Proofs.YtkfbfgcflnkllaaGreatDoor
open Go Go.Eng Nim
set_option maxRecDepth 100000
set_option maxHeartbeats 8000000
theorem rchk_of (lf m : Nat) (n : Int) (zs : List Int) (hz : zs.length < 100000) (hlf : zs.length < lf) (x : Value) (h : Hp) (hx : Rds h x (zs.map I)) :
    ∃ e, FamR n zs e ∧ Ev lf (m + 1) 54 [I n, x] h = some (J e, h) := by
  suffices ∃ v h', Ev lf (m + 1) 54 [I n, x] h = some (v, h') ∧ ∃ e, FamR n zs e ∧ v = J e ∧ h' = h by
    obtain ⟨v, h', e1, e, e2, rfl, rfl⟩ := this
    exact ⟨e, e2, e1⟩
  refine fnS_ok (Q := fun v h' => ∃ e, FamR n zs e ∧ v = J e ∧ h' = h) ?_
  obtain ⟨xa, xc, hxs⟩ := hx.shape
  rw [List.length_map] at hxs
  subst hxs
  have W := Sto.start h
  by_cases h0 : n < 0
  · refine ok_go 1 ?_
    refine sy_yes 0 (b := decide (n < 0)) (by kernel_rfl) (decide_eq_true h0) ?_
    refine ok_go 3 ?_
    exact sy_done 0 (v := J 1) (h := h) (by kernel_rfl) ⟨1, .inl ⟨.inl h0, rfl⟩, rfl, rfl⟩
  refine ok_go 1 ?_
  refine sy_no 0 (b := decide (n < 0)) (by kernel_rfl) (decide_eq_false h0) ?_
  refine ok_go 3 ?_
  by_cases h10 : n > 10
  · refine sy_yes 0 (b := decide (n > 10)) (by kernel_rfl) (decide_eq_true h10) ?_
    refine ok_go 0 ?_
    exact sy_done 0 (v := J 1) (h := h) (by kernel_rfl) ⟨1, .inl ⟨.inr h10, rfl⟩, rfl, rfl⟩
  refine sy_no 0 (b := decide (n > 10)) (by kernel_rfl) (decide_eq_false h10) ?_
  obtain ⟨N, rfl⟩ := Int.eq_ofNat_of_zero_le (show 0 ≤ n by omega)
  have hN : N ≤ 10 := by have : ¬ (10 : Int) < (N : Int) := h10; omega
  have hsh := one_shl N (by omega)
  have hpw : Int.ofNat (2 ^ N) = (2 : Int) ^ N := by simp
  refine ok_go 0 ?_
  refine sy_loop 0 lf h (α := Nat) (fun i => [(0, J N), (1, .slice xa zs.length xc), (5, J i)]) (fun i g => i ≤ zs.length ∧ GoodTo N zs i ∧ g = h) (fun i _ => zs.length - i) 0 (by kernel_rfl) (by kernel_rfl)
    ⟨by kernel_rfl, by kernel_rfl, by kernel_rfl, trivial⟩ (show zs.length - 0 < lf by omega) ⟨Nat.zero_le _, fun i hi => absurd hi (Nat.not_lt_zero i), rfl⟩ ?_
  rintro m1 i F1 g ⟨hi, hG, rfl⟩ ih
  have hw : IntKind.wrap .i64 (Int.ofNat (i + 1)) = Int.ofNat (i + 1) := wrap_nat (by omega)
  refine ok_go 2 ?_
  refine sy_test 0 (decide (Int.ofNat i < Int.ofNat zs.length)) (by kernel_rfl) ?_ ?_
  · intro hlt
    have hlt : i < zs.length := ok_nat hlt
    obtain ⟨p, hp1, hp2⟩ := rdI hx hlt
    have hgd : zs.getD i 0 = zs[i] := by rw [List.getD_eq_getElem?_getD, List.getElem?_eq_getElem hlt]; rfl
    have bad : ∀ {t : SA}, badAt N zs i → doneP (goS 0 t) = some (J 80, g) → Ok (fun v h' => ∃ e, FamR (Int.ofNat N) zs e ∧ v = J e ∧ h' = g) t := fun hb hd =>
      sy_done 0 (v := J 80) (h := g) hd ⟨80, .inr ⟨N, rfl, hN, .inl ⟨rfl, i, hlt, hG, hb⟩⟩, rfl, rfl⟩
    have hb0 : zs[i] < 0 → badAt N zs i := fun hz0 => by
      refine .inl ?_
      rw [hgd]
      unfold lastI
      split
      · omega
      · have := hG (i - 1) (by omega)
        have h3 : ¬ zs.getD (i - 1) 0 < 0 := fun hneg => by
          refine this (.inl ?_)
          have hne := fun k (_ : k < i) => hG k
          unfold lastI
          split
          · omega
          · have := hG (i - 1 - 1) (by omega)
            exact absurd hneg (by
              have key : ∀ k, k < i → 0 ≤ zs.getD k 0 := fun k => by
                induction k with
                | zero =>
                  intro hk
                  have := hG 0 hk
                  unfold badAt lastI at this
                  simp only [if_true] at this
                  omega
                | succ k ihk =>
                  intro hk
                  have h1 := ihk (by omega)
                  have := hG (k + 1) hk
                  unfold badAt lastI at this
                  rw [if_neg (by omega), Nat.add_sub_cancel] at this
                  omega
              have := key (i - 1) (by omega)
              omega)
        omega
    refine ok_go 0 ?_
    refine sy_load 0 (r := indexAddrOp Tryz.prog 28 (.slice xa zs.length xc) (J i)) (h' := g) (by kernel_rfl) hp1 ?_
    refine ok_go 0 ?_
    refine sy_load 0 (r := loadT Tryz.prog g 3 p) (h' := g) (by kernel_rfl) hp2 ?_
    refine ok_go 1 ?_
    by_cases hz0 : zs[i] < 0
    · refine sy_yes 0 (b := decide (zs[i] < 0)) (by kernel_rfl) (decide_eq_true hz0) ?_
      refine ok_go 14 ?_
      exact bad (hb0 hz0) (by kernel_rfl)
    refine sy_no 0 (b := decide (zs[i] < 0)) (by kernel_rfl) (decide_eq_false hz0) ?_
    refine ok_go 2 ?_
    refine sy_load 0 (r := indexAddrOp Tryz.prog 28 (.slice xa zs.length xc) (J i)) (h' := g) (by kernel_rfl) hp1 ?_
    refine ok_go 1 ?_
    refine sy_load 0 (r := loadT Tryz.prog g 3 p) (h' := g) (by kernel_rfl) hp2 ?_
    refine ok_go 8 ?_
    by_cases hb2 : zs[i] ≥ Int.ofNat (2 ^ N)
    · refine sy_yes 0 (b := decide (zs[i] ≥ IntKind.i64.wrap (1 * 2 ^ min (IntKind.u64.wrap (Int.ofNat N)).toNat IntKind.i64.bits))) (by kernel_rfl) (by rw [hsh]; exact decide_eq_true hb2) ?_
      refine ok_go 5 ?_
      exact bad (.inr (by rw [hgd, ← hpw]; exact hb2)) (by kernel_rfl)
    refine sy_no 0 (b := decide (zs[i] ≥ IntKind.i64.wrap (1 * 2 ^ min (IntKind.u64.wrap (Int.ofNat N)).toNat IntKind.i64.bits))) (by kernel_rfl) (by rw [hsh]; exact decide_eq_false hb2) ?_
    refine ok_go 3 ?_
    have next : badAt N zs i ∨ GoodTo N zs (i + 1) := by
      by_cases hb : badAt N zs i
      · exact .inl hb
      · refine .inr fun j hj => ?_
        rcases Nat.lt_succ_iff_lt_or_eq.1 hj with h | rfl
        · exact hG j h
        · exact hb
    by_cases hi0 : i = 0
    · subst hi0
      refine ok_go 15 ?_
      refine sy_next 0 _ g (by kernel_rfl) (by kernel_rfl) (ih 1 _ g ⟨hlt, next.resolve_left ?_, rfl⟩ (show zs.length - 1 < zs.length - 0 by omega) ⟨by kernel_rfl, by kernel_rfl, by kernel_rfl, trivial⟩)
      rintro (h | h)
      · rw [hgd] at h
        exact hz0 (by have h : zs[0] ≤ -1 := h; omega)
      · rw [hgd, ← hpw] at h
        exact hb2 h
    · obtain ⟨k, rfl⟩ : ∃ k, i = k + 1 := ⟨i - 1, by omega⟩
      have hk1 : IntKind.wrap .i64 (Int.ofNat (k + 1) - 1) = Int.ofNat k := wrap_sub (a := k + 1) (b := 1) (by omega) (by omega)
      obtain ⟨p2, hp3, hp4⟩ := rdI hx (show k < zs.length by omega)
      have hla : lastI zs (k + 1) = zs[k] := by unfold lastI; rw [if_neg (by omega), Nat.add_sub_cancel, List.getD_eq_getElem?_getD, List.getElem?_eq_getElem (by omega)]; rfl
      refine sy_yes 0 (b := decide (Int.ofNat (k + 1) > 0)) (by kernel_rfl) (decide_eq_true (by show (0 : Int) < ((k + 1 : Nat) : Int); omega)) ?_
      refine ok_go 4 ?_
      refine sy_load 0 (r := indexAddrOp Tryz.prog 28 (.slice xa zs.length xc) (I (IntKind.wrap .i64 (Int.ofNat (k + 1) - 1)))) (h' := g) (by kernel_rfl) (by rw [hk1]; exact hp3) ?_
      refine ok_go 1 ?_
      refine sy_load 0 (r := loadT Tryz.prog g 3 p2) (h' := g) (by kernel_rfl) hp4 ?_
      refine ok_go 3 ?_
      refine sy_load 0 (r := indexAddrOp Tryz.prog 28 (.slice xa zs.length xc) (J (k + 1))) (h' := g) (by kernel_rfl) hp1 ?_
      refine ok_go 1 ?_
      refine sy_load 0 (r := loadT Tryz.prog g 3 p) (h' := g) (by kernel_rfl) hp2 ?_
      refine ok_go 5 ?_
      by_cases hb3 : zs[k] ≥ zs[k + 1]
      · refine sy_yes 0 (b := decide (zs[k] ≥ zs[k + 1])) (by kernel_rfl) (decide_eq_true hb3) ?_
        refine ok_go 0 ?_
        exact bad (.inl (by rw [hgd, hla]; exact hb3)) (by kernel_rfl)
      · refine sy_no 0 (b := decide (zs[k] ≥ zs[k + 1])) (by kernel_rfl) (decide_eq_false hb3) ?_
        refine ok_go 1 ?_
        refine sy_next 0 _ g (by kernel_rfl) (by kernel_rfl) (ih (k + 1 + 1) _ g ⟨hlt, next.resolve_left ?_, rfl⟩ (show zs.length - (k + 1 + 1) < zs.length - (k + 1) by omega) ⟨by kernel_rfl, by kernel_rfl, (by kernel_rfl : _ = Value.int .i64 (IntKind.wrap .i64 (Int.ofNat (k + 1 + 1)))).trans (by rw [hw]), trivial⟩)
        rintro (h | h)
        · rw [hgd, hla] at h; exact hb3 h
        · rw [hgd, ← hpw] at h; exact hb2 h
  · intro hlt
    have hlt : i = zs.length := Nat.le_antisymm hi (no_nat hlt)
    subst hlt
    refine ok_go 0 ?_
    exact sy_done 0 (v := J 0) (h := g) (by kernel_rfl) ⟨0, .inr ⟨N, rfl, hN, .inr ⟨rfl, hG⟩⟩, rfl, rfl⟩
end Go.Proofs.YtkfbfgcflnkllaaGreatDoor
namespace Go.Proofs.YtkfbfgcflnkllaaGreatDoor
open Go Go.Eng Nim
set_option maxRecDepth 100000
set_option maxHeartbeats 8000000
theorem same_of (lf m : Nat) (xs ys : List Int) (hlf : xs.length < lf) (hx1 : xs.length < 2 ^ 62) (x y : Value) (g : Hp) (hx : Rds g x (xs.map I)) (hy : Rds g y (ys.map I)) : Ev lf (m + 1) 16 [x, y] g = some (.bool (decide (xs = ys)), g) := by
  refine fn_eq ?_
  obtain ⟨xa, xc, hxs⟩ := hx.shape
  obtain ⟨ya, yc, hys⟩ := hy.shape
  rw [List.length_map] at hxs hys
  subst hxs hys
  have W := Sto.start g
  refine ok_go 3 ?_
  by_cases hne : xs.length = ys.length
  · refine sy_no 0 (b := Int.ofNat xs.length != Int.ofNat ys.length) (by kernel_rfl) (by rw [hne]; exact bne_self_eq_false _) ?_
    refine ok_go 0 ?_
    refine sy_loop 0 lf g (α := Nat) (fun i => [(0, .slice xa xs.length xc), (1, .slice ya ys.length yc), (5, J i)]) (fun i g' => i ≤ xs.length ∧ xs.take i = ys.take i ∧ g' = g) (fun i _ => xs.length - i) 0 (by kernel_rfl) (by kernel_rfl)
      ⟨by kernel_rfl, by kernel_rfl, by kernel_rfl, trivial⟩ (show xs.length - 0 < lf by omega) ⟨Nat.zero_le _, rfl, rfl⟩ ?_
    rintro m1 i F1 g ⟨hi, hpre, rfl⟩ ih
    have hw : IntKind.wrap .i64 (Int.ofNat (i + 1)) = Int.ofNat (i + 1) := wrap_nat (by omega)
    refine ok_go 2 ?_
    refine sy_test 0 (decide (Int.ofNat i < Int.ofNat xs.length)) (by kernel_rfl) ?_ ?_
    · intro hlt
      have hlt : i < xs.length := ok_nat hlt
      obtain ⟨p, hp1, hp2⟩ := rdI hx hlt
      obtain ⟨q, hq1, hq2⟩ := rdI hy (show i < ys.length by omega)
      refine ok_go 0 ?_
      refine sy_load 0 (r := indexAddrOp Tryz.prog 28 (.slice xa xs.length xc) (J i)) (h' := g) (by kernel_rfl) hp1 ?_
      refine ok_go 0 ?_
      refine sy_load 0 (r := loadT Tryz.prog g 3 p) (h' := g) (by kernel_rfl) hp2 ?_
      refine ok_go 0 ?_
      refine sy_load 0 (r := indexAddrOp Tryz.prog 28 (.slice ya ys.length yc) (J i)) (h' := g) (by kernel_rfl) hq1 ?_
      refine ok_go 0 ?_
      refine sy_load 0 (r := loadT Tryz.prog g 3 q) (h' := g) (by kernel_rfl) hq2 ?_
      refine ok_go 1 ?_
      by_cases he : xs[i] = ys[i]
      · refine sy_no 0 (b := xs[i] != ys[i]) (by kernel_rfl) (by rw [he]; exact bne_self_eq_false _) ?_
        refine ok_go 1 ?_
        exact sy_next 0 _ g (by kernel_rfl) (by kernel_rfl) (ih (i + 1) _ g ⟨hlt, by rw [List.take_succ_eq_append_getElem hlt, List.take_succ_eq_append_getElem (by omega), hpre, he], rfl⟩ (show xs.length - (i + 1) < xs.length - i by omega) ⟨by kernel_rfl, by kernel_rfl, (by kernel_rfl : _ = Value.int .i64 (IntKind.wrap .i64 (Int.ofNat (i + 1)))).trans (by rw [hw]), trivial⟩)
      · refine sy_yes 0 (b := xs[i] != ys[i]) (by kernel_rfl) (bne_iff_ne.2 he) ?_
        refine ok_go 0 ?_
        refine sy_done 0 (v := .bool false) (h := g) (by kernel_rfl) ⟨?_, rfl⟩
        rw [decide_eq_false fun h => he (by subst h; rfl)]
    · intro hlt
      have hlt : i = xs.length := Nat.le_antisymm hi (no_nat hlt)
      subst hlt
      refine ok_go 0 ?_
      refine sy_done 0 (v := .bool true) (h := g) (by kernel_rfl) ⟨?_, rfl⟩
      rw [List.take_length, hne, List.take_length] at hpre
      rw [decide_eq_true hpre]
  · refine sy_yes 0 (b := Int.ofNat xs.length != Int.ofNat ys.length) (by kernel_rfl) (bne_iff_ne.2 fun h => hne (Int.ofNat.inj h)) ?_
    refine ok_go 0 ?_
    refine sy_done 0 (v := .bool false) (h := g) (by kernel_rfl) ⟨?_, rfl⟩
    rw [decide_eq_false fun h => hne (by rw [h])]
theorem x_rem {k : IntKind} {t : TypeId} {a b : Int} (hb : b ≠ 0) : pureX (binOp .rem t (.int k a) (.int k b)) = some (.int k (a.tmod b)) := by
  refine pureX_of ?_ rfl
  simp only [binOp, ne_eq, not_true_eq_false, if_false, Op.intDiv, hb]
  rfl
theorem size_of (lf m : Nat) (z : Int) (k : Nat) (hk : k < 1000000) : ∃ r : Nat, r ≤ k ∧ ∀ h, Ev lf (m + 1) 17 [I z, J k] h = some (J r, h) := by
  obtain ⟨u, hu⟩ : ∃ u : Nat, IntKind.wrap .u64 z = Int.ofNat u := Int.eq_ofNat_of_zero_le (by
    show 0 ≤ z % 2 ^ 64
    exact Int.emod_nonneg _ (by decide))
  have hk1 : IntKind.wrap .i64 (Int.ofNat k + 1) = Int.ofNat (k + 1) := wrap_add (a := k) (b := 1) (by omega)
  have hk2 : IntKind.wrap .u64 (Int.ofNat (k + 1)) = Int.ofNat (k + 1) := Int.emod_eq_of_lt (Int.natCast_nonneg _) (show ((k + 1 : Nat) : Int) < 18446744073709551616 by omega)
  have hr : u % (k + 1) ≤ k := Nat.le_of_lt_succ (Nat.mod_lt _ (Nat.succ_pos k))
  refine ⟨u % (k + 1), hr, fun h => fn_eq ?_⟩
  have hv : IntKind.wrap .i64 ((IntKind.wrap .u64 z).tmod (IntKind.wrap .u64 (IntKind.wrap .i64 (Int.ofNat k + 1)))) = Int.ofNat (u % (k + 1)) := by
    rw [hk1, hk2, hu]
    exact wrap_nat (n := u % (k + 1)) (by omega)
  refine ok_go 3 ?_
  refine sy_load 0 (r := pureX (binOp .rem 36 (.int .u64 (IntKind.wrap .u64 z)) (.int .u64 (IntKind.wrap .u64 (IntKind.wrap .i64 (Int.ofNat k + 1)))))) (h' := h) (by kernel_rfl) (x_rem (by rw [hk1, hk2]; exact fun h => absurd (Int.ofNat.inj h) (Nat.succ_ne_zero k))) ?_
  refine ok_go 1 ?_
  refine sy_done 0 (v := I (IntKind.wrap .i64 ((IntKind.wrap .u64 z).tmod (IntKind.wrap .u64 (IntKind.wrap .i64 (Int.ofNat k + 1)))))) (h := h) (by kernel_rfl) ⟨by rw [hv], rfl⟩
end Go.Proofs.YtkfbfgcflnkllaaGreatDoor
namespace Go.Proofs.YtkfbfgcflnkllaaGreatDoor
open Go Go.Eng Nim Ch
set_option maxRecDepth 100000
set_option maxHeartbeats 8000000
/-- Open elements, and partners. -/
def pmS (n s : Nat) : Nat → List Nat × List Int
  | 0 => ([], List.replicate n 0)
  | i + 1 => if s.testBit i = false then ((pmS n s i).1 ++ [i], (pmS n s i).2.set i (-1)) else match (pmS n s i).1.getLast? with
    | none => ((pmS n s i).1, (pmS n s i).2.set i (-1))
    | some k => ((pmS n s i).1.dropLast, (((pmS n s i).2.set i (-1)).set i (Int.ofNat k)).set k (Int.ofNat i))
theorem pmS_len (n s : Nat) : ∀ i, (pmS n s i).2.length = n
  | 0 => by simp [pmS]
  | i + 1 => by
    have := pmS_len n s i
    unfold pmS
    split
    · simpa using this
    · split <;> simpa using this
theorem pmS_lt (n s : Nat) : ∀ i, (∀ k ∈ (pmS n s i).1, k < i) ∧ (pmS n s i).1.length ≤ i
  | 0 => by simp [pmS]
  | i + 1 => by
    obtain ⟨h3, h4⟩ := pmS_lt n s i
    unfold pmS
    split
    · refine ⟨fun k hk => ?_, by simp; omega⟩
      rcases List.mem_append.1 hk with hk | hk
      · have := h3 k hk; omega
      · rw [List.mem_singleton.1 hk]; exact Nat.lt_succ_self i
    · split
      · exact ⟨fun k hk => by have := h3 k hk; omega, by dsimp only; omega⟩
      · exact ⟨fun x hx => by have := h3 x (List.dropLast_subset _ hx); omega, by simp; omega⟩
def pm (n s : Nat) : List Int := (pmS n s n).2
theorem make_sl {t e : TypeId} {z : Value} {inf : TypeInfo} (hu : Tryz.prog.underlying t = some (.slice e)) (hz : zeroOf Tryz.prog e = some z) (hi : Tryz.prog.info? e = some inf) (hb : Nat.ble inf.bytes 4096 = true) (hc : z.cells.toList = [z]) (hs : Nat.beq z.cells.size inf.size = true) (hsc : scalar z = true) (n : Nat) (hn : n ≤ most) (h : Hp) :
    makeSliceOp Tryz.prog h t (J n) (J n) = some (.slice (some ⟨h.next, 0, none⟩) n (2 * n), h.new (.cells (List.replicate n z) e false)) := by
  have hzz : ∀ k, zeros [z] k = List.replicate k z := fun k => by
    induction k with
    | zero => rfl
    | succ k ih => rw [zeros, ih]; rfl
  have hnn : natOf (J n) = some n := rfl
  simp only [makeSliceOp, hu, hnn, hz, hi, Nat.ble_eq_true_of_le (Nat.le_refl n), Nat.ble_eq_true_of_le hn, hb, hs, hc, List.all_cons, hsc, List.all_nil, Bool.and_true, hzz]
theorem mk28 (n : Nat) (hn : n ≤ most) (h : Hp) : makeSliceOp Tryz.prog h 28 (J n) (J n) = some (.slice (some ⟨h.next, 0, none⟩) n (2 * n), h.new (.cells (List.replicate n (J 0)) 3 false)) :=
  make_sl (by kernel_rfl) (by kernel_rfl) rfl (by kernel_rfl) rfl (by kernel_rfl) rfl n hn h
theorem mk37 (n : Nat) (hn : n ≤ most) (h : Hp) : makeSliceOp Tryz.prog h 37 (J n) (J n) = some (.slice (some ⟨h.next, 0, none⟩) n (2 * n), h.new (.cells (List.replicate n (.bool false)) 4 false)) :=
  make_sl (by kernel_rfl) (by kernel_rfl) rfl (by kernel_rfl) rfl (by kernel_rfl) rfl n hn h
theorem rmat_of (lf m : Nat) (hlf : 2000 ≤ lf) (n s : Nat) (hn : n ≤ 10) (_ : s < 1024) (h : Hp) :
    ∃ v h', Ev lf (m + 1) 61 [J n, J s] h = some (v, h') ∧ Rds h' v ((pm n s).map I) ∧ h.Ext h' := by
  refine fnS_ok (Q := fun v h' => Rds h' v ((pm n s).map I) ∧ h.Ext h') ?_
  have W := Sto.start h
  refine ok_go 0 ?_
  refine sy_call 0 (by kernel_rfl) (mk28 n (by unfold most; omega) h) ?_
  have W := W.new (.cells (List.replicate n (J 0)) 3 false)
  generalize hg1 : h.new (.cells (List.replicate n (J 0)) 3 false) = g1 at *
  have W : Sto h g1 [(h.next, .cells ((List.replicate n (0 : Int)).map I) 3 false)] := by rw [List.map_replicate]; exact W
  clear hg1
  generalize h.next = b5 at *
  have hout : ∀ (g : Hp) (cs : List Value) (R : List (Nat × AObj)), Sto h g ((b5, .cells cs 3 false) :: R) → b5 < g.next ∧ g.get b5 = some (.cells cs 3 false) := fun g cs R W => ⟨W.lt 0 rfl, W.get 0 rfl⟩
  refine ok_go 0 ?_
  refine sy_loop 0 lf g1 (α := Nat × Nat × List Value × Option Addr × Nat) (fun x => [(0, J n), (1, J s), (5, .slice (some ⟨b5, 0, none⟩) n (2 * n)), (6, .slice x.2.2.2.1 (pmS n s x.1).1.length x.2.2.2.2), (7, J x.1)]) (fun x g => x.1 ≤ n ∧ OSv x.2.1 x.2.2.1.length (pmS n s x.1).1.length (.slice x.2.2.2.1 (pmS n s x.1).1.length x.2.2.2.2) ∧ x.2.2.1.length ≤ x.1 ∧ x.2.2.1.take (pmS n s x.1).1.length = (pmS n s x.1).1.map J ∧ Sto h g ((b5, .cells ((pmS n s x.1).2.map I) 3 false) :: oent x.2.1 3 x.2.2.1)) (fun x _ => n - x.1) (0, 0, [], none, 0) (by kernel_rfl) (by kernel_rfl)
    ⟨by kernel_rfl, by kernel_rfl, by kernel_rfl, by kernel_rfl, by kernel_rfl, trivial⟩ (show n - 0 < lf by omega) ⟨Nat.zero_le n, .inl ⟨rfl, rfl, rfl⟩, Nat.le_refl _, rfl, W⟩ ?_
  clear W
  rintro m1 ⟨i, q, cs, oa, oc⟩ F1 g ⟨hi, hO, hcl, hct, W⟩ ih
  dsimp only at hi hO hcl hct W
  obtain ⟨hob, hol⟩ := pmS_lt n s i
  have hpl := pmS_len n s i
  have hw : IntKind.wrap .i64 (Int.ofNat (i + 1)) = Int.ofNat (i + 1) := wrap_nat (by omega)
  have hstep : pmS n s (i + 1) = if s.testBit i = false then ((pmS n s i).1 ++ [i], (pmS n s i).2.set i (-1)) else match (pmS n s i).1.getLast? with
    | none => ((pmS n s i).1, (pmS n s i).2.set i (-1))
    | some k => ((pmS n s i).1.dropLast, (((pmS n s i).2.set i (-1)).set i (Int.ofNat k)).set k (Int.ofNat i)) := rfl
  refine ok_go 1 ?_
  refine sy_test 0 (decide (Int.ofNat i < Int.ofNat n)) (by kernel_rfl) ?_ ?_
  · intro hlt
    have hlt : i < n := ok_nat hlt
    have hbit : s.testBit i = decide (s / 2 ^ i % 2 = 1) := Nat.testBit_eq_decide_div_mod_eq
    refine ok_go 0 ?_
    refine sy_load 0 (r := indexAddrOp Tryz.prog 28 (.slice (some ⟨b5, 0, none⟩) n (2 * n)) (J i)) (h' := g) (v := ptr b5 i) (by kernel_rfl) (idxS0 (e := 3) (by kernel_rfl) (by kernel_rfl) hlt) ?_
    refine ok_go 0 ?_
    refine ow_store (P := Tryz.prog) (T := 3) (off := i) (v := I (-1)) 0 0 W rfl (by rw [List.length_map, hpl]; exact hlt) (by kernel_rfl) rfl (by kernel_rfl) fun g2 ng2 W => ?_
    rw [← List.map_set] at W
    have W : Sto h g2 ((b5, .cells (((pmS n s i).2.set i (-1)).map I) 3 false) :: oent q 3 cs) := W
    have hdv : ((Int.ofNat s).fdiv (2 ^ min (IntKind.u64.wrap (Int.ofNat i)).toNat IntKind.i64.bits)).tmod 2 = Int.ofNat (s / 2 ^ i % 2) := by
      rw [min_v i (by omega), show (Int.ofNat s).fdiv (2 ^ i) = Int.ofNat (s / 2 ^ i) from shr_nat _ _]
      rfl
    generalize hbb : s / 2 ^ i % 2 = bb at hbit hdv
    have hbb2 : bb < 2 := by rw [← hbb]; exact Nat.mod_lt _ (by decide)
    refine ok_go 4 ?_
    refine sy_test 0 (((Int.ofNat s).fdiv (2 ^ min (IntKind.u64.wrap (Int.ofNat i)).toNat IntKind.i64.bits)).tmod 2 == 0) (by kernel_rfl) ?_ ?_
    · intro h0
      rw [hdv] at h0
      have h0 : bb = 0 := Int.ofNat.inj (eq_of_beq h0)
      have hbit : s.testBit i = false := by rw [hbit, h0]; rfl
      rw [if_pos hbit] at hstep
      refine ow_new 0 W (AObj.cells [Value.int IntKind.i64 (Int.ofNat (Prod.fst (i, q, cs, oa, oc)))] 3 false) (fun q => Value.slice (some { block := q, off := 0 }) 1 2) (by kernel_rfl) fun k1 nk1 Wk1 => ?_
      have W := Wk1
      have W : Sto h k1 ((g2.next, .cells [J i] 3 false) :: ([(b5, .cells (((pmS n s i).2.set i (-1)).map I) 3 false)] ++ oent q 3 cs)) := W
      obtain ⟨v', k2, q', cs', e2, hO', hcl', hct', hsv, W⟩ := os_app W hO rfl (by omega)
      obtain ⟨oa', oc', rfl⟩ := hO'.shape
      refine sy_call 0 (by kernel_rfl) e2 ?_
      refine ok_go 1 ?_
      exact sy_next 0 _ k2 (by kernel_rfl) (by kernel_rfl) (ih (i + 1, q', cs', oa', oc') _ k2 ⟨hlt, by dsimp only; rw [hstep, List.length_append]; exact hO', by dsimp only; omega, by dsimp only; rw [hstep, List.length_append, List.map_append, ← hct]; exact hct', by dsimp only; rw [hstep]; exact W⟩ (show n - (i + 1) < n - i by omega) ⟨by kernel_rfl, by kernel_rfl, by kernel_rfl, (by kernel_rfl : _ = Value.slice oa' ((pmS n s i).1.length + 1) oc').trans (by dsimp only; rw [hstep, List.length_append]; rfl), (by kernel_rfl : _ = Value.int .i64 (IntKind.wrap .i64 (Int.ofNat (i + 1)))).trans (by rw [hw]), trivial⟩)
    · intro h0
      rw [hdv] at h0
      have h0 : bb ≠ 0 := fun e => by rw [e] at h0; cases h0
      have hbit : s.testBit i = true := by rw [hbit]; exact decide_eq_true (by omega)
      rw [if_neg (by rw [hbit]; decide)] at hstep
      refine ok_go 2 ?_
      by_cases hlen : (pmS n s i).1.length = 0
      · have hnil : (pmS n s i).1 = [] := List.eq_nil_of_length_eq_zero hlen
        rw [show (pmS n s i).1.getLast? = none by rw [hnil]; rfl] at hstep
        refine sy_no 0 (b := decide (Int.ofNat (pmS n s i).1.length > 0)) (by kernel_rfl) (by rw [hlen]; rfl) ?_
        refine ok_go 1 ?_
        have hstep : pmS n s (i + 1) = ((pmS n s i).1, (pmS n s i).2.set i (-1)) := hstep
        exact sy_next 0 _ g2 (by kernel_rfl) (by kernel_rfl) (ih (i + 1, q, cs, oa, oc) _ g2 ⟨hlt, by dsimp only; rw [hstep]; exact hO, by dsimp only; omega, by dsimp only; rw [hstep]; exact hct, by dsimp only; rw [hstep]; exact W⟩ (show n - (i + 1) < n - i by omega) ⟨by kernel_rfl, by kernel_rfl, by kernel_rfl, (by kernel_rfl : _ = Value.slice oa (pmS n s i).1.length oc).trans (by rw [hstep]), (by kernel_rfl : _ = Value.int .i64 (IntKind.wrap .i64 (Int.ofNat (i + 1)))).trans (by rw [hw]), trivial⟩)
      · obtain ⟨L, hL⟩ : ∃ L, (pmS n s i).1.length = L + 1 := ⟨(pmS n s i).1.length - 1, by omega⟩
        have hk1 : IntKind.i64.wrap (Int.ofNat (pmS n s i).1.length - 1) = Int.ofNat L := by rw [hL]; exact wrap_sub (a := L + 1) (b := 1) (by omega) (by omega)
        obtain ⟨k, hk⟩ : ∃ k, (pmS n s i).1[L]? = some k := ⟨_, List.getElem?_eq_getElem (by omega)⟩
        have hlast : (pmS n s i).1.getLast? = some k := by rw [List.getLast?_eq_getElem?, hL]; exact hk
        have hki := hob k (List.mem_of_getElem? hk)
        rw [hlast] at hstep
        have hstep : pmS n s (i + 1) = ((pmS n s i).1.dropLast, (((pmS n s i).2.set i (-1)).set i (Int.ofNat k)).set k (Int.ofNat i)) := hstep
        obtain ⟨hc0, hlc, hv⟩ : 0 < cs.length ∧ (pmS n s i).1.length ≤ cs.length ∧ Value.slice oa (pmS n s i).1.length oc = .slice (some ⟨q, 0, none⟩) (pmS n s i).1.length (2 * cs.length + 1) := by
          rcases hO with ⟨a, b, _⟩ | hh
          · omega
          · exact hh
        cases hv
        have hcL : cs[L]? = some (J k) := by
          have : (cs.take (pmS n s i).1.length)[L]? = ((pmS n s i).1.map J)[L]? := by rw [hct]
          rw [List.getElem?_take, if_pos (by omega), List.getElem?_map, hk] at this
          exact this
        have hone : oent q 3 cs = [(q, .cells cs 3 true)] := by
          cases cs with
          | nil => cases hc0
          | cons a r => rfl
        rw [hone] at W
        refine sy_yes 0 (b := decide (Int.ofNat (pmS n s i).1.length > 0)) (by kernel_rfl) (decide_eq_true (by rw [hL]; show (0 : Int) < ((L + 1 : Nat) : Int); omega)) ?_
        refine ok_go 2 ?_
        refine sy_load 0 (r := indexAddrOp Tryz.prog 28 (.slice (some ⟨q, 0, none⟩) (pmS n s i).1.length (2 * cs.length + 1)) (I (IntKind.i64.wrap (Int.ofNat (pmS n s i).1.length - 1)))) (h' := g2) (v := ptr q L) (by kernel_rfl) (by rw [hk1]; exact idxS0 (e := 3) (by kernel_rfl) (by kernel_rfl) (by omega)) ?_
        refine ok_go 0 ?_
        refine ow_load (P := Tryz.prog) (T := 3) (off := L) 0 1 W rfl hcL (by kernel_rfl) (by kernel_rfl) ?_
        refine ok_go 2 ?_
        refine sy_load 0 (r := sliceOp Tryz.prog 28 (.slice (some ⟨q, 0, none⟩) (pmS n s i).1.length (2 * cs.length + 1)) none (some (I (IntKind.i64.wrap (Int.ofNat (pmS n s i).1.length - 1)))) none) (h' := g2) (v := .slice (some ⟨q, 0, none⟩) L (2 * cs.length + 1)) (by kernel_rfl) (by rw [hk1]; exact gl_hi (e := 3) (by kernel_rfl) (by kernel_rfl) (by omega) hc0) ?_
        refine ok_go 0 ?_
        refine sy_load 0 (r := indexAddrOp Tryz.prog 28 (.slice (some ⟨b5, 0, none⟩) n (2 * n)) (J i)) (h' := g2) (v := ptr b5 i) (by kernel_rfl) (idxS0 (e := 3) (by kernel_rfl) (by kernel_rfl) hlt) ?_
        refine ok_go 0 ?_
        refine ow_store (P := Tryz.prog) (T := 3) (off := i) (v := J k) 0 0 W rfl (by rw [List.length_map, List.length_set, hpl]; exact hlt) (by kernel_rfl) rfl (by kernel_rfl) fun g3 ng3 W => ?_
        have W : Sto h g3 [(b5, .cells ((((pmS n s i).2.set i (-1)).map I).set i (I (Int.ofNat k))) 3 false), (q, .cells cs 3 true)] := W
        rw [← List.map_set] at W
        refine ok_go 0 ?_
        refine sy_load 0 (r := indexAddrOp Tryz.prog 28 (.slice (some ⟨b5, 0, none⟩) n (2 * n)) (J k)) (h' := g3) (v := ptr b5 k) (by kernel_rfl) (idxS0 (e := 3) (by kernel_rfl) (by kernel_rfl) (by omega)) ?_
        refine ok_go 0 ?_
        refine ow_store (P := Tryz.prog) (T := 3) (off := k) (v := J i) 0 0 W rfl (by rw [List.length_map, List.length_set, List.length_set, hpl]; omega) (by kernel_rfl) rfl (by kernel_rfl) fun g4 ng4 W => ?_
        have W : Sto h g4 [(b5, .cells (((((pmS n s i).2.set i (-1)).set i (Int.ofNat k)).map I).set k (I (Int.ofNat i))) 3 false), (q, .cells cs 3 true)] := W
        rw [← List.map_set, ← hone] at W
        have hdl : (pmS n s i).1.dropLast.length = L := by rw [List.length_dropLast]; omega
        refine ok_go 1 ?_
        exact sy_next 0 _ g4 (by kernel_rfl) (by kernel_rfl) (ih (i + 1, q, cs, some ⟨q, 0, none⟩, 2 * cs.length + 1) _ g4 ⟨hlt, by dsimp only; rw [hstep]; dsimp only; rw [hdl]; exact .inr ⟨hc0, by omega, rfl⟩, by dsimp only; omega, by
          dsimp only
          rw [hstep]
          dsimp only
          rw [hdl, List.dropLast_eq_take, hL, Nat.add_sub_cancel, List.map_take, ← hct, List.take_take, Nat.min_eq_left (by omega)], by dsimp only; rw [hstep]; exact W⟩ (show n - (i + 1) < n - i by omega) ⟨by kernel_rfl, by kernel_rfl, by kernel_rfl, (by kernel_rfl : _ = Value.slice (some ⟨q, 0, none⟩) L (2 * cs.length + 1)).trans (by rw [hstep]; dsimp only; rw [hdl]), (by kernel_rfl : _ = Value.int .i64 (IntKind.wrap .i64 (Int.ofNat (i + 1)))).trans (by rw [hw]), trivial⟩)
  · intro hlt
    have hlt : i = n := Nat.le_antisymm hi (no_nat hlt)
    subst hlt
    refine ok_go 0 ?_
    refine sy_done 0 (v := .slice (some ⟨b5, 0, none⟩) i (2 * i)) (h := g) (by kernel_rfl) ⟨?_, W.ext⟩
    obtain ⟨h1, h2⟩ := hout g _ _ W
    refine .inr ⟨b5, 0, _, by rw [List.length_map]; unfold pm; rw [hpl], fun _ => ⟨h1, ?_⟩⟩
    unfold loadN
    rw [h2]
    exact takeN_all _
end Go.Proofs.YtkfbfgcflnkllaaGreatDoor
namespace Go.Proofs.YtkfbfgcflnkllaaGreatDoor
open Go Go.Eng Nim Ch
set_option maxRecDepth 100000
/-- Partners out of brackets. -/
def decS (n M C : Nat) : Nat → List Nat × List Int
  | 0 => ([], List.replicate n 0)
  | i + 1 => (fun p : List Nat × List Int => if M.testBit i = false then (p.1, p.2.set i (-1)) else if C.testBit i = false then (p.1 ++ [i], p.2.set i (-1)) else match p.1.getLast? with
    | none => (p.1, p.2.set i (-1))
    | some k => (p.1.dropLast, ((p.2.set i (-1)).set i (Int.ofNat k)).set k (Int.ofNat i))) (decS n M C i)
def decP (n M C : Nat) : List Int := (decS n M C n).2
def encM : Nat → List Int → Nat
  | _, [] => 0
  | i, x :: l => (if x = -1 then 0 else 2 ^ i) + encM (i + 1) l
def encC : Nat → List Int → Nat
  | _, [] => 0
  | i, x :: l => (if x = -1 ∨ x > Int.ofNat i then 0 else 2 ^ i) + encC (i + 1) l
theorem same_all : (allB 8 fun n => allB (2 ^ n) fun s => decide (pm n s = decP n (matM n s) (matC n s)) && decide (matM n s = encM 0 (pm n s)) && decide (matC n s = encC 0 (pm n s))) = true := by kernel_rfl
theorem pm_iff {n s t : Nat} (hn : n ≤ 7) (hs : s < 2 ^ n) (ht : t < 2 ^ n) : pm n s = pm n t ↔ matM n s = matM n t ∧ matC n s = matC n t := by
  have h := allB_ok same_all n (by omega)
  have h1 := allB_ok h s hs
  have h2 := allB_ok h t ht
  simp only [Bool.and_eq_true, decide_eq_true_eq] at h1 h2
  obtain ⟨⟨a1, a2⟩, a3⟩ := h1
  obtain ⟨⟨b1, b2⟩, b3⟩ := h2
  constructor
  · intro h
    exact ⟨by rw [a2, b2, h], by rw [a3, b3, h]⟩
  · rintro ⟨h1, h2⟩
    rw [a1, b1, h1, h2]
end Go.Proofs.YtkfbfgcflnkllaaGreatDoor
namespace Go.Proofs.YtkfbfgcflnkllaaGreatDoor
open Go Go.Eng Nim Ch
set_option maxRecDepth 100000
set_option maxHeartbeats 8000000
theorem idx_none {M C : Nat} : ∀ {gs : List Grp}, (∀ j (hj : j < gs.length), ¬ (gs[j].1 = M ∧ gs[j].2.1 = C)) → idxG gs M C = none
  | [], _ => rfl
  | g :: r, h => by
    rw [idxG_cons, if_neg (show ¬ (g.1 = M ∧ g.2.1 = C) from h 0 (by simp)), idx_none fun j hj => h (j + 1) (by simpa using hj)]
    rfl
theorem idx_some {M C : Nat} : ∀ {gs : List Grp} {k : Nat} (hk : k < gs.length), (∀ j (_ : j < k) (hj : j < gs.length), ¬ (gs[j].1 = M ∧ gs[j].2.1 = C)) → (gs[k].1 = M ∧ gs[k].2.1 = C) → idxG gs M C = some k
  | [], k, hk, _, _ => by cases hk
  | g :: r, 0, _, _, h => by rw [idxG_cons, if_pos (show g.1 = M ∧ g.2.1 = C from h)]
  | g :: r, k + 1, hk, h, h2 => by
    rw [idxG_cons, if_neg (show ¬ (g.1 = M ∧ g.2.1 = C) from h 0 (Nat.succ_pos k) (by simp)), idx_some (gs := r) (k := k) (by simpa using hk) (fun j hj hl => h (j + 1) (by omega) (by simpa using hl)) h2]
    rfl
/-- The reference's rows: one made by a literal, the longer ones by append. -/
def rvV (i n : Nat) : Value := .slice (some ⟨i, 0, none⟩) n (bif Nat.beq n 1 then 2 else 2 * n + 1)
def robj (row : List Nat) : AObj := .cells (row.map J) 3 (!Nat.beq row.length 1)
def rvals (ids : List Nat) (gs : List Grp) : List Value := List.zipWith (fun i (g : Grp) => rvV i g.2.2.length) ids gs
def rblks (ids : List Nat) (gs : List Grp) : List (Nat × AObj) := List.zipWith (fun i (g : Grp) => (i, robj g.2.2)) ids gs
theorem zip_set {α β γ : Type} (f : α → β → γ) : ∀ (l1 : List α) (l2 : List β) (i : Nat) (a : α) (b : β), List.zipWith f (l1.set i a) (l2.set i b) = (List.zipWith f l1 l2).set i (f a b)
  | [], _, _, _, _ => rfl
  | _ :: _, [], i, _, _ => by cases i <;> rfl
  | _ :: _, _ :: _, 0, _, _ => rfl
  | x :: l1, y :: l2, i + 1, a, b => by
    simp only [List.set_cons_succ, List.zipWith_cons_cons, zip_set f l1 l2 i a b]
theorem zip_get {α β γ : Type} (f : α → β → γ) {l1 : List α} {l2 : List β} {i : Nat} {a : α} {b : β} (h1 : l1[i]? = some a) (h2 : l2[i]? = some b) : (List.zipWith f l1 l2)[i]? = some (f a b) := by
  rw [List.getElem?_zipWith, h1, h2]
theorem perm_at {α : Type} : ∀ {l : List α} {i : Nat} {x : α}, l[i]? = some x → l.Perm (l.eraseIdx i ++ [x])
  | [], _, _, h => by simp at h
  | y :: l, 0, x, h => by cases h; exact (List.perm_append_comm (l₁ := [y]) (l₂ := l))
  | y :: l, i + 1, x, h => (perm_at (l := l) (i := i) (by simpa using h)).cons y
theorem perm_set {α : Type} : ∀ {l : List α} {i : Nat} (y : α), i < l.length → (l.eraseIdx i ++ [y]).Perm (l.set i y)
  | [], _, _, h => by cases h
  | z :: l, 0, y, _ => (List.perm_append_comm (l₁ := l) (l₂ := [y]))
  | z :: l, i + 1, y, h => (perm_set (l := l) (i := i) y (by simpa using h)).cons z
theorem rblks_len {ids : List Nat} {gs : List Grp} (h : ids.length = gs.length) : (rblks ids gs).length = gs.length := by
  unfold rblks
  rw [List.length_zipWith, h, Nat.min_self]
theorem rvals_len {ids : List Nat} {gs : List Grp} (h : ids.length = gs.length) : (rvals ids gs).length = gs.length := by
  unfold rvals
  rw [List.length_zipWith, h, Nat.min_self]
theorem rv_sc (i n : Nat) : scalar (rvV i n) = true := rfl
theorem app_row {h H : Hp} {l : List (Nat × AObj)} {i j s : Nat} {row : List Nat} (W : Sto h H ((j, .cells [J s] 3 false) :: (l ++ [(i, robj row)]))) (hr : row ≠ []) (hl : row.length ≤ 2000) :
    ∃ H', appendOp Tryz.prog H 28 (rvV i row.length) (.slice (some ⟨j, 0, none⟩) 1 2) = some (rvV H.next (row ++ [s]).length, H') ∧ Sto h H' (l ++ [(H.next, robj (row ++ [s]))]) := by
  have hj : H.get j = some (.cells [J s] 3 false) := W.get 0 rfl
  have hel : elems H 1 (0 + 1) (.slice (some ⟨j, 0, none⟩) 1 2) = some [J s] := by
    simp only [elems, loadN, hj]; rfl
  have W := W.sub (List.sublist_cons_self ..)
  cases row with
  | nil => exact absurd rfl hr
  | cons a r =>
  cases r with
  | nil =>
    have hi : H.get i = some (.cells [J a] 3 false) := W.get l.length (by rw [List.getElem?_append_right (Nat.le_refl _), Nat.sub_self]; rfl)
    obtain ⟨inf, hi1, hi2⟩ := slz28.i
    obtain ⟨zv, hz1, hz2⟩ := slz28.zr
    have h3 : loadN H i 0 (1 * 1) = some [J a] := by unfold loadN; rw [hi]; rfl
    refine ⟨H.new (.cells ([J a] ++ [J s]) 3 true), ?_, ?_⟩
    · show appendOp Tryz.prog H 28 (.slice (some ⟨i, 0, none⟩) 1 2) (.slice (some ⟨j, 0, none⟩) 1 2) = _
      simp only [appendOp, slz28.u, slz28.s, hi1, hz1, show lenV (.slice (some ⟨j, 0, none⟩) 1 2) = some 1 from rfl, show elems H 1 1 (.slice (some ⟨j, 0, none⟩) 1 2) = some [J s] from hel, hz2, hi2, show ([J s].all scalar) = true from rfl, show Nat.ble (1 + 1) most = true from rfl, show Nat.ble (1 + 1) (2 / 2) = false from rfl, h3]
      rfl
    · have W1 := (W.sub (List.sublist_append_left ..)).new (.cells ([J a] ++ [J s]) 3 true)
      exact W1.perm (List.perm_append_comm (l₁ := [(H.next, AObj.cells [J a, J s] 3 true)]) (l₂ := l))
  | cons b r =>
    obtain ⟨H', e1, _, W'⟩ := append_sto (P := Tryz.prog) (t := 28) (e := 3) (z := 1) (n := (a :: b :: r).length) (m := 0) (i := i) (l := l) (zs := (a :: b :: r).map J) (new := [J s]) (x := .slice (some ⟨j, 0, none⟩) 1 2) W slz28 (by rw [List.length_map, Nat.mul_one]) rfl rfl hel rfl (by omega)
    refine ⟨H', ?_, ?_⟩
    · refine Eq.trans (show _ = appendOp Tryz.prog H 28 (oslV i (a :: b :: r).length) (.slice (some ⟨j, 0, none⟩) 1 2) from rfl) (e1.trans ?_)
      rw [List.length_append]
      rfl
    · have : oent H.next 3 ((a :: b :: r).map J ++ [J s]) = [(H.next, robj ((a :: b :: r) ++ [s]))] := by
        unfold robj
        rw [List.map_append]
        rfl
      rw [this] at W'
      exact W'
theorem rchains_of (lf m : Nat) (hlf : 20000 ≤ lf) (n : Nat) (hn : n ≤ 7) (h : Hp)
    (rm : ∀ s h, s < 1024 → ∃ v h', Ev lf m 61 [J n, J s] h = some (v, h') ∧ Rds h' v ((pm n s).map I) ∧ h.Ext h')
    (sm : ∀ (xs ys : List Int) (x y : Value) (g : Hp), xs.length ≤ 1000 → Rds g x (xs.map I) → Rds g y (ys.map I) → Ev lf m 16 [x, y] g = some (.bool (decide (xs = ys)), g)) :
    ∃ v h', Ev lf (m + 1) 15 [J n] h = some (v, h') ∧ ∃ q ids, ids.length = (grp n (2 ^ n)).length ∧ v = oslV q (grp n (2 ^ n)).length ∧ Sto h h' (rblks ids (grp n (2 ^ n)) ++ oent q 28 (rvals ids (grp n (2 ^ n)))) := by
  refine fnS_ok (Q := fun v h' => ∃ q ids, ids.length = (grp n (2 ^ n)).length ∧ v = oslV q (grp n (2 ^ n)).length ∧ Sto h h' (rblks ids (grp n (2 ^ n)) ++ oent q 28 (rvals ids (grp n (2 ^ n))))) ?_
  have W := Sto.start h
  have hsh := one_shl n (by omega)
  have h2n : 2 ^ n ≤ 128 := Nat.pow_le_pow_right (by decide) hn
  have hpl : ∀ s, (pm n s).length = n := fun s => pmS_len n s n
  refine ok_go 0 ?_
  refine sy_loop 0 lf h (α := Nat × List Nat × Nat × Option Addr × Nat) (fun x => [(0, J n), (3, .slice x.2.2.2.1 (grp n x.1).length x.2.2.2.2), (4, J x.1)]) (fun x g => x.1 ≤ 2 ^ n ∧ x.2.1.length = (grp n x.1).length ∧ .slice x.2.2.2.1 (grp n x.1).length x.2.2.2.2 = oslV x.2.2.1 (grp n x.1).length ∧ Sto h g (rblks x.2.1 (grp n x.1) ++ oent x.2.2.1 28 (rvals x.2.1 (grp n x.1)))) (fun x _ => 2 ^ n - x.1) (0, [], 0, none, 0) (by kernel_rfl) (by kernel_rfl)
    ⟨by kernel_rfl, by kernel_rfl, by kernel_rfl, trivial⟩ (show 2 ^ n - 0 < lf by omega) ⟨Nat.zero_le _, rfl, rfl, W⟩ ?_
  clear W
  rintro m1 ⟨s, ids, q, oa, oc⟩ F1 g ⟨hs, hil, hos, W⟩ ih
  dsimp only at hs hil hos W
  have G := grp_ok n s
  have hw : IntKind.wrap .i64 (Int.ofNat (s + 1)) = Int.ofNat (s + 1) := wrap_nat (by omega)
  have hgs : grp n (s + 1) = addG (grp n s) (matM n s) (matC n s) s := rfl
  generalize hgrp : grp n s = gs at *
  have hgl : gs.length ≤ 128 := by have := G.num; omega
  have hvl := rvals_len hil
  refine ok_go 3 ?_
  refine sy_test 0 (decide (Int.ofNat s < IntKind.i64.wrap (1 * 2 ^ min (IntKind.u64.wrap (Int.ofNat n)).toNat IntKind.i64.bits))) (by kernel_rfl) ?_ ?_
  · intro hlt
    rw [hsh] at hlt
    have hlt : s < 2 ^ n := ok_nat hlt
    obtain ⟨mv, q1, e1, RM, X1⟩ := rm s g (by omega)
    obtain ⟨ma, mc, rfl⟩ := RM.shape
    rw [List.length_map, hpl] at e1 RM
    refine ok_go 0 ?_
    refine sy_call 0 (by kernel_rfl) e1 ?_
    have W := W.call X1
    refine ok_go 0 ?_
    refine sy_loop 0 lf q1 (α := Nat) (fun a => [(0, J n), (3, .slice oa gs.length oc), (4, J s), (5, .slice ma n mc), (6, J a)]) (fun a g' => a ≤ gs.length ∧ (∀ j (_ : j < a) (hj : j < gs.length), ¬ (gs[j].1 = matM n s ∧ gs[j].2.1 = matC n s)) ∧ q1.Ext g' ∧ Sto h g' (rblks ids gs ++ oent q 28 (rvals ids gs))) (fun a _ => gs.length - a) 0 (by kernel_rfl) (by kernel_rfl)
      ⟨by kernel_rfl, by kernel_rfl, by kernel_rfl, by kernel_rfl, by kernel_rfl, trivial⟩ (show gs.length - 0 < lf by omega) ⟨Nat.zero_le _, fun j hj => absurd hj (by omega), Hp.Ext.refl _, W⟩ ?_
    clear W
    rintro m2 a F2 g2 ⟨ha, hne, X2, W⟩ iha
    have RM2 := RM.ext X2
    have hwa : IntKind.wrap .i64 (Int.ofNat (a + 1)) = Int.ofNat (a + 1) := wrap_nat (by omega)
    refine ok_go 2 ?_
    refine sy_test 0 (decide (Int.ofNat a < Int.ofNat gs.length)) (by kernel_rfl) ?_ ?_
    · intro hal
      have hal : a < gs.length := ok_nat hal
      have hg : gs[a]? = some gs[a] := List.getElem?_eq_getElem hal
      obtain ⟨i', hi'⟩ : ∃ i, ids[a]? = some i := ⟨_, List.getElem?_eq_getElem (by omega)⟩
      have hva : (rvals ids gs)[a]? = some _ := zip_get (fun i (g : Grp) => rvV i g.2.2.length) hi' hg
      have hvne : 0 < (rvals ids gs).length := by omega
      have hoe : oent q 28 (rvals ids gs) = [(q, .cells (rvals ids gs) 28 true)] := by
        cases hv : rvals ids gs with
        | nil => rw [hv] at hvne; cases hvne
        | cons v r => rfl
      have G1 := G.ne _ (List.mem_of_getElem? hg)
      have G2 := G.key _ (List.mem_of_getElem? hg)
      have hbk : (rblks ids gs)[a]? = some _ := zip_get (fun i (g : Grp) => (i, robj g.2.2)) hi' hg
      have hkn := hne
      generalize hga : gs[a] = ga at *
      obtain ⟨gM, gC, row⟩ := ga
      dsimp only at G1 G2 hbk hva
      cases row with
      | nil => exact absurd rfl G1
      | cons x r =>
      obtain ⟨hxM, hxC, hxs⟩ := G2 x List.mem_cons_self
      obtain ⟨rl, hrl⟩ : ∃ rl, r.length = rl := ⟨_, rfl⟩
      obtain ⟨cp, hov⟩ : ∃ c, rvV i' (x :: r).length = .slice (some ⟨i', 0, none⟩) (rl + 1) c := ⟨_, by rw [← hrl]; rfl⟩
      rw [hov] at hva
      have hos2 : Value.slice oa gs.length oc = .slice (some ⟨q, 0, none⟩) gs.length (2 * gs.length + 1) := by
        rw [hos]
        cases hgl2 : gs.length with
        | zero => omega
        | succ k => rfl
      cases hos2
      have hgq := W.get (gs.length) (i := q) (o := .cells (rvals ids gs) 28 true) (by
        rw [hoe, List.getElem?_append_right (by rw [rblks_len hil]; exact Nat.le_refl _), rblks_len hil, Nat.sub_self]; rfl)
      have hgi := W.get a (i := i') (o := robj (x :: r)) (by
        rw [List.getElem?_append_left (by rw [rblks_len hil]; exact hal)]; exact hbk)
      obtain ⟨v3, q3, e3, R3, X3⟩ := rm x g2 (by omega)
      have e4 := sm (pm n x) (pm n s) v3 _ q3 (by rw [hpl]; omega) R3 (RM2.ext X3)
      obtain ⟨va, vc, rfl⟩ := R3.shape
      refine ok_go 3 ?_
      refine sy_load 0 (r := indexAddrOp Tryz.prog 22 (.slice (some ⟨q, 0, none⟩) gs.length (2 * gs.length + 1)) (J a)) (h' := g2) (v := ptr q a) (by kernel_rfl) (idxS0 (e := 28) (by kernel_rfl) (by kernel_rfl) hal) ?_
      refine ok_go 1 ?_
      refine sy_load 0 (r := loadT Tryz.prog g2 28 (ptr q a)) (h' := g2) (by kernel_rfl) (load1 (by kernel_rfl) hgq hva) ?_
      refine ok_go 3 ?_
      refine sy_load 0 (r := loadT Tryz.prog g2 3 (ptr i' 0)) (h' := g2) (v := J x) (by kernel_rfl) (load1 (off := 0) agI hgi rfl) ?_
      refine ok_go 1 ?_
      refine sy_call 0 (by kernel_rfl) e3 ?_
      refine ok_go 2 ?_
      refine sy_call 0 (by kernel_rfl) e4 ?_
      refine ok_go 3 ?_
      have hpi := pm_iff hn (show x < 2 ^ n by omega) hlt
      rw [hxM, hxC] at hpi
      by_cases heq : gM = matM n s ∧ gC = matC n s
      · refine sy_no 0 (b := !decide (pm n x = pm n s)) (by kernel_rfl) (by rw [decide_eq_true (hpi.2 heq)]; rfl) ?_
        have hix := idx_some hal hkn (by rw [hga]; exact heq)
        obtain ⟨row', hgi', hgad⟩ := addG_some (s := s) hix
        rw [hgad] at hgs
        have hrow : row' = x :: r := by
          rw [hg] at hgi'
          have := Option.some.inj hgi'
          exact (congrArg (fun g : Grp => g.2.2) this).symm
        subst hrow
        have hgle := G.len _ (List.mem_of_getElem? hgi')
        dsimp only at hgle
        have W := W.call X3
        refine ok_go 2 ?_
        refine sy_no 0 (b := decide (Int.ofNat a = Int.ofNat gs.length)) (by kernel_rfl) (decide_eq_false fun h => by have := Int.ofNat.inj h; omega) ?_
        refine ok_go 0 ?_
        refine sy_load 0 (r := indexAddrOp Tryz.prog 22 (.slice (some ⟨q, 0, none⟩) gs.length (2 * gs.length + 1)) (J a)) (h' := q3) (v := ptr q a) (by kernel_rfl) (idxS0 (e := 28) (by kernel_rfl) (by kernel_rfl) hal) ?_
        refine ok_go 0 ?_
        have hgq3 := W.get (gs.length) (i := q) (o := .cells (rvals ids gs) 28 true) (by
          rw [hoe, List.getElem?_append_right (by rw [rblks_len hil]; exact Nat.le_refl _), rblks_len hil, Nat.sub_self]; rfl)
        refine sy_load 0 (r := loadT Tryz.prog q3 28 (ptr q a)) (h' := q3) (by kernel_rfl) (load1 (by kernel_rfl) hgq3 hva) ?_
        rw [← hov]
        have W : Sto h q3 ((q, .cells (rvals ids gs) 28 true) :: ((rblks ids gs).eraseIdx a ++ [(i', robj (x :: r))])) := by
          rw [hoe] at W
          exact W.perm ((List.perm_append_comm (l₂ := [(q, AObj.cells (rvals ids gs) 28 true)])).trans ((perm_at hbk).cons _))
        refine ow_new 0 W (AObj.cells [Value.int IntKind.i64 (Int.ofNat s)] 3 false) (fun q => Value.slice (some { block := q, off := 0 }) 1 2) (by kernel_rfl) fun k1 nk1 Wk1 => ?_
        have W := Wk1
        have W : Sto h k1 ((q3.next, .cells [J s] 3 false) :: (((q, .cells (rvals ids gs) 28 true) :: (rblks ids gs).eraseIdx a) ++ [(i', robj (x :: r))])) := W
        obtain ⟨k2, e5, W⟩ := app_row W (by exact List.cons_ne_nil _ _) (by omega)
        refine sy_call 0 (by kernel_rfl) e5 ?_
        refine ok_go 0 ?_
        refine sy_load 0 (r := indexAddrOp Tryz.prog 22 (.slice (some ⟨q, 0, none⟩) gs.length (2 * gs.length + 1)) (J a)) (h' := k2) (v := ptr q a) (by kernel_rfl) (idxS0 (e := 28) (by kernel_rfl) (by kernel_rfl) hal) ?_
        refine ok_go 0 ?_
        have hst := store1 (P := Tryz.prog) (t := 28) (v := rvV k1.next (x :: r ++ [s]).length) (by kernel_rfl) rfl (W.get 0 rfl) (show a < (rvals ids gs).length by omega)
        have W := W.put 0 rfl (.cells ((rvals ids gs).set a (rvV k1.next (x :: r ++ [s]).length)) 28 true)
        refine sy_store 0 (by kernel_rfl) hst ?_
        generalize k2.put q (.cells ((rvals ids gs).set a (rvV k1.next (x :: r ++ [s]).length)) 28 true) = k3 at *
        have hZ1 : rvals (ids.set a k1.next) (gs.set a (matM n s, matC n s, x :: r ++ [s])) = (rvals ids gs).set a (rvV k1.next (x :: r ++ [s]).length) := zip_set (fun i (g : Grp) => rvV i g.2.2.length) ids gs a k1.next (matM n s, matC n s, x :: r ++ [s])
        have hZ2 : rblks (ids.set a k1.next) (gs.set a (matM n s, matC n s, x :: r ++ [s])) = (rblks ids gs).set a (k1.next, robj (x :: r ++ [s])) := zip_set (fun i (g : Grp) => (i, robj g.2.2)) ids gs a k1.next (matM n s, matC n s, x :: r ++ [s])
        have hZ3 : oent q 28 ((rvals ids gs).set a (rvV k1.next (x :: r ++ [s]).length)) = [(q, .cells ((rvals ids gs).set a (rvV k1.next (x :: r ++ [s]).length)) 28 true)] := by
          have hl0 : ((rvals ids gs).set a (rvV k1.next (x :: r ++ [s]).length)).length = gs.length := by rw [List.length_set, hvl]
          cases hv : (rvals ids gs).set a (rvV k1.next (x :: r ++ [s]).length) with
          | nil => rw [hv] at hl0; have hl0 : 0 = gs.length := hl0; omega
          | cons v r => rfl
        have W : Sto h k3 (rblks (ids.set a k1.next) (gs.set a (matM n s, matC n s, x :: r ++ [s])) ++ oent q 28 (rvals (ids.set a k1.next) (gs.set a (matM n s, matC n s, x :: r ++ [s])))) := by
          rw [hZ1, hZ2, hZ3]
          exact W.perm (((perm_set (k1.next, robj (x :: r ++ [s])) (show a < (rblks ids gs).length by rw [rblks_len hil]; exact hal)).cons _).trans (List.perm_append_comm (l₁ := [(q, AObj.cells ((rvals ids gs).set a (rvV k1.next (x :: r ++ [s]).length)) 28 true)])))
        refine ok_go 1 ?_
        exact sy_next 0 _ k3 (by kernel_rfl) (by kernel_rfl) (ih (s + 1, ids.set a k1.next, q, some ⟨q, 0, none⟩, 2 * gs.length + 1) _ k3 ⟨hlt, by dsimp only; rw [hgs, List.length_set, List.length_set, hil], by dsimp only; rw [hgs, List.length_set]; exact hos, by dsimp only; rw [hgs]; exact W⟩ (show 2 ^ n - (s + 1) < 2 ^ n - s by omega) ⟨by kernel_rfl, (by kernel_rfl : _ = Value.slice (some ⟨q, 0, none⟩) gs.length (2 * gs.length + 1)).trans (by dsimp only; rw [hgs, List.length_set]), (by kernel_rfl : _ = Value.int .i64 (IntKind.wrap .i64 (Int.ofNat (s + 1)))).trans (by rw [hw]), trivial⟩)
      · refine sy_yes 0 (b := !decide (pm n x = pm n s)) (by kernel_rfl) (by rw [decide_eq_false fun h => heq (hpi.1 h)]; rfl) ?_
        refine ok_go 1 ?_
        exact sy_next 0 _ q3 (by kernel_rfl) (by kernel_rfl) (iha (a + 1) _ q3 ⟨hal, fun j hj hl => by
          rcases Nat.lt_succ_iff_lt_or_eq.1 hj with h' | rfl
          · exact hkn j h' hl
          · rw [hga]; exact heq, X2.trans X3, W.call X3⟩ (show gs.length - (a + 1) < gs.length - a by omega) ⟨by kernel_rfl, by kernel_rfl, by kernel_rfl, by kernel_rfl, (by kernel_rfl : _ = Value.int .i64 (IntKind.wrap .i64 (Int.ofNat (a + 1)))).trans (by rw [hwa]), trivial⟩)
    · intro hal
      have hal : a = gs.length := Nat.le_antisymm ha (no_nat hal)
      subst hal
      have hix := idx_none fun j hj => hne j hj hj
      rw [addG_none hix] at hgs
      refine ok_go 14 ?_
      refine sy_yes 0 (b := decide (Int.ofNat gs.length = Int.ofNat gs.length)) (by kernel_rfl) (decide_eq_true rfl) ?_
      refine ow_new 0 W (AObj.cells [Value.int IntKind.i64 (Int.ofNat s)] 3 false) (fun q => Value.slice (some { block := q, off := 0 }) 1 2) (by kernel_rfl) fun k1 nk1 Wk1 => ?_
      have W := Wk1
      refine ow_new 0 W (AObj.cells [Value.slice (some { block := Hp.next g2, off := 0 }) 1 2] 28 false) (fun q => Value.slice (some { block := q, off := 0 }) 1 2) (by kernel_rfl) fun k2 nk2 Wk2 => ?_
      have W := Wk2
      have W : Sto h k2 ((k1.next, .cells [rvV g2.next 1] 28 false) :: (((g2.next, robj [s]) :: rblks ids gs) ++ oent q 28 (rvals ids gs))) := W
      have hvl2 : (rvals ids gs).length = gs.length * 1 := by rw [hvl, Nat.mul_one]
      refine ow_app (P := Tryz.prog) (t := 22) (e := 28) (z := 1) (c := gs.length) (i := q) 0 W slz22 hvl2 rfl rfl (by omega) (by rw [← hos]; kernel_rfl) fun k3 sl nk3 hsl hsc W => ?_
      obtain ⟨oa2, oc2, ho2⟩ := osl_shape k2.next (gs.length + 1)
      rw [ho2] at hsl
      subst hsl
      have hZ1 : rvals (ids ++ [g2.next]) (gs ++ [(matM n s, matC n s, [s])]) = rvals ids gs ++ [rvV g2.next 1] := List.zipWith_append hil
      have hZ2 : rblks (ids ++ [g2.next]) (gs ++ [(matM n s, matC n s, [s])]) = rblks ids gs ++ [(g2.next, robj [s])] := List.zipWith_append hil
      have W : Sto h k3 (rblks (ids ++ [g2.next]) (gs ++ [(matM n s, matC n s, [s])]) ++ oent k2.next 28 (rvals (ids ++ [g2.next]) (gs ++ [(matM n s, matC n s, [s])]))) := by
        rw [hZ1, hZ2]
        exact W.perm ((List.perm_append_comm (l₁ := [(g2.next, robj [s])])).append_right _)
      refine ok_go 1 ?_
      exact sy_next 0 _ k3 (by kernel_rfl) (by kernel_rfl) (ih (s + 1, ids ++ [g2.next], k2.next, oa2, oc2) _ k3 ⟨hlt, by dsimp only; rw [hgs, List.length_append, List.length_append, hil]; rfl, by dsimp only; rw [hgs, List.length_append]; exact ho2.symm, by dsimp only; rw [hgs]; exact W⟩ (show 2 ^ n - (s + 1) < 2 ^ n - s by omega) ⟨by kernel_rfl, (by kernel_rfl : _ = Value.slice oa2 (gs.length + 1) oc2).trans (by dsimp only; rw [hgs, List.length_append]; rfl), (by kernel_rfl : _ = Value.int .i64 (IntKind.wrap .i64 (Int.ofNat (s + 1)))).trans (by rw [hw]), trivial⟩)
  · intro hlt
    rw [hsh] at hlt
    have hse : s = 2 ^ n := Nat.le_antisymm hs (no_nat hlt)
    subst hse
    refine ok_go 0 ?_
    refine sy_done 0 (v := .slice oa gs.length oc) (h := g) (by kernel_rfl) ⟨q, ids, by rw [hgrp]; exact hil, by rw [hgrp]; exact hos, by rw [hgrp]; exact W⟩
end Go.Proofs.YtkfbfgcflnkllaaGreatDoor
namespace Go.Proofs.YtkfbfgcflnkllaaGreatDoor
open Go Go.Eng Nim Ch
set_option maxRecDepth 100000
set_option maxHeartbeats 8000000
theorem ch_in (m : Nat) {z : Int} (h0 : ¬ z < 0) (h1 : ¬ z > 10) (h : Hp) : ∃ n : Nat, n ≤ 10 ∧ z = Int.ofNat n ∧ Ev 100000 (m + 1) 14 [I z] h = some (.tuple #[.slice (some ⟨h.next + (grp n (2 ^ n)).length, 0, none⟩) (grp n (2 ^ n)).length (2 * (grp n (2 ^ n)).length + 1), J 0], h.news (osC h (grp n (2 ^ n)))) := by
  obtain ⟨n, rfl⟩ := Int.eq_ofNat_of_zero_le (show 0 ≤ z by omega)
  have hn : n ≤ 10 := by omega
  refine ⟨n, hn, rfl, ?_⟩
  refine (chains_ev ..).trans ?_
  show (match Nat.ble n 10 with | true => _ | false => _) = _
  rw [Nat.ble_eq_true_of_le hn]
theorem ch_out (m : Nat) {z : Int} (h0 : z < 0 ∨ z > 10) (h : Hp) : Ev 100000 (m + 1) 14 [I z] h = some (.tuple #[.slice none 0 0, J 1], h) := by
  refine (chains_ev ..).trans ?_
  cases z with
  | negSucc k => rfl
  | ofNat n =>
    show (match Nat.ble n 10 with | true => _ | false => _) = _
    have : Nat.ble n 10 = false := by
      cases hb : Nat.ble n 10 with
      | false => rfl
      | true =>
        have := Nat.le_of_ble_eq_true hb
        rcases h0 with h | h
        · exact absurd h (by simp)
        · have : (10 : Int) < (n : Int) := h
          omega
    rw [this]
theorem ob_row {h g : Hp} {gs : List Grp} (X : (h.news (osC h gs)).Ext g) {b : Nat} {q : Grp} (hq : gs[b]? = some q) (hne : q.2.2 ≠ []) : Rds g (oslV (h.next + b) q.2.2.length) (q.2.2.map J) := by
  have hb := (List.getElem?_eq_some_iff.1 hq).1
  have hol : (osC h gs).length = gs.length + 1 := by unfold osC objsC; rw [List.length_append, List.length_map]; rfl
  have hg : (h.news (osC h gs)).get (h.next + b) = some (.cells (q.2.2.map J) 3 true) := by
    rw [Hp.news_get, if_pos ⟨by omega, by omega⟩, show h.next + b - h.next = b by omega]
    unfold osC objsC
    rw [List.getElem?_append_left (by rw [List.length_map]; exact hb), List.getElem?_map, hq]
    rfl
  have hr := osl_rd (H := h.news (osC h gs)) (e := 3) (i := h.next + b) (zs := q.2.2.map J) fun p hp => by
    cases hc : q.2.2 with
    | nil => exact absurd hc hne
    | cons a r =>
      rw [hc] at hp hg
      rw [List.mem_singleton.1 hp]
      exact ⟨by rw [Hp.news_next]; show h.next + b < _; omega, hg⟩
  rw [List.length_map] at hr
  exact hr.ext X
theorem rv_rd {H : Hp} {i : Nat} {row : List Nat} (h1 : i < H.next) (h2 : H.get i = some (robj row)) : Rds H (rvV i row.length) (row.map J) := by
  refine .inr ⟨i, 0, bif Nat.beq row.length 1 then 2 else 2 * row.length + 1, ?_, fun _ => ⟨h1, ?_⟩⟩
  · rw [List.length_map]; rfl
  · unfold loadN; rw [h2]; exact takeN_all _
theorem fnS_yes {lf n f : Nat} {args : List Value} {h : Hp} (hk : Ok (fun v _ => v = .bool true) (fnS Tryz.prog orc lf n f args h)) : ∃ H, Ev lf (n + 1) f args h = some (.bool true, H) := by
  obtain ⟨v, h', h1, rfl⟩ := fnS_ok hk
  exact ⟨h', h1⟩
theorem law3 (m : Nat) (z : Int) (h : Hp) : ∃ H, Ev 100000 (m + 6) 3 [I z] h = some (.bool true, H) := by
  refine fnS_yes ?_
  refine ok_go 0 ?_
  refine sy_loop 0 100000 h (α := Int × Nat) (fun x => [(0, I x.1), (3, J x.2)]) (fun x _ => x.2 ≤ 2) (fun x _ => 2 - x.2) (z, 0) (by kernel_rfl) (by kernel_rfl)
    ⟨by kernel_rfl, by kernel_rfl, trivial⟩ (show 2 - 0 < 100000 by omega) (Nat.zero_le _) ?_
  rintro m1 ⟨z, k⟩ F1 g hk ih
  dsimp only at hk
  have hw : IntKind.wrap .i64 (Int.ofNat (k + 1)) = Int.ofNat (k + 1) := wrap_nat (by omega)
  refine ok_go 1 ?_
  refine sy_test 0 (decide (Int.ofNat k < 2)) (by kernel_rfl) ?_ ?_
  · intro hlt
    have hlt : k < 2 := ok_nat (b := 2) hlt
    by_cases hz : z < 0 ∨ z > 10
    · have e1 := ch_out (m + 4) hz g
      refine ok_go 0 ?_
      refine sy_call 0 (by kernel_rfl) e1 ?_
      by_cases h0 : z < 0
      · refine ok_go 3 ?_
        refine sy_yes 0 (b := decide (z < 0)) (by kernel_rfl) (decide_eq_true h0) ?_
        refine ok_go 13 ?_
        exact sy_next 0 _ g (by kernel_rfl) (by kernel_rfl) (ih (IntKind.i64.wrap ((IntKind.u64.wrap z).tmod (IntKind.u64.wrap (IntKind.i64.wrap (10 + 1)))), k + 1) _ g (show k + 1 ≤ 2 by omega) (show 2 - (k + 1) < 2 - k by omega) ⟨by kernel_rfl, (by kernel_rfl : _ = Value.int .i64 (IntKind.wrap .i64 (Int.ofNat (k + 1)))).trans (by rw [hw]), trivial⟩)
      · have h1 : z > 10 := by omega
        refine ok_go 3 ?_
        refine sy_no 0 (b := decide (z < 0)) (by kernel_rfl) (decide_eq_false h0) ?_
        refine ok_go 3 ?_
        refine sy_yes 0 (b := decide (z > 10)) (by kernel_rfl) (decide_eq_true h1) ?_
        refine ok_go 10 ?_
        exact sy_next 0 _ g (by kernel_rfl) (by kernel_rfl) (ih (IntKind.i64.wrap ((IntKind.u64.wrap z).tmod (IntKind.u64.wrap (IntKind.i64.wrap (10 + 1)))), k + 1) _ g (show k + 1 ≤ 2 by omega) (show 2 - (k + 1) < 2 - k by omega) ⟨by kernel_rfl, (by kernel_rfl : _ = Value.int .i64 (IntKind.wrap .i64 (Int.ofNat (k + 1)))).trans (by rw [hw]), trivial⟩)
    · have h0 : ¬ z < 0 := fun h => hz (.inl h)
      have h1 : ¬ z > 10 := fun h => hz (.inr h)
      obtain ⟨n, hn, rfl, e1⟩ := ch_in (m + 4) h0 h1 g
      obtain ⟨gs, hgs⟩ : ∃ gs, grp n (2 ^ n) = gs := ⟨_, rfl⟩
      have G := grp_ok n (2 ^ n)
      have h2n : 2 ^ n ≤ 1024 := Nat.pow_le_pow_right (by decide) hn
      have hpos : 0 < gs.length := hgs ▸ grp_pos n (2 ^ n) (Nat.two_pow_pos n)
      by_cases h7 : n ≤ 7
      · obtain ⟨v2, g2, e2, q, ids, hil, rfl, W⟩ := rchains_of 100000 (m + 4) (by decide) n h7 (g.news (osC g gs)) (fun s h hs => rmat_of 100000 (m + 3) (by decide) n s hn hs h) (fun xs ys x y g hl hx hy => same_of 100000 (m + 3) xs ys (by omega) (by omega) x y g hx hy)
        rw [hgs] at e1 e2 G W hil
        have hgl : gs.length ≤ 1024 := by have := G.num; omega
        obtain ⟨L, hL⟩ : ∃ L, gs.length = L + 1 := ⟨gs.length - 1, by omega⟩
        have hov : oslV q gs.length = .slice (some ⟨q, 0, none⟩) gs.length (2 * gs.length + 1) := by rw [hL]; rfl
        rw [hov] at e2
        have hvl := rvals_len hil
        have hoe : oent q 28 (rvals ids gs) = [(q, .cells (rvals ids gs) 28 true)] := by
          cases hv : rvals ids gs with
          | nil => rw [hv] at hvl; have hvl : 0 = gs.length := hvl; omega
          | cons v r => rfl
        rw [hoe] at W
        have X := W.ext
        have hol : (osC g gs).length = gs.length + 1 := by unfold osC objsC; rw [List.length_append, List.length_map]; rfl
        have hgc : g2.get (g.next + gs.length) = some (.cells (valsG (idsC g gs.length) gs) 28 true) := by
          refine (X.get (g.next + gs.length) ?_).trans ?_
          · rw [Hp.news_next, hol]; omega
          · rw [Hp.news_get, if_pos ⟨by omega, by omega⟩, show g.next + gs.length - g.next = gs.length by omega]
            unfold osC objsC
            rw [List.getElem?_append_right (by rw [List.length_map]; exact Nat.le_refl _), List.length_map, Nat.sub_self]
            rfl
        have hgq := W.get gs.length (i := q) (o := .cells (rvals ids gs) 28 true) (by
          rw [List.getElem?_append_right (by rw [rblks_len hil]; exact Nat.le_refl _), rblks_len hil, Nat.sub_self]; rfl)
        refine ok_go 0 ?_
        refine sy_call 0 (by kernel_rfl) e1 ?_
        refine ok_go 7 ?_
        refine sy_no 0 (b := decide (Int.ofNat n > 10)) (by kernel_rfl) (decide_eq_false h1) ?_
        refine ok_go 1 ?_
        refine sy_yes 0 (b := decide (Int.ofNat n ≤ 7)) (by kernel_rfl) (decide_eq_true (by show (n : Int) ≤ 7; omega)) ?_
        refine ok_go 0 ?_
        refine sy_call 0 (by kernel_rfl) e2 ?_
        refine ok_go 10 ?_
        refine sy_no 0 (b := Int.ofNat gs.length != Int.ofNat gs.length) (by kernel_rfl) (bne_self_eq_false _) ?_
        refine ok_go 0 ?_
        refine sy_loop 0 100000 g2 (α := Nat) (fun i => [(0, J n), (3, J k), (4, .slice (some ⟨g.next + gs.length, 0, none⟩) gs.length (2 * gs.length + 1)), (6, .slice (some ⟨q, 0, none⟩) gs.length (2 * gs.length + 1)), (7, J i)]) (fun i g' => i ≤ gs.length ∧ g' = g2) (fun i _ => gs.length - i) 0 (by kernel_rfl) (by kernel_rfl)
          ⟨by kernel_rfl, by kernel_rfl, by kernel_rfl, by kernel_rfl, by kernel_rfl, trivial⟩ (show gs.length - 0 < 100000 by omega) ⟨Nat.zero_le _, rfl⟩ ?_
        rintro m2 i F2 g3 ⟨hi, rfl⟩ ihi
        have hwi : IntKind.wrap .i64 (Int.ofNat (i + 1)) = Int.ofNat (i + 1) := wrap_nat (by omega)
        refine ok_go 2 ?_
        refine sy_test 0 (decide (Int.ofNat i < Int.ofNat gs.length)) (by kernel_rfl) ?_ ?_
        · intro hil2
          have hil2 : i < gs.length := ok_nat hil2
          have hg : gs[i]? = some gs[i] := List.getElem?_eq_getElem hil2
          obtain ⟨i', hi'⟩ : ∃ b, ids[i]? = some b := ⟨_, List.getElem?_eq_getElem (by omega)⟩
          have hva : (rvals ids gs)[i]? = some _ := zip_get (fun i (g : Grp) => rvV i g.2.2.length) hi' hg
          have hbk : (rblks ids gs)[i]? = some _ := zip_get (fun i (g : Grp) => (i, robj g.2.2)) hi' hg
          have hvb := valsG_get hg (idsC_get (h := g) hil2)
          have G1 := G.ne _ (List.mem_of_getElem? hg)
          have G3 := G.len _ (List.mem_of_getElem? hg)
          have RA := ob_row X hg G1
          generalize gs[i] = ga at *
          obtain ⟨gM, gC, row⟩ := ga
          dsimp only at *
          obtain ⟨w1, w2, w3⟩ := W.all (i', robj row) (List.mem_append_left _ (List.mem_of_getElem? hbk))
          have RB := rv_rd (row := row) w2 w3
          have e3 := same_of 100000 (m + 4) (row.map Int.ofNat) (row.map Int.ofNat) (by rw [List.length_map]; omega) (by rw [List.length_map]; omega) (oslV (g.next + i) row.length) (rvV i' row.length) g3 (by rw [List.map_map]; exact RA) (by rw [List.map_map]; exact RB)
          rw [decide_eq_true rfl] at e3
          obtain ⟨ya, yc, hy⟩ := osl_shape (g.next + i) row.length
          rw [hy] at e3 hvb
          refine ok_go 0 ?_
          refine sy_load 0 (r := indexAddrOp Tryz.prog 22 (.slice (some ⟨g.next + gs.length, 0, none⟩) gs.length (2 * gs.length + 1)) (J i)) (h' := g3) (v := ptr (g.next + gs.length) i) (by kernel_rfl) (idxS0 (e := 28) (by kernel_rfl) (by kernel_rfl) hil2) ?_
          refine ok_go 0 ?_
          refine sy_load 0 (r := loadT Tryz.prog g3 28 (ptr (g.next + gs.length) i)) (h' := g3) (by kernel_rfl) (load1 (by kernel_rfl) hgc hvb) ?_
          refine ok_go 0 ?_
          refine sy_load 0 (r := indexAddrOp Tryz.prog 22 (.slice (some ⟨q, 0, none⟩) gs.length (2 * gs.length + 1)) (J i)) (h' := g3) (v := ptr q i) (by kernel_rfl) (idxS0 (e := 28) (by kernel_rfl) (by kernel_rfl) hil2) ?_
          refine ok_go 0 ?_
          refine sy_load 0 (r := loadT Tryz.prog g3 28 (ptr q i)) (h' := g3) (by kernel_rfl) (load1 (by kernel_rfl) hgq hva) ?_
          refine ok_go 0 ?_
          refine sy_call 0 (by kernel_rfl) e3 ?_
          refine ok_go 3 ?_
          exact sy_next 0 _ g3 (by kernel_rfl) (by kernel_rfl) (ihi (i + 1) _ g3 ⟨hil2, rfl⟩ (show gs.length - (i + 1) < gs.length - i by omega) ⟨by kernel_rfl, by kernel_rfl, by kernel_rfl, by kernel_rfl, (by kernel_rfl : _ = Value.int .i64 (IntKind.wrap .i64 (Int.ofNat (i + 1)))).trans (by rw [hwi]), trivial⟩)
        · intro hil2
          have hil2 : i = gs.length := Nat.le_antisymm hi (no_nat hil2)
          refine ok_go 2 ?_
          exact sy_next 0 _ g3 (by kernel_rfl) (by kernel_rfl) (ih (IntKind.i64.wrap ((IntKind.u64.wrap (Int.ofNat n)).tmod (IntKind.u64.wrap (IntKind.i64.wrap (10 + 1)))), k + 1) _ g3 (show k + 1 ≤ 2 by omega) (show 2 - (k + 1) < 2 - k by omega) ⟨by kernel_rfl, (by kernel_rfl : _ = Value.int .i64 (IntKind.wrap .i64 (Int.ofNat (k + 1)))).trans (by rw [hw]), trivial⟩)
      · rw [hgs] at e1
        refine ok_go 0 ?_
        refine sy_call 0 (by kernel_rfl) e1 ?_
        refine ok_go 7 ?_
        refine sy_no 0 (b := decide (Int.ofNat n > 10)) (by kernel_rfl) (decide_eq_false h1) ?_
        refine ok_go 1 ?_
        refine sy_no 0 (b := decide (Int.ofNat n ≤ 7)) (by kernel_rfl) (decide_eq_false (by show ¬ (n : Int) ≤ 7; omega)) ?_
        refine ok_go 2 ?_
        exact sy_next 0 _ (g.news (osC g gs)) (by kernel_rfl) (by kernel_rfl) (ih (IntKind.i64.wrap ((IntKind.u64.wrap (Int.ofNat n)).tmod (IntKind.u64.wrap (IntKind.i64.wrap (10 + 1)))), k + 1) _ (g.news (osC g gs)) (show k + 1 ≤ 2 by omega) (show 2 - (k + 1) < 2 - k by omega) ⟨by kernel_rfl, (by kernel_rfl : _ = Value.int .i64 (IntKind.wrap .i64 (Int.ofNat (k + 1)))).trans (by rw [hw]), trivial⟩)
  · intro hlt
    have hk2 : k = 2 := Nat.le_antisymm hk (no_nat (b := 2) hlt)
    refine ok_go 1 ?_
    exact sy_done 0 (v := .bool true) (h := g) (by kernel_rfl) rfl
end Go.Proofs.YtkfbfgcflnkllaaGreatDoor
namespace Go.Proofs.YtkfbfgcflnkllaaGreatDoor
open Go Go.Eng Nim
theorem said3 (z : Int) (h : Hp) : ∃ H, evInv Tryz.prog orc 100000 1000 (.fn 3 [.int .i64 z]) h = some (.bool true, H) := law3 994 z h
end Go.Proofs.YtkfbfgcflnkllaaGreatDoor
