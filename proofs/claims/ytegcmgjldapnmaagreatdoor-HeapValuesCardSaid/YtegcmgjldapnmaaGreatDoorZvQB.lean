/- ZvQB: contracts and laws of ZvB, ZvC, ZvD, ZvE, ZvG, ZvF, ZvK. -/
import Derived.Test.YtegcmgjldapnmaaGreatDoorProg
import Derived.KernelRfl
import Derived.Test.YtegcmgjldapnmaaGreatDoorSyF
import Derived.Test.YtegcmgjldapnmaaGreatDoorZvQA
import Derived.Test.YtegcmgjldapnmaaGreatDoorSyD
import Derived.ChangeSlices
import Derived.ChangeArms
namespace Go.Proofs.YtegcmgjldapnmaaGreatDoor
open Go Go.Eng Nim Oct
set_option maxRecDepth 100000
set_option maxHeartbeats 8000000
/-- A code. -/
def IsC (l : List Nat) : Prop := ∃ d : List Nat, l = codeS d ∧ 1 ≤ d.length ∧ d.length ≤ 8 ∧ ∀ n ∈ d, n < 8
theorem isC_good {l : List Nat} (h : IsC l) : ∃ d, l = codeS d ∧ Good d := by
  obtain ⟨d, h1, h2, h3, h4⟩ := h
  exact ⟨d, h1, ⟨h2, h3, h4⟩⟩
theorem chk_any (k : Nat) (l : List Nat) (hcl : ∀ n ∈ l, n < 256) (h : Hp) : ∃ v h', Ev 100000 (k + 4) 13 [.string (strL l)] h = some (v, h') ∧ h.Ext h' ∧ ((v = J 0 ∧ IsC l) ∨ (v = J 60 ∧ ¬ IsC l)) := by
  have co : ∀ (f : Nat → Bool) (q : Nat) (h : Hp), SetB q f h → ∀ c, c < 256 → Ev 100000 (k + 1) 88 [ptr q 0, .int .u8 (Int.ofNat c)] h = some (.bool (f c), h) := fun f q h A c hc => contains_of f q 100000 k c hc h A
  obtain ⟨v, h', e, X, z, rfl, h1, h2⟩ := check_of l hcl 100000 (k + 3) h
    (fun h => cut_of l 100000 (k + 2) h fun h => cutp_of l 100000 (k + 1) h fun h => has_of l 100000 k hcl h)
    (fun l h hl hll => by
      exact trim_of l hl (by omega) 100000 (k + 2) (by decide) h (fun h => set_of octs (by decide) (by decide) 100000 (k + 1) (by decide) h)
        (fun q h A => right_of (fun c => octs.contains c) q l hl (by omega) 100000 (k + 1) (by omega) h (co _ q h A))
        (fun l q h hl hll A => left_of (fun c => octs.contains c) q l hl (by omega) 100000 (k + 1) (by omega) h (co _ q h A)))
  refine ⟨_, h', e, X, ?_⟩
  rcases h1 with rfl | rfl
  · exact .inl ⟨rfl, h2.1 rfl⟩
  · exact .inr ⟨rfl, fun h => absurd (h2.2 h) (by decide)⟩
theorem rchk_any (l : List Nat) (hl : ∀ n ∈ l, n < 256) (lf m : Nat) (hlf : 300 ≤ lf) (h : Hp) : ∃ v h', Ev lf (m + 1) 12 [.string (strL l)] h = some (v, h') ∧ h' = h ∧ ((v = J 0 ∧ IsC l) ∨ (v = J 60 ∧ ¬ IsC l)) := by
  refine fnS_ok (Q := fun v h' => h' = h ∧ ((v = J 0 ∧ IsC l) ∨ (v = J 60 ∧ ¬ IsC l))) ?_
  have hlen : ∀ d : List Nat, l = codeS d → l.length = d.length + 2 := fun d hd => by rw [hd]; simp [codeS]
  have W := Sto.start h
  refine ok_go 2 ?_
  refine sy_test 0 (decide (Int.ofNat (ByteArray.size (strL l)) < 3)) (by kernel_rfl) ?_ ?_
  · intro ht
    have ht : l.length < 3 := by rw [strL_size] at ht; exact ok_nat (b := 3) ht
    refine sy_done 8 (v := Value.int IntKind.i64 (Int.ofNat 60)) (h := h) (by kernel_rfl) ?_
    refine ⟨rfl, .inr ⟨rfl, fun ⟨d, h1, h2, _⟩ => ?_⟩⟩
    have := hlen d h1
    omega
  intro ht
  have h3 : 3 ≤ l.length := by rw [strL_size] at ht; exact no_nat (b := 3) ht
  refine ok_go 5 ?_
  refine sy_test 0 (decide (Int.ofNat (ByteArray.size (strL l)) > 10)) (by kernel_rfl) ?_ ?_
  · intro ht
    have ht : 10 < l.length := by rw [strL_size] at ht; exact ok_nat (a := 10) ht
    refine sy_done 4 (v := Value.int IntKind.i64 (Int.ofNat 60)) (h := h) (by kernel_rfl) ?_
    refine ⟨rfl, .inr ⟨rfl, fun ⟨d, h1, _, h2, _⟩ => ?_⟩⟩
    have := hlen d h1
    omega
  intro ht
  have h10 : l.length ≤ 10 := by rw [strL_size] at ht; exact no_nat (a := 10) ht
  refine ok_go 1 ?_
  refine sy_load 0 (r := pureX (Instr.sliceAt 9 (.string (strL l)) none (some (J 2)) none)) (h' := h) (by kernel_rfl) (x_take (by omega)) ?_
  refine ok_go 3 ?_
  have heq : ((strL (l.take 2)).toList == (strL [48, 46]).toList) = decide (l.take 2 = [48, 46]) := strL_inj (fun n hn => hl n (List.mem_of_mem_take hn)) (by decide)
  by_cases h2 : l.take 2 = [48, 46]
  · refine sy_no 0 (b := !((strL (l.take 2)).toList == (strL [48, 46]).toList)) (by kernel_rfl) (by rw [heq, decide_eq_true h2]; rfl) ?_
    refine ok_go 0 ?_
    refine sy_loop 0 lf h (α := Nat) (fun i => [(0, .string (strL l)), (3, J i)]) (fun i g => 2 ≤ i ∧ i ≤ l.length ∧ g = h ∧ ∀ j, 2 ≤ j → j < i → 48 ≤ l.getD j 0 ∧ l.getD j 0 ≤ 55) (fun i _ => 20 - i) 2 (by kernel_rfl) (by kernel_rfl)
      ⟨by kernel_rfl, by kernel_rfl, trivial⟩ (show 20 - 2 < lf by omega) ⟨Nat.le_refl _, by omega, rfl, fun j h1 h2 => by omega⟩ ?_
    rintro m1 i f1 g ⟨hi2, hi, rfl, hj⟩ ih
    have hw : IntKind.wrap .i64 (Int.ofNat (i + 1)) = Int.ofNat (i + 1) := wrap_nat (by omega)
    refine ok_go 2 ?_
    refine sy_test 0 (decide (Int.ofNat i < Int.ofNat (ByteArray.size (strL l)))) (by kernel_rfl) ?_ ?_
    · intro hlt
      have hlt : i < l.length := by rw [strL_size] at hlt; exact ok_nat hlt
      have hli : l[i]? = some (l.getD i 0) := by rw [List.getD_eq_getElem?_getD, List.getElem?_eq_getElem hlt]; rfl
      have hn : l.getD i 0 < 256 := hl _ (List.mem_of_getElem? hli)
      have bad : ¬ (48 ≤ l.getD i 0 ∧ l.getD i 0 ≤ 55) → ¬ IsC l := by
        rintro hb ⟨d, hd, d1, d2, d3⟩
        apply hb
        have e : l[i]? = some (48 + d.getD (i - 2) 0) := by
          rw [hd]
          unfold codeS
          have := hlen d hd
          obtain ⟨k, rfl⟩ : ∃ k, i = k + 2 := ⟨i - 2, by omega⟩
          show (d.map (48 + ·))[k]? = _
          rw [List.getElem?_map, Nat.add_sub_cancel, List.getD_eq_getElem?_getD, List.getElem?_eq_getElem (show k < d.length by omega)]
          rfl
        rw [hli] at e
        have e := Option.some.inj e
        have hb : d.getD (i - 2) 0 < 8 := by
          rw [List.getD_eq_getElem?_getD]
          cases hx : d[i - 2]? with
          | none => exact (by decide : (0 : Nat) < 8)
          | some x => exact d3 x (List.mem_of_getElem? hx)
        omega
      generalize l.getD i 0 = n at *
      refine ok_go 0 ?_
      refine sy_load 0 (r := pureX (Instr.index 9 (.string (strL l)) (J i))) (h' := g) (by kernel_rfl) (x_index hli hn) ?_
      refine ok_go 1 ?_
      refine sy_test 0 (decide (Int.ofNat n < 48)) (by kernel_rfl) ?_ ?_
      · intro h48
        have h48 : n < 48 := ok_nat (b := 48) h48
        refine sy_done 5 (v := Value.int IntKind.i64 (Int.ofNat 60)) (h := g) (by kernel_rfl) ?_
        exact ⟨rfl, .inr ⟨rfl, bad (by omega)⟩⟩
      intro h48
      have h48 : 48 ≤ n := no_nat (b := 48) h48
      refine ok_go 2 ?_
      refine sy_load 0 (r := pureX (Instr.index 9 (.string (strL l)) (J i))) (h' := g) (by kernel_rfl) (x_index hli hn) ?_
      refine ok_go 3 ?_
      refine sy_test 0 (decide (Int.ofNat n > 55)) (by kernel_rfl) ?_ ?_
      · intro h55
        have h55 : 55 < n := ok_nat (a := 55) h55
        refine sy_done 0 (v := Value.int IntKind.i64 (Int.ofNat 60)) (h := g) (by kernel_rfl) ?_
        exact ⟨rfl, .inr ⟨rfl, bad (by omega)⟩⟩
      intro h55
      have h55 : n ≤ 55 := no_nat (a := 55) h55
      refine ok_go 1 ?_
      exact sy_next 0 _ g (by kernel_rfl) (by kernel_rfl) (ih (i + 1) _ g ⟨by omega, hlt, rfl, fun j h1 h2 => by
        rcases Nat.lt_succ_iff_lt_or_eq.1 h2 with h | rfl
        · exact hj j h1 h
        · rw [List.getD_eq_getElem?_getD, hli]; exact ⟨h48, h55⟩⟩ (show 20 - (i + 1) < 20 - i by omega) ⟨by kernel_rfl, (by kernel_rfl : _ = Value.int .i64 (IntKind.wrap .i64 (Int.ofNat (i + 1)))).trans (by rw [hw]), trivial⟩)
    · intro hlt
      have hlt : i = l.length := by rw [strL_size] at hlt; have := no_nat hlt; omega
      refine sy_done 0 (v := Value.int IntKind.i64 (Int.ofNat 0)) (h := g) (by kernel_rfl) ?_
      refine ⟨rfl, .inl ⟨rfl, (l.drop 2).map (· - 48), ?_, by rw [List.length_map, List.length_drop]; omega, by rw [List.length_map, List.length_drop]; omega, fun n hn => ?_⟩⟩
      · have hback : ((l.drop 2).map (· - 48)).map (48 + ·) = l.drop 2 := by
          rw [List.map_map]
          refine (List.map_congr_left fun x hx => ?_).trans (List.map_id _)
          obtain ⟨j, hj2, rfl⟩ := List.getElem_of_mem hx
          have hjl : j + 2 < l.length := by rw [List.length_drop] at hj2; omega
          have := hj (j + 2) (by omega) (by omega)
          rw [List.getD_eq_getElem?_getD, List.getElem?_eq_getElem hjl] at this
          rw [List.getElem_drop]
          have e : l[2 + j] = l[j + 2] := by congr 1; omega
          simp only [Option.getD_some] at this
          show 48 + (l[2 + j] - 48) = l[2 + j]
          omega
        unfold codeS
        rw [hback, ← h2, List.take_append_drop]
      · obtain ⟨x, hx, rfl⟩ := List.mem_map.1 hn
        obtain ⟨j, hj2, rfl⟩ := List.getElem_of_mem hx
        have hjl : j + 2 < l.length := by rw [List.length_drop] at hj2; omega
        have := hj (j + 2) (by omega) (by omega)
        rw [List.getD_eq_getElem?_getD, List.getElem?_eq_getElem hjl] at this
        rw [List.getElem_drop]
        have e : l[2 + j] = l[j + 2] := by congr 1; omega
        simp only [Option.getD_some] at this
        omega
  · refine sy_yes 0 (b := !((strL (l.take 2)).toList == (strL [48, 46]).toList)) (by kernel_rfl) (by rw [heq, decide_eq_false h2]; rfl) ?_
    refine sy_done 0 (v := Value.int IntKind.i64 (Int.ofNat 60)) (h := h) (by kernel_rfl) ?_
    refine ⟨rfl, .inr ⟨rfl, fun ⟨d, h1, _, _, _⟩ => h2 ?_⟩⟩
    rw [h1]
    rfl
end Go.Proofs.YtegcmgjldapnmaaGreatDoor
namespace Go.Proofs.YtegcmgjldapnmaaGreatDoor.Oct
def posL (zs : List Int) : List Nat := (zs.filter fun z => decide (0 ≤ z)).map Int.toNat
theorem mem_pos {zs : List Int} {j : Nat} : j ∈ posL zs ↔ Int.ofNat j ∈ zs := by
  unfold posL
  rw [List.mem_map]
  constructor
  · rintro ⟨z, hz, rfl⟩
    obtain ⟨h1, h2⟩ := List.mem_filter.1 hz
    have h2 := of_decide_eq_true h2
    rw [show Int.ofNat z.toNat = z from Int.toNat_of_nonneg h2]
    exact h1
  · intro h
    exact ⟨Int.ofNat j, List.mem_filter.2 ⟨h, decide_eq_true (Int.natCast_nonneg j)⟩, rfl⟩
theorem mexI_le (zs : List Int) : mex (posL zs) ≤ zs.length := by
  have h1 := (mexF_le (posL zs) (posL zs).length 0).2
  have h2 : (posL zs).length ≤ zs.length := by unfold posL; rw [List.length_map]; exact List.length_filter_le _ _
  unfold mex
  omega
end Go.Proofs.YtegcmgjldapnmaaGreatDoor.Oct
namespace Go.Proofs.YtegcmgjldapnmaaGreatDoor
open Go Go.Eng Nim Oct
set_option maxRecDepth 100000
set_option maxHeartbeats 8000000
theorem rdI {h : Hp} {rv : Value} {r : List Int} (hr : Rds h rv (r.map I)) {k : Nat} (hk : k < r.length) : ∃ p, indexAddrOp Tryz.prog 22 rv (J k) = some p ∧ loadT Tryz.prog h 3 p = some (I r[k]) :=
  hr.read (e := 3) (by kernel_rfl) (by kernel_rfl) (by kernel_rfl) (by rw [List.getElem?_map, List.getElem?_eq_getElem hk]; rfl)
theorem inT (zs : List Int) {i : Nat} (hi : i < zs.length) (z : Int) : decide (z ∈ zs.take (i + 1)) = (decide (z ∈ zs.take i) || (zs[i] == z)) := by
  rw [List.take_succ_eq_append_getElem hi, Bool.eq_iff_iff]
  simp only [List.mem_append, List.mem_singleton, decide_eq_true_eq, Bool.or_eq_true, beq_iff_eq]
  exact or_congr Iff.rfl eq_comm
theorem rmissing_of (zs : List Int) (lf m : Nat) (hlf : zs.length + 2 < lf) (hsm : lf < 2 ^ 62) (x : Value) (h : Hp) (hx : Rds h x (zs.map I)) : Ev lf (m + 1) 11 [x] h = some (J (mex (posL zs)), h) := by
  refine fn_eq ?_
  obtain ⟨xa, xc, hxs⟩ := hx.shape
  rw [List.length_map] at hxs
  subst hxs
  have hle := mexI_le zs
  refine ok_go 0 ?_
  refine sy_loop 0 lf h (α := Nat) (fun n => [(0, .slice xa zs.length xc), (3, J n)]) (fun n g => n ≤ mex (posL zs) ∧ g = h) (fun n _ => zs.length + 1 - n) 0 (by kernel_rfl) (by kernel_rfl)
    ⟨by kernel_rfl, by kernel_rfl, trivial⟩ (show zs.length + 1 - 0 < lf by omega) ⟨Nat.zero_le _, rfl⟩ ?_
  rintro m1 n f1 g ⟨hn, rfl⟩ ih
  have hwn : IntKind.wrap .i64 (Int.ofNat (n + 1)) = Int.ofNat (n + 1) := wrap_nat (by omega)
  refine ok_go 0 ?_
  refine sy_loop 0 lf g (α := Nat × Bool) (fun x => [(0, .slice xa zs.length xc), (3, J n), (4, .bool x.2), (5, J x.1)]) (fun x g' => x.1 ≤ zs.length ∧ g' = g ∧ x.2 = decide (Int.ofNat n ∈ zs.take x.1)) (fun x _ => zs.length - x.1) (0, false) (by kernel_rfl) (by kernel_rfl)
    ⟨by kernel_rfl, by kernel_rfl, by kernel_rfl, by kernel_rfl, trivial⟩ (show zs.length - 0 < lf by omega) ⟨Nat.zero_le _, rfl, by simp⟩ ?_
  rintro m2 ⟨i, b⟩ f2 g ⟨hi, rfl, hb⟩ ih2
  dsimp only at hi hb
  have hw : IntKind.wrap .i64 (Int.ofNat (i + 1)) = Int.ofNat (i + 1) := wrap_nat (by omega)
  refine ok_go 2 ?_
  refine sy_test 0 (decide (Int.ofNat i < Int.ofNat zs.length)) (by kernel_rfl) ?_ ?_
  · intro hlt
    have hlt : i < zs.length := ok_nat hlt
    have hin := inT zs hlt (Int.ofNat n)
    rw [← hb] at hin
    obtain ⟨p, hp1, hp2⟩ := rdI hx hlt
    cases b with
    | true =>
      refine ok_go 8 ?_
      exact sy_next 0 _ g (by kernel_rfl) (by kernel_rfl) (ih2 (i + 1, true) _ g ⟨hlt, rfl, hin.symm⟩ (show zs.length - (i + 1) < zs.length - i by omega) ⟨by kernel_rfl, by kernel_rfl, by kernel_rfl, (by kernel_rfl : _ = Value.int .i64 (IntKind.wrap .i64 (Int.ofNat (i + 1)))).trans (by rw [hw]), trivial⟩)
    | false =>
      refine ok_go 3 ?_
      refine sy_load 0 (r := indexAddrOp Tryz.prog 22 (.slice xa zs.length xc) (J i)) (h' := g) (by kernel_rfl) hp1 ?_
      refine ok_go 1 ?_
      refine sy_load 0 (r := loadT Tryz.prog g 3 p) (h' := g) (by kernel_rfl) hp2 ?_
      refine ok_go 5 ?_
      exact sy_next 0 _ g (by kernel_rfl) (by kernel_rfl) (ih2 (i + 1, zs[i] == Int.ofNat n) _ g ⟨hlt, rfl, hin.symm⟩ (show zs.length - (i + 1) < zs.length - i by omega) ⟨by kernel_rfl, by kernel_rfl, by kernel_rfl, (by kernel_rfl : _ = Value.int .i64 (IntKind.wrap .i64 (Int.ofNat (i + 1)))).trans (by rw [hw]), trivial⟩)
  · intro hlt
    have hlt : i = zs.length := Nat.le_antisymm hi (no_nat hlt)
    subst hlt
    rw [List.take_length] at hb
    have hs := mex_spec (posL zs)
    cases b with
    | true =>
      have hmem : n ∈ posL zs := mem_pos.2 (of_decide_eq_true hb.symm)
      have hnlt : n < mex (posL zs) := Nat.lt_of_le_of_ne hn fun h => hs.2 (h ▸ hmem)
      refine ok_go 3 ?_
      exact sy_next 0 _ g (by kernel_rfl) (by kernel_rfl) (ih (n + 1) _ g ⟨hnlt, rfl⟩ (show zs.length + 1 - (n + 1) < zs.length + 1 - n by omega) ⟨by kernel_rfl, (by kernel_rfl : _ = Value.int .i64 (IntKind.wrap .i64 (Int.ofNat (n + 1)))).trans (by rw [hwn]), trivial⟩)
    | false =>
      have hno : n ∉ posL zs := fun h => absurd (mem_pos.1 h) (of_decide_eq_false hb.symm)
      have hnm : n = mex (posL zs) := mex_eq (fun j hj => hs.1 j (by omega)) hno
      refine sy_done 2 (v := Value.int IntKind.i64 (Int.ofNat n)) (h := g) (by kernel_rfl) ?_
      exact ⟨by rw [← hnm], rfl⟩
end Go.Proofs.YtegcmgjldapnmaaGreatDoor
namespace Go.Proofs.YtegcmgjldapnmaaGreatDoor
open Go Go.Eng Nim Oct
set_option maxRecDepth 100000
set_option maxHeartbeats 8000000
theorem same_of (zs : List Int) (lf n : Nat) (hlf : zs.length < lf) (hsm : lf < 2 ^ 62) (x y : Value) (h : Hp) (hx : Rds h x (zs.map I)) (hy : Rds h y (zs.map I)) : Ev lf (n + 1) 8 [x, y] h = some (.bool true, h) := by
  refine fn_eq ?_
  obtain ⟨xa, xc, hxs⟩ := hx.shape
  obtain ⟨ya, yc, hys⟩ := hy.shape
  rw [List.length_map] at hxs hys
  subst hxs hys
  refine ok_go 3 ?_
  refine sy_no 0 (b := Int.ofNat zs.length != Int.ofNat zs.length) (by kernel_rfl) (bne_self_eq_false _) ?_
  refine ok_go 0 ?_
  refine sy_loop 0 lf h (α := Nat) (fun i => [(0, .slice xa zs.length xc), (1, .slice ya zs.length yc), (5, J i)]) (fun i g => i ≤ zs.length ∧ g = h) (fun i _ => zs.length - i) 0 (by kernel_rfl) (by kernel_rfl)
    ⟨by kernel_rfl, by kernel_rfl, by kernel_rfl, trivial⟩ (show zs.length - 0 < lf by omega) ⟨Nat.zero_le _, rfl⟩ ?_
  rintro m1 i f1 g ⟨hi, rfl⟩ ih
  have hw : IntKind.wrap .i64 (Int.ofNat (i + 1)) = Int.ofNat (i + 1) := wrap_nat (by omega)
  refine ok_go 2 ?_
  refine sy_test 0 (decide (Int.ofNat i < Int.ofNat zs.length)) (by kernel_rfl) ?_ ?_
  · intro hlt
    have hlt : i < zs.length := ok_nat hlt
    obtain ⟨p, hp1, hp2⟩ := rdI hx hlt
    obtain ⟨q, hq1, hq2⟩ := rdI hy hlt
    refine ok_go 0 ?_
    refine sy_load 0 (r := indexAddrOp Tryz.prog 22 (.slice xa zs.length xc) (J i)) (h' := g) (by kernel_rfl) hp1 ?_
    refine ok_go 0 ?_
    refine sy_load 0 (r := loadT Tryz.prog g 3 p) (h' := g) (by kernel_rfl) hp2 ?_
    refine ok_go 0 ?_
    refine sy_load 0 (r := indexAddrOp Tryz.prog 22 (.slice ya zs.length yc) (J i)) (h' := g) (by kernel_rfl) hq1 ?_
    refine ok_go 0 ?_
    refine sy_load 0 (r := loadT Tryz.prog g 3 q) (h' := g) (by kernel_rfl) hq2 ?_
    refine ok_go 1 ?_
    refine sy_no 0 (b := zs[i] != zs[i]) (by kernel_rfl) (bne_self_eq_false _) ?_
    refine ok_go 1 ?_
    exact sy_next 0 _ g (by kernel_rfl) (by kernel_rfl) (ih (i + 1) _ g ⟨hlt, rfl⟩ (show zs.length - (i + 1) < zs.length - i by omega) ⟨by kernel_rfl, by kernel_rfl, (by kernel_rfl : _ = Value.int .i64 (IntKind.wrap .i64 (Int.ofNat (i + 1)))).trans (by rw [hw]), trivial⟩)
  · intro _
    refine ok_go 0 ?_
    refine sy_done 0 (v := Value.bool true) (h := g) (by kernel_rfl) ?_
    exact ⟨rfl, rfl⟩
theorem missing_any (zs : List Int) (hzs : zs.length ≤ 100) (lf m : Nat) (hlf : 20000 ≤ lf) (x : Value) (h : Hp) (hx : Rds h x (zs.map I)) : ∃ v h', Ev lf (m + 2) 10 [x] h = some (v, h') ∧ v = J (mex (posL zs)) ∧ h.Ext h' := by
  refine fnS_ok (Q := fun v h' => v = J (mex (posL zs)) ∧ h.Ext h') ?_
  obtain ⟨xa, xc, hxs⟩ := hx.shape
  rw [List.length_map] at hxs
  subst hxs
  have hle := mexI_le zs
  have W := Sto.start h
  have hsz : IntKind.wrap .i64 (Int.ofNat zs.length + 1) = Int.ofNat (zs.length + 1) := wrap_add (b := 1) (by omega)
  refine ok_go 2 ?_
  refine ow_new 0 W (.cells (cellsF (zs.length + 1) fun _ => .bool false) 4 false) (fun q => .slice (some ⟨q, 0, none⟩) (zs.length + 1) (2 * (zs.length + 1))) ((by kernel_rfl : _ = makeSliceOp Tryz.prog h 65 (.int .i64 (IntKind.wrap .i64 (Int.ofNat zs.length + 1))) (.int .i64 (IntKind.wrap .i64 (Int.ofNat zs.length + 1)))).trans (by rw [hsz, ← zeros_one]; exact makeSl (z := .bool false) (inf := (Tryz.prog.info? 4).get!) uT69 (by kernel_rfl) (by kernel_rfl) (by kernel_rfl) (by kernel_rfl) (by kernel_rfl) (by omega))) fun g1 ng1 W => ?_
  generalize h.next = q at *
  refine ok_go 1 ?_
  refine sy_loop 0 lf g1 (α := Nat) (fun i => [(0, .slice xa zs.length xc), (3, .slice (some ⟨q, 0, none⟩) (zs.length + 1) (2 * (zs.length + 1))), (10, .slice xa zs.length xc), (11, J zs.length), (12, J i)]) (fun i g => i ≤ zs.length ∧ Sto h g [(q, .cells (cellsF (zs.length + 1) fun v => .bool (decide (Int.ofNat v ∈ zs.take i))) 4 false)]) (fun i _ => zs.length - i) 0 (by kernel_rfl) (by kernel_rfl)
    ⟨by kernel_rfl, by kernel_rfl, by kernel_rfl, by kernel_rfl, by kernel_rfl, trivial⟩ (show zs.length - 0 < lf by omega) ⟨Nat.zero_le _, by simpa using W⟩ ?_
  clear W
  rintro m1 i f1 g ⟨hi, W⟩ ih
  have hw : IntKind.wrap .i64 (Int.ofNat (i + 1)) = Int.ofNat (i + 1) := wrap_nat (by omega)
  refine ok_go 1 ?_
  refine sy_test 0 (decide (Int.ofNat i < Int.ofNat zs.length)) (by kernel_rfl) ?_ ?_
  · intro hlt
    have hlt : i < zs.length := ok_nat hlt
    obtain ⟨p, hp1, hp2⟩ := rdI (hx.ext W.ext) hlt
    have same : ¬ (0 ≤ zs[i] ∧ zs[i] < Int.ofNat (zs.length + 1)) → Sto h g [(q, .cells (cellsF (zs.length + 1) fun v => .bool (decide (Int.ofNat v ∈ zs.take (i + 1)))) 4 false)] := by
      intro hno
      rw [cellsF_congr (f := fun v => Value.bool (decide (Int.ofNat v ∈ zs.take (i + 1)))) (g := fun v => Value.bool (decide (Int.ofNat v ∈ zs.take i))) fun v hv => by
        rw [inT zs hlt]
        have : (zs[i] == Int.ofNat v) = false := beq_eq_false_iff_ne.2 fun h => hno (by rw [h]; exact ⟨Int.natCast_nonneg v, Int.ofNat_lt.2 hv⟩)
        rw [this, Bool.or_false]]
      exact W
    refine ok_go 0 ?_
    refine sy_load 0 (r := indexAddrOp Tryz.prog 22 (.slice xa zs.length xc) (J i)) (h' := g) (by kernel_rfl) hp1 ?_
    refine ok_go 0 ?_
    refine sy_load 0 (r := loadT Tryz.prog g 3 p) (h' := g) (by kernel_rfl) hp2 ?_
    refine ok_go 1 ?_
    by_cases h0 : zs[i] ≥ 0
    · refine sy_yes 0 (b := decide (zs[i] ≥ 0)) (by kernel_rfl) (decide_eq_true h0) ?_
      refine ok_go 6 ?_
      by_cases h1 : zs[i] < Int.ofNat (zs.length + 1)
      · refine sy_yes 0 (b := decide (zs[i] < Int.ofNat (zs.length + 1))) (by kernel_rfl) (decide_eq_true h1) ?_
        obtain ⟨z, hz⟩ := Int.eq_ofNat_of_zero_le h0
        have hzl : z < zs.length + 1 := by rw [hz] at h1; exact Int.ofNat_lt.1 h1
        refine ok_go 0 ?_
        refine sy_load 0 (r := indexAddrOp Tryz.prog 65 (.slice (some ⟨q, 0, none⟩) (zs.length + 1) (2 * (zs.length + 1))) (I zs[i])) (h' := g) (v := ptr q z) (by kernel_rfl) (by rw [hz]; exact idxS0 (e := 4) (by kernel_rfl) (by kernel_rfl) hzl) ?_
        refine ok_go 0 ?_
        refine ow_storeF (P := Tryz.prog) (T := 4) (off := z) (v := .bool true) 0 0 W rfl hzl (by kernel_rfl) (by kernel_rfl) (by kernel_rfl) fun g3 ng3 W => ?_
        have W : Sto h g3 [(q, .cells (cellsF (zs.length + 1) fun v => .bool (decide (Int.ofNat v ∈ zs.take (i + 1)))) 4 false)] := by
          rw [cellsF_congr (f := fun v => Value.bool (decide (Int.ofNat v ∈ zs.take (i + 1)))) (g := updF (fun v => Value.bool (decide (Int.ofNat v ∈ zs.take i))) z (.bool true)) fun v hv => by
            unfold updF
            dsimp only
            rw [inT zs hlt, hz]
            by_cases hv : v = z
            · subst hv; rw [if_pos rfl]; simp
            · rw [if_neg hv]
              have : (Int.ofNat z == Int.ofNat v) = false := beq_eq_false_iff_ne.2 fun h => hv (Int.ofNat.inj h).symm
              have h2 : (((z : Int)) == Int.ofNat v) = false := this
              rw [h2, Bool.or_false]]
          exact W
        refine ok_go 1 ?_
        exact sy_next 0 _ g3 (by kernel_rfl) (by kernel_rfl) (ih (i + 1) _ g3 ⟨hlt, W⟩ (show zs.length - (i + 1) < zs.length - i by omega) ⟨by kernel_rfl, by kernel_rfl, by kernel_rfl, by kernel_rfl, (by kernel_rfl : _ = Value.int .i64 (IntKind.wrap .i64 (Int.ofNat (i + 1)))).trans (by rw [hw]), trivial⟩)
      · refine sy_no 0 (b := decide (zs[i] < Int.ofNat (zs.length + 1))) (by kernel_rfl) (decide_eq_false h1) ?_
        refine ok_go 1 ?_
        exact sy_next 0 _ g (by kernel_rfl) (by kernel_rfl) (ih (i + 1) _ g ⟨hlt, same fun h => h1 h.2⟩ (show zs.length - (i + 1) < zs.length - i by omega) ⟨by kernel_rfl, by kernel_rfl, by kernel_rfl, by kernel_rfl, (by kernel_rfl : _ = Value.int .i64 (IntKind.wrap .i64 (Int.ofNat (i + 1)))).trans (by rw [hw]), trivial⟩)
    · refine sy_no 0 (b := decide (zs[i] ≥ 0)) (by kernel_rfl) (decide_eq_false h0) ?_
      refine ok_go 6 ?_
      exact sy_next 0 _ g (by kernel_rfl) (by kernel_rfl) (ih (i + 1) _ g ⟨hlt, same fun h => h0 h.1⟩ (show zs.length - (i + 1) < zs.length - i by omega) ⟨by kernel_rfl, by kernel_rfl, by kernel_rfl, by kernel_rfl, (by kernel_rfl : _ = Value.int .i64 (IntKind.wrap .i64 (Int.ofNat (i + 1)))).trans (by rw [hw]), trivial⟩)
  · intro hlt
    have hlt : i = zs.length := Nat.le_antisymm hi (no_nat hlt)
    subst hlt
    rw [List.take_length] at W
    have hs := mex_spec (posL zs)
    have e40 := index_of (fun v => decide (Int.ofNat v ∈ zs)) q (zs.length + 1) (2 * (zs.length + 1)) (mex (posL zs)) (by omega) (by omega) (decide_eq_false fun h => hs.2 (mem_pos.2 h)) (fun j hj => decide_eq_true (mem_pos.1 (hs.1 j hj))) lf m hlf g ⟨4, false, W.get 0 rfl⟩
    refine ok_go 0 ?_
    refine sy_call 0 (by kernel_rfl) e40 ?_
    refine sy_done 0 (v := Value.int IntKind.i64 (Int.ofNat (mex (posL zs)))) (h := g) (by kernel_rfl) ?_
    exact ⟨rfl, W.ext⟩
end Go.Proofs.YtegcmgjldapnmaaGreatDoor
namespace Go.Proofs.YtegcmgjldapnmaaGreatDoor
open Go Go.Eng Nim Oct
set_option maxRecDepth 100000
set_option maxHeartbeats 8000000
theorem val_no (l : List Nat) (z : Int) (lf m : Nat) (h h' : Hp) (e : Ev lf m 13 [.string (strL l)] h = some (J 60, h')) : Ev lf (m + 1) 14 [.string (strL l), I z] h = some (.tuple #[.slice none 0 0, J 60], h') := by
  refine fn_eq ?_
  refine ok_go 0 ?_
  refine sy_call 0 (by kernel_rfl) e ?_
  refine sy_done 2 (v := Value.tuple { toList := [Value.slice none 0 0, Value.int IntKind.i64 (Int.ofNat 60)] }) (h := h') (by kernel_rfl) ?_
  exact ⟨rfl, rfl⟩
theorem val_arg (l : List Nat) (z : Int) (hz : z < 0 ∨ 2000 < z) (lf m : Nat) (h h' : Hp) (e : Ev lf m 13 [.string (strL l)] h = some (J 0, h')) : Ev lf (m + 1) 14 [.string (strL l), I z] h = some (.tuple #[.slice none 0 0, J 1], h') := by
  refine fn_eq ?_
  refine ok_go 0 ?_
  refine sy_call 0 (by kernel_rfl) e ?_
  refine ok_go 3 ?_
  by_cases h1 : z < 0
  · refine sy_yes 0 (b := decide (z < 0)) (by kernel_rfl) (decide_eq_true h1) ?_
    refine sy_done 3 (v := Value.tuple { toList := [Value.slice none 0 0, Value.int IntKind.i64 (Int.ofNat 1)] }) (h := h') (by kernel_rfl) ?_
    exact ⟨rfl, rfl⟩
  · refine sy_no 0 (b := decide (z < 0)) (by kernel_rfl) (decide_eq_false h1) ?_
    refine ok_go 3 ?_
    refine sy_yes 0 (b := decide (z > 2000)) (by kernel_rfl) (decide_eq_true (show 2000 < z by omega)) ?_
    refine sy_done 0 (v := Value.tuple { toList := [Value.slice none 0 0, Value.int IntKind.i64 (Int.ofNat 1)] }) (h := h') (by kernel_rfl) ?_
    exact ⟨rfl, rfl⟩
theorem per_no (l : List Nat) (z : Int) (lf m : Nat) (h h' : Hp) (e : Ev lf m 13 [.string (strL l)] h = some (J 60, h')) : Ev lf (m + 1) 16 [.string (strL l), I z] h = some (.tuple #[J 0, J 0, .bool false, J 60], h') := by
  refine fn_eq ?_
  refine ok_go 0 ?_
  refine sy_call 0 (by kernel_rfl) e ?_
  refine sy_done 2 (v := Value.tuple { toList := [Value.int IntKind.i64 (Int.ofNat 0), Value.int IntKind.i64 (Int.ofNat 0), Value.bool false, Value.int IntKind.i64 (Int.ofNat 60)] }) (h := h') (by kernel_rfl) ?_
  exact ⟨rfl, rfl⟩
theorem isp_no (l : List Nat) (z a p : Int) (lf m : Nat) (h h' : Hp) (e : Ev lf m 13 [.string (strL l)] h = some (J 60, h')) : Ev lf (m + 1) 17 [.string (strL l), I z, I a, I p] h = some (.bool false, h') := by
  refine fn_eq ?_
  refine ok_go 0 ?_
  refine sy_call 0 (by kernel_rfl) e ?_
  refine sy_done 22 (v := Value.bool false) (h := h') (by kernel_rfl) ?_
  exact ⟨rfl, rfl⟩
theorem mov_no (l : List Nat) (a : Option Addr) (k c : Nat) (lf m : Nat) (h : Hp) (ck : ∀ h, ∃ h', Ev lf m 13 [.string (strL l)] h = some (J 60, h') ∧ h.Ext h') : ∃ v h', Ev lf (m + 1) 6 [.string (strL l), .slice a k c] h = some (v, h') ∧ v = .tuple #[.slice none 0 0, J 60] ∧ h.Ext h' := by
  refine fnS_ok (Q := fun v h' => v = .tuple #[.slice none 0 0, J 60] ∧ h.Ext h') ?_
  have W := Sto.start h
  refine ow_new 0 W (AObj.cells [Value.slice a k c] 22 false) (fun q => Value.pointer (some { block := q, off := 0 })) (by kernel_rfl) fun g1 ng1 Wg1 => ?_
  have W := Wg1
  obtain ⟨h2, e, X⟩ := ck g1
  refine sy_call 0 (by kernel_rfl) e ?_
  refine sy_done 3 (v := Value.tuple { toList := [Value.slice none 0 0, Value.int IntKind.i64 (Int.ofNat 60)] }) (h := h2) (by kernel_rfl) ?_
  exact ⟨rfl, Wg1.ext.trans X⟩
end Go.Proofs.YtegcmgjldapnmaaGreatDoor
namespace Go.Proofs.YtegcmgjldapnmaaGreatDoor
open Go Go.Eng Nim Oct
set_option maxRecDepth 100000
set_option maxHeartbeats 8000000
/-- What a slice that stands in an argument looks like. -/
def WfS : Value → Prop
  | .slice none n c => n = 0 ∧ c = 0
  | .slice (some a) n c => (a.spot = none ∧ n ≤ c / 2) ∨ (n = 0 ∧ c = 0)
  | _ => False
theorem takeN_take : ∀ {n : Nat} {l : List Value} {r : List Value}, takeN n l = some r → ∀ k, k ≤ n → takeN k l = some (r.take k)
  | _, _, _, _, 0, _ => by simp [takeN]
  | 0, _, _, _, k + 1, hk => absurd hk (by omega)
  | n + 1, [], _, h, k + 1, _ => by simp [takeN] at h
  | n + 1, v :: l, r, h, k + 1, hk => by
    unfold takeN at h
    split at h
    · rename_i l' hl'
      cases h
      unfold takeN
      rw [takeN_take hl' k (by omega)]
      rfl
    · cases h
theorem u22 : Tryz.prog.underlying 22 = some (.slice 3) := by kernel_rfl
theorem slice_val {i off len cap K : Nat} (h : K ≤ cap / 2) : ∃ c, sliceOp Tryz.prog 22 (.slice (some ⟨i, off, none⟩) len cap) none (some (J K)) none = some (.slice (some ⟨i, off, none⟩) K c) := by
  have hs : sizeT Tryz.prog 3 = some 1 := by kernel_rfl
  simp only [sliceOp, u22, hs, sliceV, Go.Eng.bound, Option.isSome_none, show natOf (J K) = some K from rfl, Bool.false_eq_true, if_false, Nat.ble_eq_true_of_le h, Nat.ble_eq_true_of_le (Nat.zero_le (cap / 2))]
  cases hb : Nat.beq (cap / 2) 0
  · cases hc : Nat.beq (cap % 2) 1
    · exact ⟨2 * (cap / 2), by simp⟩
    · exact ⟨2 * (cap / 2) + 1, by simp⟩
  · cases hc : Nat.beq (cap % 2) 1
    · exact ⟨0, by simp⟩
    · exact ⟨1, by simp⟩
theorem cut_row {h : Hp} {x : Value} {vs : List Value} (hw : WfS x) (hx : Rds h x vs) {K : Nat} (hK : K ≤ vs.length) : ∃ y, sliceOp Tryz.prog 22 x none (some (J K)) none = some y ∧ Rds h y (vs.take K) := by
  have hs : sizeT Tryz.prog 3 = some 1 := by kernel_rfl
  rcases hx with ⟨⟨a, rfl⟩, rfl⟩ | ⟨i, off, c, rfl, hr⟩
  · obtain rfl : K = 0 := by simpa using hK
    rcases a with _ | ⟨i, off, _ | q⟩
    · exact ⟨.slice none 0 0, rfl, .inl ⟨⟨_, rfl⟩, rfl⟩⟩
    · obtain ⟨c, e⟩ := slice_val (i := i) (off := off) (len := 0) (cap := 0) (K := 0) (Nat.zero_le _)
      exact ⟨_, e, .inr ⟨i, off, c, rfl, fun h => absurd rfl h⟩⟩
    · exact ⟨.slice (some ⟨i, off, some q⟩) 0 0, rfl, .inl ⟨⟨_, rfl⟩, rfl⟩⟩
  · have hc : vs.length ≤ c / 2 := by
      rcases hw with ⟨_, h⟩ | ⟨h, h2⟩
      · exact h
      · omega
    obtain ⟨c', e⟩ := slice_val (i := i) (off := off) (len := vs.length) (cap := c) (K := K) (Nat.le_trans hK hc)
    refine ⟨_, e, .inr ⟨i, off, c', by rw [List.length_take, Nat.min_eq_left hK], fun hne => ?_⟩⟩
    have hv : vs ≠ [] := fun h0 => by subst h0; simp at hne
    obtain ⟨h1, h2⟩ := hr hv
    refine ⟨h1, ?_⟩
    rw [List.length_take, Nat.min_eq_left hK]
    unfold loadN at h2 ⊢
    cases hg : h.get i with
    | none => rw [hg] at h2; cases h2
    | some o =>
      rw [hg] at h2
      cases o with
      | cells cs e opn => exact takeN_take h2 K hK
      | ro o cs e =>
        dsimp only at h2 ⊢
        cases hb : Nat.ble o off with
        | true => rw [hb] at h2; exact takeN_take h2 K hK
        | false => rw [hb] at h2; cases h2
      | fro cs e => exact takeN_take h2 K hK
      | _ => cases h2
theorem rds_elems {H : Hp} {x : Value} {vs : List Value} (hx : Rds H x vs) : lenV x = some vs.length ∧ elems H 1 vs.length x = some vs := by
  obtain ⟨a, c, hsh⟩ := hx.shape
  refine ⟨by rw [hsh]; rfl, ?_⟩
  rcases hx with ⟨⟨a, rfl⟩, rfl⟩ | ⟨i, off, c, rfl, hr⟩
  · rcases a with _ | ⟨i, off, _ | q⟩ <;> rfl
  · cases vs with
    | nil => rfl
    | cons v r => simp only [elems, List.length_cons, Nat.mul_one]; exact (hr (by simp)).2
/-- All of a slice appended to none: a block of its own. -/
theorem ow_rds {h H : Hp} {Q : Value → Hp → Prop} {l : List (Nat × AObj)} {P : Program} {t e : TypeId} (n : Nat) {s : SA} {vs : List Value} {x : Value} (W : Sto h H l) (hT : SlTz P t e 1) (hx : Rds H x vs) (hv : vs.all scalar = true) (hn : vs.length < 16777216)
    (he : askR (goS n s) = appendOp P H t (.slice none 0 0) x) (hq : ∀ H' sl, H.next ≤ H'.next → sl = oslV H.next vs.length → scalar sl = true → Sto h H' (l ++ oent H.next e vs) → Ok Q (askK (goS n s) sl H')) : Ok Q s := by
  obtain ⟨h1, h2⟩ := rds_elems hx
  cases vs with
  | nil =>
    obtain ⟨inf, hi1, hi2⟩ := hT.i
    obtain ⟨z, hz1, hz2⟩ := hT.zr
    refine sy_call n (he.trans (?_ : _ = some (.slice none 0 0, H))) rfl (hq H _ (Nat.le_refl _) rfl rfl (by simpa only [oent, List.append_nil] using W))
    simp only [List.length_nil] at h1 h2
    simp only [appendOp, hT.u, hT.s, hi1, hz1, h1, h2, hz2, hi2, List.all_nil]
  | cons v r =>
    obtain ⟨H', e1, e2, W'⟩ := append_sto (P := P) (t := t) (x := x) (i := 0) (n := 0) (m := r.length) (zs := []) (l := l) (by simpa only [oent, List.append_nil] using W) hT (by simp) (by simp) h1 h2 hv (by simp at hn; omega)
    rw [Nat.zero_add] at e1
    exact sy_call n (he.trans e1) rfl (hq H' _ (by omega) rfl rfl W')
theorem sy_any {Q : Value → Hp → Prop} (n : Nat) {t : SA} {p : Value → Prop} {h' : Hp} (he : ∃ v, p v ∧ askR (goS n t) = some (v, h')) (hk : ∀ v, p v → Ok Q (askK (goS n t) v h')) : Ok Q t := by
  obtain ⟨v, hp, e⟩ := he
  exact ok_go n (ok_ask e (hk v hp))
end Go.Proofs.YtegcmgjldapnmaaGreatDoor
namespace Go.Proofs.YtegcmgjldapnmaaGreatDoor
open Go Go.Eng Nim Oct
set_option maxRecDepth 100000
set_option maxHeartbeats 8000000
theorem s4 (l : List Nat) (hl : ∀ n ∈ l, n < 256) (z : Int) (zs : List Int) (hzs : zs.length < 2 ^ 63) (xa : Option Addr) (xc k : Nat) (h : Hp) (hx : Rds h (.slice xa zs.length xc) (zs.map I)) (hwf : WfS (.slice xa zs.length xc)) : ∃ H, Ev 100000 (k + 6) 4 [.string (strL l), I z, .slice xa zs.length xc] h = some (.bool true, H) := by
  refine fn_val ?_
  have W := Sto.start h
  obtain ⟨K, hK, hK1, hK2⟩ : ∃ K : Nat, (if (40 : Int) < Int.ofNat zs.length then (40 : Int) else Int.ofNat zs.length) = Int.ofNat K ∧ K ≤ zs.length ∧ (zs.take K) = zs.take 40 := by
    by_cases h20 : 40 < zs.length
    · exact ⟨40, if_pos (by show (40 : Int) < (zs.length : Int); omega), by omega, rfl⟩
    · exact ⟨zs.length, if_neg (by show ¬ (40 : Int) < (zs.length : Int); omega), Nat.le_refl _, by rw [List.take_length, List.take_of_length_le (by omega)]⟩
  obtain ⟨y, hy1, hy2⟩ := cut_row hwf hx (K := K) (by rw [List.length_map]; exact hK1)
  rw [← List.map_take, hK2] at hy2
  have hy1 : sliceOp Tryz.prog 22 (.slice xa zs.length xc) none (some (.int .i64 (Int.ofNat K))) none = some y := hy1
  rw [← hK] at hy1
  refine ok_go 2 ?_
  refine sy_any 0 (p := fun y => Rds h y ((zs.take 40).map I)) (h' := h) ?_ ?_
  · cases xa with
    | none =>
      obtain ⟨h1, h2⟩ := hwf
      obtain rfl : zs = [] := List.eq_nil_of_length_eq_zero h1
      subst h2
      exact ⟨.slice none 0 0, .inl ⟨⟨_, rfl⟩, rfl⟩, by kernel_rfl⟩
    | some ra =>
      refine ⟨y, hy2, (by kernel_rfl : _ = (sliceOp Tryz.prog 22 (.slice (some ra) zs.length xc) none (some (.int .i64 (if (40 : Int) < Int.ofNat zs.length then (40 : Int) else Int.ofNat zs.length))) none).map (·, h)).trans ?_⟩
      rw [hy1]
      rfl
  intro y hy2
  obtain ⟨ya, yc, rfl⟩ := hy2.shape
  refine ok_go 0 ?_
  refine ow_rds 0 W slz32 hy2 (List.all_eq_true.2 fun x hx => by obtain ⟨y, _, rfl⟩ := List.mem_map.1 hx; rfl) (by rw [List.length_map, List.length_take]; omega) (by kernel_rfl) fun g2 sl2 ng2 hsl2 hsc2 W2 => ?_
  have RV : Rds g2 sl2 ((zs.take 40).map I) := by
    rw [hsl2]
    exact osl_rd fun p hp => W2.hold p (List.mem_append_right _ hp)
  have hz4 : (zs.take 40).length ≤ 40 := by rw [List.length_take]; omega
  obtain ⟨oa, oc, hos⟩ := RV.shape
  subst hos
  have X0 : h.Ext g2 := W2.ext
  generalize zs.take 40 = ys at *
  clear hsl2 hsc2 W2 hy2
  obtain ⟨_, q10, e10, rfl, X10⟩ := missing_any ys (by omega) 100000 (k + 3) (by decide) _ _ RV
  have e11 := rmissing_of ys 100000 (k + 4) (by omega) (by decide) _ _ (RV.ext X10)
  refine ok_go 0 ?_
  refine sy_call 0 (by kernel_rfl) e10 ?_
  refine ok_go 0 ?_
  refine sy_call 0 (by kernel_rfl) e11 ?_
  refine ok_go 1 ?_
  refine sy_no 0 (b := Int.ofNat (mex (posL ys)) != Int.ofNat (mex (posL ys))) (by kernel_rfl) (bne_self_eq_false _) ?_
  refine ok_go 0 ?_
  have X0 := X0.trans X10
  refine sy_loop 0 100000 q10 (α := Nat × List Nat × Int) (fun x => [(0, .string (strL l)), (1, I x.2.2), (8, .string (strL x.2.1)), (9, J x.1)]) (fun x g => x.1 ≤ 2 ∧ h.Ext g ∧ ∀ n ∈ x.2.1, n < 256) (fun x _ => 2 - x.1) (0, l, z) (by kernel_rfl) (by kernel_rfl)
    ⟨by kernel_rfl, by kernel_rfl, by kernel_rfl, by kernel_rfl, trivial⟩ (show 2 - 0 < 100000 by decide) ⟨Nat.zero_le 2, X0, hl⟩ ?_
  clear e10 e11 X10 RV X0
  rintro m2 ⟨kk, c, z⟩ f2 g ⟨hk, X0, hc⟩ ih
  dsimp only at hk X0 hc
  have hw : IntKind.wrap .i64 (Int.ofNat (kk + 1)) = Int.ofNat (kk + 1) := wrap_nat (by omega)
  refine ok_go 1 ?_
  refine sy_test 0 (decide (Int.ofNat kk < 2)) (by kernel_rfl) ?_ ?_
  · intro hk2
    have hk2 : kk < 2 := ok_nat (b := 2) hk2
    have cd := fun h => code_of l hl 100000 (k + 4) (by decide) h
    have hgood := codeD_good l
    by_cases hC : IsC c
    · have e12 : ∀ h, Ev 100000 (k + 5) 12 [.string (strL c)] h = some (J 0, h) := fun h => by
        obtain ⟨v, h', e, rfl, hv⟩ := rchk_any c hc 100000 (k + 4) (by decide) h
        rcases hv with ⟨rfl, _⟩ | ⟨_, hn⟩
        · exact e
        · exact absurd hC hn
      have e13 : ∀ k h, ∃ h', Ev 100000 (k + 4) 13 [.string (strL c)] h = some (J 0, h') ∧ h.Ext h' := fun k h => by
        obtain ⟨v, h', e, X, hv⟩ := chk_any k c hc h
        rcases hv with ⟨rfl, _⟩ | ⟨_, hn⟩
        · exact ⟨h', e, X⟩
        · exact absurd hC hn
      obtain ⟨q13, c13, X13⟩ := e13 (k + 1) g
      refine ok_go 0 ?_
      refine sy_call 0 (by kernel_rfl) (e12 g) ?_
      refine ok_go 0 ?_
      refine sy_call 0 (by kernel_rfl) c13 ?_
      refine ok_go 2 ?_
      by_cases hz : z < 0 ∨ 2000 < z
      · obtain ⟨q14, d13, X14⟩ := e13 k q13
        have e14 := val_arg c z hz 100000 (k + 4) _ _ d13
        refine sy_call 0 (by kernel_rfl) e14 ?_
        refine ok_go 7 ?_
        by_cases h0 : z < 0
        · refine sy_yes 0 (b := decide (z < 0)) (by kernel_rfl) (decide_eq_true h0) ?_
          refine ok_go 15 ?_
          refine sy_call 0 (by kernel_rfl) (e12 q14) ?_
          refine ok_go 2 ?_
          have XE : h.Ext q14 := (X0.trans X13).trans X14
          obtain ⟨_, q5, e5, rfl, X5⟩ := cd q14
          refine ok_go 0 ?_
          refine sy_call 0 (by kernel_rfl) e5 ?_
          refine ok_go 4 ?_
          exact sy_next 0 _ q5 (by kernel_rfl) (by kernel_rfl) (ih (kk + 1, codeS (codeD l), IntKind.wrap .i64 ((IntKind.wrap .u64 (z)).tmod 120)) _ q5 ⟨hk2, XE.trans X5, codeS_lt (codeD_good l)⟩ (show 2 - (kk + 1) < 2 - kk by omega) ⟨by kernel_rfl, by kernel_rfl, by kernel_rfl, (by kernel_rfl : _ = Value.int .i64 (IntKind.wrap .i64 (Int.ofNat (kk + 1)))).trans (by rw [hw]), trivial⟩)
        · refine sy_no 0 (b := decide (z < 0)) (by kernel_rfl) (decide_eq_false h0) ?_
          refine ok_go 5 ?_
          refine sy_yes 0 (b := decide (z > 2000)) (by kernel_rfl) (decide_eq_true (show 2000 < z by omega)) ?_
          refine ok_go 10 ?_
          refine sy_call 0 (by kernel_rfl) (e12 q14) ?_
          refine ok_go 2 ?_
          have XE : h.Ext q14 := (X0.trans X13).trans X14
          obtain ⟨_, q5, e5, rfl, X5⟩ := cd q14
          refine ok_go 0 ?_
          refine sy_call 0 (by kernel_rfl) e5 ?_
          refine ok_go 4 ?_
          exact sy_next 0 _ q5 (by kernel_rfl) (by kernel_rfl) (ih (kk + 1, codeS (codeD l), IntKind.wrap .i64 ((IntKind.wrap .u64 (z)).tmod 120)) _ q5 ⟨hk2, XE.trans X5, codeS_lt (codeD_good l)⟩ (show 2 - (kk + 1) < 2 - kk by omega) ⟨by kernel_rfl, by kernel_rfl, by kernel_rfl, (by kernel_rfl : _ = Value.int .i64 (IntKind.wrap .i64 (Int.ofNat (kk + 1)))).trans (by rw [hw]), trivial⟩)
      · obtain ⟨n, rfl⟩ := Int.eq_ofNat_of_zero_le (show 0 ≤ z by omega)
        have hn : n ≤ 2000 := by have : ¬ (2000 : Int) < n := fun h => hz (.inr h); omega
        obtain ⟨d, rfl, hd⟩ := isC_good hC
        obtain ⟨_, q14, e14, q, rfl, W14⟩ := Values_of d n hn 100000 (k + 4) (upV k d hd) q13
        refine sy_call 0 (by kernel_rfl) e14 ?_
        refine ok_go 13 ?_
        refine sy_no 0 (b := decide (Int.ofNat n > 2000)) (by kernel_rfl) (decide_eq_false (by show ¬ ((2000 : Int) < (n : Int)); omega)) ?_
        refine ok_go 12 ?_
        refine sy_no 0 (b := Int.ofNat (n + 1) != IntKind.wrap .i64 (Int.ofNat n + 1)) (by kernel_rfl) (by rw [show IntKind.wrap .i64 (Int.ofNat n + 1) = Int.ofNat (n + 1) from wrap_add (b := 1) (by omega)]; exact bne_self_eq_false _) ?_
        refine ok_go 3 ?_
        refine sy_test 0 (decide (Int.ofNat n ≤ 300)) (by kernel_rfl) ?_ ?_
        · intro _
          obtain ⟨_, q15, e15, q2, rfl, W15⟩ := rvalues_of d hd.lt hd.most n hn 100000 (k + 4) (by decide) q14 fun j h hj => after_of d hd.lt hd.most j hj 100000 (k + 3) (by decide) h
          have ec : cellsF (n + 1) (fun k => J (gv d k)) = ((List.range (n + 1)).map fun k => Int.ofNat (gv d k)).map I := by rw [List.map_map]; rfl
          have Ra : Rds q15 (.slice (some ⟨q, 0, none⟩) (n + 1) (2 * (n + 1) + 1)) (((List.range (n + 1)).map fun k => Int.ofNat (gv d k)).map I) := by rw [← ec]; exact (rd_cells (W14.lt 0 rfl) (W14.get 0 rfl)).ext W15.ext
          have Rb : Rds q15 (.slice (some ⟨q2, 0, none⟩) (n + 1) (kc n)) (((List.range (n + 1)).map fun k => Int.ofNat (gv d k)).map I) := by rw [← ec]; exact rd_cells (W15.lt 0 rfl) (W15.get 0 rfl)
          have e8 := same_of _ 100000 (k + 4) (by rw [List.length_map, List.length_range]; omega) (by decide) _ _ _ Ra Rb
          refine ok_go 3 ?_
          refine sy_call 0 (by kernel_rfl) e15 ?_
          refine ok_go 1 ?_
          refine sy_call 0 (by kernel_rfl) e8 ?_
          refine ok_go 6 ?_
          refine sy_call 0 (by kernel_rfl) (e12 q15) ?_
          refine ok_go 2 ?_
          have XE : h.Ext q15 := ((X0.trans X13).trans W14.ext).trans W15.ext
          obtain ⟨_, q5, e5, rfl, X5⟩ := cd q15
          refine ok_go 0 ?_
          refine sy_call 0 (by kernel_rfl) e5 ?_
          refine ok_go 4 ?_
          exact sy_next 0 _ q5 (by kernel_rfl) (by kernel_rfl) (ih (kk + 1, codeS (codeD l), IntKind.wrap .i64 ((IntKind.wrap .u64 (Int.ofNat n)).tmod 120)) _ q5 ⟨hk2, XE.trans X5, codeS_lt (codeD_good l)⟩ (show 2 - (kk + 1) < 2 - kk by omega) ⟨by kernel_rfl, by kernel_rfl, by kernel_rfl, (by kernel_rfl : _ = Value.int .i64 (IntKind.wrap .i64 (Int.ofNat (kk + 1)))).trans (by rw [hw]), trivial⟩)
        · intro _
          refine ok_go 9 ?_
          refine sy_call 0 (by kernel_rfl) (e12 q14) ?_
          refine ok_go 2 ?_
          have XE : h.Ext q14 := (X0.trans X13).trans W14.ext
          obtain ⟨_, q5, e5, rfl, X5⟩ := cd q14
          refine ok_go 0 ?_
          refine sy_call 0 (by kernel_rfl) e5 ?_
          refine ok_go 4 ?_
          exact sy_next 0 _ q5 (by kernel_rfl) (by kernel_rfl) (ih (kk + 1, codeS (codeD l), IntKind.wrap .i64 ((IntKind.wrap .u64 (Int.ofNat n)).tmod 120)) _ q5 ⟨hk2, XE.trans X5, codeS_lt (codeD_good l)⟩ (show 2 - (kk + 1) < 2 - kk by omega) ⟨by kernel_rfl, by kernel_rfl, by kernel_rfl, (by kernel_rfl : _ = Value.int .i64 (IntKind.wrap .i64 (Int.ofNat (kk + 1)))).trans (by rw [hw]), trivial⟩)
    · have e12 : ∀ h, Ev 100000 (k + 5) 12 [.string (strL c)] h = some (J 60, h) := fun h => by
        obtain ⟨v, h', e, rfl, hv⟩ := rchk_any c hc 100000 (k + 4) (by decide) h
        rcases hv with ⟨_, hn⟩ | ⟨rfl, _⟩
        · exact absurd hn hC
        · exact e
      have e13 : ∀ k h, ∃ h', Ev 100000 (k + 4) 13 [.string (strL c)] h = some (J 60, h') ∧ h.Ext h' := fun k h => by
        obtain ⟨v, h', e, X, hv⟩ := chk_any k c hc h
        rcases hv with ⟨_, hn⟩ | ⟨rfl, _⟩
        · exact absurd hn hC
        · exact ⟨h', e, X⟩
      obtain ⟨q13, c13, X13⟩ := e13 (k + 1) g
      obtain ⟨q14, d13, X14⟩ := e13 k q13
      have e14 := val_no c z 100000 (k + 4) _ _ d13
      obtain ⟨q16, f13, X16⟩ := e13 k q14
      have e16 := per_no c 100 100000 (k + 4) _ _ f13
      refine ok_go 0 ?_
      refine sy_call 0 (by kernel_rfl) (e12 g) ?_
      refine ok_go 0 ?_
      refine sy_call 0 (by kernel_rfl) c13 ?_
      refine ok_go 2 ?_
      refine sy_call 0 (by kernel_rfl) e14 ?_
      refine ok_go 19 ?_
      refine sy_call 0 (by kernel_rfl) (e12 q14) ?_
      refine ok_go 2 ?_
      refine sy_call 0 (by kernel_rfl) e16 ?_
      have W := Sto.start q16
      refine ow_new 4 W (AObj.cells [Value.int IntKind.i64 (Int.ofNat 1)] 3 false) (fun q => Value.slice (some { block := q, off := 0 }) 1 2) (by kernel_rfl) fun s1 ns1 Ws1 => ?_
      have W := Ws1
      obtain ⟨_, q6, e6, rfl, X6⟩ := mov_no c (some ⟨q16.next, 0, none⟩) 1 2 100000 (k + 4) s1 (e13 k)
      obtain ⟨q17, f17, X17⟩ := e13 k q6
      have e17 := isp_no c 100 0 1 100000 (k + 4) _ _ f17
      refine sy_call 0 (by kernel_rfl) e6 ?_
      refine ok_go 18 ?_
      refine sy_call 0 (by kernel_rfl) e17 ?_
      refine ok_go 2 ?_
      have XE : h.Ext q17 := (((((X0.trans X13).trans X14).trans X16).trans Ws1.ext).trans X6).trans X17
      obtain ⟨_, q5, e5, rfl, X5⟩ := cd q17
      refine ok_go 0 ?_
      refine sy_call 0 (by kernel_rfl) e5 ?_
      refine ok_go 4 ?_
      exact sy_next 0 _ q5 (by kernel_rfl) (by kernel_rfl) (ih (kk + 1, codeS (codeD l), IntKind.wrap .i64 ((IntKind.wrap .u64 (z)).tmod 120)) _ q5 ⟨hk2, XE.trans X5, codeS_lt (codeD_good l)⟩ (show 2 - (kk + 1) < 2 - kk by omega) ⟨by kernel_rfl, by kernel_rfl, by kernel_rfl, (by kernel_rfl : _ = Value.int .i64 (IntKind.wrap .i64 (Int.ofNat (kk + 1)))).trans (by rw [hw]), trivial⟩)
  · intro hk2
    refine sy_done 1 (v := Value.bool true) (h := g) (by kernel_rfl) ?_
    rfl
end Go.Proofs.YtegcmgjldapnmaaGreatDoor
namespace Go.Proofs.YtegcmgjldapnmaaGreatDoor
open Go Go.Eng Nim Go.ChangeShapes
set_option maxRecDepth 100000
section
variable {HH : Type} {enc : TypeId × Value → HH} {B : Prot} {w0 w : World}
theorem cell_block {w : World} {a : Addr} {v : Value} (h : w.cell? a = some v) : ∃ arr e fz, w.heap[a.block]? = some (.cells arr e fz) ∧ a.spot = none ∧ arr[a.off]? = some v := by
  unfold World.cell? at h
  split at h
  · rename_i c e fz hb
    split at h
    · cases h
    · rename_i hs
      refine ⟨c, e, fz, hb, ?_, h⟩
      cases hq : a.spot with
      | none => rfl
      | some q => rw [hq] at hs; simp at hs
  · cases h
theorem add_spot {a : Addr} (h : a.spot = none) (i : Nat) : a.add i = ⟨a.block, a.off + i, none⟩ := by
  obtain ⟨b, o, s⟩ := a
  simp only at h
  subst h
  unfold Addr.add
  split
  · rename_i h0; subst h0; rfl
  · rfl
/-- A slice in memory, as the evaluator sees it: the cells one by one. -/
theorem openCells {E : Env} {h : Hp} (H : HpOK Tryz.prog B w0 E h w) (hB : ∀ k, k < w.heap.size → B.ro k) {a : Addr} {len cap : Nat} (cs : List Value) (hl : cs.length = len) (hc0 : 0 < cap → a.spot = none)
    (hlc : len ≤ cap) (hcell : ∀ i v, cs[i]? = some v → w.cell? (a.add i) = some (con E v)) (hs : scL h.next cs = true) (h1 : ∀ v ∈ cs, scalar v = true) :
    ∃ E' h' v, HpOK Tryz.prog B w0 E' h' w ∧ Agree h.next E E' ∧ h.Ext h' ∧ con E' v = .slice (some a) len cap ∧ sc h'.next v = true ∧ Rds h' v cs ∧ scalar v = true ∧ WfS v := by
  subst hl
  cases cs with
  | nil =>
    refine ⟨E.ext h.next a.block 0, ⟨h.objs, h.next + 1⟩, .slice (some ⟨h.next, a.off, a.spot⟩) 0 (2 * cap), H.bump a.block, Env.ext_agree _ _ _ _, ⟨Nat.le_succ _, fun j _ => rfl⟩, ?_, by simp [sc], ?_, rfl, ?_⟩
    · obtain ⟨b, o, s⟩ := a
      cases s with
      | none => simp [con, conCap]
      | some q =>
        have hc : cap = 0 := Nat.eq_zero_of_not_pos fun hp => by have := hc0 hp; simp at this
        subst hc
        simp [con, conCap, conOff, conSpot]
    · cases hsp : a.spot with
      | none => exact .inr ⟨h.next, a.off, _, rfl, fun hn => absurd rfl hn⟩
      | some q =>
        have hc : cap = 0 := Nat.eq_zero_of_not_pos fun hp => by have := hc0 hp; rw [hsp] at this; cases this
        subst hc
        exact .inl ⟨⟨_, rfl⟩, rfl⟩
    · cases hsp : a.spot with
      | none => exact .inl ⟨rfl, Nat.zero_le _⟩
      | some q =>
        have hc : cap = 0 := Nat.eq_zero_of_not_pos fun hp => by have := hc0 hp; rw [hsp] at this; cases this
        subst hc
        exact .inr ⟨rfl, rfl⟩
  | cons v r =>
    have h0 := hcell 0 v rfl
    have hsp : a.spot = none := hc0 (by simp at hlc; omega)
    obtain ⟨arr, e, fz, hb, _, ha⟩ := cell_block h0
    rw [add_spot hsp] at ha hb
    have ha0 : a.off + 0 < arr.size := (Array.getElem?_eq_some_iff.1 ha).1
    have hR := H.newRo (m := a.block) (off := a.off) (cs := v :: r) (hB _ (Array.getElem?_eq_some_iff.1 hb).1) hb (by omega) (fun i u hu => by
      have hi := hcell i u hu
      obtain ⟨arr', e', fz', hb', _, ha'⟩ := cell_block hi
      rw [add_spot hsp] at hb' ha'
      rw [hb] at hb'
      cases hb'
      exact ha') hs h1
    refine ⟨_, _, .slice (some ⟨h.next, a.off, none⟩) (r.length + 1) (2 * cap), hR, Env.ext_agree _ _ _ _, Hp.Ext.new _ _, ?_, by simp [sc, Hp.new], .inr ⟨h.next, a.off, _, rfl, fun _ => ⟨Nat.lt_succ_self _, ?_⟩⟩, rfl, .inl ⟨rfl, by simp at hlc; omega⟩⟩
    · obtain ⟨b, o, s⟩ := a
      simp only at hsp
      subst hsp
      simp [con, conCap]
    · unfold loadN
      rw [get_new]
      have hble : Nat.ble a.off a.off = true := Nat.ble_eq_true_of_le (Nat.le_refl _)
      simp only [hble, Nat.sub_self, List.drop_zero]
      exact takeN_all (v :: r)
theorem openInts {E : Env} {h : Hp} (H : HpOK Tryz.prog B w0 E h w) (hB : ∀ k, k < w.heap.size → B.ro k) {fuel : Nat} {c : Value} {x : DataW HH × List MemPlace}
    (ht : DataW.trod enc Tryz.prog w 0 (fun _ => true) true fuel 22 [c] = some x) :
    ∃ (E' : Env) (h' : Hp) (v : Value) (r : List Int), HpOK Tryz.prog B w0 E' h' w ∧ Agree h.next E E' ∧ h.Ext h' ∧ con E' v = c ∧ sc h'.next v = true ∧ Rds h' v (r.map I) ∧ scalar v = true ∧ r.length < 2 ^ 63 ∧ WfS v := by
  rcases open_ints (k := .i64) u22 (by kernel_rfl) (by kernel_rfl) ht with ⟨hc, _⟩ | ⟨a, len, cap, zs, hc, _, hlc, hcm, hzl, _, hcell, hwf⟩
  · simp only [List.cons.injEq, and_true] at hc
    subst hc
    exact ⟨E, h, .slice none 0 0, [], H, Agree.refl _ _, Hp.Ext.refl _, by simp [con], rfl, .inl ⟨⟨none, rfl⟩, rfl⟩, rfl, by decide, ⟨rfl, rfl⟩⟩
  · simp only [List.cons.injEq, and_true] at hc
    subst hc
    simp only [if_true] at hzl
    obtain ⟨E', h', v, k1, k2, k3, k4, k5, k6, k7, k8⟩ := openCells H hB (a := a) (len := len) (cap := cap) ((zs.take len).map I) (by simp; omega) (fun hp => by
        have := hcell 0 (by omega)
        obtain ⟨_, _, _, _, h2, _⟩ := cell_block this
        unfold Addr.add at h2
        simpa using h2) hlc (fun i v hv => by
        have hil : i < len ∧ i < zs.length := by
          have := (List.getElem?_eq_some_iff.1 hv).1
          simp at this
          exact ⟨by omega, by omega⟩
        have := hcell i hil.2
        rw [this]
        rw [List.getElem?_map, List.getElem?_take, if_pos hil.1, List.getElem?_eq_getElem hil.2] at hv
        simp only [Option.map_some, Option.some.injEq] at hv
        subst hv
        rw [List.getD_eq_getElem?_getD, List.getElem?_eq_getElem hil.2]
        simp [con]) (by rw [scL_iff]; intro v hv; obtain ⟨z, _, rfl⟩ := List.mem_map.1 hv; rfl) (fun v hv => by obtain ⟨z, _, rfl⟩ := List.mem_map.1 hv; rfl)
    refine ⟨E', h', v, zs.take len, k1, k2, k3, k4, k5, k6, k7, ?_, k8⟩
    have : maxLen = 2 ^ 63 - 1 := rfl
    rw [List.length_take]
    omega
theorem openIntsArg {E : Env} {h : Hp} (H : HpOK Tryz.prog B w0 E h w) (hB : ∀ k, k < w.heap.size → B.ro k) {v0 : Value} {base : Nat} {d : DataW HH} {p : List MemPlace} (hval : Value.okWide Tryz.prog w .any base 22 v0)
    (ht : DataW.Trod enc Tryz.prog w 0 (fun _ => true) true 22 v0 d p) :
    ∃ (E' : Env) (h' : Hp) (xa : Option Addr) (xc : Nat) (zs : List Int), HpOK Tryz.prog B w0 E' h' w ∧ con E' (.slice xa zs.length xc) = v0 ∧ sc h'.next (.slice xa zs.length xc) = true ∧ Rds h' (.slice xa zs.length xc) (zs.map I) ∧ WfS (.slice xa zs.length xc) ∧ zs.length < 2 ^ 63 := by
  obtain ⟨fuel, ht⟩ := ht
  have hsl : ∃ a l c, v0 = .slice a l c := by
    unfold Value.okWide at hval
    rw [u22] at hval
    simp only [Cell.okWide, u22, Cell.ok] at hval
    cases v0 <;> first | exact ⟨_, _, _, rfl⟩ | simp at hval
  obtain ⟨a0, l0, c0, rfl⟩ := hsl
  have hcells : (Value.slice a0 l0 c0).cells.toList = [.slice a0 l0 c0] := rfl
  rw [hcells] at ht
  obtain ⟨E', h', v, r, j1, j2, j3, j4, j5, j6, j7, j8, j9⟩ := openInts H hB ht
  obtain ⟨xa, xc, hs⟩ := j6.shape
  rw [List.length_map] at hs
  subst hs
  exact ⟨E', h', xa, xc, r, j1, j4, j5, j6, j9, j8⟩
end
theorem said4 (l : List Nat) (hl : ∀ n ∈ l, n < 256) (z : Int) (zs : List Int) (hzs : zs.length < 2 ^ 63) (xa : Option Addr) (xc : Nat) (h : Hp) (hx : Rds h (.slice xa zs.length xc) (zs.map I)) (hwf : WfS (.slice xa zs.length xc)) : ∃ H, evInv Tryz.prog orc 100000 1000 (.fn 4 [.string (strL l), .int .i64 z, .slice xa zs.length xc]) h = some (.bool true, H) := s4 l hl z zs hzs xa xc 994 h hx hwf
end Go.Proofs.YtegcmgjldapnmaaGreatDoor
