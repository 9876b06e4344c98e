/- Lists of numbers in the order of a dictionary; what is left of a list if neighbours that are alike are one. -/
import Derived.Test.YtegcmgjldapnmaaGreatDoorProg
import Derived.KernelRfl
import Derived.Test.YtegcmgjldapnmaaGreatDoorSyF
import Derived.Test.YtegcmgjldapnmaaGreatDoorMoQD
import Derived.Test.YtegcmgjldapnmaaGreatDoorMoQB
namespace Go.Proofs.YtegcmgjldapnmaaGreatDoor
open Go Go.Eng Nim Oct
set_option maxRecDepth 100000
set_option maxHeartbeats 8000000
theorem nbeq_no {a b : Nat} (h : a ≠ b) : Nat.beq a b = false := by
  cases hb : Nat.beq a b with
  | false => rfl
  | true => exact absurd (Nat.eq_of_beq_eq_true hb) h
theorem sz3 : sizeT Tryz.prog 3 = some 1 := by kernel_rfl
theorem odd_half (n : Nat) : (2 * n + 1) / 2 = n ∧ Nat.beq ((2 * n + 1) % 2) 1 = true := ⟨by omega, by rw [show (2 * n + 1) % 2 = 1 by omega]; rfl⟩
theorem sl_mid {q n i j : Nat} (hij : i ≤ j) (hjn : j ≤ n) (hin : i < n) : sliceOp Tryz.prog 22 (.slice (some ⟨q, 0, none⟩) n (2 * n + 1)) (some (J i)) (some (J j)) (some (J n)) = some (.slice (some ⟨q, 0 + i * 1, none⟩) (j - i) (2 * (n - i))) := by
  obtain ⟨h1, h2⟩ := odd_half n
  simp only [sliceOp, u22, sz3, sliceV, Go.Eng.bound, h1, h2, Option.isSome_some, show ∀ k, natOf (J k) = some k from fun _ => rfl, if_true, Nat.ble_eq_true_of_le (Nat.le_refl n), Nat.ble_eq_true_of_le hjn, Nat.ble_eq_true_of_le hij, Nat.ble_eq_true_of_le (Nat.le_of_lt hin), nbeq_no (show n ≠ i by omega), Bool.not_true, Bool.and_false]
theorem sl_hi {q n m j : Nat} (hjn : j ≤ n) (hn : 0 < n) : sliceOp Tryz.prog 22 (.slice (some ⟨q, 0, none⟩) m (2 * n + 1)) none (some (J j)) none = some (.slice (some ⟨q, 0, none⟩) j (2 * n + 1)) := by
  obtain ⟨h1, h2⟩ := odd_half n
  simp only [sliceOp, u22, sz3, sliceV, Go.Eng.bound, h1, h2, Option.isSome_none, show ∀ k, natOf (J k) = some k from fun _ => rfl, Bool.false_eq_true, if_false, Nat.ble_eq_true_of_le hjn, Nat.ble_eq_true_of_le (Nat.zero_le n), nbeq_no (show n ≠ 0 by omega), Bool.not_false, Bool.and_true]
  simp
theorem sl_lo {q n m i : Nat} (him : i ≤ m) (hmn : m ≤ n) (hin : i < n) : sliceOp Tryz.prog 22 (.slice (some ⟨q, 0, none⟩) m (2 * n + 1)) (some (J i)) none none = some (.slice (some ⟨q, i, none⟩) (m - i) (2 * (n - i) + 1)) := by
  obtain ⟨h1, h2⟩ := odd_half n
  simp only [sliceOp, u22, sz3, sliceV, Go.Eng.bound, h1, h2, Option.isSome_none, show ∀ k, natOf (J k) = some k from fun _ => rfl, Nat.ble_eq_true_of_le him, Nat.ble_eq_true_of_le (Nat.le_of_lt hin), nbeq_no (show n ≠ i by omega), Bool.not_false, Bool.and_true]
  simp
theorem sl_end {q n : Nat} (hn : 0 < n) : sliceOp Tryz.prog 22 (.slice (some ⟨q, 0, none⟩) n (2 * n + 1)) (some (J n)) none none = some (.slice (some ⟨q, 0, some n⟩) 0 1) := by
  obtain ⟨h1, h2⟩ := odd_half n
  obtain ⟨n, rfl⟩ : ∃ k, n = k + 1 := ⟨n - 1, by omega⟩
  simp only [sliceOp, u22, sz3, sliceV, Go.Eng.bound, h1, h2, Option.isSome_none, show ∀ k, natOf (J k) = some k from fun _ => rfl, Nat.ble_eq_true_of_le (Nat.le_refl (n + 1)), Nat.beq_refl, Bool.not_false, Bool.and_true]
  simp
theorem sl_two {q n m i j : Nat} (hij : i ≤ j) (hjn : j ≤ n) (hin : i < n) : sliceOp Tryz.prog 22 (.slice (some ⟨q, 0, none⟩) m (2 * n + 1)) (some (J i)) (some (J j)) none = some (.slice (some ⟨q, i, none⟩) (j - i) (2 * (n - i) + 1)) := by
  obtain ⟨h1, h2⟩ := odd_half n
  simp only [sliceOp, u22, sz3, sliceV, Go.Eng.bound, h1, h2, Option.isSome_none, show ∀ k, natOf (J k) = some k from fun _ => rfl, Bool.false_eq_true, if_false, Nat.ble_eq_true_of_le hjn, Nat.ble_eq_true_of_le hij, Nat.ble_eq_true_of_le (Nat.le_of_lt hin), nbeq_no (show n ≠ i by omega), Bool.not_false, Bool.and_true]
  simp
end Go.Proofs.YtegcmgjldapnmaaGreatDoor
namespace Go.Proofs.YtegcmgjldapnmaaGreatDoor
open Go Go.Eng Nim Oct
set_option maxRecDepth 100000
set_option maxHeartbeats 8000000
theorem app_in {g : Hp} {q N i : Nat} {cs new : List Value} {x : Value} (hg : g.get q = some (.cells cs 3 true)) (hc : cs.length = N) (hi : i + new.length ≤ N) (hN : N ≤ 10000) (h1 : lenV x = some new.length) (h2 : elems g 1 new.length x = some new) (h3 : new.all scalar = true) :
    appendOp Tryz.prog g 22 (.slice (some ⟨q, 0, none⟩) i (2 * N + 1)) x = some (.slice (some ⟨q, 0, none⟩) (i + new.length) (2 * N + 1), g.put q (.cells (splice cs i new) 3 true)) := by
  obtain ⟨inf, hi1, hi2⟩ := slz32.i
  obtain ⟨z, hz1, hz2⟩ := slz32.zr
  obtain ⟨o1, o2⟩ := odd_half N
  have hst : storeN g q (0 + i * 1) new = some (g.put q (.cells (splice cs i new) 3 true)) := by
    simp only [storeN, hg, Nat.zero_add, Nat.mul_one, h3, Nat.ble_eq_true_of_le (show i + new.length ≤ cs.length by omega)]
  simp only [appendOp, slz32.u, slz32.s, hi1, hz1, h1, h2, hz2, hi2, h3, Nat.ble_eq_true_of_le (show i + new.length ≤ most by unfold most; omega), o1, Nat.ble_eq_true_of_le hi, hst]
theorem drop_elems {g : Hp} {q : Nat} {cs : List Value} {o : Bool} (hg : g.get q = some (.cells cs 3 o)) (i c : Nat) : lenV (.slice (some ⟨q, i, none⟩) (cs.length - i) c) = some (cs.drop i).length ∧ elems g 1 (cs.drop i).length (.slice (some ⟨q, i, none⟩) (cs.length - i) c) = some (cs.drop i) := by
  refine ⟨by rw [List.length_drop]; rfl, ?_⟩
  have ht := takeN_all (cs.drop i)
  generalize hd : cs.drop i = d at *
  cases d with
  | nil => rfl
  | cons v r =>
    simp only [elems, List.length_cons, Nat.mul_one, loadN, hg, hd]
    exact ht
theorem clear_one {g : Hp} {q k c : Nat} {cs : List Value} (hg : g.get q = some (.cells cs 3 true)) (hk : k < cs.length) : clearOp Tryz.prog g 22 (.slice (some ⟨q, k, none⟩) 1 c) = some (g.put q (.cells (splice cs k [J 0]) 3 true)) := by
  have hz : zeroOf Tryz.prog 3 = some (J 0) := by kernel_rfl
  simp only [clearOp, u22, hz]
  show storeN g q k [J 0] = _
  simp only [storeN, hg, List.length_cons, List.length_nil, Nat.zero_add, Nat.ble_eq_true_of_le hk]
  rfl
theorem splice_del {cs : List Value} {n i : Nat} (hc : cs.length = n + 1) (hi : i ≤ n) : splice (splice cs i (cs.drop (i + 1))) n [J 0] = cs.eraseIdx i ++ [J 0] := by
  have h1 : splice cs i (cs.drop (i + 1)) = cs.eraseIdx i ++ cs.drop n := by
    unfold splice
    rw [List.eraseIdx_eq_take_drop_succ, List.length_drop, hc, show i + (n + 1 - (i + 1)) = n by omega]
  have h2 : (cs.eraseIdx i).length = n := by rw [List.length_eraseIdx_of_lt (by omega)]; omega
  rw [h1]
  unfold splice
  rw [List.take_append_of_le_length (by omega), List.take_of_length_le (by omega), List.drop_eq_nil_of_le (by simp [h2, hc]), List.append_nil]
theorem del_of (lf m : Nat) (n i q : Nat) (hi : i ≤ n) (hn : n ≤ 100) (cs : List Value) (hc : cs.length = n + 1) (hs : cs.all scalar = true) (h : Hp) (L : List (Nat × AObj)) (g : Hp) (W : Sto h g ((q, .cells cs 3 true) :: L)) :
    ∃ v g', Ev lf (m + 1) 24 [.slice (some ⟨q, 0, none⟩) (n + 1) (2 * (n + 1) + 1), J i, J (i + 1)] g = some (v, g') ∧ v = .slice (some ⟨q, 0, none⟩) n (2 * (n + 1) + 1) ∧ Sto h g' ((q, .cells (cs.eraseIdx i ++ [J 0]) 3 true) :: L) := by
  refine fnS_ok (Q := fun v g' => v = .slice (some ⟨q, 0, none⟩) n (2 * (n + 1) + 1) ∧ Sto h g' ((q, .cells (cs.eraseIdx i ++ [J 0]) 3 true) :: L)) ?_
  have hg := W.get 0 rfl
  have hlen : i + (cs.drop (i + 1)).length = n := by rw [List.length_drop]; omega
  have hds : (cs.drop (i + 1)).all scalar = true := by
    rw [List.all_eq_true] at hs ⊢
    exact fun x hx => hs x (List.mem_of_mem_drop hx)
  refine ok_go 1 ?_
  refine sy_load 0 (r := sliceOp Tryz.prog 22 (.slice (some ⟨q, 0, none⟩) (n + 1) (2 * (n + 1) + 1)) (some (J i)) (some (J (i + 1))) (some (J (n + 1)))) (h' := g) (by kernel_rfl) (sl_mid (by omega) (by omega) (by omega)) ?_
  refine ok_go 1 ?_
  refine sy_no 0 (b := Int.ofNat i == Int.ofNat (i + 1)) (by kernel_rfl) (beq_eq_false_iff_ne.2 fun h => by have := Int.ofNat.inj h; omega) ?_
  refine ok_go 1 ?_
  refine sy_load 0 (r := sliceOp Tryz.prog 22 (.slice (some ⟨q, 0, none⟩) (n + 1) (2 * (n + 1) + 1)) none (some (J i)) none) (h' := g) (by kernel_rfl) (sl_hi (by omega) (by omega)) ?_
  refine ok_go 0 ?_
  have hx : ∃ y, sliceOp Tryz.prog 22 (.slice (some ⟨q, 0, none⟩) (n + 1) (2 * (n + 1) + 1)) (some (J (i + 1))) none none = some y ∧ (∃ a k c, y = .slice a k c) ∧ appendOp Tryz.prog g 22 (.slice (some ⟨q, 0, none⟩) i (2 * (n + 1) + 1)) y = some (.slice (some ⟨q, 0, none⟩) n (2 * (n + 1) + 1), g.put q (.cells (splice cs i (cs.drop (i + 1))) 3 true)) := by
    by_cases hin : i = n
    · subst hin
      refine ⟨_, sl_end (by omega), ⟨_, _, _, rfl⟩, ?_⟩
      have hd : cs.drop (i + 1) = [] := List.drop_eq_nil_of_le (by omega)
      have := app_in hg hc (i := i) (new := cs.drop (i + 1)) (x := .slice (some ⟨q, 0, some (i + 1)⟩) 0 1) (by omega) (by omega) (by rw [hd]; rfl) (by rw [hd]; rfl) hds
      rw [this, hlen]
    · refine ⟨_, sl_lo (by omega) (by omega) (by omega), ⟨_, _, _, rfl⟩, ?_⟩
      obtain ⟨e1, e2⟩ := drop_elems hg (i + 1) (2 * (n + 1 - (i + 1)) + 1)
      rw [hc] at e1 e2
      have := app_in hg hc (i := i) (by omega) (by omega) e1 e2 hds
      rw [this, hlen]
  obtain ⟨_, hy, ⟨ya, yk, yc, rfl⟩, happ⟩ := hx
  refine sy_load 0 (r := sliceOp Tryz.prog 22 (.slice (some ⟨q, 0, none⟩) (n + 1) (2 * (n + 1) + 1)) (some (J (i + 1))) none none) (h' := g) (by kernel_rfl) hy ?_
  refine ok_go 0 ?_
  refine sy_call 0 (by kernel_rfl) happ ?_
  have W := W.put 0 rfl (.cells (splice cs i (cs.drop (i + 1))) 3 true)
  generalize g.put q (.cells (splice cs i (cs.drop (i + 1))) 3 true) = g2 at *
  have hg2 := W.get 0 rfl
  have hl2 : (splice cs i (cs.drop (i + 1))).length = n + 1 := by
    unfold splice
    simp
    omega
  refine ok_go 1 ?_
  refine sy_load 0 (r := sliceOp Tryz.prog 22 (.slice (some ⟨q, 0, none⟩) n (2 * (n + 1) + 1)) (some (J n)) (some (J (n + 1))) none) (h' := g2) (by kernel_rfl) (sl_two (by omega) (by omega) (by omega)) ?_
  refine ok_go 0 ?_
  refine sy_store 0 (r := clearOp Tryz.prog g2 22 (.slice (some ⟨q, n, none⟩) (n + 1 - n) (2 * (n + 1 - n) + 1))) (by kernel_rfl) (by rw [show n + 1 - n = 1 by omega]; exact clear_one hg2 (by omega)) ?_
  have W := W.put 0 rfl (.cells (splice (splice cs i (cs.drop (i + 1))) n [J 0]) 3 true)
  rw [splice_del hc hi] at W ⊢
  refine sy_done 0 (v := Value.slice (some { block := q, off := 0 }) n (2 * (n + 1) + 1)) (h := { objs := Tr.set (Hp.objs g2) q (some (AObj.cells (List.eraseIdx cs i ++ [J 0]) 3 true)), next := Hp.next g2 }) (by kernel_rfl) ?_
  exact ⟨rfl, W⟩
end Go.Proofs.YtegcmgjldapnmaaGreatDoor
namespace Go.Proofs.YtegcmgjldapnmaaGreatDoor
open Go Go.Eng Nim Oct
set_option maxRecDepth 100000
set_option maxHeartbeats 8000000
theorem app_empty {g : Hp} {b : Nat} {o : Bool} {new : List Value} {x : Value} (hg : g.get b = some (.cells [] 3 o)) (hn : 1 ≤ new.length) (hN : new.length ≤ 10000) (h1 : lenV x = some new.length) (h2 : elems g 1 new.length x = some new) (h3 : new.all scalar = true) :
    appendOp Tryz.prog g 22 (.slice (some ⟨b, 0, none⟩) 0 0) x = some (.slice (some ⟨g.next, 0, none⟩) new.length (2 * new.length + 1), g.new (.cells new 3 true)) := by
  obtain ⟨inf, hi1, hi2⟩ := slz32.i
  obtain ⟨z, hz1, hz2⟩ := slz32.zr
  have hb : Nat.ble (0 + new.length) (0 / 2) = false := by
    cases h : Nat.ble (0 + new.length) (0 / 2) with
    | false => rfl
    | true => have := Nat.le_of_ble_eq_true h; omega
  have hl : loadN g b 0 (0 * 1) = some [] := by simp only [loadN, hg]; rfl
  simp only [appendOp, slz32.u, slz32.s, hi1, hz1, h1, h2, hz2, hi2, h3, Nat.ble_eq_true_of_le (show 0 + new.length ≤ most by unfold most; omega), hb, hl]
  simp
theorem clone_of (lf m : Nat) (vs : List Value) (hv : 1 ≤ vs.length) (hv2 : vs.length ≤ 1000) (hs : vs.all scalar = true) (x : Value) (h : Hp) (L : List (Nat × AObj)) (g : Hp) (hx : Rds g x vs) (W : Sto h g L) :
    ∃ v g', Ev lf (m + 1) 25 [x] g = some (v, g') ∧ ∃ q, v = .slice (some ⟨q, 0, none⟩) vs.length (2 * vs.length + 1) ∧ Sto h g' ((q, .cells vs 3 true) :: L) := by
  refine fnS_ok (Q := fun v g' => ∃ q, v = .slice (some ⟨q, 0, none⟩) vs.length (2 * vs.length + 1) ∧ Sto h g' ((q, .cells vs 3 true) :: L)) ?_
  have hx0 := hx
  rcases hx with ⟨_, rfl⟩ | ⟨i, off, c, rfl, hr⟩
  · simp at hv
  have V := Sto.start g
  refine ow_new 2 V (AObj.cells [] 3 false) (fun q => Value.slice (some { block := q, off := 0 }) 0 0) (by kernel_rfl) fun s1 ns1 Vs1 => ?_
  have V := Vs1
  obtain ⟨e1, e2⟩ := rds_elems (hx0.ext V.ext)
  have ha := app_empty (V.get 0 rfl) hv (by omega) e1 e2 hs
  refine sy_call 0 (by kernel_rfl) ha ?_
  have V := (V.new (.cells vs 3 true)).sub (l' := [(s1.next, .cells vs 3 true)]) (.cons_cons _ (List.nil_sublist _))
  refine sy_done 0 (v := Value.slice (some { block := Hp.next s1, off := 0 }) (List.length vs) (2 * List.length vs + 1)) (h := Hp.new s1 (AObj.cells vs 3 true)) (by kernel_rfl) ?_
  exact ⟨_, rfl, W.over V⟩
theorem app_two {g : Hp} {q n N : Nat} {cs old new : List Value} {x : Value} (hg : g.get q = some (.cells cs 3 true)) (hc : cs.length = N) (ho : cs.take n = old) (hn : n ≤ N) (hnew : N < n + new.length) (hN : n + new.length ≤ 10000) (h1 : lenV x = some new.length) (h2 : elems g 1 new.length x = some new) (h3 : new.all scalar = true) :
    appendOp Tryz.prog g 22 (.slice (some ⟨q, 0, none⟩) n (2 * N + 1)) x = some (.slice (some ⟨g.next, 0, none⟩) (n + new.length) (2 * (n + new.length) + 1), (g.kill q).new (.cells (old ++ new) 3 true)) := by
  obtain ⟨inf, hi1, hi2⟩ := slz32.i
  obtain ⟨z, hz1, hz2⟩ := slz32.zr
  obtain ⟨o1, o2⟩ := odd_half N
  have hb : Nat.ble (n + new.length) N = false := by
    cases h : Nat.ble (n + new.length) N with
    | false => rfl
    | true => have := Nat.le_of_ble_eq_true h; omega
  have hl : loadN g q 0 (n * 1) = some old := by
    simp only [loadN, hg, List.drop_zero, Nat.mul_one]
    rw [← ho]
    exact takeN_take (hc ▸ takeN_all cs) n hn
  have h4 : Nat.beq ((2 * N + 1) % 2) 0 = false := by rw [show (2 * N + 1) % 2 = 1 by omega]; rfl
  have h5 : (Nat.beq 3 3 && Nat.beq cs.length (N * 1)) = true := by rw [hc, Nat.mul_one, Nat.beq_refl, Nat.beq_refl]; rfl
  have h6 : Nat.beq 0 0 = true := rfl
  simp only [appendOp, slz32.u, slz32.s, hi1, hz1, h1, h2, hz2, hi2, h3, Nat.ble_eq_true_of_le (show n + new.length ≤ most by unfold most; omega), o1, hb, hl, h4, h6, hg, h5]
end Go.Proofs.YtegcmgjldapnmaaGreatDoor
namespace Go.Proofs.YtegcmgjldapnmaaGreatDoor
open Go Go.Eng Nim Oct
set_option maxRecDepth 100000
set_option maxHeartbeats 8000000
theorem idxf_of (lf m C : Nat) (p : Int → Bool) (zs : List Int) (hlf : zs.length < lf) (hsm : lf < 2 ^ 62) (x : Value) (g : Hp) (hx : Rds g x (zs.map I)) (hp : ∀ z ∈ zs, Ev lf m C [I z] g = some (.bool (p z), g)) :
    ∃ v g', Ev lf (m + 1) 44 [x, .func (.func C) #[] #[]] g = some (v, g') ∧ g' = g ∧ ((∃ i, ∃ hi : i < zs.length, v = J i ∧ p zs[i] = true ∧ ∀ z ∈ zs.take i, p z = false) ∨ (v = I (-1) ∧ ∀ z ∈ zs, p z = false)) := by
  refine fnS_ok (Q := fun v g' => g' = g ∧ ((∃ i, ∃ hi : i < zs.length, v = J i ∧ p zs[i] = true ∧ ∀ z ∈ zs.take i, p z = false) ∨ (v = I (-1) ∧ ∀ z ∈ zs, p z = false))) ?_
  obtain ⟨xa, xc, hxs⟩ := hx.shape
  rw [List.length_map] at hxs
  subst hxs
  refine ok_go 1 ?_
  refine sy_loop 0 lf g (α := Nat) (fun k => [(0, .slice xa zs.length xc), (1, .func (.func C) #[] #[]), (7, J zs.length), (8, J k)]) (fun k g' => k ≤ zs.length ∧ g' = g ∧ ∀ z ∈ zs.take k, p z = false) (fun k _ => zs.length - k) 0 (by kernel_rfl) (by kernel_rfl)
    ⟨by kernel_rfl, by kernel_rfl, by kernel_rfl, by kernel_rfl, trivial⟩ (show zs.length - 0 < lf by omega) ⟨Nat.zero_le _, rfl, fun z hz => by simp at hz⟩ ?_
  rintro m1 k F1 g ⟨hk, rfl, ha⟩ ih
  have hw : IntKind.wrap .i64 (Int.ofNat (k + 1)) = Int.ofNat (k + 1) := wrap_nat (by omega)
  refine ok_go 1 ?_
  refine sy_test 0 (decide (Int.ofNat k < Int.ofNat zs.length)) (by kernel_rfl) ?_ ?_
  · intro hlt
    have hlt : k < zs.length := ok_nat hlt
    obtain ⟨q, hq1, hq2⟩ := rdI hx hlt
    have ec := hp zs[k] (List.getElem_mem hlt)
    refine ok_go 0 ?_
    refine sy_load 0 (r := indexAddrOp Tryz.prog 22 (.slice xa zs.length xc) (J k)) (h' := g) (by kernel_rfl) hq1 ?_
    refine ok_go 0 ?_
    refine sy_load 0 (r := loadT Tryz.prog g 3 q) (h' := g) (by kernel_rfl) hq2 ?_
    refine ok_go 0 ?_
    refine sy_call 0 (by kernel_rfl) ec ?_
    refine ok_go 0 ?_
    refine sy_test 0 (p zs[k]) (by kernel_rfl) ?_ ?_
    · intro hp1
      refine sy_done 0 (v := Value.int IntKind.i64 (Int.ofNat k)) (h := g) (by kernel_rfl) ?_
      exact ⟨rfl, .inl ⟨k, hlt, rfl, hp1, ha⟩⟩
    · intro hp1
      refine ok_go 1 ?_
      exact sy_next 0 _ g (by kernel_rfl) (by kernel_rfl) (ih (k + 1) _ g ⟨hlt, rfl, fun z hz => by
        rw [List.take_succ_eq_append_getElem hlt] at hz
        rcases List.mem_append.1 hz with h | h
        · exact ha z h
        · rw [List.mem_singleton.1 h]; exact hp1⟩ (show zs.length - (k + 1) < zs.length - k by omega) ⟨by kernel_rfl, by kernel_rfl, by kernel_rfl, (by kernel_rfl : _ = Value.int .i64 (IntKind.wrap .i64 (Int.ofNat (k + 1)))).trans (by rw [hw]), trivial⟩)
  · intro hlt
    have hlt : k = zs.length := Nat.le_antisymm hk (no_nat hlt)
    subst hlt
    rw [List.take_length] at ha
    refine sy_done 0 (v := Value.int IntKind.i64 (Int.negSucc 0)) (h := g) (by kernel_rfl) ?_
    exact ⟨rfl, .inr ⟨rfl, ha⟩⟩
theorem zero_of (lf m : Nat) (z : Int) (g : Hp) : Ev lf (m + 1) 27 [I z] g = some (.bool (z == 0), g) := by
  refine fn_eq ?_
  refine ok_go 1 ?_
  refine sy_done 0 (v := Value.bool (z == 0)) (h := g) (by kernel_rfl) ?_
  exact ⟨rfl, rfl⟩
end Go.Proofs.YtegcmgjldapnmaaGreatDoor
namespace Go.Proofs.YtegcmgjldapnmaaGreatDoor.Oct
def nz (n : Nat) : Bool := n != 0
theorem filt_take {zs : List Nat} {j : Nat} (h : j < zs.length) : (zs.take (j + 1)).filter nz = (zs.take j).filter nz ++ (if nz zs[j] then [zs[j]] else []) := by
  rw [List.take_succ_eq_append_getElem h, List.filter_append]
  congr 1
  rw [List.filter_cons]
  split <;> rfl
end Go.Proofs.YtegcmgjldapnmaaGreatDoor.Oct
namespace Go.Proofs.YtegcmgjldapnmaaGreatDoor
open Go Go.Eng Nim Oct
set_option maxRecDepth 100000
set_option maxHeartbeats 8000000
theorem clear_to {g : Hp} {q k n c : Nat} {cs : List Value} (hg : g.get q = some (.cells cs 3 true)) (hk : k + n ≤ cs.length) : ∃ g', clearOp Tryz.prog g 22 (.slice (some ⟨q, k, none⟩) n c) = some g' ∧ (g' = g ∧ n = 0 ∨ ∃ cs', g' = g.put q (.cells cs' 3 true) ∧ cs'.length = cs.length ∧ cs'.take k = cs.take k) := by
  have hz : zeroOf Tryz.prog 3 = some (J 0) := by kernel_rfl
  have hzl : ∀ n, (zeros [J 0] n).length = n ∧ (zeros [J 0] n).all scalar = true := fun n => by
    rw [zeros_one, cellsF_len]
    exact ⟨rfl, by simp [cellsF, scalar]⟩
  cases n with
  | zero => exact ⟨g, by simp only [clearOp, u22], .inl ⟨rfl, rfl⟩⟩
  | succ n =>
    obtain ⟨l1, l2⟩ := hzl (n + 1)
    refine ⟨g.put q (.cells (splice cs k (zeros [J 0] (n + 1))) 3 true), ?_, .inr ⟨_, rfl, ?_, ?_⟩⟩
    · simp only [clearOp, u22, hz]
      show storeN g q k (zeros [J 0] (n + 1)) = _
      simp only [storeN, hg, l1, l2, Nat.ble_eq_true_of_le hk]
    · unfold splice
      rw [List.length_append, List.length_append, List.length_take, List.length_drop, l1]
      omega
    · unfold splice
      rw [List.append_assoc, List.take_append_of_le_length (by rw [List.length_take]; omega), List.take_take, Nat.min_self]
theorem delf_of (lf m : Nat) (hlf : 300 ≤ lf) (hsm : lf < 2 ^ 62) (zs : List Nat) (M : Nat) (hM : zs.length = M) (h1 : 1 ≤ M) (h2 : M ≤ 100) (q : Nat) (h : Hp) (L : List (Nat × AObj)) (g : Hp) (W : Sto h g ((q, .cells (zs.map J) 3 true) :: L)) :
    ∃ v g', Ev lf (m + 3) 26 [.slice (some ⟨q, 0, none⟩) M (2 * M + 1), .func (.func 27) #[] #[]] g = some (v, g') ∧ v = .slice (some ⟨q, 0, none⟩) (zs.filter nz).length (2 * M + 1) ∧ ∃ cs, Sto h g' ((q, .cells cs 3 true) :: L) ∧ cs.length = M ∧ cs.take (zs.filter nz).length = (zs.filter nz).map J := by
  refine fnS_ok (Q := fun v g' => v = .slice (some ⟨q, 0, none⟩) (zs.filter nz).length (2 * M + 1) ∧ ∃ cs, Sto h g' ((q, .cells cs 3 true) :: L) ∧ cs.length = M ∧ cs.take (zs.filter nz).length = (zs.filter nz).map J) ?_
  have hrd : Rds g (.slice (some ⟨q, 0, none⟩) M (2 * M + 1)) ((zs.map Int.ofNat).map I) := by
    refine .inr ⟨q, 0, 2 * M + 1, by simp [hM], fun _ => ⟨W.lt 0 rfl, ?_⟩⟩
    have : (zs.map Int.ofNat).map I = zs.map J := by rw [List.map_map]; rfl
    rw [this]
    unfold loadN
    rw [W.get 0 rfl]
    exact takeN_all _
  obtain ⟨v, g1, e, hg1, hv⟩ := idxf_of lf (m + 1) 27 (fun z => z == 0) (zs.map Int.ofNat) (by rw [List.length_map]; omega) hsm _ g hrd fun z _ => zero_of lf m z g
  rw [hg1] at e
  refine ok_go 0 ?_
  rcases hv with ⟨i, hi, rfl, hp, ht⟩ | ⟨rfl, ha⟩
  · refine sy_call 0 (by kernel_rfl) e ?_
    have hil : i < M := by rw [List.length_map] at hi; omega
    have hzi : zs[i]'(by omega) = 0 := by
      have := eq_of_beq hp
      rw [List.getElem_map] at this
      exact Int.ofNat.inj this
    have hft : (zs.take i).filter nz = zs.take i := by
      rw [List.filter_eq_self]
      intro x hx
      have := ht (Int.ofNat x) (by rw [← List.map_take]; exact List.mem_map.2 ⟨x, hx, rfl⟩)
      have : Int.ofNat x ≠ 0 := by simpa using this
      unfold nz
      simpa using this
    have hw1 : IntKind.wrap .i64 (Int.ofNat (i + 1)) = Int.ofNat (i + 1) := wrap_nat (by omega)
    refine ok_go 3 ?_
    refine sy_loop 0 lf g (α := Nat × List Value) (fun x => [(0, .slice (some ⟨q, 0, none⟩) M (2 * M + 1)), (1, .func (.func 27) #[] #[]), (5, J ((zs.take x.1).filter nz).length), (6, J x.1)]) (fun x g => i + 1 ≤ x.1 ∧ x.1 ≤ M ∧ Sto h g ((q, .cells x.2 3 true) :: L) ∧ x.2.length = M ∧ x.2.take ((zs.take x.1).filter nz).length = ((zs.take x.1).filter nz).map J ∧ x.2.drop x.1 = (zs.drop x.1).map J ∧ ((zs.take x.1).filter nz).length < x.1) (fun x _ => M - x.1) (i + 1, zs.map J) (by kernel_rfl) (by kernel_rfl)
      ⟨by kernel_rfl, by kernel_rfl, ?_, (by kernel_rfl : _ = Value.int .i64 (IntKind.wrap .i64 (Int.ofNat (i + 1)))).trans (by rw [hw1]), trivial⟩ (show M - (i + 1) < lf by omega) ⟨Nat.le_refl _, hil, W, by rw [List.length_map]; exact hM, ?_, by rw [List.map_drop], ?_⟩ ?_
    · refine (by kernel_rfl : _ = J i).trans ?_
      rw [filt_take (by omega), hft, hzi]
      show J i = J ((zs.take i ++ []).length)
      rw [List.append_nil, List.length_take, Nat.min_eq_left (by omega)]
    · dsimp only
      rw [filt_take (by omega), hft, hzi]
      show (zs.map J).take (zs.take i ++ []).length = (zs.take i ++ []).map J
      rw [List.append_nil, List.length_take, Nat.min_eq_left (by omega), List.map_take]
    · dsimp only
      rw [filt_take (by omega), hft, hzi]
      show (zs.take i ++ []).length < i + 1
      rw [List.append_nil, List.length_take]
      omega
    clear W hrd e
    rintro m1 ⟨j, cs⟩ F1 g ⟨hj1, hj2, W, hcl, hct, hcd, hfl⟩ ih
    dsimp only at hj1 hj2 W hcl hct hcd hfl
    have hwj : IntKind.wrap .i64 (Int.ofNat (j + 1)) = Int.ofNat (j + 1) := wrap_nat (by omega)
    refine ok_go 2 ?_
    refine sy_test 0 (decide (Int.ofNat j < Int.ofNat M)) (by kernel_rfl) ?_ ?_
    · intro hlt
      have hlt : j < M := ok_nat hlt
      have hjz : j < zs.length := by omega
      have hld : cs[j]? = some (J zs[j]) := by
        have : (cs.drop j)[0]? = some (J zs[j]) := by rw [hcd, List.getElem?_map, List.getElem?_drop, Nat.add_zero, List.getElem?_eq_getElem hjz]; rfl
        rwa [List.getElem?_drop, Nat.add_zero] at this
      have hcd1 : cs.drop (j + 1) = (zs.drop (j + 1)).map J := by
        rw [← List.drop_drop (i := 1) (j := j), hcd, ← List.map_drop, List.drop_drop]
      have hftk := filt_take hjz
      generalize zs[j] = y at *
      refine ok_go 0 ?_
      refine sy_load 0 (r := indexAddrOp Tryz.prog 22 (.slice (some ⟨q, 0, none⟩) M (2 * M + 1)) (J j)) (h' := g) (by kernel_rfl) (idxS0 (e := 3) (by kernel_rfl) (by kernel_rfl) hlt) ?_
      refine ok_go 0 ?_
      refine ow_load (P := Tryz.prog) (T := 3) (off := j) 0 0 W rfl hld (by kernel_rfl) (by kernel_rfl) ?_
      refine ok_go 2 ?_
      refine sy_test 0 (!(Int.ofNat y == 0)) (by kernel_rfl) ?_ ?_
      · intro hy
        have hy : nz y = true := by
          have : ¬ (Int.ofNat y = 0) := by simpa using hy
          unfold nz
          simpa using this
        rw [if_pos hy] at hftk
        generalize hk : ((zs.take j).filter nz).length = k at *
        have hl2 : ((zs.take (j + 1)).filter nz).length = k + 1 := by rw [hftk, List.length_append, hk]; rfl
        have hwk : IntKind.wrap .i64 (Int.ofNat (k + 1)) = Int.ofNat (k + 1) := wrap_nat (by omega)
        refine ok_go 0 ?_
        refine sy_load 0 (r := indexAddrOp Tryz.prog 22 (.slice (some ⟨q, 0, none⟩) M (2 * M + 1)) (J k)) (h' := g) (by kernel_rfl) (idxS0 (e := 3) (by kernel_rfl) (by kernel_rfl) (by omega)) ?_
        refine ok_go 0 ?_
        refine ow_store (P := Tryz.prog) (T := 3) (off := k) (v := J y) 0 0 W rfl (by omega) (by kernel_rfl) (by kernel_rfl) (by kernel_rfl) fun g2 ng2 W => ?_
        refine ok_go 2 ?_
        refine sy_next 0 _ g2 (by kernel_rfl) (by kernel_rfl) (ih (j + 1, cs.set k (J y)) _ g2 ⟨by omega, hlt, W, by rw [List.length_set]; exact hcl, ?_, ?_, by dsimp only; omega⟩ (show M - (j + 1) < M - j by omega) ⟨by kernel_rfl, by kernel_rfl, (by kernel_rfl : _ = Value.int .i64 (IntKind.wrap .i64 (Int.ofNat (k + 1)))).trans (by rw [hwk]; dsimp only; rw [hl2]), (by kernel_rfl : _ = Value.int .i64 (IntKind.wrap .i64 (Int.ofNat (j + 1)))).trans (by rw [hwj]), trivial⟩)
        · dsimp only
          rw [hl2, hftk, List.map_append, ← hct, List.take_succ_eq_append_getElem (by rw [List.length_set]; omega), List.getElem_set_self, List.take_set_of_le (Nat.le_refl _)]
          rfl
        · dsimp only
          rw [List.drop_set_of_lt (by omega)]
          exact hcd1
      · intro hy
        have hy : nz y = false := by
          have : Int.ofNat y = 0 := by simpa using hy
          unfold nz
          rw [Int.ofNat.inj this]
          rfl
        rw [hy] at hftk
        have hftk : (zs.take (j + 1)).filter nz = (zs.take j).filter nz := by rw [hftk]; exact List.append_nil _
        refine ok_go 1 ?_
        exact sy_next 0 _ g (by kernel_rfl) (by kernel_rfl) (ih (j + 1, cs) _ g ⟨by omega, hlt, W, hcl, by dsimp only; rw [hftk]; exact hct, hcd1, by dsimp only; rw [hftk]; omega⟩ (show M - (j + 1) < M - j by omega) ⟨by kernel_rfl, by kernel_rfl, (by kernel_rfl : _ = J ((zs.take j).filter nz).length).trans (by dsimp only; rw [hftk]), (by kernel_rfl : _ = Value.int .i64 (IntKind.wrap .i64 (Int.ofNat (j + 1)))).trans (by rw [hwj]), trivial⟩)
    · intro hlt
      have hjM : j = M := Nat.le_antisymm hj2 (no_nat hlt)
      have htk : zs.take j = zs := List.take_of_length_le (by omega)
      have hfe : ((zs.take j).filter nz).length = (zs.filter nz).length := by rw [htk]
      rw [htk] at hct hfl
      obtain ⟨g2, ec, hg2⟩ := clear_to (g := g) (q := q) (k := (zs.filter nz).length) (n := M - (zs.filter nz).length) (c := 2 * (M - (zs.filter nz).length) + 1) (W.get 0 rfl) (by omega)
      have hW : ∃ cs', Sto h g2 ((q, .cells cs' 3 true) :: L) ∧ cs'.length = M ∧ cs'.take (zs.filter nz).length = (zs.filter nz).map J := by
        rcases hg2 with ⟨rfl, _⟩ | ⟨cs', rfl, c1, c2⟩
        · exact ⟨cs, W, hcl, hct⟩
        · exact ⟨cs', W.put 0 rfl _, by rw [c1]; exact hcl, by rw [c2]; exact hct⟩
      refine ok_go 0 ?_
      refine sy_load 0 (r := sliceOp Tryz.prog 22 (.slice (some ⟨q, 0, none⟩) M (2 * M + 1)) (some (J ((zs.take j).filter nz).length)) none none) (h' := g) (v := .slice (some ⟨q, (zs.filter nz).length, none⟩) (M - (zs.filter nz).length) (2 * (M - (zs.filter nz).length) + 1)) (by kernel_rfl) (by rw [hfe]; exact sl_lo (by omega) (Nat.le_refl _) (by omega)) ?_
      refine ok_go 0 ?_
      refine sy_store 0 (r := clearOp Tryz.prog g 22 (.slice (some ⟨q, (zs.filter nz).length, none⟩) (M - (zs.filter nz).length) (2 * (M - (zs.filter nz).length) + 1))) (by kernel_rfl) ec ?_
      refine ok_go 0 ?_
      refine sy_load 0 (r := sliceOp Tryz.prog 22 (.slice (some ⟨q, 0, none⟩) M (2 * M + 1)) none (some (J ((zs.take j).filter nz).length)) none) (h' := g2) (v := .slice (some ⟨q, 0, none⟩) (zs.filter nz).length (2 * M + 1)) (by kernel_rfl) (by rw [hfe]; exact sl_hi (by omega) (by omega)) ?_
      refine sy_done 0 (v := Value.slice (some { block := q, off := 0 }) (List.length (List.filter nz zs)) (2 * M + 1)) (h := g2) (by kernel_rfl) ?_
      exact ⟨rfl, hW⟩
  · refine sy_call 0 (by kernel_rfl) e ?_
    refine sy_done 2 (v := Value.slice (some { block := q, off := 0 }) M (2 * M + 1)) (h := g) (by kernel_rfl) ?_
    have hf : zs.filter nz = zs := by
      rw [List.filter_eq_self]
      intro x hx
      have := ha (Int.ofNat x) (List.mem_map.2 ⟨x, hx, rfl⟩)
      have : Int.ofNat x ≠ 0 := by simpa using this
      unfold nz
      simpa using this
    refine ⟨by rw [hf, hM], zs.map J, W, by rw [List.length_map]; exact hM, ?_⟩
    rw [hf, List.take_of_length_le (by rw [List.length_map]; exact Nat.le_refl _)]
end Go.Proofs.YtegcmgjldapnmaaGreatDoor
namespace Go.Proofs.YtegcmgjldapnmaaGreatDoor
open Go Go.Eng Nim Oct
set_option maxRecDepth 100000
set_option maxHeartbeats 8000000
abbrev DatI (h : Hp) (l : List (Nat × AObj)) (q N : Nat) (o : Bool) (f : Nat → Value) (g : Hp) : Prop := Sto h g ((q, .cells (cellsF N f) 3 o) :: l)
def keyJ : Value → Int
  | .int _ z => z
  | _ => 0
def ltJ (x y : Value) : Prop := keyJ x < keyJ y
instance (x y : Value) : Decidable (ltJ x y) := inferInstanceAs (Decidable (keyJ x < keyJ y))
def VJ (x : Value) : Prop := ∃ n : Nat, x = J n
theorem VJ.sc {x : Value} (h : VJ x) : scalar x = true := by obtain ⟨n, rfl⟩ := h; rfl
theorem ordJ : Ord ltJ := ⟨fun {x y} h => by unfold ltJ at *; omega, fun {x y z} h1 h2 => by unfold ltJ at *; omega⟩
theorem less_of (lf m : Nat) (a b : Int) (g : Hp) : Ev lf (m + 2) 72 [I a, I b] g = some (.bool (decide (a < b)), g) := by
  refine fn_eq ?_
  refine sy_no 1 (b := a != a) (by kernel_rfl) (bne_self_eq_false _) ?_
  refine ok_go 8 ?_
  refine sy_done 0 (v := Value.bool (decide (a < b))) (h := g) (by kernel_rfl) ?_
  exact ⟨rfl, rfl⟩
theorem lessV_of (lf m : Nat) (g : Hp) {x y : Value} (hx : VJ x) (hy : VJ y) : Ev lf (m + 2) 72 [x, y] g = some (.bool (decide (ltJ x y)), g) := by
  obtain ⟨a, rfl⟩ := hx
  obtain ⟨b, rfl⟩ := hy
  exact less_of lf m _ _ g
section
variable {lf m q N : Nat} {h : Hp} {l : List (Nat × AObj)} {o : Bool}
theorem isortI_of (hlf : 20000 ≤ lf) (hN : N ≤ 10000) (n c : Nat) (f : Nat → Value) (b : Nat) (hb : b ≤ N) (hbn : b ≤ n) (hV : ∀ k, k < b → VJ (f k)) (g : Hp) (W : DatI h l q N o f g) :
    ∃ v g', Ev lf (m + 3) 66 [.slice (some ⟨q, 0, none⟩) n c, J 0, J b] g = some (v, g') ∧ ∃ f', DatI h l q N o f' g' ∧ Sw 0 b f f' ∧ Srt ltJ f' 0 b := by
  refine fnS_ok (Q := fun v g' => ∃ f', DatI h l q N o f' g' ∧ Sw 0 b f f' ∧ Srt ltJ f' 0 b) ?_
  let SL : Value := .slice (some ⟨q, 0, none⟩) n c
  refine ok_go 1 ?_
  refine sy_loop 0 lf g (α := Nat × (Nat → Value)) (fun x => [(0, SL), (1, J 0), (2, J b), (6, J x.1)]) (fun x g => 1 ≤ x.1 ∧ x.1 ≤ b + 1 ∧ DatI h l q N o x.2 g ∧ Sw 0 b f x.2 ∧ Srt ltJ x.2 0 x.1) (fun x _ => b + 1 - x.1) (1, f) (by kernel_rfl) (by kernel_rfl)
    ⟨by kernel_rfl, by kernel_rfl, by kernel_rfl, by kernel_rfl, trivial⟩ (show b + 1 - 1 < lf by omega) ⟨Nat.le_refl _, by omega, W, .refl f, fun x y h1 h2 h3 => by omega⟩ ?_
  clear W
  rintro m1 ⟨i, f1⟩ F1 g ⟨hi1, hi2, W, S, R⟩ ih
  dsimp only at hi1 hi2 W S R
  have hw : IntKind.wrap .i64 (Int.ofNat (i + 1)) = Int.ofNat (i + 1) := wrap_nat (by omega)
  refine ok_go 1 ?_
  refine sy_test 0 (decide (Int.ofNat i < Int.ofNat b)) (by kernel_rfl) ?_ ?_
  · intro hlt
    have hlt : i < b := ok_nat hlt
    refine ok_go 0 ?_
    refine sy_loop 0 lf g (α := Nat × (Nat → Value)) (fun x => [(0, SL), (1, J 0), (2, J b), (6, J i), (7, J x.1)]) (fun x g => 0 ≤ x.1 ∧ x.1 ≤ i ∧ DatI h l q N o x.2 g ∧ Sw 0 b f x.2 ∧ Ins ltJ x.2 0 i x.1) (fun x _ => x.1) (i, f1) (by kernel_rfl) (by kernel_rfl)
      ⟨by kernel_rfl, by kernel_rfl, by kernel_rfl, by kernel_rfl, by kernel_rfl, trivial⟩ (show i < lf by omega) ⟨by omega, Nat.le_refl _, W, S, .start R⟩ ?_
    clear W S R
    rintro m2 ⟨j, f2⟩ F2 g ⟨hj1, hj2, W, S, R⟩ ih2
    dsimp only at hj1 hj2 W S R
    refine ok_go 1 ?_
    refine sy_test 0 (decide (Int.ofNat j > 0)) (by kernel_rfl) ?_ ?_
    · intro hja
      have hja : 0 < j := ok_nat (a := 0) hja
      obtain ⟨j, rfl⟩ : ∃ k, j = k + 1 := ⟨j - 1, by omega⟩
      have hwj : IntKind.wrap .i64 (Int.ofNat (j + 1) - 1) = Int.ofNat j := sub_one (by omega)
      have hV2 := S.every (Nat.le_refl b) hV
      have ec := lessV_of lf m g (hV2 (j + 1) (by omega)) (hV2 j (by omega))
      refine ok_go 2 ?_
      refine sy_load 0 (r := indexAddrOp Tryz.prog 22 SL (J (j + 1))) (h' := g) (by kernel_rfl) (idxS0 (e := 3) (by kernel_rfl) (by kernel_rfl) (by omega)) ?_
      refine ok_go 1 ?_
      refine ow_loadF (P := Tryz.prog) (T := 3) (off := j + 1) 0 0 W rfl (by omega) (by kernel_rfl) (by kernel_rfl) ?_
      refine ok_go 5 ?_
      refine sy_load 0 (r := indexAddrOp Tryz.prog 22 SL (I (IntKind.wrap .i64 (Int.ofNat (j + 1) - 1)))) (h' := g) (v := ptr q j) (by kernel_rfl) (by rw [hwj]; exact idxS0 (e := 3) (by kernel_rfl) (by kernel_rfl) (by omega)) ?_
      refine ok_go 1 ?_
      refine ow_loadF (P := Tryz.prog) (T := 3) (off := j) 0 0 W rfl (by omega) (by kernel_rfl) (by kernel_rfl) ?_
      refine ok_go 1 ?_
      refine sy_call 0 (by kernel_rfl) ec ?_
      refine ok_go 1 ?_
      refine sy_test 0 (decide (ltJ (f2 (j + 1)) (f2 j))) (by kernel_rfl) ?_ ?_
      · intro hz0
        have hz0 : ltJ (f2 (j + 1)) (f2 j) := of_decide_eq_true hz0
        refine ok_go 2 ?_
        refine sy_load 0 (r := indexAddrOp Tryz.prog 22 SL (I (IntKind.wrap .i64 (Int.ofNat (j + 1) - 1)))) (h' := g) (v := ptr q (j)) (by kernel_rfl) (by rw [hwj]; exact idxS0 (e := 3) (by kernel_rfl) (by kernel_rfl) (by omega)) ?_
        refine ok_go 0 ?_
        refine ow_loadF (P := Tryz.prog) (T := 3) (off := j) 0 0 W rfl (by omega) (by kernel_rfl) (by kernel_rfl) ?_
        refine ok_go 0 ?_
        refine sy_load 0 (r := indexAddrOp Tryz.prog 22 SL (J (j + 1))) (h' := g) (v := ptr q (j + 1)) (by kernel_rfl) (idxS0 (e := 3) (by kernel_rfl) (by kernel_rfl) (by omega)) ?_
        refine ok_go 0 ?_
        refine ow_loadF (P := Tryz.prog) (T := 3) (off := j + 1) 0 0 W rfl (by omega) (by kernel_rfl) (by kernel_rfl) ?_
        refine ok_go 0 ?_
        refine sy_load 0 (r := indexAddrOp Tryz.prog 22 SL (J (j + 1))) (h' := g) (v := ptr q (j + 1)) (by kernel_rfl) (idxS0 (e := 3) (by kernel_rfl) (by kernel_rfl) (by omega)) ?_
        refine ok_go 0 ?_
        refine ow_storeF (P := Tryz.prog) (T := 3) (off := j + 1) (v := f2 (j)) 0 0 W rfl (by omega) (by kernel_rfl) (VJ.sc (hV2 _ (by omega))) (by kernel_rfl) fun ga nga W => ?_
        refine ok_go 0 ?_
        refine sy_load 0 (r := indexAddrOp Tryz.prog 22 SL (I (IntKind.wrap .i64 (Int.ofNat (j + 1) - 1)))) (h' := ga) (v := ptr q (j)) (by kernel_rfl) (by rw [hwj]; exact idxS0 (e := 3) (by kernel_rfl) (by kernel_rfl) (by omega)) ?_
        refine ok_go 0 ?_
        refine ow_storeF (P := Tryz.prog) (T := 3) (off := j) (v := f2 (j + 1)) 0 0 W rfl (by omega) (by kernel_rfl) (VJ.sc (hV2 _ (by omega))) (by kernel_rfl) fun g3 ng3 W => ?_
        refine ok_go 1 ?_
        have W : DatI h l q N o (swp f2 (j + 1) (j)) g3 := by rw [← updF_swp]; exact W
        exact sy_next 0 _ g3 (by kernel_rfl) (by kernel_rfl) (ih2 (j, swp f2 (j + 1) j) _ g3 ⟨by omega, by omega, W, S.trans (.one (by omega) (by omega) (by omega) (by omega)), R.swap ordJ (by omega) (by omega) hz0⟩ (show j < j + 1 by omega) ⟨by kernel_rfl, by kernel_rfl, by kernel_rfl, by kernel_rfl, (by kernel_rfl : _ = Value.int .i64 (IntKind.wrap .i64 (Int.ofNat (j + 1) - 1))).trans (by rw [hwj]), trivial⟩)
      · intro hz0
        have hz0 : ¬ ltJ (f2 (j + 1)) (f2 j) := of_decide_eq_false hz0
        refine ok_go 1 ?_
        exact sy_next 0 _ g (by kernel_rfl) (by kernel_rfl) (ih (i + 1, f2) _ g ⟨by omega, by omega, W, S, R.done ordJ (.inr ⟨hja, hz0⟩)⟩ (show b + 1 - (i + 1) < b + 1 - i by omega) ⟨by kernel_rfl, by kernel_rfl, by kernel_rfl, (by kernel_rfl : _ = Value.int .i64 (IntKind.wrap .i64 (Int.ofNat (i + 1)))).trans (by rw [hw]), trivial⟩)
    · intro hja
      have hja : j = 0 := Nat.le_antisymm (no_nat (a := 0) hja) hj1
      refine ok_go 12 ?_
      exact sy_next 0 _ g (by kernel_rfl) (by kernel_rfl) (ih (i + 1, f2) _ g ⟨by omega, by omega, W, S, R.done ordJ (.inl hja)⟩ (show b + 1 - (i + 1) < b + 1 - i by omega) ⟨by kernel_rfl, by kernel_rfl, by kernel_rfl, (by kernel_rfl : _ = Value.int .i64 (IntKind.wrap .i64 (Int.ofNat (i + 1)))).trans (by rw [hw]), trivial⟩)
  · intro hlt
    have hlt : b ≤ i := no_nat hlt
    refine sy_done 0 (v := Value.tuple { toList := [] }) (h := g) (by kernel_rfl) ?_
    exact ⟨f1, W, S, fun x y h1 h2 h3 => R x y h1 h2 (by omega)⟩
end
end Go.Proofs.YtegcmgjldapnmaaGreatDoor
namespace Go.Proofs.YtegcmgjldapnmaaGreatDoor
open Go Go.Eng Nim Oct
set_option maxRecDepth 100000
set_option maxHeartbeats 8000000
theorem cells_fn (cs : List Value) : cs = cellsF cs.length fun i => cs.getD i (J 0) := by
  apply List.ext_getElem
  · rw [cellsF_len]
  · intro i h1 h2
    have : (cellsF cs.length fun i => cs.getD i (J 0))[i]? = some (cs.getD i (J 0)) := cellsF_get h1
    rw [List.getElem?_eq_getElem h2] at this
    rw [Option.some.inj this, List.getD_eq_getElem?_getD, List.getElem?_eq_getElem h1]
    rfl
theorem sortI_of (lf m : Nat) (hlf : 20000 ≤ lf) (cs : List Value) (M k C q : Nat) (hM : cs.length = M) (hk : k ≤ 12) (hkM : k ≤ M) (hM2 : M ≤ 100) (zs : List Nat) (hzk : zs.length = k) (hz : cs.take k = zs.map J) (h : Hp) (L : List (Nat × AObj)) (g : Hp) (W : Sto h g ((q, .cells cs 3 true) :: L)) :
    ∃ v g', Ev lf (m + 5) 28 [.slice (some ⟨q, 0, none⟩) k C] g = some (v, g') ∧ ∃ cs' ys, Sto h g' ((q, .cells cs' 3 true) :: L) ∧ cs'.length = M ∧ cs'.take k = (ys : List Nat).map J ∧ ys.Perm zs ∧ ys.Pairwise (· ≤ ·) := by
  refine fnS_ok (Q := fun v g' => ∃ cs' ys, Sto h g' ((q, .cells cs' 3 true) :: L) ∧ cs'.length = M ∧ cs'.take k = (ys : List Nat).map J ∧ ys.Perm zs ∧ ys.Pairwise (· ≤ ·)) ?_
  obtain ⟨_, g1, e1, hg1, t, rfl, _, _⟩ := len_of lf (m + 2) k (by omega) g
  have e1 : Ev lf (m + 4) 48 [.int .u64 (IntKind.wrap .u64 (Int.ofNat k))] g = some (J t, g) := by rw [wrap_u64 (by omega)]; rw [hg1] at e1; exact e1
  rw [cells_fn cs, hM] at W
  have hf : ∀ i, i < k → (cs.getD i (J 0)) = J (zs.getD i 0) := fun i hi => by
    have h1 : (cs.take k)[i]? = (zs.map J)[i]? := by rw [hz]
    rw [List.getElem?_take, if_pos hi, List.getElem?_map] at h1
    rw [List.getD_eq_getElem?_getD, h1, List.getD_eq_getElem?_getD, List.getElem?_eq_getElem (by omega)]
    rfl
  obtain ⟨v2, g2, e2, f2, W2, S2, Z2⟩ := isortI_of (m := m) hlf (show M ≤ 10000 by omega) k C (fun i => cs.getD i (J 0)) k hkM (Nat.le_refl _) (fun i hi => ⟨_, hf i hi⟩) g W
  have hVJ : ∀ i, i < k → VJ (f2 i) := S2.every (Nat.le_refl k) fun i hi => ⟨_, hf i hi⟩
  have hkey : ∀ i, i < k → f2 i = J (keyJ (f2 i)).toNat := fun i hi => by
    obtain ⟨n, e⟩ := hVJ i hi
    rw [e]
    rfl
  have hpost : ∃ cs' ys, Sto h g2 ((q, .cells cs' 3 true) :: L) ∧ cs'.length = M ∧ cs'.take k = (ys : List Nat).map J ∧ ys.Perm zs ∧ ys.Pairwise (· ≤ ·) := by
    refine ⟨cellsF M f2, (List.range k).map fun i => (keyJ (f2 i)).toNat, W2, cellsF_len _ _, ?_, ?_, ?_⟩
    · show ((List.range M).map f2).take k = _
      rw [← List.map_take, List.take_range, Nat.min_eq_left hkM, List.map_map]
      exact List.map_congr_left fun i hi => hkey i (List.mem_range.1 hi)
    · have hp := (S2.perm).map fun v => (keyJ v).toNat
      rw [List.map_map, List.map_map] at hp
      refine hp.trans (List.Perm.of_eq ?_)
      apply List.ext_getElem
      · simp [hzk]
      · intro i h1 h2
        simp only [List.getElem_map, List.getElem_range, Function.comp]
        rw [hf i (by simpa using h1), List.getD_eq_getElem?_getD, List.getElem?_eq_getElem h2]
        rfl
    · rw [List.pairwise_map]
      refine List.Pairwise.imp_of_mem ?_ (List.pairwise_lt_range (n := k))
      intro i j hi hj hij
      have hn := Z2 i j (Nat.zero_le _) hij (List.mem_range.1 hj)
      obtain ⟨a, ea⟩ := hVJ i (List.mem_range.1 hi)
      obtain ⟨b, eb⟩ := hVJ j (List.mem_range.1 hj)
      rw [ea, eb] at hn ⊢
      have hn : ¬ (b : Int) < (a : Int) := hn
      show a ≤ b
      omega
  have e3 : ∃ v g', Ev lf (m + 4) 47 [.slice (some ⟨q, 0, none⟩) k C, J 0, J k, J t] g = some (v, g') ∧ g' = g2 := by
    refine fnS_ok (Q := fun v g' => g' = g2) ?_
    refine ok_go 1 ?_
    refine sy_loop 0 lf g (α := Unit) (fun _ => [(0, .slice (some ⟨q, 0, none⟩) k C), (1, J 0), (2, J k)]) (fun _ g' => g' = g) (fun _ _ => 0) () (by kernel_rfl) (by kernel_rfl)
      ⟨by kernel_rfl, by kernel_rfl, by kernel_rfl, trivial⟩ (show 0 < lf by omega) rfl ?_
    rintro m1 ⟨⟩ F1 _ rfl ih
    refine ok_go 2 ?_
    refine sy_yes 0 (b := decide (IntKind.wrap .i64 (Int.ofNat k - 0) ≤ 12)) (by kernel_rfl) (decide_eq_true (by rw [Int.sub_zero, wrap_nat (by omega)]; show (k : Int) ≤ 12; omega)) ?_
    refine ok_go 0 ?_
    refine sy_call 0 (by kernel_rfl) e2 ?_
    refine sy_done 0 (v := Value.tuple { toList := [] }) (h := g2) (by kernel_rfl) ?_
    rfl
  obtain ⟨v3, g3, e3, rfl⟩ := e3
  refine ok_go 2 ?_
  refine sy_call 0 (by kernel_rfl) e1 ?_
  refine ok_go 0 ?_
  refine sy_call 0 (by kernel_rfl) e3 ?_
  refine sy_done 0 (v := Value.tuple { toList := [] }) (h := g3) (by kernel_rfl) ?_
  exact hpost
end Go.Proofs.YtegcmgjldapnmaaGreatDoor
namespace Go.Proofs.YtegcmgjldapnmaaGreatDoor.Oct
def lexC : List Nat → List Nat → Int
  | [], [] => 0
  | [], _ :: _ => -1
  | _ :: _, [] => 1
  | a :: r, b :: s => if a < b then -1 else if b < a then 1 else lexC r s
theorem lexC_neg : ∀ xs ys, lexC ys xs = - lexC xs ys
  | [], [] => rfl
  | [], _ :: _ => rfl
  | _ :: _, [] => rfl
  | a :: r, b :: s => by
    unfold lexC
    by_cases h1 : a < b
    · rw [if_neg (by omega), if_pos h1, if_pos h1]; rfl
    · by_cases h2 : b < a
      · rw [if_pos h2, if_neg h1, if_pos h2]
      · rw [if_neg h2, if_neg h1, if_neg h1, if_neg h2]; exact lexC_neg r s
theorem lexC_eq : ∀ {xs ys}, lexC xs ys = 0 → xs = ys
  | [], [], _ => rfl
  | [], _ :: _, h => by cases h
  | _ :: _, [], h => by cases h
  | a :: r, b :: s, h => by
    unfold lexC at h
    by_cases h1 : a < b
    · rw [if_pos h1] at h; cases h
    · by_cases h2 : b < a
      · rw [if_neg h1, if_pos h2] at h; cases h
      · rw [if_neg h1, if_neg h2] at h
        rw [lexC_eq h, show a = b by omega]
theorem lexC_self (xs : List Nat) : lexC xs xs = 0 := by
  have := lexC_neg xs xs
  omega
theorem lexC_tr : ∀ {xs ys zs}, lexC xs ys ≤ 0 → lexC ys zs ≤ 0 → lexC xs zs ≤ 0
  | [], [], [], _, _ => by decide
  | [], [], _ :: _, _, _ => by show (-1 : Int) ≤ 0; decide
  | [], _ :: _, [], _, h => by exact absurd h (by show ¬ (1 : Int) ≤ 0; decide)
  | [], _ :: _, _ :: _, _, _ => by show (-1 : Int) ≤ 0; decide
  | _ :: _, [], _, h, _ => by exact absurd h (by show ¬ (1 : Int) ≤ 0; decide)
  | _ :: _, _ :: _, [], _, h => by exact absurd h (by show ¬ (1 : Int) ≤ 0; decide)
  | a :: r, b :: s, c :: t, h1, h2 => by
    unfold lexC at h1 h2 ⊢
    by_cases e1 : a < c
    · rw [if_pos e1]; decide
    · rw [if_neg e1]
      by_cases e2 : a < b
      · by_cases e3 : b < c
        · omega
        · rw [if_neg e3] at h2
          by_cases e4 : c < b
          · rw [if_pos e4] at h2; exact absurd h2 (by decide)
          · omega
      · rw [if_neg e2] at h1
        by_cases e3 : b < a
        · rw [if_pos e3] at h1; exact absurd h1 (by decide)
        · rw [if_neg e3] at h1
          by_cases e4 : b < c
          · omega
          · rw [if_neg e4] at h2
            by_cases e5 : c < b
            · rw [if_pos e5] at h2; exact absurd h2 (by decide)
            · rw [if_neg e5] at h2
              rw [if_neg (by omega)]
              exact lexC_tr h1 h2
theorem lex_ord {α : Type} (key : α → List Nat) : Ord fun x y => lexC (key x) (key y) < 0 :=
  ⟨fun {x y} h => by have := lexC_neg (key x) (key y); omega, fun {x y z} h1 h2 => by
    have a1 := lexC_neg (key x) (key y)
    have a2 := lexC_neg (key y) (key z)
    have a3 := lexC_neg (key x) (key z)
    have := lexC_tr (xs := key x) (ys := key y) (zs := key z) (by omega) (by omega)
    omega⟩
theorem lexC_drop : ∀ (i : Nat) (xs ys : List Nat), i ≤ xs.length → i ≤ ys.length → xs.take i = ys.take i → lexC xs ys = lexC (xs.drop i) (ys.drop i)
  | 0, _, _, _, _, _ => rfl
  | _ + 1, [], _, h, _, _ => by simp at h
  | _ + 1, _ :: _, [], _, h, _ => by simp at h
  | i + 1, a :: r, b :: s, h1, h2, h => by
    simp only [List.take_succ_cons, List.cons.injEq] at h
    obtain ⟨rfl, h⟩ := h
    show lexC (a :: r) (a :: s) = lexC (r.drop i) (s.drop i)
    rw [← lexC_drop i r s (by simpa using h1) (by simpa using h2) h]
    show (if a < a then -1 else if a < a then 1 else lexC r s) = _
    rw [if_neg (Nat.lt_irrefl a), if_neg (Nat.lt_irrefl a)]
section
variable {α : Type} [DecidableEq α]
def ddK : List α → List α
  | [] => []
  | [x] => [x]
  | x :: y :: r => if x = y then ddK (y :: r) else x :: ddK (y :: r)
theorem ddK_snoc : ∀ (l : List α) (x : α), ddK (l ++ [x]) = if l.getLast? = some x then ddK l else ddK l ++ [x]
  | [], x => by simp [ddK]
  | [y], x => by
    show (if y = x then ddK [x] else y :: ddK [x]) = _
    by_cases h : y = x
    · subst h; simp [ddK]
    · simp [ddK, h]
  | y :: z :: r, x => by
    have ih := ddK_snoc (z :: r) x
    show (if y = z then ddK (z :: (r ++ [x])) else y :: ddK (z :: (r ++ [x]))) = _
    rw [List.cons_append] at ih
    rw [ih, List.getLast?_cons_cons]
    by_cases h : y = z
    · rw [if_pos h]
      show _ = if _ then (if y = z then ddK (z :: r) else _) else (if y = z then ddK (z :: r) else _) ++ [x]
      rw [if_pos h]
    · rw [if_neg h]
      show _ = if _ then (if y = z then _ else y :: ddK (z :: r)) else (if y = z then _ else y :: ddK (z :: r)) ++ [x]
      rw [if_neg h]
      split <;> rfl
theorem mem_ddK : ∀ {l : List α} {x : α}, x ∈ ddK l ↔ x ∈ l
  | [], x => Iff.rfl
  | [y], x => Iff.rfl
  | y :: z :: r, x => by
    have ih := mem_ddK (l := z :: r) (x := x)
    unfold ddK
    by_cases h : y = z
    · rw [if_pos h, ih]; subst h; simp
    · rw [if_neg h, List.mem_cons, ih, List.mem_cons (a := x) (b := y)]
end
end Go.Proofs.YtegcmgjldapnmaaGreatDoor.Oct
namespace Go.Proofs.YtegcmgjldapnmaaGreatDoor
open Go Go.Eng Nim Oct
set_option maxRecDepth 100000
set_option maxHeartbeats 8000000
theorem rdN {h : Hp} {rv : Value} {r : List Nat} (hr : Rds h rv (r.map J)) {k : Nat} (hk : k < r.length) : ∃ p, indexAddrOp Tryz.prog 22 rv (J k) = some p ∧ loadT Tryz.prog h 3 p = some (J r[k]) :=
  hr.read (e := 3) (by kernel_rfl) (by kernel_rfl) (by kernel_rfl) (by rw [List.getElem?_map, List.getElem?_eq_getElem hk]; rfl)
theorem equal_of (lf m : Nat) (hlf : 20000 ≤ lf) (xs ys : List Nat) (hx1 : xs.length ≤ 1000) (x y : Value) (g : Hp) (hx : Rds g x (xs.map J)) (hy : Rds g y (ys.map J)) : Ev lf (m + 1) 32 [x, y] g = some (.bool (decide (xs = ys)), g) := by
  refine fn_eq ?_
  obtain ⟨xa, xc, hxs⟩ := hx.shape
  obtain ⟨ya, yc, hys⟩ := hy.shape
  rw [List.length_map] at hxs hys
  subst hxs hys
  refine ok_go 3 ?_
  refine sy_test 0 (Int.ofNat xs.length != Int.ofNat ys.length) (by kernel_rfl) ?_ ?_
  · intro hne
    have hne : xs.length ≠ ys.length := fun h => by rw [h] at hne; simp at hne
    refine sy_done 0 (v := Value.bool false) (h := g) (by kernel_rfl) ?_
    exact ⟨by rw [decide_eq_false fun h => hne (by rw [h])], rfl⟩
  intro heq
  have heq : xs.length = ys.length := by
    have : Int.ofNat xs.length = Int.ofNat ys.length := by simpa using heq
    exact Int.ofNat.inj this
  refine ok_go 1 ?_
  refine sy_loop 0 lf g (α := Nat) (fun i => [(0, .slice xa xs.length xc), (1, .slice ya ys.length yc), (12, J xs.length), (13, J i)]) (fun i g' => i ≤ xs.length ∧ g' = g ∧ xs.take i = ys.take i) (fun i _ => xs.length - i) 0 (by kernel_rfl) (by kernel_rfl)
    ⟨by kernel_rfl, by kernel_rfl, by kernel_rfl, by kernel_rfl, trivial⟩ (show xs.length - 0 < lf by omega) ⟨Nat.zero_le _, rfl, rfl⟩ ?_
  rintro m1 i F1 g ⟨hi, rfl, ht⟩ ih
  have hw : IntKind.wrap .i64 (Int.ofNat (i + 1)) = Int.ofNat (i + 1) := wrap_nat (by omega)
  refine ok_go 1 ?_
  refine sy_test 0 (decide (Int.ofNat i < Int.ofNat xs.length)) (by kernel_rfl) ?_ ?_
  · intro hlt
    have hlt : i < xs.length := ok_nat hlt
    have hlt2 : i < ys.length := by omega
    obtain ⟨p, hp1, hp2⟩ := rdN hx hlt
    obtain ⟨q, hq1, hq2⟩ := rdN hy hlt2
    have tx := List.take_succ_eq_append_getElem hlt
    have ty := List.take_succ_eq_append_getElem hlt2
    have gx : xs[i]? = some xs[i] := List.getElem?_eq_getElem hlt
    have gy : ys[i]? = some ys[i] := List.getElem?_eq_getElem hlt2
    generalize xs[i] = a at *
    generalize ys[i] = b at *
    refine ok_go 0 ?_
    refine sy_load 0 (r := indexAddrOp Tryz.prog 22 (.slice xa xs.length xc) (J i)) (h' := g) (by kernel_rfl) hp1 ?_
    refine ok_go 0 ?_
    refine sy_load 0 (r := loadT Tryz.prog g 3 p) (h' := g) (by kernel_rfl) hp2 ?_
    refine ok_go 0 ?_
    refine sy_load 0 (r := indexAddrOp Tryz.prog 22 (.slice ya ys.length yc) (J i)) (h' := g) (by kernel_rfl) hq1 ?_
    refine ok_go 0 ?_
    refine sy_load 0 (r := loadT Tryz.prog g 3 q) (h' := g) (by kernel_rfl) hq2 ?_
    refine ok_go 1 ?_
    refine sy_test 0 (Int.ofNat a != Int.ofNat b) (by kernel_rfl) ?_ ?_
    · intro hne
      refine sy_done 0 (v := Value.bool false) (h := g) (by kernel_rfl) ?_
      refine ⟨?_, rfl⟩
      rw [decide_eq_false fun h => ?_]
      rw [h, gy] at gx
      rw [Option.some.inj gx] at hne
      simp at hne
    · intro he
      have he : a = b := by
        have : Int.ofNat a = Int.ofNat b := by simpa using he
        exact Int.ofNat.inj this
      refine ok_go 1 ?_
      exact sy_next 0 _ g (by kernel_rfl) (by kernel_rfl) (ih (i + 1) _ g ⟨hlt, rfl, by rw [tx, ty, ht, he]⟩ (show xs.length - (i + 1) < xs.length - i by omega) ⟨by kernel_rfl, by kernel_rfl, by kernel_rfl, (by kernel_rfl : _ = Value.int .i64 (IntKind.wrap .i64 (Int.ofNat (i + 1)))).trans (by rw [hw]), trivial⟩)
  · intro hlt
    have hlt : i = xs.length := Nat.le_antisymm hi (no_nat hlt)
    rw [hlt, List.take_length, heq, List.take_length] at ht
    refine sy_done 0 (v := Value.bool true) (h := g) (by kernel_rfl) ?_
    exact ⟨by rw [decide_eq_true ht], rfl⟩
def cN (a b : Nat) : Int := if a < b then -1 else if b < a then 1 else 0
theorem ccmp_of (lf m : Nat) (a b : Nat) (g : Hp) : Ev lf (m + 2) 50 [J a, J b] g = some (I (cN a b), g) := by
  refine fn_eq ?_
  refine ok_go 2 ?_
  refine sy_no 0 (b := Int.ofNat a != Int.ofNat a) (by kernel_rfl) (bne_self_eq_false _) ?_
  refine ok_go 0 ?_
  refine sy_no 0 (b := Int.ofNat b != Int.ofNat b) (by kernel_rfl) (bne_self_eq_false _) ?_
  refine ok_go 1 ?_
  refine sy_test 0 (decide (Int.ofNat a < Int.ofNat b)) (by kernel_rfl) ?_ ?_
  · intro h1
    refine sy_done 0 (v := Value.int IntKind.i64 (Int.negSucc 0)) (h := g) (by kernel_rfl) ?_
    exact ⟨by rw [cN, if_pos (ok_nat h1)]; rfl, rfl⟩
  intro h1
  have h1 := no_nat h1
  refine ok_go 1 ?_
  refine sy_test 0 (decide (Int.ofNat a > Int.ofNat b)) (by kernel_rfl) ?_ ?_
  · intro h2
    refine sy_done 0 (v := Value.int IntKind.i64 (Int.ofNat 1)) (h := g) (by kernel_rfl) ?_
    exact ⟨by rw [cN, if_neg (by omega), if_pos (ok_nat h2)]; rfl, rfl⟩
  · intro h2
    refine sy_done 0 (v := Value.int IntKind.i64 (Int.ofNat 0)) (h := g) (by kernel_rfl) ?_
    exact ⟨by rw [cN, if_neg (by omega), if_neg (by have := no_nat h2; omega)]; rfl, rfl⟩
theorem comp_of (lf m : Nat) (hlf : 20000 ≤ lf) (xs ys : List Nat) (hx1 : xs.length ≤ 1000) (x y : Value) (g : Hp) (hx : Rds g x (xs.map J)) (hy : Rds g y (ys.map J)) : Ev lf (m + 3) 30 [x, y] g = some (I (lexC xs ys), g) := by
  refine fn_eq ?_
  obtain ⟨xa, xc, hxs⟩ := hx.shape
  obtain ⟨ya, yc, hys⟩ := hy.shape
  rw [List.length_map] at hxs hys
  subst hxs hys
  refine ok_go 1 ?_
  refine sy_loop 0 lf g (α := Nat) (fun i => [(0, .slice xa xs.length xc), (1, .slice ya ys.length yc), (9, .slice xa xs.length xc), (10, J xs.length), (11, J i)]) (fun i g' => i ≤ xs.length ∧ g' = g ∧ i ≤ ys.length ∧ xs.take i = ys.take i) (fun i _ => xs.length - i) 0 (by kernel_rfl) (by kernel_rfl)
    ⟨by kernel_rfl, by kernel_rfl, by kernel_rfl, by kernel_rfl, by kernel_rfl, trivial⟩ (show xs.length - 0 < lf by omega) ⟨Nat.zero_le _, rfl, Nat.zero_le _, rfl⟩ ?_
  rintro m1 i F1 g ⟨hi, rfl, hiy, ht⟩ ih
  have hw : IntKind.wrap .i64 (Int.ofNat (i + 1)) = Int.ofNat (i + 1) := wrap_nat (by omega)
  have hd := lexC_drop i xs ys hi hiy ht
  refine ok_go 1 ?_
  refine sy_test 0 (decide (Int.ofNat i < Int.ofNat xs.length)) (by kernel_rfl) ?_ ?_
  · intro hlt
    have hlt : i < xs.length := ok_nat hlt
    obtain ⟨p, hp1, hp2⟩ := rdN hx hlt
    rw [List.drop_eq_getElem_cons hlt] at hd
    refine ok_go 0 ?_
    refine sy_load 0 (r := indexAddrOp Tryz.prog 22 (.slice xa xs.length xc) (J i)) (h' := g) (by kernel_rfl) hp1 ?_
    refine ok_go 0 ?_
    refine sy_load 0 (r := loadT Tryz.prog g 3 p) (h' := g) (by kernel_rfl) hp2 ?_
    refine ok_go 2 ?_
    refine sy_test 0 (decide (Int.ofNat i ≥ Int.ofNat ys.length)) (by kernel_rfl) ?_ ?_
    · intro hge
      have hge : ys.length ≤ i := Int.ofNat_le.1 (of_decide_eq_true hge)
      rw [List.drop_eq_nil_of_le hge] at hd
      refine sy_done 0 (v := Value.int IntKind.i64 (Int.ofNat 1)) (h := g) (by kernel_rfl) ?_
      exact ⟨by rw [hd]; rfl, rfl⟩
    intro hge
    have hlt2 : i < ys.length := Nat.lt_of_not_le fun h => (of_decide_eq_false hge) (Int.ofNat_le.2 h)
    obtain ⟨q, hq1, hq2⟩ := rdN hy hlt2
    rw [List.drop_eq_getElem_cons hlt2] at hd
    have tx := List.take_succ_eq_append_getElem hlt
    have ty := List.take_succ_eq_append_getElem hlt2
    generalize xs[i] = a at *
    generalize ys[i] = b at *
    have ec := ccmp_of lf m a b g
    have hd : lexC xs ys = if a < b then -1 else if b < a then 1 else lexC (xs.drop (i + 1)) (ys.drop (i + 1)) := hd
    refine ok_go 0 ?_
    refine sy_load 0 (r := indexAddrOp Tryz.prog 22 (.slice ya ys.length yc) (J i)) (h' := g) (by kernel_rfl) hq1 ?_
    refine ok_go 0 ?_
    refine sy_load 0 (r := loadT Tryz.prog g 3 q) (h' := g) (by kernel_rfl) hq2 ?_
    refine ok_go 0 ?_
    refine sy_call 0 (by kernel_rfl) ec ?_
    refine ok_go 1 ?_
    refine sy_test 0 (cN a b != 0) (by kernel_rfl) ?_ ?_
    · intro hne
      refine sy_done 0 (v := Value.int IntKind.i64 (cN a b)) (h := g) (by kernel_rfl) ?_
      refine ⟨?_, rfl⟩
      rw [hd]
      unfold cN at hne ⊢
      by_cases h1 : a < b
      · rw [if_pos h1, if_pos h1]
      · by_cases h2 : b < a
        · rw [if_neg h1, if_neg h1, if_pos h2, if_pos h2]
        · rw [if_neg h1, if_neg h2] at hne; simp at hne
    · intro he
      have hab : a = b := by
        unfold cN at he
        by_cases h1 : a < b
        · rw [if_pos h1] at he; simp at he
        · by_cases h2 : b < a
          · rw [if_neg h1, if_pos h2] at he; simp at he
          · omega
      refine ok_go 1 ?_
      exact sy_next 0 _ g (by kernel_rfl) (by kernel_rfl) (ih (i + 1) _ g ⟨hlt, rfl, hlt2, by rw [tx, ty, ht, hab]⟩ (show xs.length - (i + 1) < xs.length - i by omega) ⟨by kernel_rfl, by kernel_rfl, by kernel_rfl, by kernel_rfl, (by kernel_rfl : _ = Value.int .i64 (IntKind.wrap .i64 (Int.ofNat (i + 1)))).trans (by rw [hw]), trivial⟩)
  · intro hlt
    have hlt : i = xs.length := Nat.le_antisymm hi (no_nat hlt)
    subst hlt
    rw [List.drop_eq_nil_of_le (Nat.le_refl _)] at hd
    refine ok_go 3 ?_
    refine sy_test 0 (decide (Int.ofNat xs.length < Int.ofNat ys.length)) (by kernel_rfl) ?_ ?_
    · intro hl
      have hl : xs.length < ys.length := ok_nat hl
      rw [List.drop_eq_getElem_cons hl] at hd
      refine sy_done 0 (v := Value.int IntKind.i64 (Int.negSucc 0)) (h := g) (by kernel_rfl) ?_
      exact ⟨by rw [hd]; rfl, rfl⟩
    · intro hl
      have hl : ys.length ≤ xs.length := no_nat hl
      rw [List.drop_eq_nil_of_le hl] at hd
      refine sy_done 0 (v := Value.int IntKind.i64 (Int.ofNat 0)) (h := g) (by kernel_rfl) ?_
      exact ⟨by rw [hd]; rfl, rfl⟩
end Go.Proofs.YtegcmgjldapnmaaGreatDoor
namespace Go.Proofs.YtegcmgjldapnmaaGreatDoor
open Go Go.Eng Nim Oct
set_option maxRecDepth 100000
set_option maxHeartbeats 8000000
theorem u24 : Tryz.prog.underlying 24 = some (.slice 22) := by kernel_rfl
theorem sz22 : sizeT Tryz.prog 22 = some 1 := by kernel_rfl
theorem sl_hi4 {q n m j : Nat} (hjn : j ≤ n) (hn : 0 < n) : sliceOp Tryz.prog 24 (.slice (some ⟨q, 0, none⟩) m (2 * n + 1)) none (some (J j)) none = some (.slice (some ⟨q, 0, none⟩) j (2 * n + 1)) := by
  obtain ⟨h1, h2⟩ := odd_half n
  simp only [sliceOp, u24, sz22, sliceV, Go.Eng.bound, h1, h2, Option.isSome_none, show ∀ k, natOf (J k) = some k from fun _ => rfl, Bool.false_eq_true, if_false, Nat.ble_eq_true_of_le hjn, Nat.ble_eq_true_of_le (Nat.zero_le n), nbeq_no (show n ≠ 0 by omega), Bool.not_false, Bool.and_true]
  simp
theorem sl_lo4 {q n m i : Nat} (him : i ≤ m) (hmn : m ≤ n) (hin : i < n) : sliceOp Tryz.prog 24 (.slice (some ⟨q, 0, none⟩) m (2 * n + 1)) (some (J i)) none none = some (.slice (some ⟨q, i, none⟩) (m - i) (2 * (n - i) + 1)) := by
  obtain ⟨h1, h2⟩ := odd_half n
  simp only [sliceOp, u24, sz22, sliceV, Go.Eng.bound, h1, h2, Option.isSome_none, show ∀ k, natOf (J k) = some k from fun _ => rfl, Nat.ble_eq_true_of_le him, Nat.ble_eq_true_of_le (Nat.le_of_lt hin), nbeq_no (show n ≠ i by omega), Bool.not_false, Bool.and_true]
  simp
theorem clear_to4 {g : Hp} {q k n c : Nat} {cs : List Value} (hg : g.get q = some (.cells cs 22 true)) (hk : k + n ≤ cs.length) : ∃ g', clearOp Tryz.prog g 24 (.slice (some ⟨q, k, none⟩) n c) = some g' ∧ (g' = g ∧ n = 0 ∨ ∃ cs', g' = g.put q (.cells cs' 22 true) ∧ cs'.length = cs.length ∧ cs'.take k = cs.take k) := by
  have hz : zeroOf Tryz.prog 22 = some (.slice none 0 0) := by kernel_rfl
  have hzl : ∀ n, (zeros [.slice none 0 0] n).length = n ∧ (zeros [.slice none 0 0] n).all scalar = true := fun n => by
    rw [zeros_one, cellsF_len]
    exact ⟨rfl, by simp [cellsF, scalar]⟩
  cases n with
  | zero => exact ⟨g, by simp only [clearOp, u24], .inl ⟨rfl, rfl⟩⟩
  | succ n =>
    obtain ⟨l1, l2⟩ := hzl (n + 1)
    refine ⟨g.put q (.cells (splice cs k (zeros [.slice none 0 0] (n + 1))) 22 true), ?_, .inr ⟨_, rfl, ?_, ?_⟩⟩
    · simp only [clearOp, u24, hz]
      show storeN g q k (zeros [.slice none 0 0] (n + 1)) = _
      simp only [storeN, hg, l1, l2, Nat.ble_eq_true_of_le hk]
    · unfold splice
      rw [List.length_append, List.length_append, List.length_take, List.length_drop, l1]
      omega
    · unfold splice
      rw [List.append_assoc, List.take_append_of_le_length (by rw [List.length_take]; omega), List.take_take, Nat.min_self]
theorem last_take {α : Type} {l : List α} {k : Nat} (h1 : 1 ≤ k) (hk : k ≤ l.length) : (l.take k).getLast? = l[k - 1]? := by
  rw [List.getLast?_eq_getElem?, List.length_take, Nat.min_eq_left hk, List.getElem?_take, if_pos (by omega)]
theorem ddK_take {α : Type} [DecidableEq α] (l : List α) {k : Nat} (h1 : 1 ≤ k) (hk : k < l.length) : ddK (l.take (k + 1)) = if l[k - 1]'(by omega) = l[k] then ddK (l.take k) else ddK (l.take k) ++ [l[k]] := by
  rw [List.take_succ_eq_append_getElem hk, ddK_snoc, last_take h1 (by omega), List.getElem?_eq_getElem (show k - 1 < l.length by omega)]
  simp only [Option.some.injEq]
theorem compact_of (lf m C : Nat) (hlf : 20000 ≤ lf) (key : Value → List Nat) (V : Value → Prop) (hsc : ∀ x, V x → scalar x = true) (vs : List Value) (N : Nat) (hN : vs.length = N) (h1 : 1 ≤ N) (h2 : N ≤ 10000) (hV : ∀ x ∈ vs, V x) (q : Nat) (h : Hp) (L : List (Nat × AObj)) (g : Hp) (W : Sto h g ((q, .cells vs 22 true) :: L))
    (hE : ∀ cs g x y, Sto h g ((q, .cells cs 22 true) :: L) → V x → V y → Ev lf m C [x, y] g = some (.bool (decide (key x = key y)), g)) :
    ∃ v g', Ev lf (m + 1) 31 [.slice (some ⟨q, 0, none⟩) N (2 * N + 1), .func (.func C) #[] #[]] g = some (v, g') ∧ ∃ k cs, v = .slice (some ⟨q, 0, none⟩) k (2 * N + 1) ∧ k ≤ N ∧ Sto h g' ((q, .cells cs 22 true) :: L) ∧ cs.length = N ∧ (cs.take k).map key = ddK (vs.map key) ∧ ∀ x ∈ cs.take k, V x := by
  refine fnS_ok (Q := fun v g' => ∃ k cs, v = .slice (some ⟨q, 0, none⟩) k (2 * N + 1) ∧ k ≤ N ∧ Sto h g' ((q, .cells cs 22 true) :: L) ∧ cs.length = N ∧ (cs.take k).map key = ddK (vs.map key) ∧ ∀ x ∈ cs.take k, V x) ?_
  let SL : Value := .slice (some ⟨q, 0, none⟩) N (2 * N + 1)
  have hdd := fun (k : Nat) (k1 : 1 ≤ k) (hk : k < N) => ddK_take (vs.map key) k1 (by rw [List.length_map]; omega)
  simp only [List.getElem_map, ← List.map_take] at hdd
  have h0 : ddK ((vs.take 1).map key) = (vs.take 1).map key := by
    obtain ⟨v, r, rfl⟩ := List.exists_cons_of_length_pos (show 0 < vs.length by omega)
    rfl
  have fin : ∀ k, N ≤ k → vs.take k = vs := fun k hk => List.take_of_length_le (by omega)
  refine ok_go 2 ?_
  refine sy_test 0 (decide (Int.ofNat N < 2)) (by kernel_rfl) ?_ ?_
  · intro hlt
    have hlt : N < 2 := ok_nat (b := 2) hlt
    refine sy_done 0 (v := Value.slice (some { block := q, off := 0 }) N (2 * N + 1)) (h := g) (by kernel_rfl) ?_
    refine ⟨N, vs, rfl, Nat.le_refl _, W, hN, ?_, fun x hx => hV x (List.mem_of_mem_take hx)⟩
    rw [fin N (Nat.le_refl _)]
    rw [fin 1 (by omega)] at h0
    exact h0.symm
  intro _
  refine ok_go 0 ?_
  refine sy_loop 0 lf g (α := Nat) (fun k => [(0, SL), (1, .func (.func C) #[] #[]), (5, J k)]) (fun k g' => 1 ≤ k ∧ k ≤ N ∧ g' = g ∧ ddK ((vs.take k).map key) = (vs.take k).map key) (fun k _ => N - k) 1 (by kernel_rfl) (by kernel_rfl)
    ⟨by kernel_rfl, by kernel_rfl, by kernel_rfl, trivial⟩ (show N - 1 < lf by omega) ⟨Nat.le_refl _, h1, rfl, h0⟩ ?_
  rintro m1 k F1 g ⟨hk1, hk2, rfl, hd⟩ ih
  have hw : IntKind.wrap .i64 (Int.ofNat (k + 1)) = Int.ofNat (k + 1) := wrap_nat (by omega)
  refine ok_go 2 ?_
  refine sy_test 0 (decide (Int.ofNat k < Int.ofNat N)) (by kernel_rfl) ?_ ?_
  · intro hlt
    have hlt : k < N := ok_nat hlt
    have hwk : IntKind.wrap .i64 (Int.ofNat k - 1) = Int.ofNat (k - 1) := wrap_sub (b := 1) hk1 (by omega)
    have hkv : k < vs.length := by omega
    have hkw : k - 1 < vs.length := by omega
    have hdk := hdd k hk1 hlt
    have ec := hE vs g vs[k] vs[k - 1] W (hV _ (List.getElem_mem hkv)) (hV _ (List.getElem_mem hkw))
    refine ok_go 0 ?_
    refine sy_load 0 (r := indexAddrOp Tryz.prog 24 SL (J k)) (h' := g) (by kernel_rfl) (idxS0 (e := 22) (by kernel_rfl) (by kernel_rfl) hlt) ?_
    refine ok_go 0 ?_
    refine ow_load (P := Tryz.prog) (T := 22) (off := k) 0 0 W rfl (List.getElem?_eq_getElem hkv) (by kernel_rfl) (by kernel_rfl) ?_
    refine ok_go 1 ?_
    refine sy_load 0 (r := indexAddrOp Tryz.prog 24 SL (I (IntKind.wrap .i64 (Int.ofNat k - 1)))) (h' := g) (v := ptr q (k - 1)) (by kernel_rfl) (by rw [hwk]; exact idxS0 (e := 22) (by kernel_rfl) (by kernel_rfl) (by omega)) ?_
    refine ok_go 0 ?_
    refine ow_load (P := Tryz.prog) (T := 22) (off := k - 1) 0 0 W rfl (List.getElem?_eq_getElem hkw) (by kernel_rfl) (by kernel_rfl) ?_
    refine ok_go 0 ?_
    refine sy_call 0 (by kernel_rfl) ec ?_
    refine ok_go 0 ?_
    refine sy_test 0 (decide (key vs[k] = key vs[k - 1])) (by kernel_rfl) ?_ ?_
    · intro hq
      have hq := of_decide_eq_true hq
      rw [if_pos hq.symm, hd] at hdk
      clear ih ec
      refine ok_go 0 ?_
      refine sy_load 0 (r := sliceOp Tryz.prog 24 SL (some (J k)) none none) (h' := g) (by kernel_rfl) (sl_lo4 (by omega) (Nat.le_refl _) hlt) ?_
      refine ok_go 0 ?_
      let S2 : Value := .slice (some ⟨q, k, none⟩) (N - k) (2 * (N - k) + 1)
      have ixs : ∀ i, i < N - k → indexAddrOp Tryz.prog 24 S2 (J i) = some (ptr q (k + i)) := fun i hi => by
        have := idxSl (kd := .i64) (i := q) (off := k) (len := N - k) (cap := 2 * (N - k) + 1) u24 sz22 hi
        rwa [Nat.mul_one] at this
      refine sy_loop 0 lf g (α := Nat × Nat × List Value) (fun x => [(0, SL), (1, .func (.func C) #[] #[]), (5, J x.1), (6, S2), (7, J x.2.1)]) (fun x g => 1 ≤ x.1 ∧ 1 ≤ x.2.1 ∧ x.1 + 1 ≤ k + x.2.1 ∧ k + x.2.1 ≤ N ∧ Sto h g ((q, .cells x.2.2 22 true) :: L) ∧ x.2.2.length = N ∧ (x.2.2.take x.1).map key = ddK ((vs.take (k + x.2.1)).map key) ∧ x.2.2.drop (k + x.2.1 - 1) = vs.drop (k + x.2.1 - 1) ∧ ∀ y ∈ x.2.2, V y) (fun x _ => N - x.2.1) (k, 1, vs) (by kernel_rfl) (by kernel_rfl)
        ⟨by kernel_rfl, by kernel_rfl, by kernel_rfl, by kernel_rfl, by kernel_rfl, trivial⟩ (show N - 1 < lf by omega) ⟨hk1, Nat.le_refl _, Nat.le_refl _, hlt, W, hN, hdk.symm, rfl, hV⟩ ?_
      clear W
      rintro m2 ⟨k', k2, cs⟩ F2 g ⟨c1, c2, c3, c4, W, hcl, hct, hcd, hcV⟩ ih2
      dsimp only at c1 c2 c3 c4 W hcl hct hcd hcV
      have hw2 : IntKind.wrap .i64 (Int.ofNat (k2 + 1)) = Int.ofNat (k2 + 1) := wrap_nat (by omega)
      refine ok_go 2 ?_
      refine sy_test 0 (decide (Int.ofNat k2 < Int.ofNat (N - k))) (by kernel_rfl) ?_ ?_
      · intro hl2
        have hl2 : k2 < N - k := ok_nat hl2
        have hwk : IntKind.wrap .i64 (Int.ofNat k2 - 1) = Int.ofNat (k2 - 1) := wrap_sub (b := 1) c2 (by omega)
        have hj : k + k2 < vs.length := by omega
        have hj1 : k + k2 - 1 < vs.length := by omega
        have hdk := hdd (k + k2) (by omega) (by omega)
        have hgj : cs[k + k2]? = some vs[k + k2] := by
          have : (cs.drop (k + k2 - 1))[1]? = (vs.drop (k + k2 - 1))[1]? := by rw [hcd]
          rw [List.getElem?_drop, List.getElem?_drop, show k + k2 - 1 + 1 = k + k2 by omega] at this
          rw [this, List.getElem?_eq_getElem hj]
        have hgj1 : cs[k + (k2 - 1)]? = some vs[k + k2 - 1] := by
          have : (cs.drop (k + k2 - 1))[0]? = (vs.drop (k + k2 - 1))[0]? := by rw [hcd]
          rw [List.getElem?_drop, List.getElem?_drop, Nat.add_zero] at this
          rw [show k + (k2 - 1) = k + k2 - 1 by omega, this, List.getElem?_eq_getElem hj1]
        have hVj := hV _ (List.getElem_mem hj)
        have ec := hE cs g vs[k + k2] vs[k + k2 - 1] W hVj (hV _ (List.getElem_mem hj1))
        have hcd1 : cs.drop (k + k2) = vs.drop (k + k2) := by
          have := congrArg (List.drop 1) hcd
          rw [List.drop_drop, List.drop_drop, show k + k2 - 1 + 1 = k + k2 by omega] at this
          exact this
        have e1 : k + (k2 + 1) = k + k2 + 1 := rfl
        refine ok_go 0 ?_
        refine sy_load 0 (r := indexAddrOp Tryz.prog 24 S2 (J k2)) (h' := g) (by kernel_rfl) (ixs k2 hl2) ?_
        refine ok_go 0 ?_
        refine ow_load (P := Tryz.prog) (T := 22) (off := k + k2) 0 0 W rfl hgj (by kernel_rfl) (by kernel_rfl) ?_
        refine ok_go 1 ?_
        refine sy_load 0 (r := indexAddrOp Tryz.prog 24 S2 (I (IntKind.wrap .i64 (Int.ofNat k2 - 1)))) (h' := g) (by kernel_rfl) (by rw [hwk]; exact ixs (k2 - 1) (by omega)) ?_
        refine ok_go 0 ?_
        refine ow_load (P := Tryz.prog) (T := 22) (off := k + (k2 - 1)) 0 0 W rfl hgj1 (by kernel_rfl) (by kernel_rfl) ?_
        refine ok_go 0 ?_
        refine sy_call 0 (by kernel_rfl) ec ?_
        refine ok_go 1 ?_
        refine sy_test 0 (!decide (key vs[k + k2] = key vs[k + k2 - 1])) (by kernel_rfl) ?_ ?_
        · intro hq
          have hq : key vs[k + k2] ≠ key vs[k + k2 - 1] := by simpa using hq
          rw [if_neg fun h => hq h.symm] at hdk
          have hwk' : IntKind.wrap .i64 (Int.ofNat (k' + 1)) = Int.ofNat (k' + 1) := wrap_nat (by omega)
          refine ok_go 0 ?_
          refine sy_load 0 (r := indexAddrOp Tryz.prog 24 S2 (J k2)) (h' := g) (by kernel_rfl) (ixs k2 hl2) ?_
          refine ok_go 0 ?_
          refine ow_load (P := Tryz.prog) (T := 22) (off := k + k2) 0 0 W rfl hgj (by kernel_rfl) (by kernel_rfl) ?_
          refine ok_go 0 ?_
          refine sy_load 0 (r := indexAddrOp Tryz.prog 24 SL (J k')) (h' := g) (by kernel_rfl) (idxS0 (e := 22) (by kernel_rfl) (by kernel_rfl) (by omega)) ?_
          refine ok_go 0 ?_
          refine ow_store (P := Tryz.prog) (T := 22) (off := k') (v := vs[k + k2]) 0 0 W rfl (by omega) (by kernel_rfl) (hsc _ hVj) (by kernel_rfl) fun g2 ng2 W => ?_
          refine ok_go 2 ?_
          exact sy_next 0 _ g2 (by kernel_rfl) (by kernel_rfl) (ih2 (k' + 1, k2 + 1, cs.set k' vs[k + k2]) _ g2 ⟨show 1 ≤ k' + 1 by omega, show 1 ≤ k2 + 1 by omega, show k' + 1 + 1 ≤ k + (k2 + 1) by omega, show k + (k2 + 1) ≤ N by omega, W, (List.length_set ..).trans hcl, by
            dsimp only
            rw [e1, hdk, ← hct, List.take_succ_eq_append_getElem (by rw [List.length_set]; omega), List.getElem_set_self, List.take_set_of_le (Nat.le_refl _), List.map_append]
            rfl, by
            dsimp only
            rw [e1, Nat.add_sub_cancel, List.drop_set_of_lt (by omega)]
            exact hcd1, fun y hy => by
            rcases List.mem_or_eq_of_mem_set hy with h | h
            · exact hcV y h
            · rw [h]; exact hVj⟩ (show N - (k2 + 1) < N - k2 by omega) ⟨by kernel_rfl, by kernel_rfl, (by kernel_rfl : _ = Value.int .i64 (IntKind.wrap .i64 (Int.ofNat (k' + 1)))).trans (by rw [hwk']), by kernel_rfl, (by kernel_rfl : _ = Value.int .i64 (IntKind.wrap .i64 (Int.ofNat (k2 + 1)))).trans (by rw [hw2]), trivial⟩)
        · intro hq
          have hq : key vs[k + k2] = key vs[k + k2 - 1] := by simpa using hq
          rw [if_pos hq.symm] at hdk
          refine ok_go 1 ?_
          exact sy_next 0 _ g (by kernel_rfl) (by kernel_rfl) (ih2 (k', k2 + 1, cs) _ g ⟨c1, show 1 ≤ k2 + 1 by omega, show k' + 1 ≤ k + (k2 + 1) by omega, show k + (k2 + 1) ≤ N by omega, W, hcl, by
            dsimp only
            rw [e1, hdk]
            exact hct, by
            dsimp only
            rw [e1, Nat.add_sub_cancel]
            exact hcd1, hcV⟩ (show N - (k2 + 1) < N - k2 by omega) ⟨by kernel_rfl, by kernel_rfl, by kernel_rfl, by kernel_rfl, (by kernel_rfl : _ = Value.int .i64 (IntKind.wrap .i64 (Int.ofNat (k2 + 1)))).trans (by rw [hw2]), trivial⟩)
      · intro hl2
        have hl2 : N - k ≤ k2 := no_nat hl2
        rw [fin (k + k2) (by omega)] at hct
        obtain ⟨g2, ecl, hg2⟩ := clear_to4 (g := g) (q := q) (k := k') (n := N - k') (c := 2 * (N - k') + 1) (W.get 0 rfl) (by omega)
        have hW : ∃ cs', Sto h g2 ((q, .cells cs' 22 true) :: L) ∧ cs'.length = N ∧ cs'.take k' = cs.take k' := by
          rcases hg2 with ⟨rfl, _⟩ | ⟨cs', rfl, d1, d2⟩
          · exact ⟨cs, W, hcl, rfl⟩
          · exact ⟨cs', W.put 0 rfl _, by rw [d1]; exact hcl, d2⟩
        obtain ⟨cs', W', l', t'⟩ := hW
        refine ok_go 0 ?_
        refine sy_load 0 (r := sliceOp Tryz.prog 24 SL (some (J k')) none none) (h' := g) (by kernel_rfl) (sl_lo4 (by omega) (Nat.le_refl _) (by omega)) ?_
        refine ok_go 0 ?_
        refine sy_store 0 (r := clearOp Tryz.prog g 24 (.slice (some ⟨q, k', none⟩) (N - k') (2 * (N - k') + 1))) (by kernel_rfl) ecl ?_
        refine ok_go 0 ?_
        refine sy_load 0 (r := sliceOp Tryz.prog 24 SL none (some (J k')) none) (h' := g2) (by kernel_rfl) (sl_hi4 (by omega) (by omega)) ?_
        refine sy_done 0 (v := Value.slice (some { block := q, off := 0 }) k' (2 * N + 1)) (h := g2) (by kernel_rfl) ?_
        exact ⟨k', cs', rfl, by omega, W', l', by rw [t']; exact hct, fun x hx => hcV x (List.mem_of_mem_take (t' ▸ hx))⟩
    · intro hq
      have hq := of_decide_eq_false hq
      rw [if_neg fun h => hq h.symm, hd] at hdk
      refine ok_go 1 ?_
      exact sy_next 0 _ g (by kernel_rfl) (by kernel_rfl) (ih (k + 1) _ g ⟨by omega, hlt, rfl, by
        rw [hdk, List.take_succ_eq_append_getElem hkv, List.map_append]; rfl⟩ (show N - (k + 1) < N - k by omega) ⟨by kernel_rfl, by kernel_rfl, (by kernel_rfl : _ = Value.int .i64 (IntKind.wrap .i64 (Int.ofNat (k + 1)))).trans (by rw [hw]), trivial⟩)
  · intro hlt
    have hlt : N ≤ k := no_nat hlt
    rw [fin k hlt] at hd
    refine sy_done 0 (v := Value.slice (some { block := q, off := 0 }) N (2 * N + 1)) (h := g) (by kernel_rfl) ?_
    exact ⟨N, vs, rfl, Nat.le_refl _, W, hN, by rw [fin N (Nat.le_refl _)]; exact hd.symm, fun x hx => hV x (List.mem_of_mem_take hx)⟩
end Go.Proofs.YtegcmgjldapnmaaGreatDoor
namespace Go.Proofs.YtegcmgjldapnmaaGreatDoor
open Go Go.Eng Nim Oct
set_option maxRecDepth 100000
set_option maxHeartbeats 8000000
def badN (z : Int) : Bool := decide (z < 0) || decide (z > 200)
theorem bad_of (lf m : Nat) (z : Int) (g : Hp) : Ev lf (m + 1) 19 [I z] g = some (.bool (badN z), g) := by
  refine fn_eq ?_
  refine ok_go 1 ?_
  by_cases h : z < 0
  · refine sy_yes 0 (b := decide (z < 0)) (by kernel_rfl) (decide_eq_true h) ?_
    refine sy_done 2 (v := Value.bool true) (h := g) (by kernel_rfl) ?_
    exact ⟨by unfold badN; rw [decide_eq_true h]; rfl, rfl⟩
  · refine sy_no 0 (b := decide (z < 0)) (by kernel_rfl) (decide_eq_false h) ?_
    refine sy_done 3 (v := Value.bool (decide (z > 200))) (h := g) (by kernel_rfl) ?_
    exact ⟨by unfold badN; rw [decide_eq_false h]; rfl, rfl⟩
theorem has_bad (lf m : Nat) (zs : List Int) (hlf : zs.length < lf) (hsm : lf < 2 ^ 62) (x : Value) (g : Hp) (hx : Rds g x (zs.map I)) : Ev lf (m + 3) 18 [x, .func (.func 19) #[] #[]] g = some (.bool (zs.any badN), g) := by
  refine fn_eq ?_
  obtain ⟨xa, xc, hxs⟩ := hx.shape
  obtain ⟨v, g', e, hg, hv⟩ := idxf_of lf (m + 1) 19 badN zs hlf hsm x g hx fun z _ => bad_of lf m z g
  rw [hg] at e
  subst hxs
  rcases hv with ⟨i, hi, rfl, hp, _⟩ | ⟨rfl, ha⟩
  · refine ok_go 0 ?_
    refine sy_call 0 (by kernel_rfl) e ?_
    refine sy_done 2 (v := .bool (decide (Int.ofNat i ≥ 0))) (h := g) (by kernel_rfl) ⟨?_, rfl⟩
    rw [show decide (Int.ofNat i ≥ 0) = true from decide_eq_true (Int.natCast_nonneg i), List.any_eq_true.2 ⟨_, List.getElem_mem hi, hp⟩]
  · refine ok_go 0 ?_
    refine sy_call 0 (by kernel_rfl) e ?_
    refine sy_done 1 (v := Value.bool false) (h := g) (by kernel_rfl) ?_
    refine ⟨?_, rfl⟩
    rw [show zs.any badN = false from List.any_eq_false.2 fun z hz => by rw [ha z hz]; decide]
theorem gv_12 (d : List Nat) (n : Nat) (hn : n < 4096) : gv d n < 4096 := Nat.lt_of_le_of_lt (gv_self d n) hn
theorem accR_12 (d : List Nat) (r : List Nat) (h : ∀ x ∈ r, x < 4096) : accR d r < 4096 := fold_lt d r 0 (by decide) h
theorem without_of (lf m : Nat) (hlf : 20000 ≤ lf) (d : List Nat) (ns : List Nat) (hn : ns.length ≤ 100) (h200 : ∀ n ∈ ns, n ≤ 200) (x y : Value) (g : Hp) (hx : Rds g x (cellsF 201 fun k => J (gv d k))) (hy : Rds g y (ns.map J)) : Ev lf (m + 1) 21 [x, y] g = some (J (accR d ns), g) := by
  refine fn_eq ?_
  obtain ⟨xa, xc, hxs⟩ := hx.shape
  obtain ⟨ya, yc, hys⟩ := hy.shape
  rw [cellsF_len] at hxs
  rw [List.length_map] at hys
  subst hxs hys
  have h12 : ∀ n ∈ ns, n < 4096 := fun n h => by have := h200 n h; omega
  refine ok_go 1 ?_
  refine sy_loop 0 lf g (α := Nat) (fun i => [(0, .slice xa 201 xc), (5, J (accR d (ns.take i))), (8, .slice ya ns.length yc), (9, J ns.length), (10, J i)]) (fun i g' => i ≤ ns.length ∧ g' = g) (fun i _ => ns.length - i) 0 (by kernel_rfl) (by kernel_rfl)
    ⟨by kernel_rfl, by kernel_rfl, by kernel_rfl, by kernel_rfl, by kernel_rfl, trivial⟩ (show ns.length - 0 < lf by omega) ⟨Nat.zero_le _, rfl⟩ ?_
  rintro m1 i F1 g ⟨hi, rfl⟩ ih
  have hw : IntKind.wrap .i64 (Int.ofNat (i + 1)) = Int.ofNat (i + 1) := wrap_nat (by omega)
  refine ok_go 1 ?_
  refine sy_test 0 (decide (Int.ofNat i < Int.ofNat ns.length)) (by kernel_rfl) ?_ ?_
  · intro hlt
    have hlt : i < ns.length := ok_nat hlt
    obtain ⟨p, hp1, hp2⟩ := rdN hy hlt
    have hn2 := h200 _ (List.getElem_mem hlt)
    obtain ⟨q, hq1, hq2⟩ := hx.read (kd := .i64) (k := ns[i]) (v := J (gv d ns[i])) (t := 22) (e := 3) (by kernel_rfl) (by kernel_rfl) (by kernel_rfl) (cellsF_get (by omega))
    have ha := accR_12 d (ns.take i) fun x hx => h12 x (List.mem_of_mem_take hx)
    have hg := gv_12 d ns[i] (by omega)
    have hxx : xorI (Int.ofNat (accR d (ns.take i))) (Int.ofNat (gv d ns[i])) = Int.ofNat (accR d (ns.take (i + 1))) := by rw [accR_take d ns hlt]; exact xor_nat (by omega) (by omega)
    refine ok_go 0 ?_
    refine sy_load 0 (r := indexAddrOp Tryz.prog 22 (.slice ya ns.length yc) (J i)) (h' := g) (by kernel_rfl) hp1 ?_
    refine ok_go 0 ?_
    refine sy_load 0 (r := loadT Tryz.prog g 3 p) (h' := g) (by kernel_rfl) hp2 ?_
    refine ok_go 0 ?_
    refine sy_load 0 (r := indexAddrOp Tryz.prog 22 (.slice xa 201 xc) (J ns[i])) (h' := g) (by kernel_rfl) hq1 ?_
    refine ok_go 0 ?_
    refine sy_load 0 (r := loadT Tryz.prog g 3 q) (h' := g) (by kernel_rfl) hq2 ?_
    refine ok_go 2 ?_
    exact sy_next 0 _ g (by kernel_rfl) (by kernel_rfl) (ih (i + 1) _ g ⟨hlt, rfl⟩ (show ns.length - (i + 1) < ns.length - i by omega) ⟨by kernel_rfl, (by kernel_rfl : _ = Value.int .i64 (xorI (Int.ofNat (accR d (ns.take i))) (Int.ofNat (gv d ns[i])))).trans (by rw [hxx]), by kernel_rfl, by kernel_rfl, (by kernel_rfl : _ = Value.int .i64 (IntKind.wrap .i64 (Int.ofNat (i + 1)))).trans (by rw [hw]), trivial⟩)
  · intro hlt
    have hlt : i = ns.length := Nat.le_antisymm hi (no_nat hlt)
    subst hlt
    refine sy_done 1 (v := J (accR d (ns.take ns.length))) (h := g) (by kernel_rfl) ⟨by rw [List.take_length], rfl⟩
end Go.Proofs.YtegcmgjldapnmaaGreatDoor
