/- Brackets: the program's matched. -/
import Derived.Test.YtkfbfgcflnkllaaGreatDoorProg
import Derived.KernelRfl
import Derived.Test.YtkfbfgcflnkllaaGreatDoorSyF
import Derived.Test.YtkfbfgcflnkllaaGreatDoorSxB
import Derived.Test.YtkfbfgcflnkllaaGreatDoorSyG
namespace Go.Proofs.YtkfbfgcflnkllaaGreatDoor.Ch
open Go Go.Eng Nim Oct
set_option maxRecDepth 100000
set_option maxHeartbeats 8000000
/-- A slice that appends made and that was cut since: what stands in its block, and how many are in it. -/
def OSv (q c len : Nat) (v : Value) : Prop := (c = 0 ∧ len = 0 ∧ v = .slice none 0 0) ∨ (0 < c ∧ len ≤ c ∧ v = .slice (some ⟨q, 0, none⟩) len (2 * c + 1))
theorem OSv.shape {q c len : Nat} {v : Value} (k : OSv q c len v) : ∃ a b, v = .slice a len b := by
  rcases k with ⟨_, rfl, rfl⟩ | ⟨_, _, rfl⟩
  · exact ⟨_, _, rfl⟩
  · exact ⟨_, _, rfl⟩
theorem odd_half (n : Nat) : (2 * n + 1) / 2 = n ∧ (2 * n + 1) % 2 = 1 := by omega
theorem nbeq_no {a b : Nat} (h : a ≠ b) : Nat.beq a b = false := by
  cases hb : Nat.beq a b with
  | true => exact absurd (Nat.eq_of_beq_eq_true hb) h
  | false => rfl
section
variable {P : Program} {t e : TypeId}
theorem gl_hi (hu : P.underlying t = some (.slice e)) (hs : sizeT P e = some 1) {q n m j : Nat} (hjn : j ≤ n) (hn : 0 < n) : sliceOp P t (.slice (some ⟨q, 0, none⟩) m (2 * n + 1)) none (some (J j)) none = some (.slice (some ⟨q, 0, none⟩) j (2 * n + 1)) := by
  obtain ⟨h1, h2⟩ := odd_half n
  simp only [sliceOp, hu, hs, sliceV, Go.Eng.bound, h1, h2, Option.isSome_none, show ∀ k, natOf (J k) = some k from fun _ => rfl, Bool.false_eq_true, if_false, Nat.ble_eq_true_of_le hjn, Nat.ble_eq_true_of_le (Nat.zero_le n), nbeq_no (show n ≠ 0 by omega), Bool.not_false, Bool.and_true]
  simp
end
theorem oent_get {h H : Hp} {l : List (Nat × AObj)} {q : Nat} {e : TypeId} {cs : List Value} (W : Sto h H (l ++ oent q e cs)) (hc : 0 < cs.length) : H.get q = some (.cells cs e true) ∧ q < H.next ∧ h.next ≤ q := by
  cases cs with
  | nil => cases hc
  | cons v r =>
    obtain ⟨a, b, c⟩ := W.all (q, .cells (v :: r) e true) (List.mem_append_right _ (List.mem_singleton.2 rfl))
    exact ⟨c, b, a⟩
theorem set_take {α : Type} : ∀ (cs : List α) (n : Nat) (x : α), n < cs.length → (cs.set n x).take (n + 1) = cs.take n ++ [x]
  | [], n, x, h => by cases h
  | y :: cs, 0, x, _ => rfl
  | y :: cs, n + 1, x, h => by
    have := set_take cs n x (by simpa using h)
    simp only [List.set_cons_succ, List.take_succ_cons, this, List.cons_append]
/-- One element more. -/
theorem os_app {h H : Hp} {l : List (Nat × AObj)} {q len j : Nat} {cs : List Value} {v x : Value} (W : Sto h H ((j, .cells [x] 3 false) :: (l ++ oent q 3 cs))) (hO : OSv q cs.length len v) (hx : scalar x = true) (hc : cs.length < 1000) :
    ∃ v' H' q' cs', appendOp Tryz.prog H 28 v (.slice (some ⟨j, 0, none⟩) 1 2) = some (v', H') ∧ OSv q' cs'.length (len + 1) v' ∧ cs'.length ≤ cs.length + 1 ∧ cs'.take (len + 1) = cs.take len ++ [x] ∧ scalar v' = true ∧ Sto h H' (l ++ oent q' 3 cs') := by
  have hj : H.get j = some (.cells [x] 3 false) := W.get 0 rfl
  by_cases hlc : len < cs.length
  · obtain ⟨h1, h2, rfl⟩ : 0 < cs.length ∧ len ≤ cs.length ∧ v = .slice (some ⟨q, 0, none⟩) len (2 * cs.length + 1) := by
      rcases hO with ⟨a, b, _⟩ | hh
      · omega
      · exact hh
    have W1 : Sto h H (((j, .cells [x] 3 false) :: l) ++ oent q 3 cs) := W
    obtain ⟨hg, _, _⟩ := oent_get W1 h1
    have hne : oent q 3 cs = [(q, .cells cs 3 true)] := by
      cases cs with
      | nil => cases h1
      | cons a r => rfl
    have hne2 : oent q 3 (cs.set len x) = [(q, .cells (cs.set len x) 3 true)] := by
      have : (cs.set len x).length = cs.length := List.length_set
      cases hcs : cs.set len x with
      | nil => rw [hcs] at this; simp at this; omega
      | cons a r => rfl
    rw [hne] at W
    have hset : ((j, AObj.cells [x] 3 false) :: (l ++ [(q, AObj.cells cs 3 true)])).set (l.length + 1) (q, .cells (cs.set len x) 3 true) = (j, .cells [x] 3 false) :: (l ++ [(q, .cells (cs.set len x) 3 true)]) := by
      simp
    refine ⟨.slice (some ⟨q, 0, none⟩) (len + 1) (2 * cs.length + 1), H.put q (.cells (cs.set len x) 3 true), q, cs.set len x, ?_, .inr ⟨by rw [List.length_set]; exact h1, by rw [List.length_set]; omega, by rw [List.length_set]⟩, by rw [List.length_set]; omega, set_take _ _ _ hlc, rfl, ?_⟩
    · obtain ⟨inf, hi1, hi2⟩ := slz28.i
      obtain ⟨z, hz1, hz2⟩ := slz28.zr
      have he : elems H 1 1 (.slice (some ⟨j, 0, none⟩) 1 2) = some [x] := by simp only [elems, loadN, hj]; rfl
      have hst : storeN H q (0 + len * 1) [x] = some (H.put q (.cells (cs.set len x) 3 true)) := by
        simp only [storeN, hg, Nat.zero_add, Nat.mul_one, List.length_singleton, Nat.ble_eq_true_of_le (show len + 1 ≤ cs.length by omega), List.all_cons, hx, List.all_nil, Bool.and_true, splice1 hlc]
      simp only [appendOp, slz28.u, slz28.s, hi1, hz1, show lenV (.slice (some ⟨j, 0, none⟩) 1 2) = some 1 from rfl, he, hz2, hi2, List.all_cons, hx, List.all_nil, Bool.and_true, (odd_half cs.length).1,
        Nat.ble_eq_true_of_le (show len + 1 ≤ most by unfold most; omega), Nat.ble_eq_true_of_le (show len + 1 ≤ cs.length by omega), hst]
    · rw [hne2]
      have W3 := W.put (l.length + 1) (show ((j, AObj.cells [x] 3 false) :: (l ++ [(q, AObj.cells cs 3 true)]))[l.length + 1]? = some (q, .cells cs 3 true) by simp) (.cells (cs.set len x) 3 true)
      rw [hset] at W3
      exact W3.drop 1
  · have hlen : len = cs.length ∧ v = oslV q cs.length := by
      rcases hO with ⟨a, b, c⟩ | ⟨a, b, c⟩
      · exact ⟨by omega, by rw [a]; exact c⟩
      · obtain rfl : len = cs.length := by omega
        refine ⟨rfl, ?_⟩
        rw [c]
        cases hcs : cs.length with
        | zero => omega
        | succ k => rfl
    obtain ⟨rfl, rfl⟩ := hlen
    obtain ⟨H', e1, e2, W'⟩ := append_sto (P := Tryz.prog) (t := 28) (x := .slice (some ⟨j, 0, none⟩) 1 2) (n := cs.length) (m := 0) (W.sub (List.sublist_cons_self ..)) slz28 (by simp) rfl rfl (by simp only [elems, loadN, hj]; rfl) (by simp [hx]) (by omega)
    refine ⟨_, H', H.next, cs ++ [x], e1, ?_, by simp, by rw [List.take_length, List.take_of_length_le (by simp)], rfl, W'⟩
    rw [List.length_append]
    exact .inr ⟨by simp, by simp, rfl⟩
/-- The brackets of the first elements: what is open, what is matched, what closes. -/
def mtS (s : Nat) : Nat → List Nat × Nat × Nat
  | 0 => ([], 0, 0)
  | i + 1 => if s.testBit i = false then ((mtS s i).1 ++ [i], (mtS s i).2.1, (mtS s i).2.2) else match (mtS s i).1.getLast? with
    | none => mtS s i
    | some k => ((mtS s i).1.dropLast, (mtS s i).2.1 ||| (2 ^ i ||| 2 ^ k), (mtS s i).2.2 ||| 2 ^ i)
theorem mtS_lt (s : Nat) : ∀ i, (mtS s i).2.1 < 2 ^ i ∧ (mtS s i).2.2 < 2 ^ i ∧ (∀ k ∈ (mtS s i).1, k < i) ∧ (mtS s i).1.length ≤ i
  | 0 => by simp [mtS]
  | i + 1 => by
    obtain ⟨h1, h2, h3, h4⟩ := mtS_lt s i
    have hp : 2 ^ i < 2 ^ (i + 1) := Nat.pow_lt_pow_right (by decide) (Nat.lt_succ_self i)
    unfold mtS
    split
    · refine ⟨Nat.lt_trans h1 hp, Nat.lt_trans h2 hp, fun k hk => ?_, by simp; omega⟩
      rcases List.mem_append.1 hk with hk | hk
      · have := h3 k hk; omega
      · rw [List.mem_singleton.1 hk]; exact Nat.lt_succ_self i
    · split
      · exact ⟨Nat.lt_trans h1 hp, Nat.lt_trans h2 hp, fun k hk => by have := h3 k hk; omega, by omega⟩
      · rename_i k hk
        have hkm := h3 k (List.mem_of_getLast? hk)
        have hk2 : 2 ^ k < 2 ^ (i + 1) := Nat.pow_lt_pow_right (by decide) (by omega)
        refine ⟨Nat.or_lt_two_pow (Nat.lt_trans h1 hp) (Nat.or_lt_two_pow hp hk2), Nat.or_lt_two_pow (Nat.lt_trans h2 hp) hp, fun x hx => ?_, by simp; omega⟩
        have := h3 x (List.dropLast_subset _ hx)
        omega
def matM (n s : Nat) : Nat := (mtS s n).2.1
def matC (n s : Nat) : Nat := (mtS s n).2.2
theorem mat_of (lf m : Nat) (hlf : 2000 ≤ lf) (n s : Nat) (hn : n ≤ 10) (hs : s < 1024) (h : Hp) :
    ∃ v h', Ev lf (m + 1) 58 [J n, J s] h = some (v, h') ∧ v = .agg #[J (matM n s), J (matC n s)] ∧ h.Ext h' := by
  refine fnS_ok (Q := fun v h' => v = .agg #[J (matM n s), J (matC n s)] ∧ h.Ext h') ?_
  have W := Sto.start h
  refine ow_new 0 W (AObj.cells [Value.int IntKind.i64 (Int.ofNat 0), Value.int IntKind.i64 (Int.ofNat 0)] 92 false) (fun q => Value.pointer (some { block := q, off := 0 })) (by kernel_rfl) fun g1 ng1 Wg1 => ?_
  have W := Wg1
  refine ow_new 0 W (AObj.cells [Value.int IntKind.i64 (Int.ofNat 0), Value.int IntKind.i64 (Int.ofNat 0)] 92 false) (fun q => Value.pointer (some { block := q, off := 0 })) (by kernel_rfl) fun g2 ng2 Wg2 => ?_
  have W := Wg2
  refine sy_loop 0 lf g2 (α := Nat × Nat × List Value × Option Addr × Nat) (fun x => [(0, J n), (1, J s), (4, ptr h.next 0), (5, .slice x.2.2.2.1 (mtS s x.1).1.length x.2.2.2.2), (6, ptr g1.next 0), (9, J n), (10, J x.1)]) (fun x g => x.1 ≤ n ∧ OSv x.2.1 x.2.2.1.length (mtS s x.1).1.length (.slice x.2.2.2.1 (mtS s x.1).1.length x.2.2.2.2) ∧ x.2.2.1.length ≤ x.1 ∧ x.2.2.1.take (mtS s x.1).1.length = (mtS s x.1).1.map J ∧ Sto h g ((g1.next, .cells [J (mtS s x.1).2.1, J (mtS s x.1).2.2] 92 false) :: (h.next, .cells [J 0, J 0] 92 false) :: oent x.2.1 3 x.2.2.1)) (fun x _ => n - x.1) (0, 0, [], none, 0) (by kernel_rfl) (by kernel_rfl)
    ⟨by kernel_rfl, by kernel_rfl, by kernel_rfl, by kernel_rfl, by kernel_rfl, by kernel_rfl, by kernel_rfl, trivial⟩ (show n - 0 < lf by omega) ⟨Nat.zero_le n, .inl ⟨rfl, rfl, rfl⟩, Nat.le_refl _, rfl, W⟩ ?_
  generalize g1.next = b6 at *
  generalize h.next = b4 at *
  clear W Wg1 Wg2 ng1 ng2
  rintro m1 ⟨i, q, cs, oa, oc⟩ F1 g ⟨hi, hO, hcl, hct, W⟩ ih
  dsimp only at hi hO hcl hct W
  obtain ⟨hM, hC, hob, hol⟩ := mtS_lt s i
  have hw : IntKind.wrap .i64 (Int.ofNat (i + 1)) = Int.ofNat (i + 1) := wrap_nat (by omega)
  have hstep : mtS s (i + 1) = if s.testBit i = false then ((mtS s i).1 ++ [i], (mtS s i).2.1, (mtS s i).2.2) else match (mtS s i).1.getLast? with
    | none => mtS s i
    | some k => ((mtS s i).1.dropLast, (mtS s i).2.1 ||| (2 ^ i ||| 2 ^ k), (mtS s i).2.2 ||| 2 ^ i) := rfl
  refine ok_go 1 ?_
  refine sy_test 0 (decide (Int.ofNat i < Int.ofNat n)) (by kernel_rfl) ?_ ?_
  · intro hlt
    have hlt : i < n := ok_nat hlt
    have hbit : s.testBit i = decide (s / 2 ^ i % 2 = 1) := Nat.testBit_eq_decide_div_mod_eq
    have hb2 := bit_of s i (by omega) (by omega)
    generalize hbb : s / 2 ^ i % 2 = bb at hbit hb2
    have hbb2 : bb < 2 := by rw [← hbb]; exact Nat.mod_lt _ (by decide)
    refine ok_go 4 ?_
    refine sy_test 0 (andI ((Int.ofNat s).fdiv (2 ^ min (IntKind.u64.wrap (Int.ofNat i)).toNat IntKind.i64.bits)) 1 == 0) (by kernel_rfl) ?_ ?_
    · intro h0
      rw [hb2] at h0
      have h0 : bb = 0 := Int.ofNat.inj (eq_of_beq h0)
      have hbit : s.testBit i = false := by rw [hbit, h0]; rfl
      rw [if_pos hbit] at hstep
      refine ow_new 0 W (AObj.cells [Value.int IntKind.i64 (Int.ofNat (Prod.fst (i, q, cs, oa, oc)))] 3 false) (fun q => Value.slice (some { block := q, off := 0 }) 1 2) (by kernel_rfl) fun k1 nk1 Wk1 => ?_
      have W := Wk1
      have W : Sto h k1 ((g.next, .cells [J i] 3 false) :: ([(b6, .cells [J (mtS s i).2.1, J (mtS s i).2.2] 92 false), (b4, .cells [J 0, J 0] 92 false)] ++ oent q 3 cs)) := W
      obtain ⟨v', k2, q', cs', e2, hO', hcl', hct', hsv, W⟩ := os_app W hO rfl (by omega)
      obtain ⟨oa', oc', rfl⟩ := hO'.shape
      refine sy_call 0 (by kernel_rfl) e2 ?_
      refine ok_go 1 ?_
      exact sy_next 0 _ k2 (by kernel_rfl) (by kernel_rfl) (ih (i + 1, q', cs', oa', oc') _ k2 ⟨hlt, by dsimp only; rw [hstep, List.length_append]; exact hO', by dsimp only; omega, by dsimp only; rw [hstep, List.length_append, List.map_append, ← hct]; exact hct', by dsimp only; rw [hstep]; exact W⟩ (show n - (i + 1) < n - i by omega) ⟨by kernel_rfl, by kernel_rfl, by kernel_rfl, (by kernel_rfl : _ = Value.slice oa' ((mtS s i).1.length + 1) oc').trans (by dsimp only; rw [hstep, List.length_append]; rfl), by kernel_rfl, by kernel_rfl, (by kernel_rfl : _ = Value.int .i64 (IntKind.wrap .i64 (Int.ofNat (i + 1)))).trans (by rw [hw]), trivial⟩)
    · intro h0
      rw [hb2] at h0
      have h0 : bb ≠ 0 := fun e => by rw [e] at h0; cases h0
      have hbit : s.testBit i = true := by rw [hbit]; exact decide_eq_true (by omega)
      rw [if_neg (by rw [hbit]; decide)] at hstep
      refine ok_go 3 ?_
      by_cases hlen : (mtS s i).1.length = 0
      · have hnil : (mtS s i).1 = [] := List.eq_nil_of_length_eq_zero hlen
        rw [hnil] at hstep
        refine sy_no 0 (b := decide (IntKind.i64.wrap (Int.ofNat (mtS s i).1.length - 1) ≥ 0)) (by kernel_rfl) (by rw [hlen]; rfl) ?_
        refine ok_go 1 ?_
        have hstep : mtS s (i + 1) = mtS s i := hstep
        exact sy_next 0 _ g (by kernel_rfl) (by kernel_rfl) (ih (i + 1, q, cs, oa, oc) _ g ⟨hlt, by dsimp only; rw [hstep]; exact hO, by dsimp only; omega, by dsimp only; rw [hstep]; exact hct, by dsimp only; rw [hstep]; exact W⟩ (show n - (i + 1) < n - i by omega) ⟨by kernel_rfl, by kernel_rfl, by kernel_rfl, (by kernel_rfl : _ = Value.slice oa (mtS s i).1.length oc).trans (by rw [hstep]), by kernel_rfl, by kernel_rfl, (by kernel_rfl : _ = Value.int .i64 (IntKind.wrap .i64 (Int.ofNat (i + 1)))).trans (by rw [hw]), trivial⟩)
      · obtain ⟨L, hL⟩ : ∃ L, (mtS s i).1.length = L + 1 := ⟨(mtS s i).1.length - 1, by omega⟩
        have hk1 : IntKind.i64.wrap (Int.ofNat (mtS s i).1.length - 1) = Int.ofNat L := by rw [hL]; exact wrap_sub (a := L + 1) (b := 1) (by omega) (by omega)
        obtain ⟨k, hk⟩ : ∃ k, (mtS s i).1[L]? = some k := ⟨_, List.getElem?_eq_getElem (by omega)⟩
        have hlast : (mtS s i).1.getLast? = some k := by rw [List.getLast?_eq_getElem?, hL]; exact hk
        have hki := hob k (List.mem_of_getElem? hk)
        rw [hlast] at hstep
        have hstep : mtS s (i + 1) = ((mtS s i).1.dropLast, (mtS s i).2.1 ||| (2 ^ i ||| 2 ^ k), (mtS s i).2.2 ||| 2 ^ i) := hstep
        obtain ⟨hc0, hlc, hv⟩ : 0 < cs.length ∧ (mtS s i).1.length ≤ cs.length ∧ Value.slice oa (mtS s i).1.length oc = .slice (some ⟨q, 0, none⟩) (mtS s i).1.length (2 * cs.length + 1) := by
          rcases hO with ⟨a, b, _⟩ | hh
          · omega
          · exact hh
        cases hv
        have hcL : cs[L]? = some (J k) := by
          have : (cs.take (mtS s i).1.length)[L]? = ((mtS s i).1.map J)[L]? := by rw [hct]
          rw [List.getElem?_take, if_pos (by omega), List.getElem?_map, hk] at this
          exact this
        refine sy_yes 0 (b := decide (IntKind.i64.wrap (Int.ofNat (mtS s i).1.length - 1) ≥ 0)) (by kernel_rfl) (by rw [hk1]; exact decide_eq_true (Int.natCast_nonneg L)) ?_
        have hone : oent q 3 cs = [(q, .cells cs 3 true)] := by
          cases cs with
          | nil => cases hc0
          | cons a r => rfl
        rw [hone] at W
        refine ow_load (P := Tryz.prog) (T := 3) (off := 0) 1 0 W rfl rfl (by kernel_rfl) (by kernel_rfl) ?_
        refine ok_go 2 ?_
        refine sy_load 0 (r := indexAddrOp Tryz.prog 28 (.slice (some ⟨q, 0, none⟩) (mtS s i).1.length (2 * cs.length + 1)) (I (IntKind.i64.wrap (Int.ofNat (mtS s i).1.length - 1)))) (h' := g) (v := ptr q L) (by kernel_rfl) (by rw [hk1]; exact idxS0 (e := 3) (by kernel_rfl) (by kernel_rfl) (by omega)) ?_
        refine ok_go 0 ?_
        refine ow_load (P := Tryz.prog) (T := 3) (off := L) 0 2 W rfl hcL (by kernel_rfl) (by kernel_rfl) ?_
        have hi2 : 2 ^ i < 2 ^ 11 := Nat.pow_lt_pow_right (by decide) (by omega)
        have hk2 : 2 ^ k < 2 ^ 11 := Nat.pow_lt_pow_right (by decide) (by omega)
        have hik : 2 ^ i ||| 2 ^ k < 2 ^ 11 := Nat.or_lt_two_pow hi2 hk2
        have hv1 : orI (Int.ofNat (mtS s i).2.1) (orI (IntKind.i64.wrap (1 * 2 ^ min (IntKind.u64.wrap (Int.ofNat i)).toNat IntKind.i64.bits)) (IntKind.i64.wrap (1 * 2 ^ min (IntKind.u64.wrap (Int.ofNat k)).toNat IntKind.i64.bits))) = Int.ofNat ((mtS s i).2.1 ||| (2 ^ i ||| 2 ^ k)) := by
          rw [one_shl i (by omega), one_shl k (by omega), or_nat (by omega) (by omega), or_nat (by omega) (by omega)]
        have hv2 : orI (Int.ofNat (mtS s i).2.2) (IntKind.i64.wrap (1 * 2 ^ min (IntKind.u64.wrap (Int.ofNat i)).toNat IntKind.i64.bits)) = Int.ofNat ((mtS s i).2.2 ||| 2 ^ i) := by
          rw [one_shl i (by omega), or_nat (by omega) (by omega)]
        refine ok_go 5 ?_
        refine ow_store (P := Tryz.prog) (T := 3) (off := 0) (v := I (orI (Int.ofNat (mtS s i).2.1) (orI (IntKind.i64.wrap (1 * 2 ^ min (IntKind.u64.wrap (Int.ofNat i)).toNat IntKind.i64.bits)) (IntKind.i64.wrap (1 * 2 ^ min (IntKind.u64.wrap (Int.ofNat k)).toNat IntKind.i64.bits))))) 0 0 W rfl (Nat.le_of_ble_eq_true (by kernel_rfl)) (by kernel_rfl) rfl (by kernel_rfl) fun k1 nk1 Wk1 => ?_
        rw [hv1] at Wk1
        have W : Sto h k1 [(b6, .cells [J ((mtS s i).2.1 ||| (2 ^ i ||| 2 ^ k)), J (mtS s i).2.2] 92 false), (b4, .cells [J 0, J 0] 92 false), (q, .cells cs 3 true)] := Wk1
        refine ok_go 1 ?_
        refine ow_load (P := Tryz.prog) (T := 3) (off := 1) 0 0 W rfl rfl (by kernel_rfl) (by kernel_rfl) ?_
        refine ok_go 4 ?_
        refine ow_store (P := Tryz.prog) (T := 3) (off := 1) (v := I (orI (Int.ofNat (mtS s i).2.2) (IntKind.i64.wrap (1 * 2 ^ min (IntKind.u64.wrap (Int.ofNat i)).toNat IntKind.i64.bits)))) 0 0 W rfl (Nat.le_of_ble_eq_true (by kernel_rfl)) (by kernel_rfl) rfl (by kernel_rfl) fun k2 nk2 Wk2 => ?_
        rw [hv2] at Wk2
        have W : Sto h k2 [(b6, .cells [J ((mtS s i).2.1 ||| (2 ^ i ||| 2 ^ k)), J ((mtS s i).2.2 ||| 2 ^ i)] 92 false), (b4, .cells [J 0, J 0] 92 false), (q, .cells cs 3 true)] := Wk2
        rw [← hone] at W
        refine ok_go 0 ?_
        refine sy_load 0 (r := sliceOp Tryz.prog 28 (.slice (some ⟨q, 0, none⟩) (mtS s i).1.length (2 * cs.length + 1)) none (some (I (IntKind.i64.wrap (Int.ofNat (mtS s i).1.length - 1)))) none) (h' := k2) (v := .slice (some ⟨q, 0, none⟩) L (2 * cs.length + 1)) (by kernel_rfl) (by rw [hk1]; exact gl_hi (e := 3) (by kernel_rfl) (by kernel_rfl) (by omega) hc0) ?_
        have hdl : (mtS s i).1.dropLast.length = L := by rw [List.length_dropLast]; omega
        refine ok_go 1 ?_
        exact sy_next 0 _ k2 (by kernel_rfl) (by kernel_rfl) (ih (i + 1, q, cs, some ⟨q, 0, none⟩, 2 * cs.length + 1) _ k2 ⟨hlt, by dsimp only; rw [hstep]; dsimp only; rw [hdl]; exact .inr ⟨hc0, by omega, rfl⟩, by dsimp only; omega, by
          dsimp only
          rw [hstep]
          dsimp only
          rw [hdl, List.dropLast_eq_take, hL, Nat.add_sub_cancel, List.map_take, ← hct, List.take_take, Nat.min_eq_left (by omega)], by dsimp only; rw [hstep]; exact W⟩ (show n - (i + 1) < n - i by omega) ⟨by kernel_rfl, by kernel_rfl, by kernel_rfl, (by kernel_rfl : _ = Value.slice (some ⟨q, 0, none⟩) L (2 * cs.length + 1)).trans (by rw [hstep]; dsimp only; rw [hdl]), by kernel_rfl, by kernel_rfl, (by kernel_rfl : _ = Value.int .i64 (IntKind.wrap .i64 (Int.ofNat (i + 1)))).trans (by rw [hw]), trivial⟩)
  · intro hlt
    have hlt : i = n := Nat.le_antisymm hi (no_nat hlt)
    subst hlt
    refine ow_loadA (P := Tryz.prog) (T := 92) (z := 2) 0 0 W rfl (by kernel_rfl) (by kernel_rfl) rfl (by kernel_rfl) ?_
    refine ow_storeA (P := Tryz.prog) (T := 92) (v := Value.agg { toList := [Value.int IntKind.i64 (Int.ofNat (Prod.fst (Prod.snd (mtS s i)))), Value.int IntKind.i64 (Int.ofNat (Prod.snd (Prod.snd (mtS s i))))] }) 0 1 W ([Value.int IntKind.i64 (Int.ofNat (Prod.fst (Prod.snd (mtS s i)))), Value.int IntKind.i64 (Int.ofNat (Prod.snd (Prod.snd (mtS s i))))]) rfl rfl rfl (by kernel_rfl) (by first | rfl | (repeat' (first | exact rfl | assumption | apply sc_cons))) (by kernel_rfl) fun k1 nk1 Wk1 => ?_
    have W := Wk1
    refine ow_loadA (P := Tryz.prog) (T := 92) (z := 2) 0 1 W rfl (by kernel_rfl) (by kernel_rfl) rfl (by kernel_rfl) ?_
    refine sy_done 0 (v := Value.agg { toList := [Value.int IntKind.i64 (Int.ofNat (Prod.fst (Prod.snd (mtS s i)))), Value.int IntKind.i64 (Int.ofNat (Prod.snd (Prod.snd (mtS s i))))] }) (h := k1) (by kernel_rfl) ?_
    exact ⟨rfl, W.ext⟩
end Go.Proofs.YtkfbfgcflnkllaaGreatDoor.Ch
namespace Go.Proofs.YtkfbfgcflnkllaaGreatDoor.Ch
open Go Go.Eng Nim Oct
abbrev Grp := Nat × Nat × List Nat
def idxG : List Grp → Nat → Nat → Option Nat
  | [], _, _ => none
  | g :: r, M, C => if g.1 = M ∧ g.2.1 = C then some 0 else (idxG r M C).map (· + 1)
def addG : List Grp → Nat → Nat → Nat → List Grp
  | [], M, C, s => [(M, C, [s])]
  | g :: r, M, C, s => if g.1 = M ∧ g.2.1 = C then (g.1, g.2.1, g.2.2 ++ [s]) :: r else g :: addG r M C s
def grp (n : Nat) : Nat → List Grp
  | 0 => []
  | s + 1 => addG (grp n s) (matM n s) (matC n s) s
theorem addG_none {M C s : Nat} : ∀ {gs : List Grp}, idxG gs M C = none → addG gs M C s = gs ++ [(M, C, [s])]
  | [], _ => rfl
  | g :: r, h => by
    unfold idxG at h
    unfold addG
    split at h
    · cases h
    · rename_i hn
      rw [if_neg hn, addG_none (Option.map_eq_none_iff.1 h)]
      rfl
theorem addG_some {M C s : Nat} : ∀ {gs : List Grp} {i : Nat}, idxG gs M C = some i → ∃ row, gs[i]? = some (M, C, row) ∧ addG gs M C s = gs.set i (M, C, row ++ [s])
  | [], i, h => by cases h
  | g :: r, i, h => by
    obtain ⟨a, b, row⟩ := g
    unfold idxG at h
    unfold addG
    split at h
    · rename_i hc
      cases h
      rw [if_pos hc]
      obtain ⟨h1, h2⟩ := hc
      dsimp only at h1 h2
      subst h1 h2
      exact ⟨row, rfl, rfl⟩
    · rename_i hn
      rw [if_neg hn]
      obtain ⟨j, hj, rfl⟩ := Option.map_eq_some_iff.1 h
      obtain ⟨row, h1, h2⟩ := addG_some (s := s) hj
      exact ⟨row, by simpa using h1, by rw [h2]; rfl⟩
/-- What is so of the groups: elements, keys, first elements. -/
structure GrpOK (n s : Nat) (gs : List Grp) : Prop where
  ne : ∀ g ∈ gs, g.2.2 ≠ []
  key : ∀ g ∈ gs, ∀ x ∈ g.2.2, matM n x = g.1 ∧ matC n x = g.2.1 ∧ x < s
  len : ∀ g ∈ gs, g.2.2.length ≤ s
  rise : gs.Pairwise fun a b => ∀ x y, a.2.2.head? = some x → b.2.2.head? = some y → x < y
  num : gs.length ≤ s
theorem grp_ok (n : Nat) : ∀ s, GrpOK n s (grp n s)
  | 0 => ⟨fun g h => (by cases h), fun g h => (by cases h), fun g h => (by cases h), List.Pairwise.nil, Nat.le_refl _⟩
  | s + 1 => by
    have ih := grp_ok n s
    unfold grp
    generalize grp n s = gs at *
    cases hi : idxG gs (matM n s) (matC n s) with
    | none =>
      rw [addG_none hi]
      refine ⟨fun g hg => ?_, fun g hg x hx => ?_, fun g hg => ?_, ?_, by rw [List.length_append]; have := ih.num; simp; omega⟩
      · rcases List.mem_append.1 hg with hg | hg
        · exact ih.ne g hg
        · rw [List.mem_singleton.1 hg]; simp
      · rcases List.mem_append.1 hg with hg | hg
        · obtain ⟨a, b, c⟩ := ih.key g hg x hx; exact ⟨a, b, by omega⟩
        · rw [List.mem_singleton.1 hg] at hx ⊢
          rw [List.mem_singleton.1 hx]
          exact ⟨rfl, rfl, Nat.lt_succ_self s⟩
      · rcases List.mem_append.1 hg with hg | hg
        · have := ih.len g hg; omega
        · rw [List.mem_singleton.1 hg]; simp
      · rw [List.pairwise_append]
        refine ⟨ih.rise, List.pairwise_singleton _ _, fun a ha b hb x y hx hy => ?_⟩
        rw [List.mem_singleton.1 hb] at hy
        cases hy
        exact (ih.key a ha x (List.mem_of_mem_head? hx)).2.2
    | some i =>
      obtain ⟨row, h1, h2⟩ := addG_some (s := s) hi
      rw [h2]
      have hm := List.mem_of_getElem? h1
      have hil := (List.getElem?_eq_some_iff.1 h1).1
      have hmem : ∀ g, g ∈ gs.set i (matM n s, matC n s, row ++ [s]) → g ∈ gs ∨ g = (matM n s, matC n s, row ++ [s]) := fun g hg => List.mem_or_eq_of_mem_set hg
      refine ⟨fun g hg => ?_, fun g hg x hx => ?_, fun g hg => ?_, ?_, by rw [List.length_set]; have := ih.num; omega⟩
      · rcases hmem g hg with hg | rfl
        · exact ih.ne g hg
        · simp
      · rcases hmem g hg with hg | rfl
        · obtain ⟨a, b, c⟩ := ih.key g hg x hx; exact ⟨a, b, by omega⟩
        · rcases List.mem_append.1 hx with hx | hx
          · obtain ⟨a, b, c⟩ := ih.key _ hm x hx; exact ⟨a, b, by omega⟩
          · rw [List.mem_singleton.1 hx]; exact ⟨rfl, rfl, Nat.lt_succ_self s⟩
      · rcases hmem g hg with hg | rfl
        · have := ih.len g hg; omega
        · have := ih.len _ hm; simp at this ⊢; omega
      · have hhead : ∀ j (g : Grp), (gs.set i (matM n s, matC n s, row ++ [s]))[j]? = some g → ∃ g' : Grp, gs[j]? = some g' ∧ g'.2.2.head? = g.2.2.head? := fun j g hj => by
          rw [List.getElem?_set] at hj
          split at hj
          · rename_i e
            subst e
            cases hj
            refine ⟨_, h1, ?_⟩
            have := ih.ne _ hm
            cases row with
            | nil => exact absurd rfl this
            | cons a r => rfl
          · exact ⟨g, hj, rfl⟩
        rw [List.pairwise_iff_getElem]
        intro a b ha hb hab x y hx hy
        obtain ⟨g1, e1, e2⟩ := hhead a _ (List.getElem?_eq_getElem ha)
        obtain ⟨g2, e3, e4⟩ := hhead b _ (List.getElem?_eq_getElem hb)
        obtain ⟨q1, q2⟩ := List.getElem?_eq_some_iff.1 e1
        obtain ⟨q3, q4⟩ := List.getElem?_eq_some_iff.1 e3
        have := List.pairwise_iff_getElem.1 ih.rise a b q1 q3 hab x y (by rw [q2, e2]; exact hx) (by rw [q4, e4]; exact hy)
        exact this
theorem lex_head {a b : List Nat} {x y : Nat} (ha : a.head? = some x) (hb : b.head? = some y) (h : x < y) : lexC a b < 0 := by
  cases a with
  | nil => cases ha
  | cons a r =>
    cases b with
    | nil => cases hb
    | cons b t =>
      cases ha
      cases hb
      unfold lexC
      rw [if_pos h]
      decide
def rowsG (gs : List Grp) : List (List Nat) := gs.map fun g => g.2.2
theorem rowsG_rise {n s : Nat} {gs : List Grp} (h : GrpOK n s gs) : (rowsG gs).Pairwise fun a b => lexC a b < 0 := by
  unfold rowsG
  rw [List.pairwise_map]
  refine h.rise.imp_of_mem fun {a b} ha hb hab => ?_
  obtain ⟨x, hx⟩ : ∃ x, a.2.2.head? = some x := by
    have := h.ne a ha
    cases h1 : a.2.2 with
    | nil => exact absurd h1 this
    | cons x r => exact ⟨x, rfl⟩
  obtain ⟨y, hy⟩ : ∃ x, b.2.2.head? = some x := by
    have := h.ne b hb
    cases h1 : b.2.2 with
    | nil => exact absurd h1 this
    | cons x r => exact ⟨x, rfl⟩
  exact lex_head hx hy (hab x y hx hy)
end Go.Proofs.YtkfbfgcflnkllaaGreatDoor.Ch
namespace Go.Proofs.YtkfbfgcflnkllaaGreatDoor.Ch
open Go Go.Eng Nim Oct
set_option maxRecDepth 100000
abbrev keyV (M C : Nat) : Value := .agg #[J M, J C]
def esF : Nat → List Grp → List Nat → List MapEntry
  | k, g :: gs, i :: ids => ⟨keyV g.1 g.2.1, oslV i g.2.2.length, k⟩ :: esF (k + 1) gs ids
  | _, _, _ => []
def blks : List Nat → List Grp → List (Nat × AObj)
  | i :: ids, g :: gs => (i, .cells (g.2.2.map J) 3 true) :: blks ids gs
  | _, _ => []
theorem esF_len : ∀ (gs : List Grp) (ids : List Nat) (k : Nat), ids.length = gs.length → (esF k gs ids).length = gs.length
  | [], _, _, _ => rfl
  | g :: gs, [], _, h => by cases h
  | g :: gs, i :: ids, k, h => by rw [esF, List.length_cons, esF_len gs ids (k + 1) (by simpa using h)]; rfl
theorem esF_get : ∀ (gs : List Grp) (ids : List Nat) (k j : Nat) (g : Grp) (i : Nat), gs[j]? = some g → ids[j]? = some i → (esF k gs ids)[j]? = some ⟨keyV g.1 g.2.1, oslV i g.2.2.length, k + j⟩
  | [], _, _, j, g, i, h, _ => by simp at h
  | g :: gs, [], _, j, _, _, _, h => by simp at h
  | g :: gs, i :: ids, k, 0, g', i', h1, h2 => by cases h1; cases h2; rfl
  | g :: gs, i :: ids, k, j + 1, g', i', h1, h2 => by
    rw [esF, List.getElem?_cons_succ, esF_get gs ids (k + 1) j g' i' (by simpa using h1) (by simpa using h2)]
    rw [show k + 1 + j = k + (j + 1) by omega]
theorem esF_mem : ∀ (gs : List Grp) (ids : List Nat) (k : Nat) (e : MapEntry), e ∈ esF k gs ids → ∃ j g i, gs[j]? = some g ∧ ids[j]? = some i ∧ e = ⟨keyV g.1 g.2.1, oslV i g.2.2.length, k + j⟩
  | [], _, _, e, h => by simp [esF] at h
  | g :: gs, [], _, e, h => by simp [esF] at h
  | g :: gs, i :: ids, k, e, h => by
    rw [esF] at h
    rcases List.mem_cons.1 h with rfl | h
    · exact ⟨0, g, i, rfl, rfl, rfl⟩
    · obtain ⟨j, g', i', h1, h2, h3⟩ := esF_mem gs ids (k + 1) e h
      exact ⟨j + 1, g', i', by simpa using h1, by simpa using h2, by rw [h3, show k + 1 + j = k + (j + 1) by omega]⟩
theorem esF_flat (gs : List Grp) (ids : List Nat) (k : Nat) : ((esF k gs ids).all fun e => flat e.key) = true := by
  rw [List.all_eq_true]
  intro e he
  obtain ⟨j, g, i, _, _, rfl⟩ := esF_mem gs ids k e he
  rfl
theorem kd92 : keyD Tryz.prog 92 = some (.agg 2) := by kernel_rfl
theorem eqRes2 (a b c d : Nat) : eqRes [J a, J b] [J c, J d] = some (decide (c = a ∧ d = b)) := by
  unfold eqRes
  rw [if_pos rfl]
  by_cases h : a = c
  · subst h
    rw [if_pos rfl]
    unfold eqRes
    rw [if_pos rfl]
    by_cases h2 : b = d
    · subst h2
      rw [if_pos rfl]
      simp [eqRes]
    · rw [if_neg (fun hh => h2 (Int.ofNat.inj hh))]
      simp
      exact fun h3 => h2 h3.symm
  · rw [if_neg (fun hh => h (Int.ofNat.inj hh))]
    simp
    intro h3
    exact absurd h3.symm h
theorem keyRes2 (M C : Nat) (g : Grp) : keyRes (.agg 2) (keyV M C) (keyV g.1 g.2.1) = some (decide (g.1 = M ∧ g.2.1 = C)) := by
  show (match Nat.beq [J M, J C].length 2 with | true => eqRes [J M, J C] [J g.1, J g.2.1] | false => none) = _
  exact eqRes2 _ _ _ _
theorem idxG_cons (g : Grp) (r : List Grp) (M C : Nat) : idxG (g :: r) M C = if g.1 = M ∧ g.2.1 = C then some 0 else (idxG r M C).map (· + 1) := rfl
theorem findR_es (M C : Nat) : ∀ (gs : List Grp) (ids : List Nat) (k i : Nat), ids.length = gs.length → findR (.agg 2) (keyV M C) (esF k gs ids) i = some ((idxG gs M C).bind fun j => match gs[j]?, ids[j]? with | some g, some q => some (i + j, oslV q g.2.2.length) | _, _ => none)
  | [], ids, k, i, h => rfl
  | g :: gs, [], k, i, h => by cases h
  | g :: gs, q :: ids, k, i, h => by
    rw [esF, findR]
    dsimp only
    rw [keyRes2]
    by_cases hc : g.1 = M ∧ g.2.1 = C
    · rw [decide_eq_true hc, idxG_cons, if_pos hc]
      rfl
    · rw [decide_eq_false hc]
      dsimp only
      rw [findR_es M C gs ids (k + 1) (i + 1) (by simpa using h), idxG_cons, if_neg hc]
      cases idxG gs M C with
      | none => rfl
      | some j =>
        simp only [Option.map_some, Option.bind_some, List.getElem?_cons_succ]
        rw [show i + 1 + j = i + (j + 1) by omega]
theorem find_es (M C : Nat) (gs : List Grp) (ids : List Nat) (k : Nat) (h : ids.length = gs.length) :
    (match (esF k gs ids).all fun e => flat e.key with
      | false => none
      | true => pureRun Tryz.prog (do Instr.checkKey false 10000 92 (keyV M C); Instr.findKey 92 (keyV M C) (esF k gs ids))) = some ((idxG gs M C).bind fun j => match gs[j]?, ids[j]? with | some g, some q => some (j, oslV q g.2.2.length) | _, _ => none) := by
  refine findIn_ok kd92 rfl (esF_flat gs ids k) ?_
  rw [findR_es M C gs ids k 0 h]
  simp only [Nat.zero_add]
theorem find_es2 (M C : Nat) (gs : List Grp) (ids : List Nat) (k : Nat) (h : ids.length = gs.length) :
    pureRun Tryz.prog (do Instr.checkKey false 10000 92 (keyV M C); Instr.findKey 92 (keyV M C) (esF k gs ids)) = some ((idxG gs M C).bind fun j => match gs[j]?, ids[j]? with | some g, some q => some (j, oslV q g.2.2.length) | _, _ => none) := by
  have := find_es M C gs ids k h
  rw [esF_flat] at this
  exact this
theorem u90 : Tryz.prog.underlying 90 = some (.map 92 28) := by kernel_rfl
theorem z28 : zeroOf Tryz.prog 28 = some (.slice none 0 0) := by kernel_rfl
/-- A key that is not there yet. -/
theorem me_new {h : Hp} {mid M C : Nat} {gs : List Grp} {ids : List Nat} (hl : ids.length = gs.length) (hm : h.get mid = some (.map (esF 0 gs ids) gs.length)) (hi : idxG gs M C = none) :
    mapEntryOp Tryz.prog h 90 (.map (some mid)) (keyV M C) = some (.tuple #[.slice none 0 0, J gs.length], h.put mid (.map (esF 0 gs ids ++ [⟨keyV M C, .slice none 0 0, gs.length⟩]) (gs.length + 1))) := by
  unfold mapEntryOp
  simp only [u90, show flat (keyV M C) = true from rfl, hm, esF_flat]
  rw [find_es2 M C gs ids 0 hl, hi]
  simp only [Option.bind_none, z28]
  rfl
theorem same_key (M C : Nat) : Instr.sameBits 10000 (keyV M C) (keyV M C) = true := by
  show Instr.sameBits (9999 + 1) (.agg #[J M, J C]) (.agg #[J M, J C]) = true
  unfold Instr.sameBits
  simp [Instr.sameBits]
theorem setAt_same : ∀ (es : List MapEntry) (i : Nat) (e : MapEntry), es[i]? = some e → setAt es i e.key e.val = es
  | [], i, e, h => by simp at h
  | x :: es, 0, e, h => by cases h; rfl
  | x :: es, i + 1, e, h => by rw [setAt, setAt_same es i e (by simpa using h)]
/-- A key that is there. -/
theorem me_old {h : Hp} {mid M C i q : Nat} {row : List Nat} {gs : List Grp} {ids : List Nat} (hl : ids.length = gs.length) (hm : h.get mid = some (.map (esF 0 gs ids) gs.length)) (hi : idxG gs M C = some i) (hg : gs[i]? = some (M, C, row)) (hq : ids[i]? = some q) :
    mapEntryOp Tryz.prog h 90 (.map (some mid)) (keyV M C) = some (.tuple #[oslV q row.length, J i], h.put mid (.map (esF 0 gs ids) gs.length)) := by
  have he := esF_get gs ids 0 i _ q hg hq
  rw [Nat.zero_add] at he
  have hk : keyAt (esF 0 gs ids) i (keyV M C) = keyV M C := by rw [keyAt_eq, he]; rfl
  have hb : bornAt (esF 0 gs ids) i = i := by rw [bornAt_eq, he]; rfl
  have hs := setAt_same _ i _ he
  unfold mapEntryOp
  simp only [u90, show flat (keyV M C) = true from rfl, hm, esF_flat]
  rw [find_es2 M C gs ids 0 hl, hi]
  simp only [Option.bind_some, hg, hq, hk, same_key, hb]
  rw [show setAt (esF 0 gs ids) i (keyV M C) (oslV q row.length) = esF 0 gs ids from hs]
  rfl
theorem storeBorn_at (b : Nat) (v : Value) : ∀ (es : List MapEntry) (i : Nat), (∀ j, j < i → ∀ e, es[j]? = some e → e.born ≠ b) → (∃ e, es[i]? = some e ∧ e.born = b) → ∃ q, storeBorn es b v = some q ∧ q = es.modify i fun e => { e with val := v }
  | [], i, _, ⟨e, h, _⟩ => by simp at h
  | x :: es, 0, _, ⟨e, h, hb⟩ => by
    cases h
    subst hb
    refine ⟨_, ?_, rfl⟩
    unfold storeBorn
    rw [Nat.beq_refl]
    rfl
  | x :: es, i + 1, hn, ⟨e, h, hb⟩ => by
    have hx : x.born ≠ b := hn 0 (Nat.succ_pos i) x rfl
    obtain ⟨q, e1, e2⟩ := storeBorn_at b v es i (fun j hj e he => hn (j + 1) (by omega) e (by simpa using he)) ⟨e, by simpa using h, hb⟩
    refine ⟨x :: q, ?_, by rw [e2]; rfl⟩
    unfold storeBorn
    rw [nbeq_no hx, e1]
theorem esF_mod : ∀ (gs : List Grp) (ids : List Nat) (k i q : Nat) (M C : Nat) (row row' : List Nat), ids.length = gs.length → gs[i]? = some (M, C, row) → (esF k gs ids).modify i (fun e => { e with val := oslV q row'.length }) = esF k (gs.set i (M, C, row')) (ids.set i q)
  | [], _, _, i, q, M, C, row, row', _, h => by simp at h
  | g :: gs, [], _, i, _, _, _, _, _, h, _ => by cases h
  | g :: gs, j :: ids, k, 0, q, M, C, row, row', _, h => by cases h; rfl
  | g :: gs, j :: ids, k, i + 1, q, M, C, row, row', hl, h => by
    rw [esF, List.modify_succ_cons, esF_mod gs ids (k + 1) i q M C row row' (by simpa using hl) (by simpa using h)]
    rfl
theorem esF_snoc : ∀ (gs : List Grp) (ids : List Nat) (k q : Nat) (g : Grp), ids.length = gs.length → esF k (gs ++ [g]) (ids ++ [q]) = esF k gs ids ++ [⟨keyV g.1 g.2.1, oslV q g.2.2.length, k + gs.length⟩]
  | [], [], k, q, g, _ => rfl
  | [], _ :: _, _, _, _, h => by cases h
  | g :: gs, [], _, _, _, h => by cases h
  | g :: gs, i :: ids, k, q, g', h => by
    rw [List.cons_append, List.cons_append, esF, esF_snoc gs ids (k + 1) q g' (by simpa using h), esF, List.cons_append, List.length_cons, show k + 1 + gs.length = k + (gs.length + 1) by omega]
/-- The new value of a key that was there. -/
theorem est_old {h : Hp} {mid M C i q : Nat} {row row' : List Nat} {gs : List Grp} {ids : List Nat} (hl : ids.length = gs.length) (hm : h.get mid = some (.map (esF 0 gs ids) gs.length)) (hg : gs[i]? = some (M, C, row)) :
    entryStoreOp h (.map (some mid)) (J i) (oslV q row'.length) = some (h.put mid (.map (esF 0 (gs.set i (M, C, row')) (ids.set i q)) gs.length)) := by
  have hi := (List.getElem?_eq_some_iff.1 hg).1
  obtain ⟨b, hb⟩ : ∃ b, ids[i]? = some b := ⟨_, List.getElem?_eq_getElem (by omega)⟩
  have he := esF_get gs ids 0 i _ b hg hb
  obtain ⟨r, e1, e2⟩ := storeBorn_at i (oslV q row'.length) (esF 0 gs ids) i (fun j hj e h1 => by
    obtain ⟨g', hg'⟩ : ∃ g, gs[j]? = some g := ⟨_, List.getElem?_eq_getElem (by omega)⟩
    obtain ⟨b', hb'⟩ : ∃ b, ids[j]? = some b := ⟨_, List.getElem?_eq_getElem (by omega)⟩
    rw [esF_get gs ids 0 j _ _ hg' hb'] at h1
    cases h1
    dsimp only
    omega) ⟨_, he, by dsimp only; omega⟩
  unfold entryStoreOp
  show (match h.get mid with | some (.map es clock) => (match storeBorn es i (oslV q row'.length) with | some q => some (h.put mid (.map q clock)) | none => none) | _ => none) = _
  simp only [hm, e1]
  rw [e2, esF_mod gs ids 0 i q M C row row' hl hg]
theorem est_new {h : Hp} {mid M C q : Nat} {row' : List Nat} {gs : List Grp} {ids : List Nat} (hl : ids.length = gs.length) (hm : h.get mid = some (.map (esF 0 gs ids ++ [⟨keyV M C, .slice none 0 0, gs.length⟩]) (gs.length + 1))) :
    entryStoreOp h (.map (some mid)) (J gs.length) (oslV q row'.length) = some (h.put mid (.map (esF 0 (gs ++ [(M, C, row')]) (ids ++ [q])) (gs.length + 1))) := by
  have hel := esF_len gs ids 0 hl
  obtain ⟨r, e1, e2⟩ := storeBorn_at gs.length (oslV q row'.length) (esF 0 gs ids ++ [⟨keyV M C, .slice none 0 0, gs.length⟩]) gs.length (fun j hj e h1 => by
    rw [List.getElem?_append_left (by omega)] at h1
    obtain ⟨g', hg'⟩ : ∃ g, gs[j]? = some g := ⟨_, List.getElem?_eq_getElem (by omega)⟩
    obtain ⟨b', hb'⟩ : ∃ b, ids[j]? = some b := ⟨_, List.getElem?_eq_getElem (by omega)⟩
    rw [esF_get gs ids 0 j _ _ hg' hb'] at h1
    cases h1
    dsimp only
    omega) ⟨_, by rw [List.getElem?_append_right (by omega), hel, Nat.sub_self]; rfl, rfl⟩
  unfold entryStoreOp
  show (match h.get mid with | some (.map es clock) => (match storeBorn es gs.length (oslV q row'.length) with | some q => some (h.put mid (.map q clock)) | none => none) | _ => none) = _
  simp only [hm, e1]
  rw [e2, esF_snoc gs ids 0 q _ hl]
  congr 3
  have : ∀ (l : List MapEntry) (x : MapEntry) (f : MapEntry → MapEntry), (l ++ [x]).modify l.length f = l ++ [f x] := fun l x f => by
    induction l with
    | nil => rfl
    | cons a r ih => rw [List.cons_append, List.length_cons, List.modify_succ_cons, ih]; rfl
  have h2 := this (esF 0 gs ids) ⟨keyV M C, .slice none 0 0, gs.length⟩ (fun e => { e with val := oslV q row'.length })
  rw [hel] at h2
  rw [h2, Nat.zero_add]
theorem blks_len : ∀ (ids : List Nat) (gs : List Grp), ids.length = gs.length → (blks ids gs).length = gs.length
  | [], [], _ => rfl
  | [], _ :: _, h => by cases h
  | _ :: _, [], h => by cases h
  | i :: ids, g :: gs, h => by rw [blks, List.length_cons, blks_len ids gs (by simpa using h)]; rfl
theorem blks_get : ∀ (ids : List Nat) (gs : List Grp) (j i : Nat) (g : Grp), ids[j]? = some i → gs[j]? = some g → (blks ids gs)[j]? = some (i, .cells (g.2.2.map J) 3 true)
  | [], _, j, i, g, h, _ => by simp at h
  | _ :: _, [], j, i, g, _, h => by simp at h
  | i :: ids, g :: gs, 0, _, _, h1, h2 => by cases h1; cases h2; rfl
  | i :: ids, g :: gs, j + 1, _, _, h1, h2 => by rw [blks, List.getElem?_cons_succ]; exact blks_get ids gs j _ _ (by simpa using h1) (by simpa using h2)
/-- One block to the end, and back with another one in its place. -/
theorem blks_split : ∀ (ids : List Nat) (gs : List Grp) (j i : Nat) (g : Grp), ids[j]? = some i → gs[j]? = some g → ∃ R, (blks ids gs).Perm (R ++ [(i, .cells (g.2.2.map J) 3 true)]) ∧ ∀ q (g' : Grp), (R ++ [(q, .cells (g'.2.2.map J) 3 true)]).Perm (blks (ids.set j q) (gs.set j g'))
  | [], _, j, i, g, h, _ => by simp at h
  | _ :: _, [], j, i, g, _, h => by simp at h
  | i :: ids, g :: gs, 0, _, _, h1, h2 => by
    cases h1; cases h2
    exact ⟨blks ids gs, (List.perm_append_comm (l₁ := [_])), fun q g' => List.perm_append_comm⟩
  | i :: ids, g :: gs, j + 1, _, _, h1, h2 => by
    obtain ⟨R, h3, h4⟩ := blks_split ids gs j _ _ (by simpa using h1) (by simpa using h2)
    exact ⟨(i, .cells (g.2.2.map J) 3 true) :: R, h3.cons _, fun q g' => (h4 q g').cons _⟩
theorem blks_snoc : ∀ (ids : List Nat) (gs : List Grp) (q : Nat) (g : Grp), ids.length = gs.length → blks (ids ++ [q]) (gs ++ [g]) = blks ids gs ++ [(q, .cells (g.2.2.map J) 3 true)]
  | [], [], _, _, _ => rfl
  | [], _ :: _, _, _, h => by cases h
  | _ :: _, [], _, _, h => by cases h
  | i :: ids, g :: gs, q, g', h => by rw [List.cons_append, List.cons_append, blks, blks_snoc ids gs q g' (by simpa using h), blks, List.cons_append]
theorem eq_key (a b : Nat) : pureX (binOp .eql 92 (keyV a b) (keyV a b)) = some (.bool true) := by
  refine pureX_of ?_ rfl
  obtain ⟨fs, hu, hs, hf, hn⟩ := keyD_agg kd92
  have := run_equal_agg (P := Tryz.prog) (t := 92) (l := [J a, J b]) (m := [J a, J b]) (b := true) hu hs hf (by rw [hn]; rfl) (by rw [eqRes2]; simp)
  show pureRun Tryz.prog (do pure (Value.bool (← Op.equal 92 (keyV a b) (keyV a b)))) = _
  rw [pureRun_bind]
  rw [show pureRun Tryz.prog (Op.equal 92 (keyV a b) (keyV a b)) = some true from this]
  rfl
theorem esF_find : ∀ (gs : List Grp) (ids : List Nat) (k j : Nat) (g : Grp) (i : Nat), gs[j]? = some g → ids[j]? = some i → (esF k gs ids).find? (fun e => Nat.beq e.born (k + j)) = some ⟨keyV g.1 g.2.1, oslV i g.2.2.length, k + j⟩
  | [], _, _, j, g, i, h, _ => by simp at h
  | g :: gs, [], _, j, _, _, _, h => by simp at h
  | g :: gs, i :: ids, k, 0, g', i', h1, h2 => by
    cases h1
    cases h2
    rw [esF, List.find?_cons]
    simp only [Nat.add_zero, Nat.beq_refl]
  | g :: gs, i :: ids, k, j + 1, g', i', h1, h2 => by
    rw [esF, List.find?_cons]
    simp only [nbeq_no (show k ≠ k + (j + 1) by omega)]
    have := esF_find gs ids (k + 1) j g' i' (by simpa using h1) (by simpa using h2)
    rw [show k + 1 + j = k + (j + 1) by omega] at this
    exact this
theorem nodup_le : ∀ (n : Nat) (L : List Nat), L.Nodup → (∀ i ∈ L, i < n) → L.length ≤ n
  | 0, [], _, _ => Nat.le_refl _
  | 0, i :: L, _, h => absurd (h i (List.mem_cons_self ..)) (Nat.not_lt_zero _)
  | n + 1, L, nd, h => by
    by_cases hn : n ∈ L
    · have := nodup_le n (L.erase n) (nd.erase n) fun i hi => by
        have h1 := nd.mem_erase_iff.1 hi
        have := h i h1.2
        have := h1.1
        omega
      rw [List.length_erase_of_mem hn] at this
      omega
    · have := nodup_le n L nd fun i hi => by
        have := h i hi
        have : i ≠ n := fun e => hn (by rw [← e]; exact hi)
        omega
      omega
theorem rds_uniq {H : Hp} {v : Value} {a b : List Value} (h1 : Rds H v a) (h2 : Rds H v b) : a = b := by
  obtain ⟨_, _, e1⟩ := h1.shape
  obtain ⟨_, _, e2⟩ := h2.shape
  have hl : a.length = b.length := by
    rw [e1] at e2
    injection e2
  have ha := (rds_elems h1).2
  have hb := (rds_elems h2).2
  rw [hl, hb] at ha
  exact (Option.some.inj ha).symm
theorem mapJ_inj {r s : List Nat} (h : r.map J = s.map J) : r = s := by
  have := congrArg (List.map fun v => (keyJ v).toNat) h
  rw [List.map_map, List.map_map] at this
  have e : ∀ l : List Nat, l.map ((fun v => (keyJ v).toNat) ∘ J) = l := fun l => (List.map_congr_left fun x _ => rfl).trans (List.map_id l)
  rwa [e, e] at this
def RowIn (L : List (Nat × AObj)) (rv : Value) (r : List Nat) : Prop := ∀ H, Hold H L → Rds H rv (r.map J)
theorem row_in {ids : List Nat} {gs : List Grp} {j i : Nat} {g : Grp} (h1 : ids[j]? = some i) (h2 : gs[j]? = some g) : RowIn (blks ids gs) (oslV i g.2.2.length) g.2.2 := fun H K => by
  have hm := List.mem_of_getElem? (blks_get ids gs j i g h1 h2)
  have := osl_rd (H := H) (e := 3) (i := i) (zs := g.2.2.map J) fun p hp => by
    refine K p ?_
    cases hg : g.2.2 with
    | nil => rw [hg] at hp; cases hp
    | cons a r =>
      rw [hg] at hp hm
      rw [List.mem_singleton.1 hp]
      exact hm
  rw [List.length_map] at this
  exact this
theorem grp_pos (n : Nat) : ∀ s, 0 < s → 0 < (grp n s).length
  | 0, h => absurd h (by decide)
  | s + 1, _ => by
    unfold grp
    cases hi : idxG (grp n s) (matM n s) (matC n s) with
    | none => rw [addG_none hi]; simp
    | some i =>
      obtain ⟨row, h1, h2⟩ := addG_some (s := s) hi
      rw [h2, List.length_set]
      have := (List.getElem?_eq_some_iff.1 h1).1
      omega
end Go.Proofs.YtkfbfgcflnkllaaGreatDoor.Ch
namespace Go.Proofs.YtkfbfgcflnkllaaGreatDoor.Ch
open Go Go.Eng Nim Oct
set_option maxRecDepth 100000
set_option maxHeartbeats 8000000
def valsG (ids : List Nat) (gs : List Grp) : List Value := (esF 0 gs ids).map (·.val)
/-- What Chains comes to. -/
def ChQ (n : Nat) (h : Hp) (v : Value) (h' : Hp) : Prop := ∃ q ids, ids.length = (grp n (2 ^ n)).length ∧ v = .tuple #[.slice (some ⟨q, 0, none⟩) (grp n (2 ^ n)).length (2 * (grp n (2 ^ n)).length + 1), J 0] ∧ Sto h h' ((q, .cells (valsG ids (grp n (2 ^ n))) 28 true) :: blks ids (grp n (2 ^ n)))
theorem chains_walk (lf m : Nat) (hlf : 20000 ≤ lf) (n : Nat) (hn : n ≤ 10) (h : Hp)
    (cmpf : ∀ j (a b : List Nat) (x y : Value) (g : Hp), a.length ≤ 2000 → Rds g x (a.map J) → Rds g y (b.map J) → Ev lf (m + j) 60 [x, y] g = some (I (lexC a b), g))
    (mat : ∀ s h, s < 1024 → ∃ v h', Ev lf (m + 21) 58 [J n, J s] h = some (v, h') ∧ v = keyV (matM n s) (matC n s) ∧ h.Ext h') :
    Ok (ChQ n h) (fnT Tryz.prog orc lf (m + 21) 14 [J n] h) := by
  have W := Sto.start h
  have hsh := one_shl n (by omega)
  have h2n : 2 ^ n ≤ 1024 := Nat.pow_le_pow_right (by decide) hn
  refine ok_go 5 ?_
  refine sy_no 0 (b := decide (Int.ofNat n > 10)) (by kernel_rfl) (decide_eq_false (by show ¬ (10 : Int) < (n : Int); omega)) ?_
  refine ow_new 0 W (AObj.map [] 0) (fun q => Value.map (some q)) (by kernel_rfl) fun g1 ng1 Wg1 => ?_
  have W := Wg1
  refine ok_go 2 ?_
  refine sy_loop 0 lf g1 (α := Nat × List Nat) (fun x => [(0, J n), (4, .map (some h.next)), (19, I (IntKind.i64.wrap (1 * 2 ^ min (IntKind.u64.wrap (Int.ofNat n)).toNat IntKind.i64.bits))), (20, J x.1)]) (fun x g => x.1 ≤ 2 ^ n ∧ x.2.length = (grp n x.1).length ∧ Sto h g ((h.next, .map (esF 0 (grp n x.1) x.2) (grp n x.1).length) :: blks x.2 (grp n x.1))) (fun x _ => 2 ^ n - x.1) (0, []) (by kernel_rfl) (by kernel_rfl)
    ⟨by kernel_rfl, by kernel_rfl, by kernel_rfl, by kernel_rfl, trivial⟩ (show 2 ^ n - 0 < lf by omega) ⟨Nat.zero_le _, rfl, W⟩ ?_
  generalize h.next = mid at *
  clear W Wg1 ng1
  rintro m1 ⟨s, ids⟩ F1 g ⟨hs, hil, W⟩ ih
  dsimp only at hs hil W
  have G := grp_ok n s
  have hw : IntKind.wrap .i64 (Int.ofNat (s + 1)) = Int.ofNat (s + 1) := wrap_nat (by omega)
  have hgs : grp n (s + 1) = addG (grp n s) (matM n s) (matC n s) s := rfl
  have hgrp0 : True := trivial
  generalize hgrp : grp n s = gs at *
  refine ok_go 1 ?_
  refine sy_test 0 (decide (Int.ofNat s < IntKind.i64.wrap (1 * 2 ^ min (IntKind.u64.wrap (Int.ofNat n)).toNat IntKind.i64.bits))) (by kernel_rfl) ?_ ?_
  · intro hlt
    rw [hsh] at hlt
    have hlt : s < 2 ^ n := ok_nat hlt
    obtain ⟨_, q1, e1, rfl, X1⟩ := mat s g (by omega)
    refine ok_go 0 ?_
    refine sy_call 0 (by kernel_rfl) e1 ?_
    have W := W.call X1
    refine ow_new 0 W (AObj.cells [Value.int IntKind.i64 (Int.ofNat 0), Value.int IntKind.i64 (Int.ofNat 0)] 92 false) (fun q => Value.pointer (some { block := q, off := 0 })) (by kernel_rfl) fun k1 nk1 Wk1 => ?_
    have W := Wk1
    refine ow_storeA (P := Tryz.prog) (T := 92) (v := Value.agg { toList := [Value.int IntKind.i64 (Int.ofNat (matM n s)), Value.int IntKind.i64 (Int.ofNat (matC n s))] }) 0 0 W ([Value.int IntKind.i64 (Int.ofNat (matM n s)), Value.int IntKind.i64 (Int.ofNat (matC n s))]) rfl rfl rfl (by kernel_rfl) (by first | rfl | (repeat' (first | exact rfl | assumption | apply sc_cons))) (by kernel_rfl) fun k2 nk2 Wk2 => ?_
    have W := Wk2
    refine ow_loadA (P := Tryz.prog) (T := 92) (z := 2) 0 0 W rfl (by kernel_rfl) (by kernel_rfl) rfl (by kernel_rfl) ?_
    refine ow_new 0 W (AObj.cells [Value.int IntKind.i64 (Int.ofNat (Prod.fst (s, ids)))] 3 false) (fun q => Value.slice (some { block := q, off := 0 }) 1 2) (by kernel_rfl) fun k3 nk3 Wk3 => ?_
    have W := Wk3
    have W : Sto h k3 ((k2.next, .cells [J s] 3 false) :: (q1.next, .cells [J (matM n s), J (matC n s)] 92 false) :: (mid, .map (esF 0 gs ids) gs.length) :: blks ids gs) := W
    have hgl : gs.length ≤ 1024 := by have := G.num; omega
    cases hix : idxG gs (matM n s) (matC n s) with
    | none =>
      rw [addG_none hix] at hgs
      have e2 := me_new (h := k3) (mid := mid) hil (W.get 2 rfl) hix
      have W := W.put 2 rfl (.map (esF 0 gs ids ++ [⟨keyV (matM n s) (matC n s), .slice none 0 0, gs.length⟩]) (gs.length + 1))
      refine sy_call 0 (by kernel_rfl) e2 ?_
      have W : Sto h (k3.put mid (.map (esF 0 gs ids ++ [⟨keyV (matM n s) (matC n s), .slice none 0 0, gs.length⟩]) (gs.length + 1))) ((k2.next, .cells [J s] 3 false) :: (((q1.next, .cells [J (matM n s), J (matC n s)] 92 false) :: (mid, .map (esF 0 gs ids ++ [⟨keyV (matM n s) (matC n s), .slice none 0 0, gs.length⟩]) (gs.length + 1)) :: blks ids gs) ++ oent 0 3 [])) := by
        rw [show oent 0 3 [] = [] from rfl, List.append_nil]
        exact W
      generalize k3.put mid (.map (esF 0 gs ids ++ [⟨keyV (matM n s) (matC n s), .slice none 0 0, gs.length⟩]) (gs.length + 1)) = k4 at *
      refine ok_go 1 ?_
      refine ow_app (P := Tryz.prog) (t := 28) (e := 3) (z := 1) (c := 0) (i := 0) 0 W slz28 rfl rfl rfl (by decide) (by kernel_rfl) fun k5 sl nk5 hsl hsc W => ?_
      have W : Sto h k5 ((q1.next, .cells [J (matM n s), J (matC n s)] 92 false) :: (mid, .map (esF 0 gs ids ++ [⟨keyV (matM n s) (matC n s), .slice none 0 0, gs.length⟩]) (gs.length + 1)) :: (blks ids gs ++ [(k4.next, .cells [J s] 3 true)])) := W
      have hsl : sl = oslV k4.next [s].length := hsl
      subst hsl
      have e3 := est_new (h := k5) (mid := mid) (q := k4.next) (row' := [s]) hil (W.get 1 rfl)
      have W := (W.put 1 rfl (.map (esF 0 (gs ++ [(matM n s, matC n s, [s])]) (ids ++ [k4.next])) (gs.length + 1))).drop 1
      refine ok_go 1 ?_
      refine sy_store 0 (by kernel_rfl) e3 ?_
      generalize k5.put mid (.map (esF 0 (gs ++ [(matM n s, matC n s, [s])]) (ids ++ [k4.next])) (gs.length + 1)) = k6 at *
      have W : Sto h k6 ((mid, .map (esF 0 (gs ++ [(matM n s, matC n s, [s])]) (ids ++ [k4.next])) (gs ++ [(matM n s, matC n s, [s])]).length) :: blks (ids ++ [k4.next]) (gs ++ [(matM n s, matC n s, [s])])) := by
        rw [blks_snoc ids gs _ _ hil, List.length_append]
        exact W
      refine ok_go 1 ?_
      exact sy_next 0 _ k6 (by kernel_rfl) (by kernel_rfl) (ih (s + 1, ids ++ [k4.next]) _ k6 ⟨hlt, by dsimp only; rw [hgs, List.length_append, List.length_append, hil]; rfl, by dsimp only; rw [hgs]; exact W⟩ (show 2 ^ n - (s + 1) < 2 ^ n - s by omega) ⟨by kernel_rfl, by kernel_rfl, by kernel_rfl, (by kernel_rfl : _ = Value.int .i64 (IntKind.wrap .i64 (Int.ofNat (s + 1)))).trans (by rw [hw]), trivial⟩)
    | some i =>
      obtain ⟨row, hgi, hga⟩ := addG_some (s := s) hix
      rw [hga] at hgs
      obtain ⟨qi, hqi⟩ : ∃ b, ids[i]? = some b := ⟨_, List.getElem?_eq_getElem (by have := (List.getElem?_eq_some_iff.1 hgi).1; omega)⟩
      have hrow := G.ne _ (List.mem_of_getElem? hgi)
      have hrl := G.len _ (List.mem_of_getElem? hgi)
      dsimp only at hrow hrl
      have e2 := me_old (h := k3) (mid := mid) hil (W.get 2 rfl) hix hgi hqi
      have W := W.put 2 rfl (.map (esF 0 gs ids) gs.length)
      refine sy_call 0 (by kernel_rfl) e2 ?_
      obtain ⟨R, hp1, hp2⟩ := blks_split ids gs i qi _ hqi hgi
      have hoe : oent qi 3 (row.map J) = [(qi, .cells (row.map J) 3 true)] := by
        cases row with
        | nil => exact absurd rfl hrow
        | cons a r => rfl
      have W : Sto h (k3.put mid (.map (esF 0 gs ids) gs.length)) ((k2.next, .cells [J s] 3 false) :: (((q1.next, .cells [J (matM n s), J (matC n s)] 92 false) :: (mid, .map (esF 0 gs ids) gs.length) :: R) ++ oent qi 3 (row.map J))) := by
        rw [hoe]
        exact W.perm (((hp1.cons _).cons _).cons _)
      generalize k3.put mid (.map (esF 0 gs ids) gs.length) = k4 at *
      refine ok_go 1 ?_
      refine ow_app (P := Tryz.prog) (t := 28) (e := 3) (z := 1) (c := row.length) (i := qi) 0 W slz28 (by rw [List.length_map, Nat.mul_one]) rfl rfl (by omega) (by kernel_rfl) fun k5 sl nk5 hsl hsc W => ?_
      have hrs : row.map J ++ [J s] = (row ++ [s]).map J := by rw [List.map_append]; rfl
      have hoe2 : oent k4.next 3 ((row ++ [s]).map J) = [(k4.next, .cells ((row ++ [s]).map J) 3 true)] := by
        cases row with
        | nil => exact absurd rfl hrow
        | cons a r => rfl
      rw [hrs, hoe2] at W
      have W : Sto h k5 ((q1.next, .cells [J (matM n s), J (matC n s)] 92 false) :: (mid, .map (esF 0 gs ids) gs.length) :: (R ++ [(k4.next, .cells ((row ++ [s]).map J) 3 true)])) := W
      have W := W.perm (((hp2 k4.next (matM n s, matC n s, row ++ [s])).cons _).cons _)
      have hsl : sl = oslV k4.next (row ++ [s]).length := by rw [hsl, List.length_append]; rfl
      subst hsl
      have e3 := est_old (h := k5) (mid := mid) (q := k4.next) (row' := row ++ [s]) hil (W.get 1 rfl) hgi
      have W := (W.put 1 rfl (.map (esF 0 (gs.set i (matM n s, matC n s, row ++ [s])) (ids.set i k4.next)) gs.length)).drop 1
      refine ok_go 1 ?_
      refine sy_store 0 (by kernel_rfl) e3 ?_
      generalize k5.put mid (.map (esF 0 (gs.set i (matM n s, matC n s, row ++ [s])) (ids.set i k4.next)) gs.length) = k6 at *
      have W : Sto h k6 ((mid, .map (esF 0 (gs.set i (matM n s, matC n s, row ++ [s])) (ids.set i k4.next)) (gs.set i (matM n s, matC n s, row ++ [s])).length) :: blks (ids.set i k4.next) (gs.set i (matM n s, matC n s, row ++ [s]))) := by
        rw [List.length_set]
        exact W
      refine ok_go 1 ?_
      exact sy_next 0 _ k6 (by kernel_rfl) (by kernel_rfl) (ih (s + 1, ids.set i k4.next) _ k6 ⟨hlt, by dsimp only; rw [hgs, List.length_set, List.length_set, hil], by dsimp only; rw [hgs]; exact W⟩ (show 2 ^ n - (s + 1) < 2 ^ n - s by omega) ⟨by kernel_rfl, by kernel_rfl, by kernel_rfl, (by kernel_rfl : _ = Value.int .i64 (IntKind.wrap .i64 (Int.ofNat (s + 1)))).trans (by rw [hw]), trivial⟩)
  · intro hlt
    rw [hsh] at hlt
    have hse : s = 2 ^ n := Nat.le_antisymm hs (no_nat hlt)
    subst hse
    clear ih hgs hw
    have hpos : 0 < gs.length := hgrp ▸ grp_pos n (2 ^ n) (Nat.two_pow_pos n)
    have hgl : gs.length ≤ 1024 := by have := G.num; omega
    refine ok_go 0 ?_
    have e2 : rangeMapOp Tryz.prog g 90 (.map (some mid)) = some (ptr g.next 0, g.new (.miter mid gs.length [] gs.length)) := by
      unfold rangeMapOp
      simp only [u90, W.get 0 rfl]
    refine sy_call 0 (by kernel_rfl) e2 ?_
    have W := W.new (.miter mid gs.length [] gs.length)
    generalize hg2 : g.new (.miter mid gs.length [] gs.length) = g2 at *
    generalize g.next = it at *
    refine ok_go 0 ?_
    refine sy_loop 0 lf g2 (α := List Nat × Nat × Option Addr × Nat) (fun x => [(0, J n), (7, .slice x.2.2.1 x.1.length x.2.2.2), (36, ptr it 0)]) (fun x g => x.1.Nodup ∧ (∀ b ∈ x.1, b < gs.length) ∧ .slice x.2.2.1 x.1.length x.2.2.2 = oslV x.2.1 x.1.length ∧ Sto h g ((it, .miter mid gs.length x.1 gs.length) :: (mid, .map (esF 0 gs ids) gs.length) :: (blks ids gs ++ oent x.2.1 28 (x.1.map fun b => (valsG ids gs).getD b undef)))) (fun x _ => gs.length - x.1.length) ([], 0, none, 0) (by kernel_rfl) (by kernel_rfl)
      ⟨by kernel_rfl, by kernel_rfl, by kernel_rfl, trivial⟩ (show gs.length - 0 < lf by omega) ⟨List.nodup_nil, fun b hb => (by cases hb), rfl, by
        rw [show oent (([], 0, none, 0) : List Nat × Nat × Option Addr × Nat).2.1 28 ((([], 0, none, 0) : List Nat × Nat × Option Addr × Nat).1.map fun b => (valsG ids gs).getD b undef) = [] from rfl, List.append_nil]
        exact W⟩ ?_
    clear W e2 hg2
    rintro m2 ⟨seen, q, oa, oc⟩ F2 g ⟨hnd, hsb, hos, W⟩ ih
    dsimp only at hnd hsb hos W
    have hel := esF_len gs ids 0 hil
    refine ok_go 0 ?_
    refine sy_nextMap 0 (by kernel_rfl) (by kernel_rfl) (W.get 0 rfl) (W.get 1 rfl) (fun e he => by
      obtain ⟨j, g', i', h1, h2, rfl⟩ := esF_mem gs ids 0 e he
      have := (List.getElem?_eq_some_iff.1 h1).1
      dsimp only
      omega) (Nat.le_refl _) ?_ ?_
    · intro hall
      have hperm : seen.Perm (List.range gs.length) := (List.perm_ext_iff_of_nodup hnd List.nodup_range).2 fun b => by
        rw [List.mem_range]
        refine ⟨hsb b, fun hb => ?_⟩
        obtain ⟨g', hg'⟩ : ∃ g, gs[b]? = some g := ⟨_, List.getElem?_eq_getElem hb⟩
        obtain ⟨i', hi'⟩ : ∃ i, ids[b]? = some i := ⟨_, List.getElem?_eq_getElem (by omega)⟩
        have := hall _ (List.mem_of_getElem? (esF_get gs ids 0 b g' i' hg' hi'))
        dsimp only at this
        rw [Nat.zero_add] at this
        exact this
      have hN : seen.length = gs.length := by rw [hperm.length_eq, List.length_range]
      have hvl : (valsG ids gs).length = gs.length := by unfold valsG; rw [List.length_map, hel]
      have hvp : (seen.map fun b => (valsG ids gs).getD b undef).Perm (valsG ids gs) := by
        refine (hperm.map _).trans ?_
        rw [← hvl]
        refine List.Perm.of_eq ?_
        apply List.ext_getElem
        · rw [List.length_map, List.length_range]
        · intro k h1 h2
          rw [List.getElem_map, List.getElem_range, List.getD_eq_getElem?_getD, List.getElem?_eq_getElem h2]
          rfl
      have hcl : (seen.map fun b => (valsG ids gs).getD b undef).length = gs.length := by rw [List.length_map, hN]
      have hN0 := hpos
      generalize hcs : (seen.map fun b => (valsG ids gs).getD b undef) = cs at *
      obtain ⟨N, hNN⟩ : ∃ N, gs.length = N := ⟨_, rfl⟩
      have hos2 : Value.slice oa seen.length oc = .slice (some ⟨q, 0, none⟩) N (2 * N + 1) := by
        rw [hos, hN, hNN]
        obtain ⟨k, rfl⟩ : ∃ k, N = k + 1 := ⟨N - 1, by omega⟩
        rfl
      rw [hos2]
      have hoe : oent q 28 cs = [(q, .cells cs 28 true)] := by
        cases cs with
        | nil => simp at hcl; omega
        | cons v r => rfl
      rw [hoe] at W
      let LL : List (Nat × AObj) := (it, .miter mid gs.length seen gs.length) :: (mid, .map (esF 0 gs ids) gs.length) :: blks ids gs
      have W : Sto h g ((q, .cells cs 28 true) :: LL) := W.perm (((List.perm_append_comm.cons _).cons _).trans (((List.Perm.swap _ _ _).cons _).trans (List.Perm.swap _ _ _)))
      have hLr : ∀ cs g, Sto h g ((q, .cells cs 28 true) :: LL) → Hold g (blks ids gs) := fun cs g W => W.hold.sub fun p hp => List.mem_cons_of_mem _ (List.mem_cons_of_mem _ (List.mem_cons_of_mem _ hp))
      have hg0 := hLr _ g W
      obtain ⟨key, hkey⟩ : ∃ key : Value → List Nat, ∀ v, (∃ r, RowIn (blks ids gs) v r) → RowIn (blks ids gs) v (key v) := by
        classical
        refine ⟨fun v => if h : ∃ r, RowIn (blks ids gs) v r then h.choose else [], fun v h => ?_⟩
        show RowIn (blks ids gs) v (if h : ∃ r, RowIn (blks ids gs) v r then h.choose else [])
        rw [dif_pos h]
        exact h.choose_spec
      have hku : ∀ v r, RowIn (blks ids gs) v r → key v = r := fun v r hr => mapJ_inj (rds_uniq (hkey v ⟨r, hr⟩ g hg0) (hr g hg0))
      have hvv : ∀ v ∈ valsG ids gs, ∃ (b : Nat) (g' : Grp) (i' : Nat), gs[b]? = some g' ∧ ids[b]? = some i' ∧ (valsG ids gs)[b]? = some v ∧ v = oslV i' g'.2.2.length ∧ key v = g'.2.2 := fun v hv => by
        obtain ⟨b, hb⟩ := List.getElem?_of_mem hv
        have hbl := (List.getElem?_eq_some_iff.1 hb).1
        obtain ⟨g', hg'⟩ : ∃ g, gs[b]? = some g := ⟨_, List.getElem?_eq_getElem (by omega)⟩
        obtain ⟨i', hi'⟩ : ∃ i, ids[b]? = some i := ⟨_, List.getElem?_eq_getElem (by omega)⟩
        have he : v = oslV i' g'.2.2.length := by
          have : (valsG ids gs)[b]? = some (oslV i' g'.2.2.length) := by unfold valsG; rw [List.getElem?_map, esF_get gs ids 0 b g' i' hg' hi']; rfl
          rw [hb] at this
          exact Option.some.inj this
        exact ⟨b, g', i', hg', hi', hb, he, by rw [he]; exact hku _ _ (row_in hi' hg')⟩
      let V : Value → Prop := fun v => v ∈ valsG ids gs
      have hVs : ∀ v, V v → scalar v = true := fun v hv => by
        obtain ⟨b, g', i', _, _, _, e, _⟩ := hvv v hv
        rw [e]
        obtain ⟨a, c, h⟩ := osl_shape i' g'.2.2.length
        rw [h]
        rfl
      have hVr : ∀ v, V v → RowIn (blks ids gs) v (key v) ∧ (key v).length ≤ 2000 := fun v hv => by
        obtain ⟨b, g', i', h1, h2, _, e, hk⟩ := hvv v hv
        have := G.len _ (List.mem_of_getElem? h1)
        rw [hk]
        exact ⟨by rw [e]; exact row_in h2 h1, by omega⟩
      have K : ∀ j, Cmp lf (m + j) 60 h LL q N true V (fun x y => lexC (key x) (key y) < 0) := fun j =>
        { ord := lex_ord key
          sc := hVs
          cmp := fun f g x y W hx hy => by
            have hg := hLr _ g W
            refine ⟨lexC (key x) (key y), ?_, Iff.rfl⟩
            exact cmpf j (key x) (key y) x y g (hVr x hx).2 ((hVr x hx).1 g hg) ((hVr y hy).1 g hg) }
      have hcf := cells_fn cs
      rw [hcl, hNN] at hcf
      have hVf : ∀ k, k < N → V (cs.getD k (J 0)) := fun k hk => by
        rw [List.getD_eq_getElem?_getD, List.getElem?_eq_getElem (by omega)]
        exact hvp.mem_iff.1 (List.getElem_mem _)
      have Wd : Dat h LL q N true (fun i => cs.getD i (J 0)) g := by
        have := W
        rw [hcf] at this
        exact this
      obtain ⟨v1, g1', e1, f2, W, S2, Z2⟩ := sortf_of (m := m) hlf K (by omega) (2 * N + 1) (fun i => cs.getD i (J 0)) hVf g Wd
      have hfin : cellsF N f2 = valsG ids gs := by
        have hp : (cellsF N f2).Perm (valsG ids gs) := by
          refine (S2.perm).trans ?_
          exact (List.Perm.of_eq hcf.symm).trans hvp
        have hR1 : (cellsF N f2).Pairwise fun x y => ¬ lexC (key y) (key x) < 0 := Z2.pair
        have hR2 : (valsG ids gs).Pairwise fun x y => ¬ lexC (key y) (key x) < 0 := by
          rw [List.pairwise_iff_getElem]
          intro a b ha hb hab
          obtain ⟨b1, ga, ia, h1, h2, h3, _, h5⟩ := hvv _ (List.getElem_mem ha)
          have hka : key (valsG ids gs)[a] = (rowsG gs)[a]'(by unfold rowsG; rw [List.length_map]; omega) := by
            obtain ⟨g', hg'⟩ : ∃ g, gs[a]? = some g := ⟨_, List.getElem?_eq_getElem (by omega)⟩
            obtain ⟨i', hi'⟩ : ∃ i, ids[a]? = some i := ⟨_, List.getElem?_eq_getElem (by omega)⟩
            have : (valsG ids gs)[a]? = some (oslV i' g'.2.2.length) := by unfold valsG; rw [List.getElem?_map, esF_get gs ids 0 a g' i' hg' hi']; rfl
            rw [List.getElem?_eq_getElem ha] at this
            rw [Option.some.inj this, hku _ _ (row_in hi' hg')]
            unfold rowsG
            rw [List.getElem_map, (List.getElem?_eq_some_iff.1 hg').2]
          have hkb : key (valsG ids gs)[b] = (rowsG gs)[b]'(by unfold rowsG; rw [List.length_map]; omega) := by
            obtain ⟨g', hg'⟩ : ∃ g, gs[b]? = some g := ⟨_, List.getElem?_eq_getElem (by omega)⟩
            obtain ⟨i', hi'⟩ : ∃ i, ids[b]? = some i := ⟨_, List.getElem?_eq_getElem (by omega)⟩
            have : (valsG ids gs)[b]? = some (oslV i' g'.2.2.length) := by unfold valsG; rw [List.getElem?_map, esF_get gs ids 0 b g' i' hg' hi']; rfl
            rw [List.getElem?_eq_getElem hb] at this
            rw [Option.some.inj this, hku _ _ (row_in hi' hg')]
            unfold rowsG
            rw [List.getElem_map, (List.getElem?_eq_some_iff.1 hg').2]
          have hr := List.pairwise_iff_getElem.1 (rowsG_rise G) a b (by unfold rowsG; rw [List.length_map]; omega) (by unfold rowsG; rw [List.length_map]; omega) hab
          rw [hka, hkb]
          have := lexC_neg ((rowsG gs)[a]'(by unfold rowsG; rw [List.length_map]; omega)) ((rowsG gs)[b]'(by unfold rowsG; rw [List.length_map]; omega))
          omega
        refine List.Perm.eq_of_pairwise (fun u v hu hv h1 h2 => ?_) hR1 hR2 hp
        have hu := hp.mem_iff.1 hu
        obtain ⟨b1, ga, ia, p1, p2, p3, p4, p5⟩ := hvv u hu
        obtain ⟨b2, gb, ib, q1, q2, q3, q4, q5⟩ := hvv v hv
        have hneg := lexC_neg (key u) (key v)
        have hee : key u = key v := lexC_eq (by omega)
        have hr := List.pairwise_iff_getElem.1 (rowsG_rise G)
        have hb12 : b1 = b2 := by
          obtain ⟨x1, x2⟩ := List.getElem?_eq_some_iff.1 p1
          obtain ⟨y1, y2⟩ := List.getElem?_eq_some_iff.1 q1
          have hr1 : (rowsG gs)[b1]'(by unfold rowsG; rw [List.length_map]; exact x1) = key u := by unfold rowsG; rw [List.getElem_map, x2, p5]
          have hr2 : (rowsG gs)[b2]'(by unfold rowsG; rw [List.length_map]; exact y1) = key v := by unfold rowsG; rw [List.getElem_map, y2, q5]
          rcases Nat.lt_trichotomy b1 b2 with h | h | h
          · have := hr b1 b2 (by unfold rowsG; rw [List.length_map]; exact x1) (by unfold rowsG; rw [List.length_map]; exact y1) h
            rw [hr1, hr2, hee, lexC_self] at this
            omega
          · exact h
          · have := hr b2 b1 (by unfold rowsG; rw [List.length_map]; exact y1) (by unfold rowsG; rw [List.length_map]; exact x1) h
            rw [hr1, hr2, hee, lexC_self] at this
            omega
        subst hb12
        rw [p3] at q3
        exact Option.some.inj q3
      refine ok_go 2 ?_
      refine sy_call 0 (by kernel_rfl) e1 ?_
      refine ok_go 0 ?_
      refine sy_done 0 (v := .tuple #[.slice (some ⟨q, 0, none⟩) N (2 * N + 1), J 0]) (h := g1') (by kernel_rfl) ⟨q, ids, by rw [hil, hgrp], by rw [hgrp, hNN], ?_⟩
      rw [hgrp, ← hfin]
      exact W.sub (List.Sublist.cons_cons _ (List.Sublist.cons _ (List.Sublist.cons _ (List.Sublist.refl _))))
    · intro e he hne
      obtain ⟨j, g', i', h1, h2, rfl⟩ := esF_mem gs ids 0 e he
      dsimp only at hne ⊢
      rw [Nat.zero_add] at hne ⊢
      have W := W.put 0 rfl (.miter mid gs.length (seen ++ [j]) gs.length)
      generalize g.put it (.miter mid gs.length (seen ++ [j]) gs.length) = k1 at *
      have hjl := (List.getElem?_eq_some_iff.1 h1).1
      have G1 := G.ne _ (List.mem_of_getElem? h1)
      have G2 := G.key _ (List.mem_of_getElem? h1)
      have G3 := G.len _ (List.mem_of_getElem? h1)
      have hbk := blks_get ids gs j i' g' h2 h1
      have e3 : entryOp k1 (ptr it 0) = some (.tuple #[keyV g'.1 g'.2.1, oslV i' g'.2.2.length], k1) := by
        have hf := esF_find gs ids 0 j g' i' h1 h2
        rw [Nat.zero_add] at hf
        unfold entryOp
        simp only [W.get 0 rfl, W.get 1 rfl, List.getLast?_concat, hf, Nat.beq_refl]
      have hvj : (valsG ids gs).getD j undef = oslV i' g'.2.2.length := by
        unfold valsG
        rw [List.getD_eq_getElem?_getD, List.getElem?_map, esF_get gs ids 0 j g' i' h1 h2]
        rfl
      obtain ⟨gM, gC, row⟩ := g'
      dsimp only at G1 G2 G3 hbk e3 hvj
      cases row with
      | nil => exact absurd rfl G1
      | cons x r =>
      obtain ⟨hxM, hxC, hxs⟩ := G2 x List.mem_cons_self
      obtain ⟨rl, hrl⟩ : ∃ rl, r.length = rl := ⟨_, rfl⟩
      have hov : oslV i' (x :: r).length = .slice (some ⟨i', 0, none⟩) (rl + 1) (2 * (rl + 1) + 1) := by rw [← hrl]; rfl
      rw [hov] at e3 hvj
      refine ok_go 2 ?_
      refine sy_call 0 (by kernel_rfl) e3 ?_
      refine ow_new 2 W (AObj.cells [Value.int IntKind.i64 (Int.ofNat 0), Value.int IntKind.i64 (Int.ofNat 0)] 92 false) (fun q => Value.pointer (some { block := q, off := 0 })) (by kernel_rfl) fun a1 na1 Wa1 => ?_
      have W := Wa1
      refine ow_storeA (P := Tryz.prog) (T := 92) (v := Value.agg { toList := [Value.int IntKind.i64 (Int.ofNat gM), Value.int IntKind.i64 (Int.ofNat gC)] }) 0 0 W ([Value.int IntKind.i64 (Int.ofNat gM), Value.int IntKind.i64 (Int.ofNat gC)]) rfl rfl rfl (by kernel_rfl) (by first | rfl | (repeat' (first | exact rfl | assumption | apply sc_cons))) (by kernel_rfl) fun a2 na2 Wa2 => ?_
      have W := Wa2
      refine ow_loadA (P := Tryz.prog) (T := 92) (z := 2) 0 0 W rfl (by kernel_rfl) (by kernel_rfl) rfl (by kernel_rfl) ?_
      refine ok_go 1 ?_
      have W : Sto h a2 ((k1.next, .cells [J gM, J gC] 92 false) :: (it, .miter mid gs.length (seen ++ [j]) gs.length) :: (mid, .map (esF 0 gs ids) gs.length) :: (blks ids gs ++ oent q 28 (seen.map fun b => (valsG ids gs).getD b undef))) := W
      have hget := W.get (j + 3) (i := i') (o := .cells ((x :: r).map J) 3 true) (by
        rw [List.getElem?_cons_succ, List.getElem?_cons_succ, List.getElem?_cons_succ, List.getElem?_append_left (by rw [blks_len ids gs hil]; exact hjl)]
        exact hbk)
      obtain ⟨_, a3, e4, rfl, X4⟩ := mat x a2 (by omega)
      refine sy_load 0 (r := loadT Tryz.prog a2 3 (ptr i' 0)) (h' := a2) (v := J x) (by kernel_rfl) (load1 (off := 0) agI hget rfl) ?_
      refine ok_go 0 ?_
      refine sy_call 0 (by kernel_rfl) e4 ?_
      have W := W.call X4
      rw [hxM, hxC]
      dsimp only
      refine ok_go 0 ?_
      refine sy_load 0 (r := pureX (binOp .eql 92 (keyV gM gC) (keyV gM gC))) (h' := a3) (by kernel_rfl) (eq_key gM gC) ?_
      have Wa3 := W
      refine sy_need 0 [] [⟨(loadT Tryz.prog a3 92 (ptr (Hp.next k1) (0))).map (·, a3), Value.agg { toList := [Value.int IntKind.i64 (Int.ofNat gM), Value.int IntKind.i64 (Int.ofNat gC)] }, a3⟩] (by kernel_rfl) ⟨ob_loadA (P := Tryz.prog) (T := 92) (k := 0) (z := 2) Wa3 rfl (by kernel_rfl) (by kernel_rfl) rfl, trivial⟩ ?_
      refine ow_new 1 W (AObj.cells [Value.slice (some { block := i', off := 0 }) (rl + 1) (2 * (rl + 1) + 1)] 28 false) (fun q => Value.slice (some { block := q, off := 0 }) 1 2) (by kernel_rfl) fun b1 nb1 Wb1 => ?_
      have W := Wb1
      have W : Sto h b1 ((a3.next, .cells [.slice (some ⟨i', 0, none⟩) (rl + 1) (2 * (rl + 1) + 1)] 28 false) :: (((k1.next, .cells [J gM, J gC] 92 false) :: (it, .miter mid gs.length (seen ++ [j]) gs.length) :: (mid, .map (esF 0 gs ids) gs.length) :: blks ids gs) ++ oent q 28 (seen.map fun b => (valsG ids gs).getD b undef))) := W
      have hnd2 : (seen ++ [j]).Nodup := List.nodup_append.2 ⟨hnd, List.nodup_cons.2 ⟨List.not_mem_nil, List.nodup_nil⟩, fun a ha b hb => by rw [List.mem_singleton.1 hb]; exact fun e => hne (e ▸ ha)⟩
      have hsb2 : ∀ b ∈ seen ++ [j], b < gs.length := fun b hb => by
        rcases List.mem_append.1 hb with h | h
        · exact hsb b h
        · rw [List.mem_singleton.1 h]; exact hjl
      have hsl := nodup_le _ _ hnd2 hsb2
      rw [List.length_append, List.length_singleton] at hsl
      refine ow_app (P := Tryz.prog) (t := 22) (e := 28) (z := 1) (c := seen.length) (i := q) 0 W slz22 (by rw [List.length_map, Nat.mul_one]) rfl rfl (by omega) (by rw [← hos]; kernel_rfl) fun b2 sl nb2 hsl2 hsc W => ?_
      obtain ⟨oa2, oc2, ho2⟩ := osl_shape b1.next (seen.length + 1)
      rw [ho2] at hsl2
      subst hsl2
      have W : Sto h b2 ((it, .miter mid gs.length (seen ++ [j]) gs.length) :: (mid, .map (esF 0 gs ids) gs.length) :: (blks ids gs ++ oent b1.next 28 ((seen ++ [j]).map fun b => (valsG ids gs).getD b undef))) := by
        rw [List.map_append, List.map_singleton, hvj]
        exact W.drop 1
      refine ok_go 0 ?_
      exact sy_next 0 _ b2 (by kernel_rfl) (by kernel_rfl) (ih (seen ++ [j], b1.next, oa2, oc2) _ b2 ⟨hnd2, hsb2, by dsimp only; rw [List.length_append]; exact ho2.symm, W⟩ (show gs.length - (seen ++ [j]).length < gs.length - seen.length by rw [List.length_append, List.length_singleton]; omega) ⟨by kernel_rfl, (by kernel_rfl : _ = Value.slice oa2 (seen.length + 1) oc2).trans (by dsimp only; rw [List.length_append]; rfl), by kernel_rfl, trivial⟩)
end Go.Proofs.YtkfbfgcflnkllaaGreatDoor.Ch
namespace Go.Proofs.YtkfbfgcflnkllaaGreatDoor.Ch
open Go Go.Eng Nim Oct
set_option maxRecDepth 100000
noncomputable section
/-- The blocks of the chains, told anew. -/
def idsC (h : Hp) (m : Nat) : List Nat := (List.range m).map (h.next + ·)
def objsC (gs : List Grp) : List AObj := gs.map fun g => .cells (g.2.2.map J) 3 true
def osC (h : Hp) (gs : List Grp) : List AObj := objsC gs ++ [.cells (valsG (idsC h gs.length) gs) 28 true]
def chainsG (args : List Value) (h : Hp) : Option (Value × Hp) :=
  match args with
  | [.int .i64 (.ofNat n)] => match Nat.ble n 10 with
    | true => some (.tuple #[.slice (some ⟨h.next + (grp n (2 ^ n)).length, 0, none⟩) (grp n (2 ^ n)).length (2 * (grp n (2 ^ n)).length + 1), J 0], h.news (osC h (grp n (2 ^ n))))
    | false => some (.tuple #[.slice none 0 0, J 1], h)
  | [.int .i64 (.negSucc _)] => some (.tuple #[.slice none 0 0, J 1], h)
  | _ => none
theorem idsC_get {h : Hp} {m i : Nat} (hi : i < m) : (idsC h m)[i]? = some (h.next + i) := by
  unfold idsC
  rw [List.getElem?_map, List.getElem?_range hi]
  rfl
theorem blks_all : ∀ (ids : List Nat) (gs : List Grp), ids.length = gs.length → (blks ids gs).map (·.1) = ids
  | [], [], _ => rfl
  | [], _ :: _, h => by cases h
  | _ :: _, [], h => by cases h
  | i :: ids, g :: gs, h => by rw [blks, List.map_cons, blks_all ids gs (by simpa using h)]
theorem con_J (E : Env) (l : List Nat) : conL E (l.map J) = l.map J := conL_flat E _ (by
  induction l with
  | nil => rfl
  | cons a r ih => rw [List.map_cons]; simp only [flatL, flat, ih, Bool.and_self])
theorem valsG_get {ids : List Nat} {gs : List Grp} {b : Nat} {g : Grp} {i : Nat} (h1 : gs[b]? = some g) (h2 : ids[b]? = some i) : (valsG ids gs)[b]? = some (oslV i g.2.2.length) := by
  unfold valsG
  rw [List.getElem?_map, esF_get gs ids 0 b g i h1 h2]
  rfl
theorem valsG_len {ids : List Nat} {gs : List Grp} (h : ids.length = gs.length) : (valsG ids gs).length = gs.length := by
  unfold valsG
  rw [List.length_map, esF_len gs ids 0 h]
theorem con_osl {E E' : Env} {i j n : Nat} (h : E'.μ j = E.μ i ∧ E'.ε j = E.ε i) : con E' (oslV j n) = con E (oslV i n) := by
  cases n with
  | zero => rfl
  | succ n => simp only [oslV, con, h.1, conCap, h.2]
theorem weak_chains {n : Nat} {h : Hp} {v1 : Value} {h1 : Hp} (hq : ChQ n h v1 h1) : Weak Tryz.prog h v1 h1 (.tuple #[.slice (some ⟨h.next + (grp n (2 ^ n)).length, 0, none⟩) (grp n (2 ^ n)).length (2 * (grp n (2 ^ n)).length + 1), J 0]) (h.news (osC h (grp n (2 ^ n)))) := by
  obtain ⟨q, ids, hil, rfl, W⟩ := hq
  generalize grp n (2 ^ n) = gs at *
  intro B w0 E0 E w1 w H0 H hA hle hsc
  have hcl : (idsC h gs.length).length = gs.length := by unfold idsC; rw [List.length_map, List.length_range]
  have hol : (osC h gs).length = gs.length + 1 := by unfold osC objsC; rw [List.length_append, List.length_map]; rfl
  have hlen : (ids ++ [q]).length = (osC h gs).length := by rw [List.length_append, hil, hol]; rfl
  have hnd : (ids ++ [q]).Nodup := by
    have := W.nd
    rw [List.map_cons, blks_all ids gs hil] at this
    exact (List.perm_append_comm (l₁ := [q]) (l₂ := ids)).nodup_iff.1 this
  have hid : ∀ (b i : Nat) (g : Grp), ids[b]? = some i → gs[b]? = some g → h1.get i = some (.cells (g.2.2.map J) 3 true) ∧ h.next ≤ i := fun b i g hb hg => by
    obtain ⟨p1, p2, p3⟩ := W.all _ (List.mem_cons_of_mem _ (List.mem_of_getElem? (blks_get ids gs b i g hb hg)))
    exact ⟨p3, p1⟩
  obtain ⟨q1, q2, q3⟩ := W.all _ List.mem_cons_self
  dsimp only at q1 q2 q3
  have hge : ∀ i ∈ ids ++ [q], h.next ≤ i := fun i hi => by
    rcases List.mem_append.1 hi with hi | hi
    · obtain ⟨b, hb⟩ := List.getElem?_of_mem hi
      have hbl := (List.getElem?_eq_some_iff.1 hb).1
      exact (hid b i _ hb (List.getElem?_eq_getElem (by omega))).2
    · rw [List.mem_singleton.1 hi]; exact q1
  have hE := renE_lt E h.next (ids ++ [q])
  have hR : ∀ b, b < gs.length → ∃ i, ids[b]? = some i ∧ (renE E h.next (ids ++ [q])).μ (h.next + b) = E.μ i ∧ (renE E h.next (ids ++ [q])).ε (h.next + b) = E.ε i := fun b hb => by
    have h2 : ids[b]? = some ids[b] := List.getElem?_eq_getElem (by omega)
    exact ⟨_, h2, renE_at (by rw [List.getElem?_append_left (by omega)]; exact h2)⟩
  have hRq : (renE E h.next (ids ++ [q])).μ (h.next + gs.length) = E.μ q ∧ (renE E h.next (ids ++ [q])).ε (h.next + gs.length) = E.ε q :=
    renE_at (by rw [List.getElem?_append_right (by omega), hil, Nat.sub_self]; rfl)
  have hcv : conL (renE E h.next (ids ++ [q])) (valsG (idsC h gs.length) gs) = conL E (valsG ids gs) := by
    rw [conL_eq, conL_eq]
    apply List.ext_getElem
    · rw [List.length_map, List.length_map, valsG_len hcl, valsG_len hil]
    · intro b h2 h3
      rw [List.getElem_map, List.getElem_map]
      rw [List.length_map, valsG_len hcl] at h2
      obtain ⟨i, hi, hm⟩ := hR b h2
      have hg : gs[b]? = some gs[b] := List.getElem?_eq_getElem h2
      have e1 := valsG_get hg hi
      have e2 := valsG_get hg (idsC_get (h := h) h2)
      rw [(List.getElem?_eq_some_iff.1 e1).2, (List.getElem?_eq_some_iff.1 e2).2]
      exact con_osl hm
  have hn := HpOK.renum H0 H W.ext (ids ++ [q]) (osC h gs) hlen hnd hge fun b k o hk ho => by
    rcases Nat.lt_or_ge b gs.length with hb | hb
    · obtain ⟨i, hi, hm⟩ := hR b hb
      rw [List.getElem?_append_left (by omega), hi] at hk
      obtain rfl : i = k := Option.some.inj hk
      have hg : gs[b]? = some gs[b] := List.getElem?_eq_getElem hb
      have hoo : o = .cells (gs[b].2.2.map J) 3 true := by
        unfold osC objsC at ho
        rw [List.getElem?_append_left (by rw [List.length_map]; exact hb), List.getElem?_map, hg] at ho
        exact (Option.some.inj ho).symm
      subst hoo
      refine ⟨rfl, _, (hid b i _ hi hg).1, rfl, fun O hO => ?_⟩
      obtain ⟨junk, j1, j2, j3, j4, j5⟩ := hO
      rw [con_J] at j1
      refine ⟨junk, by rw [con_J]; exact j1, scL_flat _ _ ?_, j3, j4, fun hh => by rw [hm.2]; exact j5 hh⟩
      induction gs[b].2.2 with
      | nil => rfl
      | cons a r ih => rw [List.map_cons]; simp only [flatL, flat, ih, Bool.and_self]
    · have hb2 : b = gs.length := by
        have := (List.getElem?_eq_some_iff.1 ho).1
        omega
      subst hb2
      have hkq : k = q := by
        rw [List.getElem?_append_right (by omega), hil, Nat.sub_self] at hk
        exact (Option.some.inj hk).symm
      subst hkq
      have hoo : o = .cells (valsG (idsC h gs.length) gs) 28 true := by
        unfold osC objsC at ho
        rw [List.getElem?_append_right (by rw [List.length_map]; exact Nat.le_refl _), List.length_map, Nat.sub_self] at ho
        exact (Option.some.inj ho).symm
      subst hoo
      refine ⟨rfl, _, q3, rfl, fun O hO => ?_⟩
      obtain ⟨junk, j1, j2, j3, j4, j5⟩ := hO
      have hvm : ∀ v ∈ valsG (idsC h gs.length) gs, ∃ b l, b < gs.length ∧ v = oslV (h.next + b) l := fun v hv => by
        obtain ⟨b, hb⟩ := List.getElem?_of_mem hv
        have hbl := (List.getElem?_eq_some_iff.1 hb).1
        rw [valsG_len hcl] at hbl
        rw [valsG_get (List.getElem?_eq_getElem hbl) (idsC_get (h := h) hbl)] at hb
        exact ⟨b, _, hbl, (Option.some.inj hb).symm⟩
      refine ⟨junk, by rw [hcv]; exact j1, ?_, fun v hv => ?_, j4, fun hh => by rw [hRq.2]; exact j5 hh⟩
      · rw [scL_iff]
        intro v hv
        obtain ⟨b, l, hb, rfl⟩ := hvm v hv
        cases l with
        | zero => rfl
        | succ l => simp only [oslV, sc]; rw [hol]; exact decide_eq_true (by omega)
      · obtain ⟨b, l, hb, rfl⟩ := hvm v hv
        cases l <;> rfl
  refine ⟨_, hn, hA.trans hE (Nat.le_refl _), by rw [Hp.news_next]; omega, ?_, ?_⟩
  · simp only [sc, scA, scL, Bool.and_true]
    rw [Hp.news_next, hol]
    exact decide_eq_true (by omega)
  · simp only [con, conA, conL, hRq.1, conCap, hRq.2]
theorem mat_up (m n s : Nat) (hn : n ≤ 10) (hs : s < 1024) (h : Hp) : ∃ v h', Ev 100000 (m + 1) 58 [J n, J s] h = some (v, h') ∧ v = keyV (matM n s) (matC n s) ∧ h.Ext h' := mat_of 100000 m (by decide) n s hn hs h
theorem chains_err (m : Nat) (z : Int) (hz : z < 0 ∨ 10 < z) (h : Hp) : Ok (fun v h' => v = .tuple #[.slice none 0 0, J 1] ∧ h' = h) (fnT Tryz.prog orc 100000 m 14 [I z] h) := by
  by_cases h0 : z < 0
  · refine ok_go 1 ?_
    refine sy_yes 0 (b := decide (z < 0)) (by kernel_rfl) (decide_eq_true h0) ?_
    refine ok_go 3 ?_
    exact sy_done 0 (v := .tuple #[.slice none 0 0, J 1]) (h := h) (by kernel_rfl) ⟨rfl, rfl⟩
  · refine ok_go 1 ?_
    refine sy_no 0 (b := decide (z < 0)) (by kernel_rfl) (decide_eq_false h0) ?_
    refine ok_go 3 ?_
    refine sy_yes 0 (b := decide (z > 10)) (by kernel_rfl) (decide_eq_true (by show (10 : Int) < z; omega)) ?_
    refine ok_go 0 ?_
    exact sy_done 0 (v := .tuple #[.slice none 0 0, J 1]) (h := h) (by kernel_rfl) ⟨rfl, rfl⟩
theorem weak_same {h : Hp} {v : Value} : Weak Tryz.prog h v h v h := fun _ _ _ E _ _ _ H hA hle hsc => ⟨E, H, hA, hle, hsc, rfl⟩
/-- What is known ahead of Chains. -/
def chOrc : Orc := addOrc noOrc 14 chainsG
theorem chOrc_ok : OrcOK Tryz.prog chOrc := by
  refine addOrc_ok (noOrc_ok _) fun args h v h' he => ?_
  unfold chainsG at he
  split at he
  · rename_i n
    split at he
    · rename_i hb
      have hn := Nat.le_of_ble_eq_true hb
      cases he
      exact ⟨100000, 24, ChQ n h, chains_walk 100000 3 (by decide) n hn h (fun j a b x y g ha hx hy => by
        rw [Nat.add_comm]
        exact comp_of 100000 j (by decide) a b ha x y g hx hy) (fun s h hs => mat_up 23 n s hn hs h), fun v1 h1 hq => weak_chains hq⟩
    · rename_i hb
      cases he
      have hn : 10 < n := Nat.lt_of_not_le fun hle => by rw [Nat.ble_eq_true_of_le hle] at hb; cases hb
      refine ⟨100000, 0, _, chains_err 0 (Int.ofNat n) (.inr (by show (10 : Int) < (n : Int); omega)) h, ?_⟩
      rintro v1 h1 ⟨rfl, rfl⟩
      exact weak_same
  · cases he
    refine ⟨100000, 0, _, chains_err 0 (.negSucc _) (.inl (Int.negSucc_lt_zero _)) h, ?_⟩
    rintro v1 h1 ⟨rfl, rfl⟩
    exact weak_same
  · cases he
end
end Go.Proofs.YtkfbfgcflnkllaaGreatDoor.Ch
namespace Go.Proofs.YtkfbfgcflnkllaaGreatDoor
open Go Go.Eng
set_option maxRecDepth 100000
theorem awake_run : runInv Tryz.prog Ch.chOrc 100000 [] 1000 (.fn 18 []) ⟨.nil, Tryz.prog.globals.size⟩ trueV = Ans.yes := by kernel_rfl
end Go.Proofs.YtkfbfgcflnkllaaGreatDoor
namespace Go.Proofs.YtkfbfgcflnkllaaGreatDoor
open Go Go.Eng Go.RowKit
set_option maxRecDepth 100000
theorem awake_calls (w : World) : Calls Tryz.prog 18 #[] w fun e w' => e = .returned (.bool true) ∧ Below w.heap.size w w' :=
  calls_yes Ch.chOrc_ok (lf := 100000) (n := 1000) (sy := []) rfl (yes_of awake_run) rfl w
noncomputable def orc : Orc := fun i => match trueOrc 18 i with
  | some g => some g
  | none => Ch.chOrc i
theorem orc_ok : OrcOK Tryz.prog orc := fun f g hg => by
  unfold orc at hg
  split at hg
  · rename_i g' e
    cases hg
    exact trueOrc_ok (f := 18) (by kernel_rfl) awake_calls f g e
  · exact Ch.chOrc_ok f g hg
noncomputable abbrev Ev (lf n f : Nat) (l : List Value) (h : Hp) := evInv Tryz.prog orc lf n (.fn f l) h
end Go.Proofs.YtkfbfgcflnkllaaGreatDoor
