/- Depth and tree are what the reference says; the law; a tree as an argument. -/
import Derived.Test.YtnfboopfpkaeaaaProg
import Derived.KernelRfl
import Derived.Test.YtnfboopfpkaeaaaSyF
import Derived.Test.YtnfboopfpkaeaaaDecQB
import Derived.ChangeSlices
import Derived.ChangeArms
import Derived.Deep.Strs
import Derived.Test.YtnfboopfpkaeaaaCubeQB
/- DecP: contracts of functions. -/
namespace Go.Proofs.Ytnfboopfpkaeaaa
open Go Go.Eng Nim
set_option maxRecDepth 100000
set_option maxHeartbeats 4000000
/-- The bits below n that a mask does not have. -/
def zrs (n m : Nat) : List Nat := (List.range n).filter fun i => m &&& 2 ^ i == 0
/-- An input of a part: the part's values, and bits at the places that are not told. -/
def emb : List Nat → Nat → Nat → Nat
  | [], v, _ => v
  | a :: p, v, x => emb p (if x % 2 = 1 then v ||| 2 ^ a else v) (x / 2)
theorem ins_zero (c y : Nat) (hc : c < 2) : ins 0 c y % 2 = c ∧ ins 0 c y / 2 = y := by
  unfold ins
  simp only [Nat.pow_zero, Nat.div_one, Nat.zero_add, Nat.pow_one, Nat.mul_one, Nat.mod_one, Nat.add_zero]
  omega
theorem ins_succ (b c y : Nat) : ins (b + 1) c y % 2 = y % 2 ∧ ins (b + 1) c y / 2 = ins b c (y / 2) := by
  unfold ins
  have e1 : y / 2 ^ (b + 1) = y / 2 / 2 ^ b := by rw [Nat.pow_succ, Nat.mul_comm, Nat.div_div_eq_div_mul]
  have e2 : y % 2 ^ (b + 1) = 2 * (y / 2 % 2 ^ b) + y % 2 := by
    rw [Nat.pow_succ, Nat.mul_comm (2 ^ b) 2, Nat.mod_mul]
    omega
  rw [e1, e2, Nat.pow_succ 2 (b + 1), Nat.pow_succ 2 b]
  generalize y / 2 / 2 ^ b = A
  generalize y / 2 % 2 ^ b = B
  have h2 : ∀ z : Nat, z * (2 ^ b * 2 * 2) = 2 * (z * (2 ^ b * 2)) := fun z => by rw [← Nat.mul_assoc]; omega
  have h3 : ∀ z : Nat, z * (2 ^ b * 2) = 2 * (z * 2 ^ b) := fun z => by rw [← Nat.mul_assoc]; omega
  rw [h2, h3 c]
  omega
theorem emb_ins : ∀ (p : List Nat) (b c v y a : Nat), c < 2 → p[b]? = some a → emb p v (ins b c y) = emb (p.eraseIdx b) (if c = 1 then v ||| 2 ^ a else v) y
  | [], b, c, v, y, a, _, h => by cases h
  | q :: p, 0, c, v, y, a, hc, h => by
    cases h
    rw [emb, (ins_zero c y hc).1, (ins_zero c y hc).2]
    rfl
  | q :: p, b + 1, c, v, y, a, hc, h => by
    rw [emb, (ins_succ b c y).1, (ins_succ b c y).2, emb_ins p b c _ (y / 2) a hc h]
    show _ = emb (q :: p.eraseIdx b) _ y
    rw [emb]
    congr 1
    by_cases h1 : c = 1 <;> by_cases h2 : y % 2 = 1 <;> simp only [h1, h2, if_true, if_false]
    · rw [Nat.or_assoc, Nat.or_assoc, Nat.or_comm (2 ^ q)]
theorem emb_zero : ∀ (p : List Nat) (v : Nat), emb p v 0 = v
  | [], _ => rfl
  | a :: p, v => by rw [emb]; exact emb_zero p v
theorem parts_tab : ∀ n, n < 6 → ∀ m, m < 2 ^ n → ∀ v, v < 2 ^ n → v &&& m = v → (List.range (2 ^ n)).filter (fun z => z &&& m == v) = (List.range (2 ^ (zrs n m).length)).map (emb (zrs n m) v) := by
  have h : (List.range 6).all (fun n => (List.range (2 ^ n)).all fun m => (List.range (2 ^ n)).all fun v => !(v &&& m == v) || decide ((List.range (2 ^ n)).filter (fun z => z &&& m == v) = (List.range (2 ^ (zrs n m).length)).map (emb (zrs n m) v))) = true := by kernel_rfl
  intro n hn m hm v hv he
  rw [List.all_eq_true] at h
  have h := h n (List.mem_range.2 hn)
  rw [List.all_eq_true] at h
  have h := h m (List.mem_range.2 hm)
  rw [List.all_eq_true] at h
  have h := h v (List.mem_range.2 hv)
  rw [he, beq_self_eq_true, Bool.not_true, Bool.false_or] at h
  exact of_decide_eq_true h
theorem zrs_erase : ∀ n, n < 6 → ∀ m, m < 2 ^ n → ∀ b, b < (zrs n m).length → zrs n (m ||| 2 ^ (zrs n m).getD b 0) = (zrs n m).eraseIdx b := by
  have h : (List.range 6).all (fun n => (List.range (2 ^ n)).all fun m => (List.range (zrs n m).length).all fun b => decide (zrs n (m ||| 2 ^ (zrs n m).getD b 0) = (zrs n m).eraseIdx b)) = true := by kernel_rfl
  intro n hn m hm b hb
  rw [List.all_eq_true] at h
  have h := h n (List.mem_range.2 hn)
  rw [List.all_eq_true] at h
  have h := h m (List.mem_range.2 hm)
  rw [List.all_eq_true] at h
  exact of_decide_eq_true (h b (List.mem_range.2 hb))
theorem zrs_mem {n m i : Nat} (h : i ∈ zrs n m) : i < n ∧ m &&& 2 ^ i = 0 := by
  unfold zrs at h
  rw [List.mem_filter, List.mem_range] at h
  exact ⟨h.1, eq_of_beq h.2⟩
theorem zrs_up (n m : Nat) : zrs (n + 1) m = zrs n m ++ (if (m &&& 2 ^ n == 0) = true then [n] else []) := by
  unfold zrs
  rw [List.range_succ, List.filter_append]
  congr 1
  by_cases h : (m &&& 2 ^ n == 0) = true
  · rw [if_pos h]; simp only [List.filter, h]
  · rw [if_neg h]; simp only [List.filter, Bool.not_eq_true _ |>.mp h]
def lmin (D : Nat → Nat) (a : Nat) (l : List Nat) : Nat := l.foldl (fun a i => min a (D i)) a
theorem mnl_lmin (n m : Nat) (D : Nat → Nat) : ∀ k, mnl n m D k = lmin D 6 (zrs k m)
  | 0 => rfl
  | k + 1 => by
    rw [mnl, mnl_lmin n m D k, zrs_up]
    split
    · rename_i h
      rw [lmin, lmin, List.foldl_append]
      rfl
    · rw [List.append_nil]
theorem mn7_lmin (D D' : Nat → Nat) (p : List Nat) (h : ∀ b, b < p.length → D' b = D (p.getD b 0)) : ∀ b, b ≤ p.length → mn7 D' b = lmin D 7 (p.take b)
  | 0, _ => rfl
  | b + 1, hb => by
    have hlt : b < p.length := hb
    rw [mn7, mn7_lmin D D' p h b (Nat.le_of_lt hb), List.take_succ_eq_append_getElem hlt, lmin, lmin, List.foldl_append, h b hlt]
    simp [List.getElem?_eq_getElem hlt]
theorem lmin_min (D : Nat → Nat) : ∀ (l : List Nat) (a b : Nat), lmin D (min a b) l = min a (lmin D b l)
  | [], a, b => rfl
  | i :: l, a, b => by
    show lmin D (min (min a b) (D i)) l = min a (lmin D (min b (D i)) l)
    rw [Nat.min_assoc]
    exact lmin_min D l a (min b (D i))
theorem DR_small : ∀ k g, DR k g ≤ k
  | 0, _ => Nat.le_refl _
  | k + 1, g => by
    rw [DR]
    split
    · omega
    · have hm : ∀ D b, mn7 D (b + 1) ≤ D 0 := fun D b => by
        induction b with
        | zero => exact Nat.min_le_right _ _
        | succ b ih => exact Nat.le_trans (Nat.min_le_left _ _) ih
      refine Nat.le_trans (hm _ k) ?_
      have h1 := DR_small k fun y => g (ins 0 0 y)
      have h2 := DR_small k fun y => g (ins 0 1 y)
      show 1 + max _ _ ≤ k + 1
      omega
theorem and_or_in {v m a : Nat} (h : v &&& m = v) : (v ||| 2 ^ a) &&& (m ||| 2 ^ a) = v ||| 2 ^ a := by
  apply Nat.eq_of_testBit_eq
  intro i
  have := congrArg (fun z => z.testBit i) h
  simp only [Nat.testBit_and, Nat.testBit_or] at this ⊢
  cases h1 : v.testBit i <;> cases h2 : m.testBit i <;> cases h3 : (2 ^ a).testBit i <;> simp_all
theorem and_or_out {v m a : Nat} (h : v &&& m = v) : v &&& (m ||| 2 ^ a) = v := by
  apply Nat.eq_of_testBit_eq
  intro i
  have := congrArg (fun z => z.testBit i) h
  simp only [Nat.testBit_and, Nat.testBit_or] at this ⊢
  cases h1 : v.testBit i <;> cases h2 : m.testBit i <;> cases h3 : (2 ^ a).testBit i <;> simp_all
/-- The program's depth is the reference's. -/
theorem Lf_DR (f : Nat → Bool) (n : Nat) (hn : n ≤ 5) : ∀ k m v, m < 2 ^ n → v < 2 ^ n → v &&& m = v → (zrs n m).length = k → Lf f n m v = DR k fun x => f (emb (zrs n m) v x)
  | k, m, v, hm, hv, hin, hk => by
    have tab := parts_tab n (by omega) m hm v hv hin
    have hc : al (cq f m v) (2 ^ n) = al (fun x => f (emb (zrs n m) v x) == f (emb (zrs n m) v 0)) (2 ^ k) := by
      rw [Bool.eq_iff_iff, al_iff, al_iff, emb_zero, ← hk]
      constructor
      · intro h x hx
        have hmem : emb (zrs n m) v x ∈ (List.range (2 ^ n)).filter (fun z => z &&& m == v) := by rw [tab]; exact List.mem_map.2 ⟨x, List.mem_range.2 hx, rfl⟩
        rw [List.mem_filter, List.mem_range] at hmem
        have := h _ hmem.1
        unfold cq at this
        rw [bne, hmem.2, Bool.not_true, Bool.false_or] at this
        exact this
      · intro h z hz
        unfold cq
        by_cases he : (z &&& m == v) = true
        · have hmem : z ∈ (List.range (2 ^ n)).filter (fun z => z &&& m == v) := List.mem_filter.2 ⟨List.mem_range.2 hz, he⟩
          rw [tab] at hmem
          obtain ⟨x, hx, rfl⟩ := List.mem_map.1 hmem
          rw [h x (List.mem_range.1 hx), Bool.or_true]
        · rw [bne, Bool.not_eq_true _ |>.mp he]; rfl
    rw [Lf_eq f n m v hm, hc]
    cases k with
    | zero =>
      rw [if_pos (by show (true && (f (emb _ _ 0) == f (emb _ _ 0))) = true; simp)]
      rfl
    | succ k =>
      rw [DR]
      split
      · rfl
      · have hi2 : ∀ i, i < n → 2 ^ i < 2 ^ n := fun i hi => Nat.pow_lt_pow_right (by decide) hi
        rw [mnl_lmin]
        have hD : ∀ b, b < (zrs n m).length → (fun b => 1 + max (DR k fun y => f (emb (zrs n m) v (ins b 0 y))) (DR k fun y => f (emb (zrs n m) v (ins b 1 y)))) b = (fun i => 1 + max (Lf f n (m ||| 2 ^ i) v) (Lf f n (m ||| 2 ^ i) (v ||| 2 ^ i))) ((zrs n m).getD b 0) := fun b hb => by
          have ha : (zrs n m)[b]? = some ((zrs n m).getD b 0) := by rw [List.getD_eq_getElem?_getD, List.getElem?_eq_getElem hb]; rfl
          have hz := zrs_mem (List.mem_of_getElem? ha)
          have he := zrs_erase n (by omega) m hm b hb
          generalize (zrs n m).getD b 0 = a at *
          have h1 : m ||| 2 ^ a < 2 ^ n := or_small hm (hi2 a hz.1)
          have h2 : v ||| 2 ^ a < 2 ^ n := or_small hv (hi2 a hz.1)
          have hl : (zrs n (m ||| 2 ^ a)).length = k := by rw [he, List.length_eraseIdx_of_lt hb]; omega
          have e0 := Lf_DR f n hn k (m ||| 2 ^ a) v h1 hv (and_or_out hin) hl
          have e1 := Lf_DR f n hn k (m ||| 2 ^ a) (v ||| 2 ^ a) h1 h2 (and_or_in hin) hl
          show 1 + max _ _ = 1 + max _ _
          rw [e0, e1, he]
          congr 3
          · funext y; rw [emb_ins _ b 0 v y a (by decide) ha]; rfl
          · funext y; rw [emb_ins _ b 1 v y a (by decide) ha]; rfl
        have e7 := mn7_lmin (fun i => 1 + max (Lf f n (m ||| 2 ^ i) v) (Lf f n (m ||| 2 ^ i) (v ||| 2 ^ i))) (fun b => 1 + max (DR k fun y => f (emb (zrs n m) v (ins b 0 y))) (DR k fun y => f (emb (zrs n m) v (ins b 1 y)))) (zrs n m) hD (k + 1) (by omega)
        rw [← hk, List.take_length, hk] at e7
        have h6 : lmin (fun i => 1 + max (Lf f n (m ||| 2 ^ i) v) (Lf f n (m ||| 2 ^ i) (v ||| 2 ^ i))) 6 (zrs n m) = min 6 (lmin (fun i => 1 + max (Lf f n (m ||| 2 ^ i) v) (Lf f n (m ||| 2 ^ i) (v ||| 2 ^ i))) 7 (zrs n m)) := lmin_min _ (zrs n m) 6 7
        rw [h6, ← e7]
        have hs := DR_small (k + 1) fun x => f (emb (zrs n m) v x)
        rw [DR, if_neg (by assumption)] at hs
        have hkn : k + 1 ≤ n := by
          rw [← hk]
          have := List.length_filter_le (fun i => m &&& 2 ^ i == 0) (List.range n)
          rw [List.length_range] at this
          exact this
        exact Nat.min_eq_right (by omega)
theorem Lf_small (f : Nat → Bool) (n m v : Nat) (hn : n ≤ 5) (hm : m < 2 ^ n) (hv : v < 2 ^ n) (hin : v &&& m = v) : Lf f n m v ≤ (zrs n m).length := by
  rw [Lf_DR f n hn _ m v hm hv hin rfl]
  exact DR_small _ _
end Go.Proofs.Ytnfboopfpkaeaaa
/- DecR: contracts of functions. -/
namespace Go.Proofs.Ytnfboopfpkaeaaa
open Go Go.Eng Nim
set_option maxRecDepth 100000
set_option maxHeartbeats 4000000
theorem At.down {L : List (Nat × AObj)} {d : Nat} {v : Value} {t : RT} (A : At L d v t) (h : t.l = []) : At L 0 v t := by
  obtain ⟨a, c, e⟩ := A.shape
  exact ⟨h, a, c, by rw [h] at e; exact e⟩
theorem got_zero (k : Nat) (L : List (Nat × AObj)) (v : Value) (t : RT) (h : Hp) (A : Sees L 0 v t) : ∃ y h' L', Ev 100000 (k + 1) 16 [v, J 0] h = some (y, h') ∧ Sto h h' L' ∧ At L' 0 y t := by
  obtain ⟨hl, a, n, c, rfl⟩ := A
  have main : ∃ y h', Ev 100000 (k + 1) 16 [.agg #[I t.b, .bool t.w, .slice a n c], J 0] h = some (y, h') ∧ ∃ L', Sto h h' L' ∧ At L' 0 y t := by
    refine fnS_ok (Q := fun y h' => ∃ L', Sto h h' L' ∧ At L' 0 y t) ?_
    have W := Sto.start h
    refine ow_new 0 W (AObj.cells [Value.int IntKind.i64 (RT.b t), Value.bool (RT.w t), Value.slice a n c] 35 false) (fun q => Value.pointer (some { block := q, off := 0 })) (by kernel_rfl) fun g1 ng1 Wg1 => ?_
    have W := Wg1
    refine ow_new 0 W (AObj.cells [Value.int IntKind.i64 (Int.ofNat 0), Value.bool false, Value.slice none 0 0] 26 false) (fun q => Value.pointer (some { block := q, off := 0 })) (by kernel_rfl) fun g2 ng2 Wg2 => ?_
    have W := Wg2
    refine ow_load (P := Try.prog) (T := 3) (off := 0) 1 1 W rfl rfl (by kernel_rfl) (by kernel_rfl) ?_
    refine ow_load (P := Try.prog) (T := 4) (off := 1) 1 1 W rfl rfl (by kernel_rfl) (by kernel_rfl) ?_
    refine ow_new 1 W (AObj.cells [Value.int IntKind.i64 (Int.ofNat 0), Value.bool false, Value.slice none 0 0] 26 false) (fun q => Value.pointer (some { block := q, off := 0 })) (by kernel_rfl) fun g3 ng3 Wg3 => ?_
    have W := Wg3
    refine ow_storeA (P := Try.prog) (T := 26) (v := Value.agg { toList := [Value.int IntKind.i64 (RT.b t), Value.bool (RT.w t), Value.slice none 0 0] }) 0 0 W ([Value.int IntKind.i64 (RT.b t), Value.bool (RT.w t), Value.slice none 0 0]) rfl rfl rfl (by kernel_rfl) (by first | rfl | (repeat' (first | exact rfl | assumption | apply sc_cons))) (by kernel_rfl) fun g4 ng4 Wg4 => ?_
    have W := Wg4
    refine sy_loop 0 100000 g4 (α := Nat) (fun _ => [(1, J 0), (2, ptr h.next 0), (4, ptr g1.next 0), (5, ptr g2.next 0), (6, J 0)]) (fun _ g => Sto h g [(g2.next, .cells [I t.b, .bool t.w, .slice none 0 0] 26 false), (g1.next, .cells [I 0, .bool false, .slice none 0 0] 26 false), (h.next, .cells [I t.b, .bool t.w, .slice a n c] 35 false)]) (fun _ _ => 0) 0 (by kernel_rfl) (by kernel_rfl)
      ⟨by kernel_rfl, by kernel_rfl, by kernel_rfl, by kernel_rfl, by kernel_rfl, trivial⟩ (by decide) W ?_
    rintro m1 _ f1 g W _
    refine ow_load (P := Try.prog) (T := 33) (off := 2) 1 2 W rfl rfl (by kernel_rfl) (by kernel_rfl) ?_
    refine ok_go 2 ?_
    refine sy_test 0 (decide (Int.ofNat 0 < Int.ofNat n)) (by kernel_rfl) ?_ ?_
    · intro _
      refine ow_loadA (P := Try.prog) (T := 26) (z := 3) 8 0 W rfl (by kernel_rfl) (by kernel_rfl) rfl (by kernel_rfl) ?_
      refine ow_storeA (P := Try.prog) (T := 26) (v := Value.agg { toList := [Value.int IntKind.i64 (RT.b t), Value.bool (RT.w t), Value.slice none 0 0] }) 0 1 W ([Value.int IntKind.i64 (RT.b t), Value.bool (RT.w t), Value.slice none 0 0]) rfl rfl rfl (by kernel_rfl) (by first | rfl | (repeat' (first | exact rfl | assumption | apply sc_cons))) (by kernel_rfl) fun g5 ng5 Wg5 => ?_
      have W := Wg5
      refine ow_loadA (P := Try.prog) (T := 26) (z := 3) 0 1 W rfl (by kernel_rfl) (by kernel_rfl) rfl (by kernel_rfl) ?_
      exact sy_done 0 (v := .agg #[I t.b, .bool t.w, .slice none 0 0]) (h := g5) (by kernel_rfl) ⟨[], W.sub (List.nil_sublist _), hl, none, 0, rfl⟩
    · intro _
      refine ow_loadA (P := Try.prog) (T := 26) (z := 3) 6 0 W rfl (by kernel_rfl) (by kernel_rfl) rfl (by kernel_rfl) ?_
      refine ow_storeA (P := Try.prog) (T := 26) (v := Value.agg { toList := [Value.int IntKind.i64 (RT.b t), Value.bool (RT.w t), Value.slice none 0 0] }) 0 1 W ([Value.int IntKind.i64 (RT.b t), Value.bool (RT.w t), Value.slice none 0 0]) rfl rfl rfl (by kernel_rfl) (by first | rfl | (repeat' (first | exact rfl | assumption | apply sc_cons))) (by kernel_rfl) fun g5 ng5 Wg5 => ?_
      have W := Wg5
      refine ow_loadA (P := Try.prog) (T := 26) (z := 3) 0 1 W rfl (by kernel_rfl) (by kernel_rfl) rfl (by kernel_rfl) ?_
      exact sy_done 0 (v := .agg #[I t.b, .bool t.w, .slice none 0 0]) (h := g5) (by kernel_rfl) ⟨[], W.sub (List.nil_sublist _), hl, none, 0, rfl⟩
  obtain ⟨y, h', e, L', W, A'⟩ := main
  exact ⟨y, h', L', e, W, A'⟩
theorem cut_zero (k : Nat) (L : List (Nat × AObj)) (v : Value) (t : RT) (h : Hp) (A : Sees L 0 v t) : ∃ y h' L', Ev 100000 (k + 1) 20 [v, J 0] h = some (y, h') ∧ Sto h h' L' ∧ At L' 0 y t := by
  obtain ⟨hl, a, n, c, rfl⟩ := A
  have main : ∃ y h', Ev 100000 (k + 1) 20 [.agg #[I t.b, .bool t.w, .slice a n c], J 0] h = some (y, h') ∧ ∃ L', Sto h h' L' ∧ At L' 0 y t := by
    refine fnS_ok (Q := fun y h' => ∃ L', Sto h h' L' ∧ At L' 0 y t) ?_
    have W := Sto.start h
    refine ow_new 0 W (AObj.cells [Value.int IntKind.i64 (RT.b t), Value.bool (RT.w t), Value.slice a n c] 26 false) (fun q => Value.pointer (some { block := q, off := 0 })) (by kernel_rfl) fun g1 ng1 Wg1 => ?_
    have W := Wg1
    refine ow_new 0 W (AObj.cells [Value.int IntKind.i64 (Int.ofNat 0), Value.bool false, Value.slice none 0 0] 26 false) (fun q => Value.pointer (some { block := q, off := 0 })) (by kernel_rfl) fun g2 ng2 Wg2 => ?_
    have W := Wg2
    refine ow_load (P := Try.prog) (T := 3) (off := 0) 1 1 W rfl rfl (by kernel_rfl) (by kernel_rfl) ?_
    refine ow_load (P := Try.prog) (T := 4) (off := 1) 1 1 W rfl rfl (by kernel_rfl) (by kernel_rfl) ?_
    refine ow_new 1 W (AObj.cells [Value.int IntKind.i64 (Int.ofNat 0), Value.bool false, Value.slice none 0 0] 26 false) (fun q => Value.pointer (some { block := q, off := 0 })) (by kernel_rfl) fun g3 ng3 Wg3 => ?_
    have W := Wg3
    refine ow_storeA (P := Try.prog) (T := 26) (v := Value.agg { toList := [Value.int IntKind.i64 (RT.b t), Value.bool (RT.w t), Value.slice none 0 0] }) 0 0 W ([Value.int IntKind.i64 (RT.b t), Value.bool (RT.w t), Value.slice none 0 0]) rfl rfl rfl (by kernel_rfl) (by first | rfl | (repeat' (first | exact rfl | assumption | apply sc_cons))) (by kernel_rfl) fun g4 ng4 Wg4 => ?_
    have W := Wg4
    refine sy_loop 0 100000 g4 (α := Nat) (fun _ => [(1, J 0), (2, ptr h.next 0), (4, ptr g1.next 0), (5, ptr g2.next 0), (6, J 0)]) (fun _ g => Sto h g [(g2.next, .cells [I t.b, .bool t.w, .slice none 0 0] 26 false), (g1.next, .cells [I 0, .bool false, .slice none 0 0] 26 false), (h.next, .cells [I t.b, .bool t.w, .slice a n c] 26 false)]) (fun _ _ => 0) 0 (by kernel_rfl) (by kernel_rfl)
      ⟨by kernel_rfl, by kernel_rfl, by kernel_rfl, by kernel_rfl, by kernel_rfl, trivial⟩ (by decide) W ?_
    rintro m1 _ f1 g W _
    refine ow_load (P := Try.prog) (T := 24) (off := 2) 1 2 W rfl rfl (by kernel_rfl) (by kernel_rfl) ?_
    refine ok_go 2 ?_
    refine sy_test 0 (decide (Int.ofNat 0 < Int.ofNat n)) (by kernel_rfl) ?_ ?_
    · intro _
      refine ow_loadA (P := Try.prog) (T := 26) (z := 3) 8 0 W rfl (by kernel_rfl) (by kernel_rfl) rfl (by kernel_rfl) ?_
      refine ow_storeA (P := Try.prog) (T := 26) (v := Value.agg { toList := [Value.int IntKind.i64 (RT.b t), Value.bool (RT.w t), Value.slice none 0 0] }) 0 1 W ([Value.int IntKind.i64 (RT.b t), Value.bool (RT.w t), Value.slice none 0 0]) rfl rfl rfl (by kernel_rfl) (by first | rfl | (repeat' (first | exact rfl | assumption | apply sc_cons))) (by kernel_rfl) fun g5 ng5 Wg5 => ?_
      have W := Wg5
      refine ow_loadA (P := Try.prog) (T := 26) (z := 3) 0 1 W rfl (by kernel_rfl) (by kernel_rfl) rfl (by kernel_rfl) ?_
      exact sy_done 0 (v := .agg #[I t.b, .bool t.w, .slice none 0 0]) (h := g5) (by kernel_rfl) ⟨[], W.sub (List.nil_sublist _), hl, none, 0, rfl⟩
    · intro _
      refine ow_loadA (P := Try.prog) (T := 26) (z := 3) 6 0 W rfl (by kernel_rfl) (by kernel_rfl) rfl (by kernel_rfl) ?_
      refine ow_storeA (P := Try.prog) (T := 26) (v := Value.agg { toList := [Value.int IntKind.i64 (RT.b t), Value.bool (RT.w t), Value.slice none 0 0] }) 0 1 W ([Value.int IntKind.i64 (RT.b t), Value.bool (RT.w t), Value.slice none 0 0]) rfl rfl rfl (by kernel_rfl) (by first | rfl | (repeat' (first | exact rfl | assumption | apply sc_cons))) (by kernel_rfl) fun g5 ng5 Wg5 => ?_
      have W := Wg5
      refine ow_loadA (P := Try.prog) (T := 26) (z := 3) 0 1 W rfl (by kernel_rfl) (by kernel_rfl) rfl (by kernel_rfl) ?_
      exact sy_done 0 (v := .agg #[I t.b, .bool t.w, .slice none 0 0]) (h := g5) (by kernel_rfl) ⟨[], W.sub (List.nil_sublist _), hl, none, 0, rfl⟩
  obtain ⟨y, h', e, L', W, A'⟩ := main
  exact ⟨y, h', L', e, W, A'⟩
end Go.Proofs.Ytnfboopfpkaeaaa
/- DecQ: contracts of functions. -/
namespace Go.Proofs.Ytnfboopfpkaeaaa
open Go Go.Eng Nim
set_option maxRecDepth 100000
set_option maxHeartbeats 4000000
/-! The contracts of functions that call themselves, put together. -/
theorem size_of' (k : Nat) (L : List (Nat × AObj)) : ∀ d levels v t h, d < levels → levels ≤ 100 → Hold h L → At L d v t → nds t ≤ 1000 → ∃ y h', Ev 100000 (d + k + 1) 55 [v, J levels] h = some (y, h') ∧ y = J (nds t) ∧ h.Ext h'
  | 0, levels, v, t, h, hl, hl2, K, A, hn => by
    rw [show 0 + k + 1 = k + 1 by omega]
    exact size_step 100000 k 0 levels (by decide) L v t h K A.up hn hl2 (by omega) fun u hu => by rw [A.1] at hu; cases hu
  | d + 1, levels, v, t, h, hl, hl2, K, A, hn => by
    rw [show d + 1 + k + 1 = (d + k + 1) + 1 by omega]
    refine size_step 100000 (d + k + 1) d levels (by decide) L v t h K A hn hl2 (by omega) fun u hu v h K A => ?_
    have h1 := nds_eq t
    have h2 : ∀ l : List RT, u ∈ l → nds u ≤ ndsL l := fun l => by
      induction l with
      | nil => intro h; cases h
      | cons a l ih =>
        intro h
        rw [ndsL]
        rcases List.mem_cons.1 h with rfl | h
        · omega
        · have := ih h; omega
    have h3 := h2 _ hu
    exact size_of' k L d (levels - 1) v u h (by omega) (by omega) K A (by omega)
theorem isTree_of (k n : Nat) (L : List (Nat × AObj)) : ∀ d v t h, Hold h L → At L d v t → ∃ y h', Ev 100000 (d + k + 1) 57 [v, J n] h = some (y, h') ∧ y = .bool (vld n t) ∧ h.Ext h'
  | 0, v, t, h, K, A => by
    rw [show 0 + k + 1 = k + 1 by omega]
    exact isTree_step 100000 k 0 n L v t h K A.up fun u hu => by rw [A.1] at hu; cases hu
  | d + 1, v, t, h, K, A => by
    rw [show d + 1 + k + 1 = (d + k + 1) + 1 by omega]
    exact isTree_step 100000 (d + k + 1) d n L v t h K A fun u _ v h K A => isTree_of k n L d v u h K A
theorem valid_of (k n : Nat) (L : List (Nat × AObj)) : ∀ d v t h, Hold h L → At L d v t → ∃ y h', Ev 100000 (d + k + 1) 60 [J n, v] h = some (y, h') ∧ y = .bool (vld n t) ∧ h.Ext h'
  | 0, v, t, h, K, A => by
    rw [show 0 + k + 1 = k + 1 by omega]
    exact valid_step 100000 k 0 n L v t h K A.up fun u hu => by rw [A.1] at hu; cases hu
  | d + 1, v, t, h, K, A => by
    rw [show d + 1 + k + 1 = (d + k + 1) + 1 by omega]
    exact valid_step 100000 (d + k + 1) d n L v t h K A fun u _ v h K A => valid_of k n L d v u h K A
theorem hgt_at {L : List (Nat × AObj)} : ∀ {d : Nat} {v : Value} {t : RT}, At L d v t → hgt t ≤ d
  | 0, v, t, A => by rw [hgt_eq, A.1]; exact Nat.le_refl 0
  | d + 1, v, t, ⟨_, _, _, h⟩ => by
    rw [hgt_eq]
    by_cases hl : t.l = []
    · rw [hl]; exact Nat.zero_le _
    · obtain ⟨_, _, _, cs, _, _, _, he⟩ := h hl
      have key : ∀ (l : List RT) (cs : List Value), Els (At L d) cs l → hgtL l ≤ d + 1 := fun l => by
        induction l with
        | nil => intro _ _; exact Nat.zero_le _
        | cons a l ih =>
          intro cs ⟨x, y, z, q, _, h1, h2⟩
          have h3 := hgt_at h1
          have h4 := ih q h2
          rw [hgtL]
          omega
      exact key _ _ he
theorem levels_of (k : Nat) (L : List (Nat × AObj)) : ∀ d m v t h, d < m → m ≤ 100 → few3 t = true → Hold h L → At L d v t → ∃ y h', Ev 100000 (d + k + 1) 18 [v, J m] h = some (y, h') ∧ y = J (hgt t) ∧ h.Ext h'
  | 0, m, v, t, h, hm, hm2, hf, K, A => by
    rw [show 0 + k + 1 = k + 1 by omega]
    have hh := hgt_at A
    exact levels_step 100000 k 0 m (by decide) L v t h K A.up (by omega) hm2 (by rw [A.1]; decide) (by omega) fun u hu => by rw [A.1] at hu; cases hu
  | d + 1, m, v, t, h, hm, hm2, hf, K, A => by
    rw [show d + 1 + k + 1 = (d + k + 1) + 1 by omega]
    have hh := hgt_at A
    rw [few3_eq, Bool.and_eq_true, decide_eq_true_eq] at hf
    refine levels_step 100000 (d + k + 1) d m (by decide) L v t h K A (by omega) hm2 (by omega) (by omega) fun u hu v h K A => levels_of k L d (m - 1) v u h (by omega) (by omega) ?_ K A
    have key : ∀ l : List RT, few3L l = true → u ∈ l → few3 u = true := fun l => by
      induction l with
      | nil => intro _ h; cases h
      | cons a l ih =>
        intro h hu
        rw [few3L, Bool.and_eq_true] at h
        rcases List.mem_cons.1 hu with rfl | hu
        · exact h.1
        · exact ih h.2 hu
    exact key _ hf.2 hu
theorem got_of (k : Nat) (L : List (Nat × AObj)) : ∀ d v t h, d ≤ 90 → Hold h L → Sees L d v t → ∃ y h' L', Ev 100000 (d + k + 1) 16 [v, J d] h = some (y, h') ∧ Sto h h' L' ∧ At L' d y t
  | 0, v, t, h, hd, K, A => by
    rw [show 0 + k + 1 = k + 1 by omega]
    exact got_zero k L v t h A
  | d + 1, v, t, h, hd, K, A => by
    rw [show d + 1 + k + 1 = (d + k + 1) + 1 by omega]
    exact got_step 100000 (d + k + 1) d (d + 1) (by decide) rfl (by omega) L v t h K A fun u _ v h K A => got_of k L d v u h (by omega) K A
theorem cut_of (k : Nat) (L : List (Nat × AObj)) : ∀ d v t h, d ≤ 90 → Hold h L → Sees L d v t → ∃ y h' L', Ev 100000 (d + k + 1) 20 [v, J d] h = some (y, h') ∧ Sto h h' L' ∧ At L' d y t
  | 0, v, t, h, hd, K, A => by
    rw [show 0 + k + 1 = k + 1 by omega]
    exact cut_zero k L v t h A
  | d + 1, v, t, h, hd, K, A => by
    rw [show d + 1 + k + 1 = (d + k + 1) + 1 by omega]
    exact cut_step 100000 (d + k + 1) d (d + 1) (by decide) rfl (by omega) L v t h K A fun u _ v h K A => cut_of k L d v u h (by omega) K A
theorem give_of (k : Nat) (L : List (Nat × AObj)) : ∀ d v t h, few3 t = true → Hold h L → At L d v t → ∃ y h' L', Ev 100000 (d + k + 1) 19 [v] h = some (y, h') ∧ Sto h h' L' ∧ At L' d y t
  | 0, v, t, h, hf, K, A => by
    rw [show 0 + k + 1 = k + 1 by omega]
    obtain ⟨y, h', L', e, W, A'⟩ := give_step 100000 k 0 (by decide) L v t h K A.up (by rw [A.1]; decide) fun u hu => by rw [A.1] at hu; cases hu
    exact ⟨y, h', L', e, W, A'.down A.1⟩
  | d + 1, v, t, h, hf, K, A => by
    rw [show d + 1 + k + 1 = (d + k + 1) + 1 by omega]
    rw [few3_eq, Bool.and_eq_true, decide_eq_true_eq] at hf
    have key : ∀ (l : List RT) (u : RT), few3L l = true → u ∈ l → few3 u = true := fun l => by
      induction l with
      | nil => intro _ _ h; cases h
      | cons a l ih =>
        intro u h hu
        rw [few3L, Bool.and_eq_true] at h
        rcases List.mem_cons.1 hu with rfl | hu
        · exact h.1
        · exact ih u h.2 hu
    exact give_step 100000 (d + k + 1) d (by decide) L v t h K A (by omega) fun u hu v h K A => give_of k L d v u h (key _ u hf.2 hu) K A
theorem rdepth_of (m : Nat) : ∀ k g a c h, k ≤ 5 → Rds h (.slice a (2 ^ k) c) (cellsF (2 ^ k) fun x => .bool (g x)) → ∃ y h', Ev 100000 (k + m + 1) 14 [.slice a (2 ^ k) c] h = some (y, h') ∧ y = J (DR k g) ∧ h.Ext h'
  | 0, g, a, c, h, hk, R => by
    rw [show 0 + m + 1 = m + 1 by omega]
    exact rdepth_step m 0 hk g a c h R fun j hj => by omega
  | k + 1, g, a, c, h, hk, R => by
    rw [show k + 1 + m + 1 = (k + m + 1) + 1 by omega]
    exact rdepth_step (k + m + 1) (k + 1) hk g a c h R fun j hj g a c h R => by
      obtain rfl : k = j := by omega
      exact rdepth_of m k g a c h (by omega) R
theorem zrs_less {n m i : Nat} (hn : n ≤ 5) (hm : m < 2 ^ n) (hi : i < n) (hz : m &&& 2 ^ i = 0) : (zrs n (m ||| 2 ^ i)).length + 1 = (zrs n m).length := by
  have hmem : i ∈ zrs n m := List.mem_filter.2 ⟨List.mem_range.2 hi, by rw [hz]; rfl⟩
  obtain ⟨b, hb, e⟩ := List.getElem_of_mem hmem
  have h := zrs_erase n (by omega) m hm b hb
  rw [show (zrs n m).getD b 0 = i by rw [List.getD_eq_getElem?_getD, List.getElem?_eq_getElem hb, e]; rfl] at h
  rw [h, List.length_eraseIdx_of_lt hb]
  omega
theorem grow_all (f : Nat → Bool) (n : Nat) (hn : n ≤ 5) (hb : Hp) (b0 c bd mid bD bG : Nat) (A : ArB b0 (2 ^ n) f hb) (k : Nat) : ∀ d m v, m < 2 ^ n → v < 2 ^ n → (zrs n m).length ≤ d → Grow f n 100000 (3 * d + k + 103) hb b0 c bd mid bD bG (d + 1) m v
  | d, m, v, hm, hv, hz => by
    have hp32 : 2 ^ n ≤ 32 := Nat.pow_le_pow_right (n := 2) (by decide) hn
    have hi2 : ∀ i, i < n → 2 ^ i < 2 ^ n := fun i hi => Nat.pow_lt_pow_right (by decide) hi
    rw [show 3 * d + k + 103 = (3 * d + k + 100) + 3 by omega]
    refine grow_step f n hn (3 * d + k + 100) hb b0 c bd mid bD bG d m v hm hv A (fun h A D => const_of f (2 ^ n) (by omega) 100000 (3 * d + k + 101) (by decide) b0 c bd m v hv (by omega) h A D)
      (fun i s h hi => with_of 100000 (3 * d + k + 99) m v (2 ^ i) s (by omega) (by omega) (by have := hi2 i hi; omega) h) (fun m v hm hv => ?_) fun i w hi hz' hw => ?_
    · have e := least_all f n hn 100000 bd b0 c mid (by decide) 32 (3 * d + k + 3) m v hm hv (by omega)
      rwa [show 3 * 32 + (3 * d + k + 3) + 1 = 3 * d + k + 100 by omega] at e
    · have h1 := zrs_less hn hm hi hz'
      have h2 : m ||| 2 ^ i < 2 ^ n := or_small hm (hi2 i hi)
      have h3 : w < 2 ^ n := by
        rcases hw with rfl | rfl
        · exact hv
        · exact or_small hv (hi2 i hi)
      cases d with
      | zero => omega
      | succ d =>
        have e := grow_all f n hn hb b0 c bd mid bD bG A k d (m ||| 2 ^ i) w h2 h3 (by omega)
        rwa [show 3 * (d + 1) + k + 100 = 3 * d + k + 103 by omega]
end Go.Proofs.Ytnfboopfpkaeaaa
/- DecS: contracts of functions. -/
namespace Go.Proofs.Ytnfboopfpkaeaaa
open Go Go.Eng Nim
set_option maxRecDepth 100000
set_option maxHeartbeats 4000000
theorem perm5 {α : Type} {a b c d e : α} : [a, b, c, d, e].Perm [e, d, c, a, b] := by
  have h1 : ([a, b] ++ [c, d, e]).Perm ([c, d, e] ++ [a, b]) := List.perm_append_comm
  exact h1.trans (show ([c, d, e] ++ [a, b]).Perm ([e, d, c] ++ [a, b]) from List.Perm.append_right [a, b] (List.reverse_perm [c, d, e]).symm)
theorem tree_of (f : Nat → Bool) (n F : Nat) (hb h : Hp) (b0 c bd mid d : Nat)
    (l : List (Nat × AObj)) (gr : ∀ bD bG, Grow f n 100000 F hb b0 c bd mid bD bG d 0 0) (W : Sto hb h ([(bd, .cells [.slice (some ⟨b0, 0, none⟩) (2 ^ n) c, .map (some mid)] 83 false), (mid, .map [] 0)] ++ l)) :
    ∃ y h' L, Ev 100000 (F + 1) 53 [ptr bd 0] h = some (y, h') ∧ Sto hb h' (L ++ l) ∧ At L d y (trF f n d 0 0) := by
  have main : ∃ y h', Ev 100000 (F + 1) 53 [ptr bd 0] h = some (y, h') ∧ ∃ L, Sto hb h' (L ++ l) ∧ At L d y (trF f n d 0 0) := by
    refine fnS_ok (Q := fun y h' => ∃ L, Sto hb h' (L ++ l) ∧ At L d y (trF f n d 0 0)) ?_
    refine ow_new 0 W (AObj.cells [Value.pointer (some { block := bd, off := 0 })] 80 false) (fun q => Value.pointer (some { block := q, off := 0 })) (by kernel_rfl) fun g1 ng1 Wg1 => ?_
    have W := Wg1
    refine ow_new 0 W (AObj.cells [Value.int IntKind.i64 (Int.ofNat 0), Value.bool false, Value.slice none 0 0] 35 false) (fun q => Value.pointer (some { block := q, off := 0 })) (by kernel_rfl) fun g2 ng2 Wg2 => ?_
    have W := Wg2
    refine ow_new 0 W (AObj.cells [Value.nilFunc] 117 false) (fun q => Value.pointer (some { block := q, off := 0 })) (by kernel_rfl) fun g3 ng3 Wg3 => ?_
    have W := Wg3
    refine ow_store (P := Try.prog) (T := 117) (off := 0) (v := Value.func (Fn.func 85) { toList := [] } { toList := [Value.pointer (some { block := Hp.next h, off := 0 }), Value.pointer (some { block := Hp.next g2, off := 0 })] }) 1 0 W rfl (Nat.le_of_ble_eq_true (by kernel_rfl)) (by kernel_rfl) (by first | rfl | assumption) (by kernel_rfl) fun g4 ng4 Wg4 => ?_
    have W := Wg4
    refine ow_load (P := Try.prog) (T := 117) (off := 0) 0 0 W rfl rfl (by kernel_rfl) (by kernel_rfl) ?_
    refine ok_go 1 ?_
    have W : Sto hb g4 ([(g2.next, .cells [.func (.func 85) #[] #[ptr h.next 0, ptr g2.next 0]] 117 false), (g1.next, .cells [I 0, .bool false, .slice none 0 0] 35 false), (h.next, .cells [ptr bd 0] 80 false), (bd, .cells [.slice (some ⟨b0, 0, none⟩) (2 ^ n) c, .map (some mid)] 83 false), (mid, .map [] 0)] ++ l) := W
    have W : Sto hb g4 (fxL (2 ^ n) b0 c bd mid h.next g2.next [] 0 ++ ([(g1.next, .cells [I 0, .bool false, .slice none 0 0] 35 false)] ++ l)) := W.perm (List.Perm.append_right l perm5)
    obtain ⟨y, g5, es, cl, L, ec, _, W', A⟩ := gr h.next g2.next g4 [] 0 _ (fun e he => by cases he) W
    have W : Sto hb g5 ([(g1.next, .cells [I 0, .bool false, .slice none 0 0] 35 false)] ++ (fxL (2 ^ n) b0 c bd mid h.next g2.next es cl ++ (L ++ l))) := W'.perm perm_dn
    obtain ⟨a1, c1, rfl⟩ := A.shape
    refine sy_call 0 (by kernel_rfl) ec ?_
    refine ow_storeA (P := Try.prog) (T := 35) (v := Value.agg { toList := [Value.int IntKind.i64 (RT.b (trF f n d 0 0)), Value.bool (RT.w (trF f n d 0 0)), Value.slice a1 (List.length (RT.l (trF f n d 0 0))) c1] }) 0 0 W ([Value.int IntKind.i64 (RT.b (trF f n d 0 0)), Value.bool (RT.w (trF f n d 0 0)), Value.slice a1 (List.length (RT.l (trF f n d 0 0))) c1]) rfl rfl rfl (by kernel_rfl) (by first | rfl | (repeat' (first | exact rfl | assumption | apply sc_cons))) (by kernel_rfl) fun g6 ng6 Wg6 => ?_
    have W := Wg6
    refine ow_loadA (P := Try.prog) (T := 35) (z := 3) 0 0 W rfl (by kernel_rfl) (by kernel_rfl) rfl (by kernel_rfl) ?_
    exact sy_done 0 (v := .agg #[I (trF f n d 0 0).b, .bool (trF f n d 0 0).w, .slice a1 (trF f n d 0 0).l.length c1]) (h := g6) (by kernel_rfl) ⟨L, W.drop 5, A⟩
  obtain ⟨y, h', e, L, W, A⟩ := main
  exact ⟨y, h', L, e, W, A⟩
theorem decide_of (f : Nat → Bool) (n F : Nat) (h : Hp) (b0 c d : Nat)
    (fe : ∀ h, Ev 100000 (F + 1) 51 [.slice (some ⟨b0, 0, none⟩) (2 ^ n) c, J 5] h = some (J 0, h)) (gr : ∀ bd mid bD bG, Grow f n 100000 F h b0 c bd mid bD bG d 0 0) :
    ∃ y h' L, Ev 100000 (F + 2) 13 [.slice (some ⟨b0, 0, none⟩) (2 ^ n) c] h = some (.tuple #[y, J 0], h') ∧ Sto h h' L ∧ At L d y (trF f n d 0 0) := by
  have main : ∃ z h', Ev 100000 (F + 2) 13 [.slice (some ⟨b0, 0, none⟩) (2 ^ n) c] h = some (z, h') ∧ ∃ y L, z = .tuple #[y, J 0] ∧ Sto h h' L ∧ At L d y (trF f n d 0 0) := by
    refine fnS_ok (Q := fun z h' => ∃ y L, z = .tuple #[y, J 0] ∧ Sto h h' L ∧ At L d y (trF f n d 0 0)) ?_
    have W := Sto.start h
    refine ow_new 0 W (AObj.cells [Value.int IntKind.i64 (Int.ofNat 0), Value.bool false, Value.slice none 0 0] 35 false) (fun q => Value.pointer (some { block := q, off := 0 })) (by kernel_rfl) fun g1 ng1 Wg1 => ?_
    have W := Wg1
    refine sy_call 0 (by kernel_rfl) (fe g1) ?_
    refine ow_new 2 W (AObj.map [] 0) (fun q => Value.map (some q)) (by kernel_rfl) fun g2 ng2 Wg2 => ?_
    have W := Wg2
    refine ow_new 1 W (AObj.cells [Value.slice (some { block := b0, off := 0 }) (2 ^ n) c, Value.map (some (Hp.next g1))] 83 false) (fun q => Value.pointer (some { block := q, off := 0 })) (by kernel_rfl) fun g3 ng3 Wg3 => ?_
    have W := Wg3
    obtain ⟨y, g4, L, ec, W', A⟩ := tree_of f n F h g3 b0 c g2.next g1.next d [(h.next, .cells [I 0, .bool false, .slice none 0 0] 35 false)] (gr g2.next g1.next) W
    have W : Sto h g4 ((h.next, .cells [I 0, .bool false, .slice none 0 0] 35 false) :: L) := W'.perm List.perm_append_comm
    obtain ⟨a1, c1, rfl⟩ := A.shape
    refine sy_call 0 (by kernel_rfl) ec ?_
    refine ow_storeA (P := Try.prog) (T := 35) (v := Value.agg { toList := [Value.int IntKind.i64 (RT.b (trF f n d 0 0)), Value.bool (RT.w (trF f n d 0 0)), Value.slice a1 (List.length (RT.l (trF f n d 0 0))) c1] }) 0 0 W ([Value.int IntKind.i64 (RT.b (trF f n d 0 0)), Value.bool (RT.w (trF f n d 0 0)), Value.slice a1 (List.length (RT.l (trF f n d 0 0))) c1]) rfl rfl rfl (by kernel_rfl) (by first | rfl | (repeat' (first | exact rfl | assumption | apply sc_cons))) (by kernel_rfl) fun g5 ng5 Wg5 => ?_
    have W := Wg5
    refine ow_loadA (P := Try.prog) (T := 35) (z := 3) 0 0 W rfl (by kernel_rfl) (by kernel_rfl) rfl (by kernel_rfl) ?_
    exact sy_done 0 (v := .tuple #[.agg #[I (trF f n d 0 0).b, .bool (trF f n d 0 0).w, .slice a1 (trF f n d 0 0).l.length c1], J 0]) (h := g5) (by kernel_rfl) ⟨_, L, rfl, W.drop 1, A⟩
  obtain ⟨z, h', e, y, L, rfl, W, A⟩ := main
  exact ⟨y, h', L, e, W, A⟩
end Go.Proofs.Ytnfboopfpkaeaaa
/- DecT: contracts of functions. -/
namespace Go.Proofs.Ytnfboopfpkaeaaa
open Go Go.Eng Nim
set_option maxRecDepth 100000
set_option maxHeartbeats 4000000
theorem mnl_some (n m : Nat) (D : Nat → Nat) : ∀ k, mnl n m D k < 6 → ∃ i, i < k ∧ m &&& 2 ^ i = 0 ∧ D i = mnl n m D k
  | 0, h => absurd h (by show ¬ 6 < 6; omega)
  | k + 1, h => by
    rw [mnl] at h ⊢
    split at h
    · rename_i hz
      rw [if_pos hz]
      by_cases hd : D k ≤ mnl n m D k
      · exact ⟨k, Nat.lt_succ_self k, eq_of_beq hz, (Nat.min_eq_right hd).symm⟩
      · rw [Nat.min_eq_left (by omega)] at h ⊢
        obtain ⟨i, h1, h2, h3⟩ := mnl_some n m D k h
        exact ⟨i, by omega, h2, h3⟩
    · rename_i hz
      rw [if_neg hz]
      obtain ⟨i, h1, h2, h3⟩ := mnl_some n m D k h
      exact ⟨i, by omega, h2, h3⟩
/-- What the program's tree is. -/
structure TrOk (f : Nat → Bool) (n d m v : Nat) (t : RT) : Prop where
  vd : vld n t = true
  f3 : few3 t = true
  h : hgt t = Lf f n m v
  s : nds t + 1 ≤ 2 ^ (d + 2)
  a : ∀ x, x < 2 ^ n → x &&& m = v → atT (d + 1) t x = f x
theorem tr_ok (f : Nat → Bool) (n : Nat) (hn : n ≤ 5) : ∀ d m v, m < 2 ^ n → v < 2 ^ n → v &&& m = v → (zrs n m).length ≤ d → TrOk f n d m v (trF f n (d + 1) m v) := by
  intro d
  induction d with
  | zero =>
    intro m v hm hv hin hl
    have hs := Lf_small f n m v hn hm hv hin
    have hc : al (cq f m v) (2 ^ n) = true := by
      cases hc : al (cq f m v) (2 ^ n) with
      | true => rfl
      | false =>
        have e := Lf_eq f n m v hm
        rw [hc, if_neg (by decide)] at e
        obtain ⟨i, h1, h2, h3⟩ := mnl_some n m (fun i => 1 + max (Lf f n (m ||| 2 ^ i) v) (Lf f n (m ||| 2 ^ i) (v ||| 2 ^ i))) n (by omega)
        have : i ∈ zrs n m := List.mem_filter.2 ⟨List.mem_range.2 h1, by rw [h2]; rfl⟩
        rw [List.eq_nil_of_length_eq_zero (Nat.le_zero.1 hl)] at this
        cases this
    rw [trF, if_pos hc]
    refine ⟨rfl, rfl, ?_, show 1 + 0 + 1 ≤ 4 by decide, fun x hx he => ?_⟩
    · rw [Lf_eq f n m v hm, if_pos hc]; rfl
    · have := al_iff.1 hc x hx
      unfold cq at this
      rw [he, bne_self_eq_false, Bool.false_or] at this
      exact (eq_of_beq this).symm
  | succ d ih =>
    intro m v hm hv hin hl
    have hs := Lf_small f n m v hn hm hv hin
    have hi2 : ∀ i, i < n → 2 ^ i < 2 ^ n := fun i hi => Nat.pow_lt_pow_right (by decide) hi
    have hzn : (zrs n m).length ≤ n := by
      have := List.length_filter_le (fun i => m &&& 2 ^ i == 0) (List.range n)
      rw [List.length_range] at this
      exact this
    have hp1 : 4 ≤ 2 ^ (d + 1 + 2) := Nat.pow_le_pow_right (n := 2) (by decide) (show 2 ≤ d + 1 + 2 by omega)
    cases hc : al (cq f m v) (2 ^ n) with
    | true =>
      rw [trF, if_pos hc]
      refine ⟨rfl, rfl, ?_, by show 1 + 0 + 1 ≤ _; omega, fun x hx he => ?_⟩
      · rw [Lf_eq f n m v hm, if_pos hc]; rfl
      · have := al_iff.1 hc x hx
        unfold cq at this
        rw [he, bne_self_eq_false, Bool.false_or] at this
        exact (eq_of_beq this).symm
    | false =>
      have e := Lf_eq f n m v hm
      rw [hc, if_neg (by decide)] at e
      rw [trF, hc, if_neg (by decide)]
      cases hf : (List.range n).find? (cho f n m v) with
      | none =>
        obtain ⟨i, h1, h2, h3⟩ := mnl_some n m (fun i => 1 + max (Lf f n (m ||| 2 ^ i) v) (Lf f n (m ||| 2 ^ i) (v ||| 2 ^ i))) n (by omega)
        have := List.find?_eq_none.1 hf i (List.mem_range.2 h1)
        refine absurd ?_ this
        rw [cho, h2, e, ← h3]
        simp
      | some i =>
        have hi := List.mem_range.1 (List.mem_of_find?_eq_some hf)
        have hch := List.find?_some hf
        rw [cho, Bool.and_eq_true, beq_iff_eq, beq_iff_eq] at hch
        obtain ⟨hz, hL⟩ := hch
        have hless := zrs_less hn hm hi hz
        have h1 : m ||| 2 ^ i < 2 ^ n := or_small hm (hi2 i hi)
        have h2 : v ||| 2 ^ i < 2 ^ n := or_small hv (hi2 i hi)
        have A := ih (m ||| 2 ^ i) v h1 hv (and_or_out hin) (by omega)
        have B := ih (m ||| 2 ^ i) (v ||| 2 ^ i) h1 h2 (and_or_in hin) (by omega)
        have hpw : 2 ^ (d + 1 + 2) = 2 ^ (d + 2) + 2 ^ (d + 2) := by rw [show d + 1 + 2 = (d + 2) + 1 by omega, Nat.pow_succ]; omega
        refine ⟨?_, ?_, ?_, ?_, fun x hx he => ?_⟩
        · rw [vld_eq]
          have hlt : decide (Int.ofNat i < Int.ofNat n) = true := decide_eq_true (by show (i : Int) < (n : Int); omega)
          have hge : decide (Int.ofNat i ≥ 0) = true := decide_eq_true (by show (0 : Int) ≤ (i : Int); omega)
          show (if (2 : Nat) = 0 then _ else (decide ((2 : Nat) = 2) && !false && decide (Int.ofNat i ≥ 0) && decide (Int.ofNat i < Int.ofNat n) && (vld n _ && (vld n _ && true)))) = true
          rw [if_neg (by decide), hlt, hge, A.vd, B.vd]
          rfl
        · rw [few3_eq]
          show (decide ((2 : Nat) ≤ 3) && (few3 _ && (few3 _ && true))) = true
          rw [A.f3, B.f3]
          rfl
        · rw [hgt_eq]
          show max (1 + hgt _) (max (1 + hgt _) 0) = _
          rw [A.h, B.h, ← hL]
          omega
        · rw [nds_eq]
          show 1 + (nds _ + (nds _ + 0)) + 1 ≤ _
          have a1 := A.s
          have b1 := B.s
          omega
        · have hd : x &&& (m ||| 2 ^ i) = v ||| (x &&& 2 ^ i) := by rw [Nat.and_or_distrib_left, he]
          have hx2 : x &&& 2 ^ i = if x.testBit i = true then 2 ^ i else 0 := by
            apply Nat.eq_of_testBit_eq
            intro j
            rw [Nat.testBit_and, Nat.testBit_two_pow]
            by_cases hj : i = j
            · subst hj
              cases hb : x.testBit i <;> simp
            · rw [decide_eq_false hj, Bool.and_false]
              split
              · rw [Nat.testBit_two_pow, decide_eq_false hj]
              · simp
          rw [hx2] at hd
          rw [atT]
          show (match [trF f n (d + 1) (m ||| 2 ^ i) v, trF f n (d + 1) (m ||| 2 ^ i) (v ||| 2 ^ i)][x / 2 ^ i % 2]? with
            | some u => atT (d + 1) u x
            | none => false) = f x
          cases hb : x.testBit i with
          | true =>
            have h2 : x / 2 ^ i % 2 = 1 := by
              rw [Nat.testBit_eq_decide_div_mod_eq] at hb
              exact of_decide_eq_true hb
            rw [h2]
            rw [hb] at hd
            show atT (d + 1) (trF f n (d + 1) (m ||| 2 ^ i) (v ||| 2 ^ i)) x = f x
            exact B.a x hx (by rw [hd]; simp)
          | false =>
            have h2 : x / 2 ^ i % 2 = 0 := by
              rw [Nat.testBit_eq_decide_div_mod_eq] at hb
              have := of_decide_eq_false hb
              omega
            rw [h2]
            rw [hb] at hd
            show atT (d + 1) (trF f n (d + 1) (m ||| 2 ^ i) v) x = f x
            exact A.a x hx (by rw [hd]; simp)
end Go.Proofs.Ytnfboopfpkaeaaa
/- DecU: contracts of functions. -/
namespace Go.Proofs.Ytnfboopfpkaeaaa
open Go Go.Eng Nim
set_option maxRecDepth 100000
set_option maxHeartbeats 4000000
/-- What the law of deciding calls. -/
structure UpD (m : Nat) : Prop where
  U : UpH 100000 m
  de : ∀ f n b c h, n ≤ 5 → ArB b (2 ^ n) f h → ∃ y h' L, Ev 100000 m 13 [.slice (some ⟨b, 0, none⟩) (2 ^ n) c] h = some (.tuple #[y, J 0], h') ∧ Sto h h' L ∧ At L (n + 1) y (trF f n (n + 1) 0 0)
  rd : ∀ f n b c h, n ≤ 5 → ArB b (2 ^ n) f h → ∃ y h', Ev 100000 m 14 [.slice (some ⟨b, 0, none⟩) (2 ^ n) c] h = some (y, h') ∧ y = J (DR n f) ∧ h.Ext h'
  fi : ∀ f n b c L d v t h, n ≤ 5 → d ≤ 8 → nds t ≤ 1000 → Hold h L → At L d v t → ArB b (2 ^ n) f h → ∃ y h', Ev 100000 m 15 [.slice (some ⟨b, 0, none⟩) (2 ^ n) c, v] h = some (y, h') ∧ y = .bool (fnd f n d t) ∧ h.Ext h'
  rf : ∀ f n b c L d v t h, n ≤ 5 → d ≤ 8 → Hold h L → At L d v t → ArB b (2 ^ n) f h → ∃ y h', Ev 100000 m 17 [.slice (some ⟨b, 0, none⟩) (2 ^ n) c, v] h = some (y, h') ∧ y = .bool (fnd f n d t) ∧ h.Ext h'
  go : ∀ L v t h, Hold h L → Sees L 8 v t → ∃ y h' L', Ev 100000 m 16 [v, J 8] h = some (y, h') ∧ Sto h h' L' ∧ At L' 8 y t
  cu : ∀ L v t h, Hold h L → Sees L 4 v t → ∃ y h' L', Ev 100000 m 20 [v, J 4] h = some (y, h') ∧ Sto h h' L' ∧ At L' 4 y t
  gi : ∀ L v t h, few3 t = true → Hold h L → At L 8 v t → ∃ y h' L', Ev 100000 m 19 [v] h = some (y, h') ∧ Sto h h' L' ∧ At L' 8 y t
  le : ∀ L v t h, few3 t = true → Hold h L → At L 7 v t → ∃ y h', Ev 100000 m 18 [v, J 8] h = some (y, h') ∧ y = J (hgt t) ∧ h.Ext h'
theorem upD (k : Nat) : UpD (k + 300) where
  U := upH (k + 140)
  de := fun f n b c h hn A => by
    have hp32 : 2 ^ n ≤ 32 := Nat.pow_le_pow_right (n := 2) (by decide) hn
    have hp0 := Nat.two_pow_pos n
    have hz : (zrs n 0).length ≤ n := by
      have := List.length_filter_le (fun i => 0 &&& 2 ^ i == 0) (List.range n)
      rw [List.length_range] at this
      exact this
    exact decide_of f n (k + 298) h b c (n + 1) (fun h => few_of n hn 100000 (k + 298) (some ⟨b, 0, none⟩) c h (check_of n (some ⟨b, 0, none⟩) c 100000 (k + 297) h fun h => size_of n (by omega) (k + 287) h))
      fun bd mid bD bG => by
        have e := grow_all f n hn h b c bd mid bD bG A (k + 195 - 3 * n) n 0 0 hp0 hp0 hz
        rwa [show 3 * n + (k + 195 - 3 * n) + 103 = k + 298 by omega] at e
  rd := fun f n b c h hn A => by
    have e := rdepth_of (k + 299 - n) n f (some ⟨b, 0, none⟩) c h hn (by
      have := A.rds c
      exact this)
    rwa [show n + (k + 299 - n) + 1 = k + 300 by omega] at e
  fi := fun f n b c L d v t h hn hd hs K A B =>
    finds_of f n (by omega) (k + 299) b c L d (by omega) v t hs h K A B (fun a c h => check_of n a c 100000 (k + 298) h fun h => size_of n (by omega) (k + 288) h) (fun h => size_of n (by omega) (k + 289) h)
      (fun h K => by
        have e := size_of' (k + 298 - d) L d 100 v t h (by omega) (by decide) K A hs
        rwa [show d + (k + 298 - d) + 1 = k + 299 by omega] at e)
      (fun h K => by
        have e := isTree_of (k + 298 - d) n L d v t h K A
        rwa [show d + (k + 298 - d) + 1 = k + 299 by omega] at e)
      fun hv x h hx K => at_of 100000 (k + 298) n x (by decide) (by omega) hx L d (by omega) v t h K A hv
  rf := fun f n b c L d v t h hn hd K A B =>
    rfinds_of f n (by omega) (k + 299) b c L d (by omega) v t h K A B (fun a c h => rck_of n 100000 (k + 298) (fun h => rbits_of n (by omega) (k + 278) h) a c h) (fun h => rbits_of n (by omega) (k + 279) h)
      fun h K => by
        have e := valid_of (k + 298 - d) n L d v t h K A
        rwa [show d + (k + 298 - d) + 1 = k + 299 by omega] at e
  go := fun L v t h K A => by
    have e := got_of (k + 291) L 8 v t h (by decide) K A
    rwa [show 8 + (k + 291) + 1 = k + 300 by omega] at e
  cu := fun L v t h K A => by
    have e := cut_of (k + 295) L 4 v t h (by decide) K A
    rwa [show 4 + (k + 295) + 1 = k + 300 by omega] at e
  gi := fun L v t h hf K A => by
    have e := give_of (k + 291) L 8 v t h hf K A
    rwa [show 8 + (k + 291) + 1 = k + 300 by omega] at e
  le := fun L v t h hf K A => by
    have e := levels_of (k + 292) L 7 8 v t h (by decide) (by decide) hf K A
    rwa [show 7 + (k + 292) + 1 = k + 300 by omega] at e
end Go.Proofs.Ytnfboopfpkaeaaa
/- DecV: contracts of functions. -/
namespace Go.Proofs.Ytnfboopfpkaeaaa
open Go Go.Eng Nim
set_option maxRecDepth 100000
set_option maxHeartbeats 4000000
theorem nds_sees {L : List (Nat × AObj)} : ∀ {d : Nat} {v : Value} {t : RT}, Sees L d v t → nds t ≤ 4 ^ d ∧ few3 t = true
  | 0, v, t, ⟨h, _⟩ => by rw [nds_eq, few3_eq, h]; exact ⟨Nat.le_refl 1, rfl⟩
  | d + 1, v, t, ⟨a, n, c, _, hl, h⟩ => by
    have key : ∀ (l : List RT) (cs : List Value), Els (Sees L d) cs l → ndsL l ≤ l.length * 4 ^ d ∧ few3L l = true := fun l => by
      induction l with
      | nil => intro _ _; exact ⟨Nat.le_of_eq (Nat.zero_mul _).symm, rfl⟩
      | cons u l ih =>
        intro cs ⟨x, y, z, q, _, h1, h2⟩
        have h3 := nds_sees h1
        have h4 := ih q h2
        refine ⟨?_, by rw [few3L, h3.2, h4.2]; rfl⟩
        rw [ndsL, List.length_cons, Nat.add_mul, Nat.one_mul]
        omega
    have hk : ndsL t.l ≤ t.l.length * 4 ^ d ∧ few3L t.l = true := by
      by_cases hn : t.l = []
      · rw [hn]; exact ⟨Nat.zero_le _, rfl⟩
      · obtain ⟨i, off, o, cs, _, _, _, he⟩ := h hn
        exact key _ _ he
    rw [nds_eq, few3_eq, hk.2]
    have h3 : t.l.length ≤ 3 := by omega
    have h5 : t.l.length * 4 ^ d ≤ 3 * 4 ^ d := Nat.mul_le_mul_right _ h3
    have h6 : 0 < 4 ^ d := Nat.pow_pos (by decide)
    refine ⟨by rw [Nat.pow_succ]; omega, by rw [decide_eq_true h3]; rfl⟩
theorem few3_mem {t u : RT} (h : few3 t = true) (hu : u ∈ t.l) : few3 u = true := by
  rw [few3_eq, Bool.and_eq_true] at h
  have key : ∀ l : List RT, few3L l = true → u ∈ l → few3 u = true := fun l => by
    induction l with
    | nil => intro _ h; cases h
    | cons a l ih =>
      intro h hu
      rw [few3L, Bool.and_eq_true] at h
      rcases List.mem_cons.1 hu with rfl | hu
      · exact h.1
      · exact ih h.2 hu
  exact key _ h.2 hu
theorem At.re {L : List (Nat × AObj)} {d : Nat} {b : Int} {w : Bool} {a : Option Addr} {c : Nat} {t : RT} (A : At L (d + 1) (.agg #[I t.b, .bool t.w, .slice a t.l.length c]) t) : At L (d + 1) (.agg #[I b, .bool w, .slice a t.l.length c]) (.mk b w t.l) := by
  obtain ⟨a', c', e, h⟩ := A
  simp only [Value.agg.injEq, Array.mk.injEq, List.cons.injEq, Value.slice.injEq, and_true, true_and] at e
  obtain ⟨rfl, rfl⟩ := e
  exact ⟨a, c, rfl, h⟩
theorem hgtL_nil {l : List RT} (h : hgtL l = 0) : l = [] := by
  cases l with
  | nil => rfl
  | cons t r => rw [hgtL] at h; omega
theorem At.tight {L : List (Nat × AObj)} : ∀ {d' d : Nat} {v : Value} {t : RT}, At L d v t → hgt t ≤ d' → At L d' v t
  | 0, d, v, t, A, h => A.down (hgtL_nil (by rw [← hgt_eq]; omega))
  | d' + 1, 0, v, t, A, h => by
    have := A.le (d' + 1)
    rwa [Nat.zero_add] at this
  | d' + 1, d + 1, v, t, ⟨a, c, e, A⟩, h => ⟨a, c, e, fun hn => by
    obtain ⟨i, off, o, cs, e1, e2, e3, e4⟩ := A hn
    refine ⟨i, off, o, cs, e1, e2, e3, ?_⟩
    have key : ∀ (l : List RT) (cs : List Value), hgtL l ≤ d' + 1 → Els (At L d) cs l → Els (At L d') cs l := fun l => by
      induction l with
      | nil => intro _ _ h; exact h
      | cons u l ih =>
        intro cs hl ⟨x, y, z, q, e, h1, h2⟩
        rw [hgtL] at hl
        exact ⟨x, y, z, q, e, At.tight h1 (by omega), ih q (by omega) h2⟩
    exact key _ _ (by rw [← hgt_eq]; exact h) e4⟩
theorem ArB.sto {b N : Nat} {f : Nat → Bool} {h g : Hp} (A : ArB b N f g) (X : h.Ext g) (hb : h.next ≤ b) : ∃ o, Sto h g [(b, .cells (cellsF N fun x => Value.bool (f x)) 4 o)] := by
  obtain ⟨o, e⟩ := A.get
  refine ⟨o, X, fun p hp => ?_, by simp⟩
  rw [List.mem_singleton.1 hp]
  exact ⟨hb, A.lt, e⟩
theorem ArB.of {b N : Nat} {f : Nat → Bool} {h g : Hp} {l : List (Nat × AObj)} {o : Bool} (W : Sto h g l) (k : Nat) (hk : l[k]? = some (b, .cells (cellsF N fun x => Value.bool (f x)) 4 o)) : ArB b N f g := ⟨W.lt k hk, o, W.get k hk⟩
theorem zrs_none (n : Nat) : (zrs n 0).length = n := by
  unfold zrs
  rw [List.filter_eq_self.2 (fun i _ => by rw [Nat.zero_and]; rfl), List.length_range]
theorem emb_none : ∀ n, n < 6 → ∀ x, x < 2 ^ n → emb (zrs n 0) 0 x = x := by
  have h : (List.range 6).all (fun n => (List.range (2 ^ n)).all fun x => emb (zrs n 0) 0 x == x) = true := by kernel_rfl
  intro n hn x hx
  rw [List.all_eq_true] at h
  have h := h n (List.mem_range.2 hn)
  rw [List.all_eq_true] at h
  exact eq_of_beq (h x (List.mem_range.2 hx))
theorem ins_lt {b c y k : Nat} (hb : b < k + 1) (hc : c < 2) (hy : y < 2 ^ k) : ins b c y < 2 ^ (k + 1) := by
  unfold ins
  obtain ⟨d, rfl⟩ : ∃ d, k = b + d := ⟨k - b, by omega⟩
  rw [Nat.pow_add] at hy
  rw [Nat.pow_succ 2 b, show 2 ^ (b + d + 1) = 2 ^ b * (2 ^ d * 2) by rw [show b + d + 1 = b + (d + 1) by omega, Nat.pow_add, Nat.pow_succ]]
  have h1 : y / 2 ^ b < 2 ^ d := Nat.div_lt_of_lt_mul hy
  have h2 : y % 2 ^ b < 2 ^ b := Nat.mod_lt _ (Nat.two_pow_pos b)
  have h3 : y / 2 ^ b * (2 ^ b * 2) + c * 2 ^ b + y % 2 ^ b < (2 * (y / 2 ^ b) + c + 1) * 2 ^ b := by
    rw [Nat.add_mul, Nat.add_mul, Nat.one_mul, show y / 2 ^ b * (2 ^ b * 2) = 2 * (y / 2 ^ b) * 2 ^ b by rw [Nat.mul_comm (2 ^ b) 2, ← Nat.mul_assoc, Nat.mul_comm _ 2]]
    omega
  refine Nat.lt_of_lt_of_le h3 ?_
  rw [Nat.mul_comm (2 ^ b)]
  exact Nat.mul_le_mul_right _ (by omega)
theorem mn7_congr {D D' : Nat → Nat} : ∀ b, (∀ i, i < b → D i = D' i) → mn7 D b = mn7 D' b
  | 0, _ => rfl
  | b + 1, h => by rw [mn7, mn7, mn7_congr b fun i hi => h i (by omega), h b (Nat.lt_succ_self b)]
theorem DR_congr : ∀ k (g g' : Nat → Bool), (∀ x, x < 2 ^ k → g x = g' x) → DR k g = DR k g'
  | 0, _, _, _ => rfl
  | k + 1, g, g', h => by
    have h0 := h 0 (Nat.two_pow_pos _)
    have hc : al (fun x => g x == g 0) (2 ^ (k + 1)) = al (fun x => g' x == g' 0) (2 ^ (k + 1)) := by
      rw [Bool.eq_iff_iff, al_iff, al_iff]
      exact ⟨fun q x hx => by rw [← h x hx, ← h0]; exact q x hx, fun q x hx => by rw [h x hx, h0]; exact q x hx⟩
    rw [DR, DR, hc]
    split
    · rfl
    · refine mn7_congr (k + 1) fun b hb => ?_
      rw [DR_congr k (fun y => g (ins b 0 y)) (fun y => g' (ins b 0 y)) fun y hy => h _ (ins_lt hb (by decide) hy), DR_congr k (fun y => g (ins b 1 y)) (fun y => g' (ins b 1 y)) fun y hy => h _ (ins_lt hb (by decide) hy)]
theorem s3 (x a0 a1 a2 : Int) (m : Nat) (U : UpD m) (h : Hp) (L0 : List (Nat × AObj)) (v : Value) (tt : RT) (K0 : Hold h L0) (S0 : Sees L0 4 v tt) : ∃ H, Ev 100000 (m + 1) 3 [.int .u64 x, .agg #[I a0, I a1, I a2], v] h = some (.bool true, H) := by
  obtain ⟨n, hn, bt⟩ := U.U.U.b5 a0
  obtain ⟨ta, tn, tc, rfl⟩ := S0.shape
  have hp32 : 2 ^ n ≤ 32 := Nat.pow_le_pow_right (n := 2) (by decide) hn
  refine fn_val ?_
  have W := Sto.start h
  refine ow_new 0 W (AObj.cells [Value.int IntKind.i64 a0, Value.int IntKind.i64 a1, Value.int IntKind.i64 a2] 23 false) (fun q => Value.pointer (some { block := q, off := 0 })) (by kernel_rfl) fun g1 ng1 Wg1 => ?_
  have W := Wg1
  refine ow_new 0 W (AObj.cells [Value.int IntKind.i64 (RT.b tt), Value.bool (RT.w tt), Value.slice ta tn tc] 26 false) (fun q => Value.pointer (some { block := q, off := 0 })) (by kernel_rfl) fun g2 ng2 Wg2 => ?_
  have W := Wg2
  refine ow_load (P := Try.prog) (T := 3) (off := 0) 1 1 W rfl rfl (by kernel_rfl) (by kernel_rfl) ?_
  refine sy_call 0 (by kernel_rfl) (bt g2) ?_
  refine ow_load (P := Try.prog) (T := 3) (off := 1) 1 1 W rfl rfl (by kernel_rfl) (by kernel_rfl) ?_
  obtain ⟨_, g3, e1, b, f, rfl, hb, X1, A⟩ := U.U.U.tb x n a1 g2 (by omega)
  refine sy_call 0 (by kernel_rfl) e1 ?_
  obtain ⟨o, Vb⟩ := A.sto X1 hb
  have Wg3 := W.over Vb
  have W := Wg3
  refine sy_need 0 [3] [⟨some (Value.tuple { toList := [] }, g2), Value.tuple { toList := [] }, g2⟩] (by kernel_rfl) ⟨rfl, trivial⟩ ?_
  obtain ⟨_, g4, e2, rfl, X2⟩ := U.U.dep f n b (2 * 2 ^ n) g3 hn A
  refine sy_call 0 (by kernel_rfl) e2 ?_
  have W := W.call X2
  have A := ArB.of W 0 rfl
  refine ok_go 2 ?_
  obtain ⟨y, g5, L1, e3, V, A1⟩ := U.de f n b (2 * 2 ^ n) g4 hn A
  have tk := tr_ok f n hn n 0 0 (Nat.two_pow_pos n) (Nat.two_pow_pos n) rfl (by
    have := List.length_filter_le (fun i => 0 &&& 2 ^ i == 0) (List.range n)
    rw [List.length_range] at this
    exact this)
  have hDR : DR n f = Lf f n 0 0 := by
    rw [Lf_DR f n hn n 0 0 (Nat.two_pow_pos n) (Nat.two_pow_pos n) rfl (zrs_none n)]
    exact DR_congr n _ _ fun x hx => by rw [emb_none n (by omega) x hx]
  generalize trF f n (n + 1) 0 0 = T at A1 tk
  obtain ⟨c1, d1, rfl⟩ := A1.shape
  refine sy_call 0 (by kernel_rfl) e3 ?_
  have W := W.into (a := [_, _, _]) (b := []) V
  refine ow_new 2 W (AObj.cells [Value.int IntKind.i64 (Int.ofNat 0), Value.bool false, Value.slice none 0 0] 35 false) (fun q => Value.pointer (some { block := q, off := 0 })) (by kernel_rfl) fun g6 ng6 Wg6 => ?_
  have W := Wg6
  refine ow_storeA (P := Try.prog) (T := 35) (v := Value.agg { toList := [Value.int IntKind.i64 (RT.b T), Value.bool (RT.w T), Value.slice c1 (List.length (RT.l T)) d1] }) 0 0 W ([Value.int IntKind.i64 (RT.b T), Value.bool (RT.w T), Value.slice c1 (List.length (RT.l T)) d1]) rfl rfl rfl (by kernel_rfl) (by first | rfl | (repeat' (first | exact rfl | assumption | apply sc_cons))) (by kernel_rfl) fun g7 ng7 Wg7 => ?_
  have W := Wg7
  refine ok_go 8 ?_
  let tb : Nat × AObj := (b, .cells (cellsF (2 ^ n) fun x => Value.bool (f x)) 4 o)
  let e4 : Nat × AObj := (h.next, .cells [I a0, I a1, I a2] 23 false)
  let e5 : Nat × AObj := (g1.next, .cells [I tt.b, .bool tt.w, .slice ta tn tc] 26 false)
  have W : Sto h g7 ([(g5.next, .cells [I T.b, .bool T.w, .slice c1 T.l.length d1] 35 false), tb, e5, e4] ++ (L1 ++ [])) := W
  obtain ⟨_, g8, e6, rfl, X8⟩ := U.rd f n b (2 * 2 ^ n) g7 hn (ArB.of W 1 rfl)
  refine sy_call 0 (by kernel_rfl) e6 ?_
  have W := W.call X8
  refine ok_go 3 ?_
  refine sy_no 0 (b := Int.ofNat (Lf f n 0 0) != Int.ofNat (DR n f)) (by kernel_rfl) (by rw [hDR]; exact bne_self_eq_false _) ?_
  refine ow_loadA (P := Try.prog) (T := 35) (z := 3) 1 0 W rfl (by kernel_rfl) (by kernel_rfl) rfl (by kernel_rfl) ?_
  refine ok_go 1 ?_
  have hs : nds T ≤ 1000 := by
    have h1 := tk.s
    have h2 : 2 ^ (n + 2) ≤ 2 ^ 7 := Nat.pow_le_pow_right (by decide) (by omega)
    omega
  obtain ⟨_, g9, e7, rfl, X9⟩ := U.fi f n b (2 * 2 ^ n) L1 (n + 1) _ T g8 hn (by omega) hs (W.hold.sub fun p hp => List.mem_append_right _ (List.mem_append_left _ hp)) A1 (ArB.of W 1 rfl)
  refine sy_call 0 (by kernel_rfl) e7 ?_
  have W := W.call X9
  refine ok_go 3 ?_
  have hfnd : fnd f n (n + 1) T = true := by
    rw [fnd, tk.vd, Bool.true_and, al_iff]
    intro x hx
    rw [tk.a x hx (Nat.and_zero x)]
    exact beq_self_eq_true _
  refine sy_no 0 (b := !fnd f n (n + 1) T) (by kernel_rfl) (by rw [hfnd]; rfl) ?_
  refine ow_loadA (P := Try.prog) (T := 35) (z := 3) 0 0 W rfl (by kernel_rfl) (by kernel_rfl) rfl (by kernel_rfl) ?_
  have A8 : At L1 8 (.agg #[I T.b, .bool T.w, .slice c1 T.l.length d1]) T := by
    have := A1.le (7 - n)
    rwa [show n + 1 + (7 - n) = 8 by omega] at this
  obtain ⟨y, g10, L2, e8, V2, A2⟩ := U.go L1 _ T g9 (W.hold.sub fun p hp => List.mem_append_right _ (List.mem_append_left _ hp)) (A8.sees tk.f3)
  obtain ⟨c2, d2, rfl⟩ := A2.shape
  refine sy_call 0 (by kernel_rfl) e8 ?_
  have W := W.into (a := [_, _, _, _]) V2
  have hgT : hgt T ≤ n + 1 := hgt_at A1
  have A2 := A2.tight hgT
  refine ow_new 0 W (AObj.cells [Value.int IntKind.i64 (Int.ofNat 0), Value.bool false, Value.slice none 0 0] 26 false) (fun q => Value.pointer (some { block := q, off := 0 })) (by kernel_rfl) fun g11 ng11 Wg11 => ?_
  have W := Wg11
  refine ow_storeA (P := Try.prog) (T := 26) (v := Value.agg { toList := [Value.int IntKind.i64 (RT.b T), Value.bool (RT.w T), Value.slice c2 (List.length (RT.l T)) d2] }) 0 0 W ([Value.int IntKind.i64 (RT.b T), Value.bool (RT.w T), Value.slice c2 (List.length (RT.l T)) d2]) rfl rfl rfl (by kernel_rfl) (by first | rfl | (repeat' (first | exact rfl | assumption | apply sc_cons))) (by kernel_rfl) fun g12 ng12 Wg12 => ?_
  have W := Wg12
  refine ow_loadA (P := Try.prog) (T := 26) (z := 3) 0 0 W rfl (by kernel_rfl) (by kernel_rfl) rfl (by kernel_rfl) ?_
  let c5 : Nat × AObj := (g5.next, .cells [I T.b, .bool T.w, .slice c1 T.l.length d1] 35 false)
  have W : Sto h g12 ([(g10.next, .cells [I T.b, .bool T.w, .slice c2 T.l.length d2] 26 false), c5, tb, e5, e4] ++ (L2 ++ (L1 ++ []))) := W
  obtain ⟨_, g13, e9, rfl, X13⟩ := U.rf f n b (2 * 2 ^ n) L2 (n + 1) _ T g12 hn (by omega) (W.hold.sub fun p hp => List.mem_append_right _ (List.mem_append_left _ hp)) A2 (ArB.of W 2 rfl)
  refine sy_call 0 (by kernel_rfl) e9 ?_
  have W := W.call X13
  refine ok_go 1 ?_
  refine sy_no 0 (b := !fnd f n (n + 1) T) (by kernel_rfl) (by rw [hfnd]; rfl) ?_
  refine ow_loadA (P := Try.prog) (T := 26) (z := 3) 0 0 W rfl (by kernel_rfl) (by kernel_rfl) rfl (by kernel_rfl) ?_
  refine ok_go 1 ?_
  obtain ⟨_, g14, e10, rfl, X14⟩ := U.le L2 _ T g13 tk.f3 (W.hold.sub fun p hp => List.mem_append_right _ (List.mem_append_left _ hp)) (by
    have := A2.le (6 - n)
    rwa [show n + 1 + (6 - n) = 7 by omega] at this)
  refine sy_call 0 (by kernel_rfl) e10 ?_
  have W := W.call X14
  refine ok_go 4 ?_
  refine sy_no 0 (b := Int.ofNat (hgt T) != Int.ofNat (Lf f n 0 0)) (by kernel_rfl) (by rw [tk.h]; exact bne_self_eq_false _) ?_
  have A8 : At (L2 ++ (L1 ++ [])) 8 (.agg #[I T.b, .bool T.w, .slice c2 T.l.length d2]) T := by
    have := A2.le (7 - n)
    rw [show n + 1 + (7 - n) = 8 by omega] at this
    exact this.mono fun p hp => List.mem_append_left _ hp
  clear A2 hgT hfnd A1
  have hf3 := tk.f3
  clear tk
  generalize L2 ++ (L1 ++ []) = Lx at A8 W
  have hown : ∃ l, l = Lx := ⟨_, rfl⟩
  refine sy_loop 0 100000 g14 (α := Nat × RT × Option Addr × Nat × List (Nat × AObj)) (fun s => [(4, ptr h.next 0), (5, ptr g1.next 0), (7, .slice (some ⟨b, 0, none⟩) (2 ^ n) (2 * 2 ^ n)), (12, ptr g10.next 0), (13, J s.1)])
    (fun s g => s.1 ≤ 2 ∧ nds s.2.1 ≤ 1000 ∧ few3 s.2.1 = true ∧ At s.2.2.2.2 8 (.agg #[I s.2.1.b, .bool s.2.1.w, .slice s.2.2.1 s.2.1.l.length s.2.2.2.1]) s.2.1 ∧ Sto h g ([(g10.next, .cells [I s.2.1.b, .bool s.2.1.w, .slice s.2.2.1 s.2.1.l.length s.2.2.2.1] 26 false), c5, tb, e5, e4] ++ s.2.2.2.2)) (fun s _ => 2 - s.1) (0, T, c2, d2, Lx) (by kernel_rfl) (by kernel_rfl)
    ⟨by kernel_rfl, by kernel_rfl, by kernel_rfl, by kernel_rfl, by kernel_rfl, trivial⟩ (show 2 < 100000 by decide) ⟨Nat.zero_le _, hs, hf3, A8, W⟩ ?_
  rintro m1 ⟨k, R, a, c, Lr⟩ f1 g ⟨hk, hs, hf3, A, W⟩ ih
  dsimp only at hk hs hf3 A W
  refine ok_go 1 ?_
  refine sy_test 0 (decide (Int.ofNat k < Int.ofNat 2)) (by kernel_rfl) ?_ ?_
  rotate_left
  · intro hlt
    refine sy_call 0 (by kernel_rfl) (U.U.U.aw g) ?_
    exact sy_done 0 (v := .bool true) (h := g) (by kernel_rfl) rfl
  intro hlt
  have hlt := ok_nat hlt
  have hwk : IntKind.wrap .i64 (Int.ofNat (k + 1)) = Int.ofNat (k + 1) := wrap_nat (by omega)
  have hKr : ∀ {q : Hp}, Sto h q ([(g10.next, .cells [I R.b, .bool R.w, .slice a R.l.length c] 26 false), c5, tb, e5, e4] ++ Lr) → Hold q Lr := fun W => W.hold.sub fun p hp => List.mem_append_right _ hp
  refine ow_loadA (P := Try.prog) (T := 26) (z := 3) 0 0 W rfl (by kernel_rfl) (by kernel_rfl) rfl (by kernel_rfl) ?_
  obtain ⟨y, q1, L3, ec1, V3, A3⟩ := U.gi Lr _ R g hf3 (hKr W) A
  obtain ⟨a3, c3, rfl⟩ := A3.shape
  refine sy_call 0 (by kernel_rfl) ec1 ?_
  have Wg0 := W
  have Wq1 := W.into (a := [_, _, _, _, _]) V3
  have W := Wq1
  obtain ⟨_, q2, ec2, rfl, X2⟩ := U.fi f n b (2 * 2 ^ n) L3 8 _ R q1 hn (by decide) hs (W.hold.sub fun p hp => List.mem_append_right _ (List.mem_append_left _ hp)) A3 (ArB.of W 2 rfl)
  refine sy_call 0 (by kernel_rfl) ec2 ?_
  have Wq2 := W.call X2
  have W := Wq2
  refine ow_loadA (P := Try.prog) (T := 26) (z := 3) 0 0 W rfl (by kernel_rfl) (by kernel_rfl) rfl (by kernel_rfl) ?_
  obtain ⟨_, q3, ec3, rfl, X3⟩ := U.rf f n b (2 * 2 ^ n) Lr 8 _ R q2 hn (by decide) (W.hold.sub fun p hp => List.mem_append_right _ (List.mem_append_right _ hp)) A (ArB.of W 2 rfl)
  refine sy_call 0 (by kernel_rfl) ec3 ?_
  have Wq3 := W.call X3
  have W := Wq3
  refine ok_go 1 ?_
  refine sy_need 0 [] [⟨(loadT Try.prog g 26 (ptr (Hp.next g10) (0))).map (·, g), Value.agg { toList := [Value.int IntKind.i64 (RT.b R), Value.bool (RT.w R), Value.slice a (List.length (RT.l R)) c] }, g⟩, ⟨(loadT Try.prog q1 26 (ptr (Hp.next g10) (0))).map (·, q1), Value.agg { toList := [Value.int IntKind.i64 (RT.b R), Value.bool (RT.w R), Value.slice a (List.length (RT.l R)) c] }, q1⟩] (by kernel_rfl) ⟨ob_loadA (P := Try.prog) (T := 26) (k := 0) (z := 3) Wg0 rfl (by kernel_rfl) (by kernel_rfl) rfl, ob_loadA (P := Try.prog) (T := 26) (k := 0) (z := 3) Wq1 rfl (by kernel_rfl) (by kernel_rfl) rfl, trivial⟩ ?_
  refine sy_no 0 (b := fnd f n 8 R != fnd f n 8 R) (by kernel_rfl) (bne_self_eq_false _) ?_
  refine ow_loadA (P := Try.prog) (T := 26) (z := 3) 0 3 W rfl (by kernel_rfl) (by kernel_rfl) rfl (by kernel_rfl) ?_
  obtain ⟨y, q4, L4, ec4, V4, A4⟩ := U.cu L0 _ tt q3 (W.hold_old K0) S0
  have hc4 := nds_sees S0
  obtain ⟨a4, c4, rfl⟩ := A4.shape
  refine sy_call 0 (by kernel_rfl) ec4 ?_
  have W := W.into (a := [_, _, _, _, _]) V4
  refine ow_new 0 W (AObj.cells [Value.int IntKind.i64 (Int.ofNat 0), Value.bool false, Value.slice none 0 0] 26 false) (fun q => Value.pointer (some { block := q, off := 0 })) (by kernel_rfl) fun q5 nq5 Wq5 => ?_
  have W := Wq5
  refine ow_storeA (P := Try.prog) (T := 26) (v := Value.agg { toList := [Value.int IntKind.i64 (RT.b tt), Value.bool (RT.w tt), Value.slice a4 (List.length (RT.l tt)) c4] }) 0 0 W ([Value.int IntKind.i64 (RT.b tt), Value.bool (RT.w tt), Value.slice a4 (List.length (RT.l tt)) c4]) rfl rfl rfl (by kernel_rfl) (by first | rfl | (repeat' (first | exact rfl | assumption | apply sc_cons))) (by kernel_rfl) fun q6 nq6 Wq6 => ?_
  have W := Wq6
  refine ok_go 1 ?_
  refine sy_test 0 (Int.ofNat k == 0) (by kernel_rfl) ?_ ?_
  rotate_left
  · intro hk0
    refine ow_loadA (P := Try.prog) (T := 26) (z := 3) 11 0 W rfl (by kernel_rfl) (by kernel_rfl) rfl (by kernel_rfl) ?_
    refine ow_storeA (P := Try.prog) (T := 26) (v := Value.agg { toList := [Value.int IntKind.i64 (RT.b tt), Value.bool (RT.w tt), Value.slice a4 (List.length (RT.l tt)) c4] }) 0 1 W ([Value.int IntKind.i64 (RT.b tt), Value.bool (RT.w tt), Value.slice a4 (List.length (RT.l tt)) c4]) rfl rfl rfl (by kernel_rfl) (by first | rfl | (repeat' (first | exact rfl | assumption | apply sc_cons))) (by kernel_rfl) fun q7 nq7 Wq7 => ?_
    have W := Wq7
    refine ok_go 1 ?_
    exact sy_next 0 _ q7 (by kernel_rfl) (by kernel_rfl) (ih (k + 1, tt, a4, c4, L4 ++ (L3 ++ Lr)) _ q7 ⟨hlt, by have := hc4.1; show nds tt ≤ 1000; omega, hc4.2, (A4.le 4).mono fun p hp => List.mem_append_left _ hp, W.drop 1⟩ (show 2 - (k + 1) < 2 - k by omega) ⟨by kernel_rfl, by kernel_rfl, by kernel_rfl, by kernel_rfl, (by kernel_rfl : _ = Value.int .i64 (IntKind.wrap .i64 (Int.ofNat (k + 1)))).trans (by rw [hwk]), trivial⟩)
  intro hk0
  refine ow_load (P := Try.prog) (T := 24) (off := 2) 2 1 W rfl rfl (by kernel_rfl) (by kernel_rfl) ?_
  refine ok_go 5 ?_
  refine sy_test 0 (Int.ofNat R.l.length == 2) (by kernel_rfl) ?_ ?_
  rotate_left
  · intro hl2
    refine ow_loadA (P := Try.prog) (T := 26) (z := 3) 6 0 W rfl (by kernel_rfl) (by kernel_rfl) rfl (by kernel_rfl) ?_
    refine ow_storeA (P := Try.prog) (T := 26) (v := Value.agg { toList := [Value.int IntKind.i64 (RT.b tt), Value.bool (RT.w tt), Value.slice a4 (List.length (RT.l tt)) c4] }) 0 1 W ([Value.int IntKind.i64 (RT.b tt), Value.bool (RT.w tt), Value.slice a4 (List.length (RT.l tt)) c4]) rfl rfl rfl (by kernel_rfl) (by first | rfl | (repeat' (first | exact rfl | assumption | apply sc_cons))) (by kernel_rfl) fun q7 nq7 Wq7 => ?_
    have W := Wq7
    refine ok_go 1 ?_
    exact sy_next 0 _ q7 (by kernel_rfl) (by kernel_rfl) (ih (k + 1, tt, a4, c4, L4 ++ (L3 ++ Lr)) _ q7 ⟨hlt, by have := hc4.1; show nds tt ≤ 1000; omega, hc4.2, (A4.le 4).mono fun p hp => List.mem_append_left _ hp, W.drop 1⟩ (show 2 - (k + 1) < 2 - k by omega) ⟨by kernel_rfl, by kernel_rfl, by kernel_rfl, by kernel_rfl, (by kernel_rfl : _ = Value.int .i64 (IntKind.wrap .i64 (Int.ofNat (k + 1)))).trans (by rw [hwk]), trivial⟩)
  intro hl2
  refine ow_load (P := Try.prog) (T := 3) (off := 2) 2 5 W rfl rfl (by kernel_rfl) (by kernel_rfl) ?_
  refine ok_go 7 ?_
  refine sy_test 0 ((IntKind.wrap .u64 a2).tmod 2 == 0) (by kernel_rfl) ?_ ?_
  rotate_left
  · intro ht
    refine ow_loadA (P := Try.prog) (T := 26) (z := 3) 0 0 W rfl (by kernel_rfl) (by kernel_rfl) rfl (by kernel_rfl) ?_
    refine ow_storeA (P := Try.prog) (T := 26) (v := Value.agg { toList := [Value.int IntKind.i64 (RT.b tt), Value.bool (RT.w tt), Value.slice a4 (List.length (RT.l tt)) c4] }) 0 1 W ([Value.int IntKind.i64 (RT.b tt), Value.bool (RT.w tt), Value.slice a4 (List.length (RT.l tt)) c4]) rfl rfl rfl (by kernel_rfl) (by first | rfl | (repeat' (first | exact rfl | assumption | apply sc_cons))) (by kernel_rfl) fun q7 nq7 Wq7 => ?_
    have W := Wq7
    refine ok_go 1 ?_
    exact sy_next 0 _ q7 (by kernel_rfl) (by kernel_rfl) (ih (k + 1, tt, a4, c4, L4 ++ (L3 ++ Lr)) _ q7 ⟨hlt, by have := hc4.1; show nds tt ≤ 1000; omega, hc4.2, (A4.le 4).mono fun p hp => List.mem_append_left _ hp, W.drop 1⟩ (show 2 - (k + 1) < 2 - k by omega) ⟨by kernel_rfl, by kernel_rfl, by kernel_rfl, by kernel_rfl, (by kernel_rfl : _ = Value.int .i64 (IntKind.wrap .i64 (Int.ofNat (k + 1)))).trans (by rw [hwk]), trivial⟩)
  intro ht
  have hl2 : R.l.length = 2 := of_decide_eq_true ((eq_int R.l.length 2).symm.trans hl2)
  obtain ⟨r0, r1, hl⟩ : ∃ x y, R.l = [x, y] := by
    match R.l, hl2 with
    | [x, y], _ => exact ⟨x, y, rfl⟩
  have hKL : Hold q6 Lr := W.hold.sub fun p hp => List.mem_cons_of_mem _ (List.mem_append_right _ (List.mem_append_right _ (List.mem_append_right _ hp)))
  obtain ⟨p1, v1, i1, j1, B1⟩ := A.elem (P := Try.prog) (T := 24) (e := 26) (kd := .i64) (k := 1) (u := r1) (by kernel_rfl) (by kernel_rfl) (by kernel_rfl) hKL (by rw [hl]; rfl)
  obtain ⟨p0, v0, i0, j0, B0⟩ := A.elem (P := Try.prog) (T := 24) (e := 26) (kd := .i64) (k := 0) (u := r0) (by kernel_rfl) (by kernel_rfl) (by kernel_rfl) hKL (by rw [hl]; rfl)
  obtain ⟨z1, y1, rfl⟩ := B1.shape
  obtain ⟨z0, y0, rfl⟩ := B0.shape
  have hf0 : few3 r0 = true := few3_mem hf3 (by rw [hl]; simp)
  have hf1 : few3 r1 = true := few3_mem hf3 (by rw [hl]; simp)
  have hns := nds_eq R
  rw [hl, ndsL, ndsL, ndsL] at hns
  refine ow_load (P := Try.prog) (T := 3) (off := 0) 1 1 W rfl rfl (by kernel_rfl) (by kernel_rfl) ?_
  refine ow_load (P := Try.prog) (T := 24) (off := 2) 1 1 W rfl rfl (by kernel_rfl) (by kernel_rfl) ?_
  refine sy_load 0 (h' := q6) (by kernel_rfl) i1 ?_
  refine sy_load 0 (h' := q6) (by kernel_rfl) j1 ?_
  refine ow_load (P := Try.prog) (T := 24) (off := 2) 1 1 W rfl rfl (by kernel_rfl) (by kernel_rfl) ?_
  refine sy_load 0 (h' := q6) (by kernel_rfl) i0 ?_
  refine sy_load 0 (h' := q6) (by kernel_rfl) j0 ?_
  refine ow_new 0 W (AObj.cells [Value.int IntKind.i64 (RT.b r1), Value.bool (RT.w r1), Value.slice z1 (List.length (RT.l r1)) y1, Value.int IntKind.i64 (RT.b r0), Value.bool (RT.w r0), Value.slice z0 (List.length (RT.l r0)) y0] 26 false) (fun q => Value.slice (some { block := q, off := 0 }) 2 4) (by kernel_rfl) fun q7 nq7 Wq7 => ?_
  have W := Wq7
  refine ow_storeA (P := Try.prog) (T := 26) (v := Value.agg { toList := [Value.int IntKind.i64 (RT.b R), Value.bool false, Value.slice (some { block := Hp.next q6, off := 0 }) 2 4] }) 1 1 W ([Value.int IntKind.i64 (RT.b R), Value.bool false, Value.slice (some { block := Hp.next q6, off := 0 }) 2 4]) rfl rfl rfl (by kernel_rfl) (by first | rfl | (repeat' (first | exact rfl | assumption | apply sc_cons))) (by kernel_rfl) fun q8 nq8 Wq8 => ?_
  have W := Wq8
  refine sy_need 0 [] [⟨(loadT Try.prog q7 3 (ptr (Hp.next g10) (0 + Field.offset #[{ name := "Bit", type := 3, offset := 0, embedded := false, tag := "", pkgPath := "", byteOffset := 0 }, { name := "Value", type := 4, offset := 1, embedded := false, tag := "", pkgPath := "", byteOffset := 8 }, { name := "Parts", type := 24, offset := 2, embedded := false, tag := "", pkgPath := "", byteOffset := 16 }][0]))).map (·, q7), Value.int IntKind.i64 (RT.b R), q7⟩] (by kernel_rfl) ⟨ob_load (P := Try.prog) (T := 3) (k := 2) Wq7 rfl rfl (by kernel_rfl), trivial⟩ ?_
  refine ow_load (P := Try.prog) (T := 3) (off := 2) 1 6 W rfl rfl (by kernel_rfl) (by kernel_rfl) ?_
  refine ok_go 3 ?_
  let nd : Nat × AObj := (q6.next, .cells [I r1.b, .bool r1.w, .slice z1 r1.l.length y1, I r0.b, .bool r0.w, .slice z0 r0.l.length y0] 26 false)
  refine sy_test 0 ((IntKind.wrap .u64 a2).tmod 4 == 0) (by kernel_rfl) ?_ ?_
  · intro ht4
    refine ow_load (P := Try.prog) (T := 3) (off := 0) 1 2 W rfl rfl (by kernel_rfl) (by kernel_rfl) ?_
    refine ow_load (P := Try.prog) (T := 24) (off := 2) 2 2 W rfl rfl (by kernel_rfl) (by kernel_rfl) ?_
    refine ow_storeA (P := Try.prog) (T := 26) (v := Value.agg { toList := [Value.int IntKind.i64 (IntKind.wrap IntKind.i64 (RT.b R + 1)), Value.bool false, Value.slice a (List.length (RT.l R)) c] }) 1 1 W ([Value.int IntKind.i64 (IntKind.wrap IntKind.i64 (RT.b R + 1)), Value.bool false, Value.slice a (List.length (RT.l R)) c]) rfl rfl rfl (by kernel_rfl) (by first | rfl | (repeat' (first | exact rfl | assumption | apply sc_cons))) (by kernel_rfl) fun q10 nq10 Wq10 => ?_
    have W := Wq10
    refine ow_loadA (P := Try.prog) (T := 26) (z := 3) 0 1 W rfl (by kernel_rfl) (by kernel_rfl) rfl (by kernel_rfl) ?_
    refine ow_storeA (P := Try.prog) (T := 26) (v := Value.agg { toList := [Value.int IntKind.i64 (IntKind.wrap IntKind.i64 (RT.b R + 1)), Value.bool false, Value.slice a (List.length (RT.l R)) c] }) 0 2 W ([Value.int IntKind.i64 (IntKind.wrap IntKind.i64 (RT.b R + 1)), Value.bool false, Value.slice a (List.length (RT.l R)) c]) rfl rfl rfl (by kernel_rfl) (by first | rfl | (repeat' (first | exact rfl | assumption | apply sc_cons))) (by kernel_rfl) fun q11 nq11 Wq11 => ?_
    have W := Wq11
    refine ok_go 1 ?_
    have W : Sto h q11 (nd :: (q4.next, .cells [I (IntKind.wrap .i64 (R.b + 1)), .bool false, .slice a R.l.length c] 26 false) :: ([(g10.next, .cells [I (IntKind.wrap .i64 (R.b + 1)), .bool false, .slice a R.l.length c] 26 false), c5, tb, e5, e4] ++ (L4 ++ (L3 ++ Lr)))) := W
    have hn2 : nds (.mk (IntKind.wrap .i64 (R.b + 1)) false R.l) ≤ 1000 := by rw [nds_eq] at hs ⊢; exact hs
    have hf2 : few3 (.mk (IntKind.wrap .i64 (R.b + 1)) false R.l) = true := by rw [few3_eq] at hf3 ⊢; exact hf3
    have A8 : At (L4 ++ (L3 ++ Lr)) 8 (.agg #[I (IntKind.wrap .i64 (R.b + 1)), .bool false, .slice a R.l.length c]) (.mk (IntKind.wrap .i64 (R.b + 1)) false R.l) := (A.mono fun p hp => List.mem_append_right _ (List.mem_append_right _ hp)).re
    exact sy_next 0 _ q11 (by kernel_rfl) (by kernel_rfl) (ih (k + 1, .mk (IntKind.wrap .i64 (R.b + 1)) false R.l, a, c, L4 ++ (L3 ++ Lr)) _ q11 ⟨hlt, hn2, hf2, A8, W.drop 2⟩ (show 2 - (k + 1) < 2 - k by omega) ⟨by kernel_rfl, by kernel_rfl, by kernel_rfl, by kernel_rfl, (by kernel_rfl : _ = Value.int .i64 (IntKind.wrap .i64 (Int.ofNat (k + 1)))).trans (by rw [hwk]), trivial⟩)
  · intro ht4
    refine ow_loadA (P := Try.prog) (T := 26) (z := 3) 0 1 W rfl (by kernel_rfl) (by kernel_rfl) rfl (by kernel_rfl) ?_
    refine ow_storeA (P := Try.prog) (T := 26) (v := Value.agg { toList := [Value.int IntKind.i64 (RT.b R), Value.bool false, Value.slice (some { block := Hp.next q6, off := 0 }) 2 4] }) 0 2 W ([Value.int IntKind.i64 (RT.b R), Value.bool false, Value.slice (some { block := Hp.next q6, off := 0 }) 2 4]) rfl rfl rfl (by kernel_rfl) (by first | rfl | (repeat' (first | exact rfl | assumption | apply sc_cons))) (by kernel_rfl) fun q10 nq10 Wq10 => ?_
    have W := Wq10
    refine ok_go 1 ?_
    have W : Sto h q10 (nd :: (q4.next, .cells [I R.b, .bool false, .slice (some ⟨q6.next, 0, none⟩) 2 4] 26 false) :: ([(g10.next, .cells [I R.b, .bool false, .slice (some ⟨q6.next, 0, none⟩) 2 4] 26 false), c5, tb, e5, e4] ++ (L4 ++ (L3 ++ Lr)))) := W
    have W := (W.sub (List.Sublist.cons_cons _ (List.sublist_cons_self ..))).perm List.perm_middle.symm
    have hn2 : nds (.mk R.b false [r1, r0]) ≤ 1000 := by
      rw [nds_eq]
      show 1 + (nds r1 + (nds r0 + 0)) ≤ 1000
      omega
    have hf2 : few3 (.mk R.b false [r1, r0]) = true := by
      rw [few3_eq]
      show (decide ((2 : Nat) ≤ 3) && (few3 r1 && (few3 r0 && true))) = true
      rw [hf1, hf0]
      rfl
    have A8 : At (nd :: (L4 ++ (L3 ++ Lr))) 8 (.agg #[I R.b, .bool false, .slice (some ⟨q6.next, 0, none⟩) 2 4]) (.mk R.b false [r1, r0]) :=
      ⟨some ⟨q6.next, 0, none⟩, 4, rfl, fun _ => ⟨q6.next, 0, nd.2, _, rfl, List.mem_cons_self .., rfl, ⟨_, _, _, _, rfl, B1.mono fun p hp => List.mem_cons_of_mem _ (List.mem_append_right _ (List.mem_append_right _ hp)), ⟨_, _, _, _, rfl, B0.mono fun p hp => List.mem_cons_of_mem _ (List.mem_append_right _ (List.mem_append_right _ hp)), rfl⟩⟩⟩⟩
    exact sy_next 0 _ q10 (by kernel_rfl) (by kernel_rfl) (ih (k + 1, .mk R.b false [r1, r0], some ⟨q6.next, 0, none⟩, 4, nd :: (L4 ++ (L3 ++ Lr))) _ q10 ⟨hlt, hn2, hf2, A8, W⟩ (show 2 - (k + 1) < 2 - k by omega) ⟨by kernel_rfl, by kernel_rfl, by kernel_rfl, by kernel_rfl, (by kernel_rfl : _ = Value.int .i64 (IntKind.wrap .i64 (Int.ofNat (k + 1)))).trans (by rw [hwk]), trivial⟩)
end Go.Proofs.Ytnfboopfpkaeaaa
/- DecW: contracts of functions. -/
namespace Go.Proofs.Ytnfboopfpkaeaaa
open Go Go.Eng Nim Go.ChangeShapes
set_option maxRecDepth 100000
set_option maxHeartbeats 4000000
section
variable {HH : Type} {enc : TypeId × Value → HH} {B : Prot} {w0 w : World}
/-- A slice in memory, some of whose first cells are seen. -/
theorem openPart {E : Env} {h : Hp} (H : HpOK Try.prog B w0 E h w) (hB : ∀ k, k < w.heap.size → B.ro k) {a : Addr} {len cap : Nat} (e : TypeId) (cs : List Value) (hc0 : 0 < cap → a.spot = none) (hlc : len ≤ cap) (hne : cs ≠ [] → 0 < cap)
    (hcell : ∀ i v, cs[i]? = some v → w.cell? (a.add i) = some (con E v)) (hs : scL h.next cs = true) (h1 : ∀ v ∈ cs, scalar v = true) :
    ∃ E' h' i q c s, HpOK Try.prog B w0 E' h' w ∧ Agree h.next E E' ∧ h.Ext h' ∧ con E' (.slice (some ⟨i, q, s⟩) len c) = .slice (some a) len cap ∧ sc h'.next (.slice (some ⟨i, q, s⟩) len c) = true ∧
      (cs ≠ [] → s = none ∧ i < h'.next ∧ ∃ o, h'.get i = some o ∧ objLoad o q cs.length = some cs) := by
  cases cs with
  | nil =>
    refine ⟨E.ext h.next a.block 0, ⟨h.objs, h.next + 1⟩, h.next, a.off, 2 * cap, a.spot, H.bump a.block, Env.ext_agree _ _ _ _, ⟨Nat.le_succ _, fun j _ => rfl⟩, ?_, by simp [sc], fun hn => absurd rfl hn⟩
    obtain ⟨b, o, s⟩ := a
    cases s with
    | none => simp [con, conCap]
    | some q =>
      have hc : cap = 0 := Nat.eq_zero_of_not_pos fun hp => by have := hc0 hp; simp at this
      subst hc
      simp [con, conCap, conOff, conSpot]
  | cons v r =>
    have h0 := hcell 0 v rfl
    have hsp : a.spot = none := hc0 (hne (by simp))
    obtain ⟨arr, e', fz, hb, _, ha⟩ := cell_block h0
    rw [add_spot hsp] at ha hb
    have ha0 : a.off + 0 < arr.size := (Array.getElem?_eq_some_iff.1 ha).1
    have hR := H.newRo (m := a.block) (off := a.off) (cs := v :: r) (e := e') (hB _ (Array.getElem?_eq_some_iff.1 hb).1) hb (by omega) (fun i u hu => by
      have hi := hcell i u hu
      obtain ⟨arr', e', fz', hb', _, ha'⟩ := cell_block hi
      rw [add_spot hsp] at hb' ha'
      rw [hb] at hb'
      cases hb'
      exact ha') hs h1
    refine ⟨_, _, h.next, a.off, 2 * cap, none, hR, Env.ext_agree _ _ _ _, Hp.Ext.new _ _, ?_, by simp [sc, Hp.new], fun _ => ⟨rfl, Nat.lt_succ_self _, _, get_new _ _, ?_⟩⟩
    · obtain ⟨b, o, s⟩ := a
      simp only at hsp
      subst hsp
      simp [con, conCap]
    · have hble : Nat.ble a.off a.off = true := Nat.ble_eq_true_of_le (Nat.le_refl _)
      simp only [objLoad, hble, Nat.sub_self, List.drop_zero]
      exact takeN_all (v :: r)
/-- A tree's cells, as the evaluator sees them. -/
def Seen (n : Nat) (E' : Env) (h' : Hp) (cs : List Value) (zs : List Value) (ts : List RT) (L : List (Nat × AObj)) : Prop :=
  conL E' zs = cs ∧ scL h'.next zs = true ∧ (∀ v ∈ zs, scalar v = true) ∧ Hold h' L ∧ Els (Sees L n) zs ts
theorem seen_many {n : Nat} (one : ∀ {E : Env} {h : Hp}, HpOK Try.prog B w0 E h w → ∀ {fuel : Nat} {cs : List Value} {x : DataW HH × List MemPlace}, DataW.trod enc Try.prog w 0 (fun _ => true) true fuel 26 cs = some x →
      ∃ E' h' zs t L, HpOK Try.prog B w0 E' h' w ∧ Agree h.next E E' ∧ h.Ext h' ∧ Seen n E' h' cs zs [t] L) :
    ∀ (css : List (List Value)) {E : Env} {h : Hp}, HpOK Try.prog B w0 E h w → (∀ cs ∈ css, ∃ (fuel : Nat) (x : DataW HH × List MemPlace), DataW.trod enc Try.prog w 0 (fun _ => true) true fuel 26 cs = some x) →
      ∃ E' h' zs ts L, HpOK Try.prog B w0 E' h' w ∧ Agree h.next E E' ∧ h.Ext h' ∧ Seen n E' h' css.flatten zs ts L ∧ ts.length = css.length
  | [], E, h, H, _ => ⟨E, h, [], [], [], H, Agree.refl _ _, Hp.Ext.refl _, ⟨rfl, rfl, fun v hv => (by cases hv), fun p hp => (by cases hp), rfl⟩, rfl⟩
  | cs :: css, E, h, H, hc => by
    obtain ⟨fuel, x, ht⟩ := hc cs (by simp)
    obtain ⟨E1, h1, z1, t1, L1, H1, a1, x1, c1, s1, q1, k1, e1⟩ := one H ht
    obtain ⟨E2, h2, z2, t2, L2, H2, a2, x2, ⟨c2, s2, q2, k2, e2⟩, hl⟩ := seen_many one css H1 fun d hd => hc d (by simp [hd])
    refine ⟨E2, h2, z1 ++ z2, t1 :: t2, L1 ++ L2, H2, a1.trans a2 x1.next, x1.trans x2, ⟨?_, ?_, ?_, ?_, ?_⟩, by simp [hl]⟩
    · rw [List.flatten_cons, ← c1, ← c2, conL_congr a2 z1 s1, conL_eq, conL_eq, conL_eq, List.map_append]
    · rw [scL_iff]
      intro v hv
      rcases List.mem_append.1 hv with hv | hv
      · exact (scL_iff _ _).1 (scL_mono x2.next z1 s1) v hv
      · exact (scL_iff _ _).1 s2 v hv
    · intro v hv
      rcases List.mem_append.1 hv with hv | hv
      · exact q1 v hv
      · exact q2 v hv
    · intro p hp
      rcases List.mem_append.1 hp with hp | hp
      · exact k1.ext x2 p hp
      · exact k2 p hp
    · obtain ⟨x, y, z, q, e, h3, h4⟩ := e1
      have h4 : q = [] := h4
      subst h4
      refine ⟨x, y, z, z2, by rw [e]; rfl, h3.mono fun p hp => List.mem_append_left _ hp, Els.mono (fun _ _ => Sees.mono fun p hp => List.mem_append_right _ hp) e2⟩
theorem flat_cell {a : Addr} : ∀ (css : List (List Value)) (j0 : Nat), (∀ j cs, css[j]? = some cs → cs.length = 3 ∧ ∀ k, k < 3 → w.cell? (a.add ((j0 + j) * 3 + k)) = cs[k]?) → ∀ i v, css.flatten[i]? = some v → w.cell? (a.add (j0 * 3 + i)) = some v
  | [], j0, _, i, v, hv => by simp at hv
  | cs :: css, j0, h, i, v, hv => by
    obtain ⟨hl, hk⟩ := h 0 cs rfl
    rw [List.flatten_cons] at hv
    by_cases hi : i < 3
    · rw [List.getElem?_append_left (by omega)] at hv
      have := hk i hi
      rw [hv, Nat.add_zero] at this
      exact this
    · rw [List.getElem?_append_right (by omega), hl] at hv
      have := flat_cell css (j0 + 1) (fun j cs hj => by
        have := h (j + 1) cs hj
        rwa [show j0 + (j + 1) = j0 + 1 + j by omega] at this) (i - 3) v hv
      rwa [show (j0 + 1) * 3 + (i - 3) = j0 * 3 + i by omega] at this
theorem els_nil {A : Value → RT → Prop} {ts : List RT} (h : Els A [] ts) : ts = [] := by
  have := h.len
  simp only [List.length_nil] at this
  exact List.eq_nil_of_length_eq_zero (by omega)
/-- How many parts are seen. -/
def kSeen : Nat → Nat → Nat
  | 0, _ => 0
  | _ + 1, len => min len 3
theorem kSeen_le : ∀ n len, kSeen n len ≤ len
  | 0, _ => Nat.zero_le _
  | _ + 1, len => Nat.min_le_left _ _
/-- One tree, its parts opened. -/
theorem open_node (hB : ∀ k, k < w.heap.size → B.ro k) (n : Nat) (one : ∀ k, n = k + 1 → ∀ {E : Env} {h : Hp}, HpOK Try.prog B w0 E h w → ∀ {fuel : Nat} {cs : List Value} {x : DataW HH × List MemPlace}, DataW.trod enc Try.prog w 0 (fun _ => true) true fuel 26 cs = some x →
      ∃ E' h' zs t L, HpOK Try.prog B w0 E' h' w ∧ Agree h.next E E' ∧ h.Ext h' ∧ Seen k E' h' cs zs [t] L)
    {E : Env} {h : Hp} (H : HpOK Try.prog B w0 E h w) {fuel : Nat} {cs : List Value} {x : DataW HH × List MemPlace} (ht : DataW.trod enc Try.prog w 0 (fun _ => true) true fuel 26 cs = some x) :
    ∃ E' h' zs t L, HpOK Try.prog B w0 E' h' w ∧ Agree h.next E E' ∧ h.Ext h' ∧ Seen n E' h' cs zs [t] L := by
  have hu : Try.prog.underlying 26 = some (.struct (Try.prog.fieldsOf 26)) := by kernel_rfl
  obtain ⟨f0, f1, f2, hf, o0, o1, o2, t0, t1, t2⟩ : ∃ f0 f1 f2, (Try.prog.fieldsOf 26).toList = [f0, f1, f2] ∧ f0.offset = 0 ∧ f1.offset = 1 ∧ f2.offset = 2 ∧ f0.type = 3 ∧ f1.type = 4 ∧ f2.type = 24 := ⟨_, _, _, rfl, by kernel_rfl, by kernel_rfl, by kernel_rfl, by kernel_rfl, by kernel_rfl, by kernel_rfl⟩
  have hu' : Try.prog.underlying 26 = some (.struct #[f0, f1, f2]) := by
    rw [hu, show Try.prog.fieldsOf 26 = #[f0, f1, f2] from Array.ext' hf]
  obtain ⟨y0, y1, y2, n', rfl, hl, h0, h1, h2⟩ := Go.Deep.trod_struct3 hu' ht
  rw [show Try.prog.cellsOf 26 = 3 by kernel_rfl] at hl
  obtain ⟨c0, c1, c2, rfl⟩ : ∃ c0 c1 c2, cs = [c0, c1, c2] := by
    match cs, hl with
    | [c0, c1, c2], _ => exact ⟨c0, c1, c2, rfl⟩
  rw [o0, t0, show Try.prog.cellsOf 3 = 1 by kernel_rfl] at h0
  rw [o1, t1, show Try.prog.cellsOf 4 = 1 by kernel_rfl] at h1
  rw [o2, t2, show Try.prog.cellsOf 24 = 1 by kernel_rfl] at h2
  simp only [List.drop_zero, List.drop_succ_cons, List.take_succ_cons, List.take_zero] at h0 h1 h2
  obtain ⟨b, e0, _, _⟩ := DataW.trod_int (k := .i64) (by kernel_rfl) h0
  obtain ⟨wv, e1, _⟩ := DataW.trod_bool (by kernel_rfl) h1
  simp only [List.cons.injEq, and_true] at e0 e1
  subst e0; subst e1
  have u24 : Try.prog.underlying 24 = some (.slice 26) := by kernel_rfl
  have hco : Try.prog.cellsOf 26 = 3 := by kernel_rfl
  rcases DataW.trod_slice u24 h2 with ⟨hc, _⟩ | ⟨a, len, cap, el, rest, m, _, hc, _, _, hlc, _, hel, hrow, hsp, _⟩
  · simp only [List.cons.injEq, and_true] at hc
    subst hc
    refine ⟨E, h, [I b, .bool wv, .slice none 0 0], .mk b wv [], [], H, Agree.refl _ _, Hp.Ext.refl _, by simp [conL, con], rfl, fun v hv => ?_, fun p hp => (by cases hp), ⟨_, _, _, [], rfl, ?_, rfl⟩⟩
    · simp only [List.mem_cons, List.not_mem_nil, or_false] at hv
      rcases hv with rfl | rfl | rfl <;> rfl
    · cases n with
      | zero => exact ⟨rfl, none, 0, 0, rfl⟩
      | succ n => exact ⟨none, 0, 0, rfl, rfl, fun hn => absurd rfl hn⟩
  · simp only [List.cons.injEq, and_true] at hc
    subst hc
    rw [hco] at hrow hsp
    have hr : ∀ i, i < len → ∃ c, w.cells? 0 (a.add (i * 3)) 3 = some c ∧ ∃ x, DataW.trod enc Try.prog w 0 (fun _ => true) true m 26 c = some x := by
      intro i hi
      have h1 := hrow i hi
      rw [List.getElem?_eq_getElem (by omega), Option.bind_eq_some_iff] at h1
      obtain ⟨cs, h2, h3⟩ := h1
      exact ⟨cs, h2, _, h3⟩
    have hsp0 : 0 < cap → a.spot = none := fun hp => by
      have key : ∀ k c, w.cells? 0 (a.add (k * 3)) 3 = some c → (k = 0 ∨ a.spot = none) → a.spot = none := fun k c hc hk => by
        rcases hk with rfl | hk
        · have h4 := (World.cells?_some hc).2
          have h5 := h4.2 0 (by decide)
          obtain ⟨v, hv⟩ : ∃ v, c[0]? = some v := ⟨c[0]'(by omega), List.getElem?_eq_getElem (by omega)⟩
          rw [hv] at h5
          obtain ⟨_, _, _, _, h6, _⟩ := cell_block h5
          unfold Addr.add at h6
          simpa using h6
        · exact hk
      by_cases hl0 : 0 < len
      · obtain ⟨c, h6, _⟩ := hr 0 hl0
        exact key 0 c h6 (.inl rfl)
      · have h5 := hsp rfl
        have h6 := h5.2 0 (by omega)
        have hr0 : rest[0]? = some (rest[0]'(by omega)) := List.getElem?_eq_getElem (by omega)
        rw [hr0, Option.bind_eq_some_iff] at h6
        obtain ⟨cs', h7, _⟩ := h6
        exact key (len + 0) cs' h7 (.inl (by omega))
    -- the parts that are seen
    let k : Nat := kSeen n len
    have hk : k ≤ len := kSeen_le n len
    let css : List (List Value) := (List.range k).map fun i => (w.cells? 0 (a.add (i * 3)) 3).getD []
    have hcs : ∀ j cs, css[j]? = some cs → j < len ∧ w.cells? 0 (a.add (j * 3)) 3 = some cs ∧ ∃ x, DataW.trod enc Try.prog w 0 (fun _ => true) true m 26 cs = some x := fun j cs hj => by
      have hjk : j < k := by
        have := (List.getElem?_eq_some_iff.1 hj).1
        simpa [css] using this
      obtain ⟨c, e3, e4⟩ := hr j (by omega)
      have : css[j]? = some c := by
        show ((List.range k).map _)[j]? = _
        rw [List.getElem?_map, List.getElem?_range hjk, Option.map_some, e3]
        rfl
      rw [hj] at this
      cases this
      exact ⟨by omega, e3, e4⟩
    have many : ∃ E' h' zs ts L, HpOK Try.prog B w0 E' h' w ∧ Agree h.next E E' ∧ h.Ext h' ∧ Seen (n - 1) E' h' css.flatten zs ts L ∧ ts.length = k := by
      cases n with
      | zero => exact ⟨E, h, [], [], [], H, Agree.refl _ _, Hp.Ext.refl _, ⟨rfl, rfl, fun v hv => (by cases hv), fun p hp => (by cases hp), rfl⟩, rfl⟩
      | succ n =>
        obtain ⟨E', h', zs, ts, L, q1, q2, q3, q4, q5⟩ := seen_many (fun {E h} H => one n rfl H) css H fun c hc => by
          obtain ⟨j, hj, e3⟩ := List.getElem_of_mem hc
          obtain ⟨_, _, x, e4⟩ := hcs j c (by rw [List.getElem?_eq_getElem hj, e3])
          exact ⟨m, x, e4⟩
        exact ⟨E', h', zs, ts, L, q1, q2, q3, q4, by rw [q5]; simp [css]⟩
    obtain ⟨E1, g1, zs, ts, L, H1, a1, x1, ⟨cc, cs1, cs2, kL, els⟩, hts⟩ := many
    have hzs : zs ≠ [] → 0 < cap := fun hz => by
      have h6 : ts.length ≠ 0 := fun h7 => by
        have := els.len
        rw [h7] at this
        exact hz (List.eq_nil_of_length_eq_zero (by omega))
      omega
    obtain ⟨E2, g2, i, q, c, s, H2, a2, x2, hcon, hsc, hwin⟩ := openPart H1 hB 26 zs hsp0 hlc hzs (fun i v hv => by
      have hcv : css.flatten[i]? = some (con E1 v) := by rw [← cc, conL_eq, List.getElem?_map, hv]; rfl
      have hsp1 := hsp0 (hzs fun hz => by rw [hz] at hv; cases hv)
      have := flat_cell (w := w) (a := a) css 0 (fun j cs hj => by
        obtain ⟨_, e3, _⟩ := hcs j cs hj
        have e4 := (World.cells?_some e3).2
        refine ⟨e4.1, fun k hk => ?_⟩
        have e5 := e4.2 k hk
        rw [add_spot hsp1, add_spot rfl] at e5
        rw [add_spot hsp1, Nat.zero_add]
        rwa [Nat.add_assoc] at e5) i _ hcv
      rwa [Nat.zero_mul, Nat.zero_add] at this) cs1 cs2
    refine ⟨E2, g2, [I b, .bool wv, .slice (some ⟨i, q, s⟩) len c], .mk b wv ts, ?_⟩
    have hAg := a1.trans a2 x1.next
    have hX := x1.trans x2
    have hc3 : conL E2 [I b, .bool wv, .slice (some ⟨i, q, s⟩) len c] = [.int .i64 b, .bool wv, .slice (some a) len cap] := by
      rw [conL, conL, conL, conL, hcon]; rfl
    have hs3 : scL g2.next [I b, .bool wv, .slice (some ⟨i, q, s⟩) len c] = true := by
      rw [scL, scL, scL, scL, hsc]; rfl
    have hv3 : ∀ v ∈ [I b, .bool wv, .slice (some ⟨i, q, s⟩) len c], scalar v = true := fun v hv => by
      simp only [List.mem_cons, List.not_mem_nil, or_false] at hv
      rcases hv with rfl | rfl | rfl <;> rfl
    by_cases hz : zs = []
    · subst hz
      have := els_nil els
      subst this
      refine ⟨L, H2, hAg, hX, hc3, hs3, hv3, kL.ext x2, ⟨_, _, _, [], rfl, ?_, rfl⟩⟩
      cases n with
      | zero => exact ⟨rfl, _, _, _, rfl⟩
      | succ n => exact ⟨_, _, _, rfl, hts, fun hn => absurd rfl hn⟩
    · obtain ⟨rfl, hi, o, ho, hob⟩ := hwin hz
      refine ⟨(i, o) :: L, H2, hAg, hX, hc3, hs3, hv3, fun p hp => ?_, ⟨_, _, _, [], rfl, ?_, rfl⟩⟩
      · rcases List.mem_cons.1 hp with rfl | hp
        · exact ⟨hi, ho⟩
        · exact kL.ext x2 p hp
      · cases n with
        | zero =>
          have : ts = [] := List.eq_nil_of_length_eq_zero hts
          subst this
          exact ⟨rfl, _, _, _, rfl⟩
        | succ n =>
          refine ⟨_, _, _, rfl, hts, fun _ => ⟨i, q, o, zs, rfl, List.mem_cons_self .., ?_, Els.mono (fun _ _ => Sees.mono fun p hp => List.mem_cons_of_mem _ hp) els⟩⟩
          show objLoad o q (ts.length * 3) = some zs
          rw [← els.len]
          exact hob
theorem openTree (hB : ∀ k, k < w.heap.size → B.ro k) : ∀ (n : Nat) {E : Env} {h : Hp}, HpOK Try.prog B w0 E h w → ∀ {fuel : Nat} {cs : List Value} {x : DataW HH × List MemPlace}, DataW.trod enc Try.prog w 0 (fun _ => true) true fuel 26 cs = some x →
    ∃ E' h' zs t L, HpOK Try.prog B w0 E' h' w ∧ Agree h.next E E' ∧ h.Ext h' ∧ Seen n E' h' cs zs [t] L
  | 0, _, _, H, _, _, _, ht => open_node hB 0 (fun k hk => absurd hk (by omega)) H ht
  | n + 1, _, _, H, _, _, _, ht => open_node hB (n + 1) (fun k hk {_ _} H {_ _ _} ht => by
      obtain rfl : n = k := by omega
      exact openTree hB n H ht) H ht
end
end Go.Proofs.Ytnfboopfpkaeaaa
