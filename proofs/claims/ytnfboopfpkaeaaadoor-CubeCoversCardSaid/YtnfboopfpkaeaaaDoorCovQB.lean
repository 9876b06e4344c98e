/- Comparing and sorting pairs, the search for a cover: contracts. -/
import Derived.Test.YtnfboopfpkaeaaaDoorProg
import Derived.KernelRfl
import Derived.Test.YtnfboopfpkaeaaaDoorSyF
import Derived.Test.YtnfboopfpkaeaaaDoorCovQA
namespace Go.Proofs.YtnfboopfpkaeaaaDoor
open Go Go.Eng Nim
set_option maxRecDepth 100000
set_option maxHeartbeats 4000000
def cz (a b : Int) : Int := if a < b then -1 else if a > b then 1 else 0
def c2 (a b c d : Int) : Int := if cz a c != 0 then cz a c else cz b d
theorem ccmp_of (lf m : Nat) (a b : Int) (h : Hp) : Ev lf (m + 2) 66 [I a, I b] h = some (I (cz a b), h) := by
  refine fn_eq ?_
  refine ok_go 2 ?_
  refine sy_no 0 (b := a != a) (by kernel_rfl) (bne_self_eq_false _) ?_
  refine ok_go 0 ?_
  refine sy_no 0 (b := b != b) (by kernel_rfl) (bne_self_eq_false _) ?_
  refine ok_go 1 ?_
  refine sy_test 0 (decide (a < b)) (by kernel_rfl) ?_ ?_
  · intro h1
    refine ok_go 0 ?_
    exact sy_done 0 (v := I (-1)) (h := h) (by kernel_rfl) ⟨by rw [cz, if_pos (of_decide_eq_true h1)], rfl⟩
  intro h1
  refine ok_go 1 ?_
  refine sy_test 0 (decide (a > b)) (by kernel_rfl) ?_ ?_
  · intro h2
    refine ok_go 0 ?_
    exact sy_done 0 (v := I 1) (h := h) (by kernel_rfl) ⟨by rw [cz, if_neg (of_decide_eq_false h1), if_pos (of_decide_eq_true h2)], rfl⟩
  · intro h2
    refine ok_go 0 ?_
    exact sy_done 0 (v := I 0) (h := h) (by kernel_rfl) ⟨by rw [cz, if_neg (of_decide_eq_false h1), if_neg (of_decide_eq_false h2)], rfl⟩
theorem cmp2_of (lf m : Nat) (hlf : 300 ≤ lf) (a b c d : Int) (x y : Value) (h : Hp) (X : Rds h x [I a, I b]) (Y : Rds h y [I c, I d]) : Ev lf (m + 3) 34 [x, y] h = some (I (c2 a b c d), h) := by
  obtain ⟨xa, xc, rfl⟩ := X.shape
  obtain ⟨ya, yc, rfl⟩ := Y.shape
  refine fn_eq ?_
  refine ok_go 1 ?_
  refine sy_loop 0 lf h (α := Nat) (fun i => [(0, .slice xa 2 xc), (1, .slice ya 2 yc), (9, .slice xa 2 xc), (10, J 2), (11, J i)]) (fun i g => i ≤ 2 ∧ g = h ∧ (0 < i → cz a c = 0) ∧ (1 < i → cz b d = 0)) (fun i _ => 2 - i) 0 (by kernel_rfl) (by kernel_rfl)
    ⟨by kernel_rfl, by kernel_rfl, by kernel_rfl, by kernel_rfl, by kernel_rfl, trivial⟩ (show 2 - 0 < lf by omega) ⟨by decide, rfl, fun h => absurd h (by decide), fun h => absurd h (by decide)⟩ ?_
  rintro m1 i f1 g ⟨hi, rfl, z1, z2⟩ ih
  refine ok_go 1 ?_
  refine sy_test 0 (decide (Int.ofNat i < Int.ofNat 2)) (by kernel_rfl) ?_ ?_
  · intro hlt
    have hlt := ok_nat hlt
    have hwi : IntKind.wrap .i64 (Int.ofNat (i + 1)) = Int.ofNat (i + 1) := wrap_nat (by omega)
    obtain ⟨u, v, e1, e2, eu⟩ : ∃ u v, [I a, I b][i]? = some (I u) ∧ [I c, I d][i]? = some (I v) ∧ ((i = 0 ∧ u = a ∧ v = c) ∨ (i = 1 ∧ u = b ∧ v = d)) := by
      rcases (by omega : i = 0 ∨ i = 1) with rfl | rfl
      · exact ⟨a, c, rfl, rfl, .inl ⟨rfl, rfl, rfl⟩⟩
      · exact ⟨b, d, rfl, rfl, .inr ⟨rfl, rfl, rfl⟩⟩
    obtain ⟨q1, r1, r2⟩ := X.read (P := Tryd.prog) (t := 72) (e := 3) (kd := .i64) (by kernel_rfl) (by kernel_rfl) (by kernel_rfl) e1
    obtain ⟨q2, r3, r4⟩ := Y.read (P := Tryd.prog) (t := 72) (e := 3) (kd := .i64) (by kernel_rfl) (by kernel_rfl) (by kernel_rfl) e2
    refine ok_go 0 ?_
    refine sy_load 0 (h' := g) (by kernel_rfl) r1 ?_
    refine sy_load 0 (h' := g) (by kernel_rfl) r2 ?_
    refine ok_go 2 ?_
    refine sy_no 0 (b := decide (Int.ofNat i ≥ Int.ofNat 2)) (by kernel_rfl) (decide_eq_false (by show ¬ ((2 : Int) ≤ (i : Int)); omega)) ?_
    refine ok_go 0 ?_
    refine sy_load 0 (h' := g) (by kernel_rfl) r3 ?_
    refine sy_load 0 (h' := g) (by kernel_rfl) r4 ?_
    refine ok_go 0 ?_
    refine sy_call 0 (by kernel_rfl) (ccmp_of lf m u v g) ?_
    refine ok_go 1 ?_
    refine sy_test 0 (cz u v != 0) (by kernel_rfl) ?_ ?_
    · intro hc
      refine ok_go 0 ?_
      refine sy_done 0 (v := I (cz u v)) (h := g) (by kernel_rfl) ⟨?_, rfl⟩
      rcases eu with ⟨rfl, rfl, rfl⟩ | ⟨rfl, rfl, rfl⟩
      · rw [c2, if_pos hc]
      · rw [c2, if_neg (by rw [z1 (by decide)]; decide)]
    · intro hc
      have hc0 : cz u v = 0 := by simpa using hc
      refine ok_go 1 ?_
      exact sy_next 0 _ g (by kernel_rfl) (by kernel_rfl) (ih (i + 1) _ g ⟨hlt, rfl, fun _ => by
        rcases eu with ⟨rfl, rfl, rfl⟩ | ⟨rfl, rfl, rfl⟩
        · exact hc0
        · exact z1 (by decide), fun hh => by
        rcases eu with ⟨rfl, rfl, rfl⟩ | ⟨rfl, rfl, rfl⟩
        · exact absurd hh (by decide)
        · exact hc0⟩ (show 2 - (i + 1) < 2 - i by omega) ⟨by kernel_rfl, by kernel_rfl, by kernel_rfl, by kernel_rfl, (by kernel_rfl : _ = Value.int .i64 (IntKind.wrap .i64 (Int.ofNat (i + 1)))).trans (by rw [hwi]), trivial⟩)
  · intro hlt
    have hlt := no_nat hlt
    obtain rfl : i = 2 := by omega
    refine ok_go 4 ?_
    exact sy_done 0 (v := I 0) (h := g) (by kernel_rfl) ⟨by rw [c2, if_neg (by rw [z1 (by decide)]; decide), z2 (by decide)], rfl⟩
theorem rd_two {h : Hp} {i : Nat} {a b : Value} {e : TypeId} {o : Bool} {c : Nat} (hi : i < h.next) (hg : h.get i = some (.cells [a, b] e o)) : Rds h (.slice (some ⟨i, 0, none⟩) 2 c) [a, b] :=
  .inr ⟨i, 0, c, rfl, fun _ => ⟨hi, by simp only [loadN, hg, List.drop_zero]; rfl⟩⟩
/-- The order of parts, as the library compares them. -/
theorem pcmp_of (lf m : Nat) (hlf : 300 ≤ lf) (a b c d : Nat) (h : Hp) : ∃ v h', Ev lf (m + 4) 63 [.agg #[J a, J b], .agg #[J c, J d]] h = some (v, h') ∧ v = I (c2 (Int.ofNat a) (Int.ofNat b) (Int.ofNat c) (Int.ofNat d)) ∧ h.Ext h' := by
  refine fnS_ok (Q := fun v h' => v = I (c2 (Int.ofNat a) (Int.ofNat b) (Int.ofNat c) (Int.ofNat d)) ∧ h.Ext h') ?_
  have W := Sto.start h
  refine ow_new 0 W (AObj.cells [Value.int IntKind.i64 (Int.ofNat a), Value.int IntKind.i64 (Int.ofNat b)] 75 false) (fun q => Value.pointer (some { block := q, off := 0 })) (by kernel_rfl) fun g1 ng1 Wg1 => ?_
  have W := Wg1
  refine ow_new 0 W (AObj.cells [Value.int IntKind.i64 (Int.ofNat c), Value.int IntKind.i64 (Int.ofNat d)] 75 false) (fun q => Value.pointer (some { block := q, off := 0 })) (by kernel_rfl) fun g2 ng2 Wg2 => ?_
  have W := Wg2
  refine ow_load (P := Tryd.prog) (T := 3) (off := 0) 1 1 W rfl rfl (by kernel_rfl) (by kernel_rfl) ?_
  refine ow_load (P := Tryd.prog) (T := 3) (off := 1) 1 1 W rfl rfl (by kernel_rfl) (by kernel_rfl) ?_
  refine ow_new 0 W (AObj.cells [Value.int IntKind.i64 (Int.ofNat a), Value.int IntKind.i64 (Int.ofNat b)] 3 false) (fun q => Value.slice (some { block := q, off := 0 }) 2 4) (by kernel_rfl) fun g3 ng3 Wg3 => ?_
  have W := Wg3
  refine ow_load (P := Tryd.prog) (T := 3) (off := 0) 1 1 W rfl rfl (by kernel_rfl) (by kernel_rfl) ?_
  refine ow_load (P := Tryd.prog) (T := 3) (off := 1) 1 1 W rfl rfl (by kernel_rfl) (by kernel_rfl) ?_
  refine ow_new 0 W (AObj.cells [Value.int IntKind.i64 (Int.ofNat c), Value.int IntKind.i64 (Int.ofNat d)] 3 false) (fun q => Value.slice (some { block := q, off := 0 }) 2 4) (by kernel_rfl) fun g4 ng4 Wg4 => ?_
  have W := Wg4
  have e := cmp2_of lf m hlf (Int.ofNat a) (Int.ofNat b) (Int.ofNat c) (Int.ofNat d) (.slice (some ⟨g2.next, 0, none⟩) 2 4) (.slice (some ⟨g3.next, 0, none⟩) 2 4) g4 (rd_two (W.lt 1 rfl) (W.get 1 rfl)) (rd_two (W.lt 0 rfl) (W.get 0 rfl))
  refine sy_call 0 (by kernel_rfl) e ?_
  refine ok_go 0 ?_
  exact sy_done 0 (v := I (c2 (Int.ofNat a) (Int.ofNat b) (Int.ofNat c) (Int.ofNat d))) (h := g4) (by kernel_rfl) ⟨rfl, W.ext⟩
end Go.Proofs.YtnfboopfpkaeaaaDoor
namespace Go.Proofs.YtnfboopfpkaeaaaDoor
open Go Go.Eng Nim
set_option maxRecDepth 100000
set_option maxHeartbeats 4000000
def plt (p q : Nat × Nat) : Prop := p.1 < q.1 ∨ (p.1 = q.1 ∧ p.2 < q.2)
theorem cz_nat (a b : Nat) : cz (Int.ofNat a) (Int.ofNat b) = if a < b then -1 else if b < a then 1 else 0 := by
  unfold cz
  have h1 : (Int.ofNat a < Int.ofNat b) ↔ a < b := Int.ofNat_lt
  have h2 : (Int.ofNat a > Int.ofNat b) ↔ b < a := Int.ofNat_lt
  by_cases h : a < b
  · rw [if_pos (h1.2 h), if_pos h]
  · rw [if_neg (fun h' => h (h1.1 h')), if_neg h]
    by_cases h' : b < a
    · rw [if_pos (h2.2 h'), if_pos h']
    · rw [if_neg (fun h'' => h' (h2.1 h'')), if_neg h']
theorem c2_lt (p q : Nat × Nat) : c2 (Int.ofNat p.1) (Int.ofNat p.2) (Int.ofNat q.1) (Int.ofNat q.2) < 0 ↔ plt p q := by
  unfold c2 plt
  rw [cz_nat, cz_nat]
  by_cases h1 : p.1 < q.1 <;> by_cases h2 : q.1 < p.1 <;> by_cases h3 : p.2 < q.2 <;> by_cases h4 : q.2 < p.2 <;> simp [h1, h2, h3, h4] <;> omega
/-- Rising, as parts go. -/
def Srt (l : List (Nat × Nat)) : Prop := l.Pairwise fun p q => ¬ plt q p
theorem le_trans2 {a b c : Nat × Nat} (h1 : ¬ plt b a) (h2 : ¬ plt c b) : ¬ plt c a := by unfold plt at *; omega
theorem srt_in {L R : List (Nat × Nat)} {x : Nat × Nat} (h : Srt (L ++ R)) (hR : ∀ y ∈ R, plt x y) (hL : ∀ L' y, L = L' ++ [y] → ¬ plt x y) : Srt (L ++ x :: R) := by
  unfold Srt at *
  rw [List.pairwise_append] at h ⊢
  obtain ⟨h1, h2, h3⟩ := h
  have hLx : ∀ a ∈ L, ¬ plt x a := by
    rcases List.eq_nil_or_concat L with rfl | ⟨L', y, e⟩
    · intro a ha; cases ha
    · rw [List.concat_eq_append] at e
      subst e
      have hy := hL L' y rfl
      intro a ha
      rw [List.pairwise_append] at h1
      rcases List.mem_append.1 ha with ha | ha
      · exact le_trans2 (h1.2.2 a ha y (by simp)) hy
      · rw [List.mem_singleton.1 ha]; exact hy
  refine ⟨h1, List.pairwise_cons.2 ⟨fun y hy => ?_, h2⟩, fun a ha b hb => ?_⟩
  · have := hR y hy
    unfold plt at *
    omega
  · rcases List.mem_cons.1 hb with rfl | hb
    · exact hLx a ha
    · exact h3 a ha b hb
theorem flat2_set : ∀ (l : List (Nat × Nat)) (k : Nat) (p : Nat × Nat), k < l.length → splice (flat2 l) (k * 2) [J p.1, J p.2] = flat2 (l.set k p)
  | [], k, p, h => by simp at h
  | q :: r, 0, p, h => by simp [flat2, splice]
  | q :: r, k + 1, p, h => by
    have ih := flat2_set r k p (by simpa using h)
    have e : (k + 1) * 2 = k * 2 + 2 := by omega
    unfold splice at ih ⊢
    rw [e]
    simp only [flat2, List.take_succ_cons, List.cons_append, List.set_cons_succ]
    rw [← ih]
    congr 2
theorem rd2 {g : Hp} {i k c : Nat} {ps : List (Nat × Nat)} {o : Bool} {p : Nat × Nat} (hg : g.get i = some (.cells (flat2 ps) 75 o)) (hk : ps[k]? = some p) :
    indexAddrOp Tryd.prog 49 (.slice (some ⟨i, 0, none⟩) ps.length c) (J k) = some (ptr i (k * 2)) ∧ loadT Tryd.prog g 75 (ptr i (k * 2)) = some (.agg #[J p.1, J p.2]) := by
  have hlt : k < ps.length := (List.getElem?_eq_some_iff.1 hk).1
  refine ⟨by rw [idxSl s49.u s49.s hlt, Nat.zero_add], ?_⟩
  simp only [loadT, agP, s49.s, loadN, hg, flat2_at ps k p hk, takeN]
theorem st2 {g : Hp} {i k : Nat} {ps : List (Nat × Nat)} {o : Bool} {p : Nat × Nat} (hg : g.get i = some (.cells (flat2 ps) 75 o)) (hk : k < ps.length) :
    storeT Tryd.prog g 75 (ptr i (k * 2)) (.agg #[J p.1, J p.2]) = some (g.put i (.cells (flat2 (ps.set k p)) 75 o)) := by
  have h1 : Nat.beq (Value.agg #[J p.1, J p.2]).cells.size 2 = true := rfl
  have h2 : Nat.ble (k * 2 + [J p.1, J p.2].length) (flat2 ps).length = true := Nat.ble_eq_true_of_le (by rw [flat2_len]; show k * 2 + 2 ≤ _; omega)
  have h3 : (Value.agg #[J p.1, J p.2]).cells.toList = [J p.1, J p.2] := rfl
  have h4 : [J p.1, J p.2].all scalar = true := rfl
  simp only [ptr, storeT, s49.s, h1, h3, storeN, hg, h2, h4, flat2_set ps k p hk]
theorem take_in {α : Type} (l : List α) (k : Nat) (h : k < l.length) : l.take k ++ l[k] :: l.drop (k + 1) = l := by rw [← List.drop_eq_getElem_cons h, List.take_append_drop]
/-- Only one block has changed. -/
structure One (i : Nat) (h g : Hp) : Prop where
  next : h.next ≤ g.next
  get : ∀ j, j < h.next → j ≠ i → g.get j = h.get j
theorem One.refl (i : Nat) (h : Hp) : One i h h := ⟨Nat.le_refl _, fun _ _ _ => rfl⟩
theorem One.ext {i : Nat} {h g g' : Hp} (X : One i h g) (Y : g.Ext g') : One i h g' := ⟨Nat.le_trans X.next Y.next, fun j h1 h2 => (Y.get j (Nat.lt_of_lt_of_le h1 X.next)).trans (X.get j h1 h2)⟩
theorem One.put {i : Nat} {h g : Hp} (X : One i h g) (o : AObj) : One i h (g.put i o) := ⟨X.next, fun j h1 h2 => (Hp.get_put_ne h2).trans (X.get j h1 h2)⟩
theorem isort_of (lf m : Nat) (hlf : 300 ≤ lf) (i c : Nat) (o : Bool) (ps : List (Nat × Nat)) (hps : ps.length ≤ 12) (h : Hp) (hi : i < h.next) (gi : h.get i = some (.cells (flat2 ps) 75 o))
    (cm : ∀ a b c d h, ∃ v h', Ev lf m 63 [.agg #[J a, J b], .agg #[J c, J d]] h = some (v, h') ∧ v = I (c2 (Int.ofNat a) (Int.ofNat b) (Int.ofNat c) (Int.ofNat d)) ∧ h.Ext h') :
    ∃ v h', Ev lf (m + 1) 89 [.slice (some ⟨i, 0, none⟩) ps.length c, J 0, J ps.length, .func (.func 63) #[] #[]] h = some (v, h') ∧ One i h h' ∧ ∃ qs : List (Nat × Nat), qs.Perm ps ∧ Srt qs ∧ h'.get i = some (.cells (flat2 qs) 75 o) := by
  refine fnS_ok (Q := fun v h' => One i h h' ∧ ∃ qs : List (Nat × Nat), qs.Perm ps ∧ Srt qs ∧ h'.get i = some (.cells (flat2 qs) 75 o)) ?_
  generalize hn : ps.length = n at *
  refine ok_go 1 ?_
  refine sy_loop 0 lf h (α := Nat) (fun k => [(0, .slice (some ⟨i, 0, none⟩) n c), (1, J 0), (2, J n), (3, .func (.func 63) #[] #[]), (8, J k)])
    (fun k g => 1 ≤ k ∧ k ≤ n + 1 ∧ One i h g ∧ ∃ qs : List (Nat × Nat), qs.Perm ps ∧ Srt (qs.take k) ∧ g.get i = some (.cells (flat2 qs) 75 o)) (fun k _ => n + 1 - k) 1 (by kernel_rfl) (by kernel_rfl)
    ⟨by kernel_rfl, by kernel_rfl, by kernel_rfl, by kernel_rfl, by kernel_rfl, trivial⟩ (show n + 1 - 1 < lf by omega) ⟨Nat.le_refl _, by omega, One.refl i h, ps, List.Perm.refl _, by
      unfold Srt
      cases ps with
      | nil => exact List.Pairwise.nil
      | cons a r => simp, gi⟩ ?_
  rintro m1 k f1 g ⟨hk1, hk2, X, qs, P1, S1, G1⟩ ih
  have hql : qs.length = n := by rw [P1.length_eq, hn]
  refine ok_go 1 ?_
  refine sy_test 0 (decide (Int.ofNat k < Int.ofNat n)) (by kernel_rfl) ?_ ?_
  rotate_left
  · intro hlt
    have hlt := no_nat hlt
    rw [List.take_of_length_le (by omega)] at S1
    refine ok_go 0 ?_
    exact sy_done 0 (v := undef) (h := g) (by kernel_rfl) ⟨X, qs, P1, S1, G1⟩
  intro hlt
  have hlt := ok_nat hlt
  have hwk : IntKind.wrap .i64 (Int.ofNat (k + 1)) = Int.ofNat (k + 1) := wrap_nat (by omega)
  refine ok_go 0 ?_
  refine sy_loop 0 lf g (α := Nat) (fun j => [(0, .slice (some ⟨i, 0, none⟩) n c), (1, J 0), (2, J n), (3, .func (.func 63) #[] #[]), (8, J k), (9, J j)])
    (fun j g => j ≤ k ∧ One i h g ∧ ∃ (L R T : List (Nat × Nat)) (x : Nat × Nat), (L ++ x :: (R ++ T)).Perm ps ∧ L.length = j ∧ L.length + R.length = k ∧ Srt (L ++ R) ∧ (∀ y ∈ R, plt x y) ∧ g.get i = some (.cells (flat2 (L ++ x :: (R ++ T))) 75 o)) (fun j _ => j) k (by kernel_rfl) (by kernel_rfl)
    ⟨by kernel_rfl, by kernel_rfl, by kernel_rfl, by kernel_rfl, by kernel_rfl, by kernel_rfl, trivial⟩ (show k < lf by omega) ⟨Nat.le_refl _, X, qs.take k, [], qs.drop (k + 1), qs[k], by
      rw [List.nil_append, take_in qs k (by omega)]; exact P1, by rw [List.length_take]; omega, by rw [List.length_take]; simp; omega, by rw [List.append_nil]; exact S1, fun y hy => (by cases hy), by rw [List.nil_append, take_in qs k (by omega)]; exact G1⟩ ?_
  rintro m2 j f2 g ⟨hj, X, L, R, T, x, P2, l1, l2, S2, HR, G2⟩ ih2
  have hzl : (L ++ x :: (R ++ T)).length = n := by rw [P2.length_eq, hn]
  have leave : (∀ L' y, L = L' ++ [y] → ¬ plt x y) → Srt ((L ++ x :: (R ++ T)).take (k + 1)) := fun hL => by
    have e : (L ++ x :: (R ++ T)).take (k + 1) = L ++ x :: R := by
      rw [show L ++ x :: (R ++ T) = (L ++ x :: R) ++ T by simp, List.take_append_of_le_length (by simp; omega), List.take_of_length_le (by simp; omega)]
    rw [e]
    exact srt_in S2 HR hL
  refine ok_go 1 ?_
  refine sy_test 0 (decide (Int.ofNat j > Int.ofNat 0)) (by kernel_rfl) ?_ ?_
  rotate_left
  · intro hj0
    have hj0 : j = 0 := by have := of_decide_eq_false hj0; simp at this; omega
    have hLn : L = [] := List.eq_nil_of_length_eq_zero (by omega)
    have S3 := leave fun L' y e => absurd (hLn.symm.trans e) (by simp)
    refine ok_go 14 ?_
    exact sy_next 0 _ g (by kernel_rfl) (by kernel_rfl) (ih (k + 1) _ g ⟨by omega, by omega, X, _, P2, S3, G2⟩ (show n + 1 - (k + 1) < n + 1 - k by omega) ⟨by kernel_rfl, by kernel_rfl, by kernel_rfl, by kernel_rfl, (by kernel_rfl : _ = Value.int .i64 (IntKind.wrap .i64 (Int.ofNat (k + 1)))).trans (by rw [hwk]), trivial⟩)
  intro hj0
  have hj0 : 0 < j := by have := of_decide_eq_true hj0; simp at this; omega
  obtain ⟨L', y, rfl⟩ : ∃ L' y, L = L' ++ [y] := by
    rcases List.eq_nil_or_concat L with rfl | ⟨L', y, e⟩
    · simp at l1; omega
    · exact ⟨L', y, by rw [e, List.concat_eq_append]⟩
  have l1' : L'.length = j - 1 := by simp at l1; omega
  have hz0 : (L' ++ [y] ++ x :: (R ++ T))[j - 1]? = some y := by rw [← l1']; simp
  have hz1 : (L' ++ [y] ++ x :: (R ++ T))[j]? = some x := by rw [← l1]; simp
  have hwj : IntKind.wrap .i64 (Int.ofNat j - 1) = Int.ofNat (j - 1) := wrap_sub (b := 1) hj0 (by omega)
  obtain ⟨r1, r2⟩ := rd2 (c := c) G2 hz1
  obtain ⟨r3, r4⟩ := rd2 (c := c) G2 hz0
  rw [hzl] at r1 r3
  obtain ⟨_, g2, e5, rfl, X5⟩ := cm x.1 x.2 y.1 y.2 g
  have gl := c2_lt x y
  have X2 := X.ext X5
  have G3 : g2.get i = some (.cells (flat2 (L' ++ [y] ++ x :: (R ++ T))) 75 o) := by rw [X5.get i (by have := X.next; omega)]; exact G2
  refine ok_go 3 ?_
  refine sy_load 0 (h' := g) (by kernel_rfl) r1 ?_
  refine ok_go 1 ?_
  refine sy_load 0 (h' := g) (by kernel_rfl) r2 ?_
  refine ok_go 5 ?_
  refine sy_load 0 (r := indexAddrOp Tryd.prog 49 (.slice (some ⟨i, 0, none⟩) n c) (.int .i64 (IntKind.wrap .i64 (Int.ofNat j - 1)))) (h' := g) (by kernel_rfl) (by rw [hwj]; exact r3) ?_
  refine ok_go 1 ?_
  refine sy_load 0 (h' := g) (by kernel_rfl) r4 ?_
  refine ok_go 1 ?_
  refine sy_call 0 (by kernel_rfl) e5 ?_
  refine ok_go 3 ?_
  refine sy_test 0 (decide (c2 (Int.ofNat x.1) (Int.ofNat x.2) (Int.ofNat y.1) (Int.ofNat y.2) < 0)) (by kernel_rfl) ?_ ?_
  rotate_left
  · intro hc
    have hc : ¬ plt x y := fun hh => of_decide_eq_false hc (gl.2 hh)
    have S3 := leave fun L'' y' e => by
      have := List.append_inj_right' e rfl
      simp at this
      rw [← this]; exact hc
    refine ok_go 1 ?_
    exact sy_next 0 _ g2 (by kernel_rfl) (by kernel_rfl) (ih (k + 1) _ g2 ⟨by omega, by omega, X2, _, P2, S3, G3⟩ (show n + 1 - (k + 1) < n + 1 - k by omega) ⟨by kernel_rfl, by kernel_rfl, by kernel_rfl, by kernel_rfl, (by kernel_rfl : _ = Value.int .i64 (IntKind.wrap .i64 (Int.ofNat (k + 1)))).trans (by rw [hwk]), trivial⟩)
  intro hc
  have hc : plt x y := gl.1 (of_decide_eq_true hc)
  obtain ⟨r5, r6⟩ := rd2 (c := c) G3 hz1
  obtain ⟨r7, r8⟩ := rd2 (c := c) G3 hz0
  rw [hzl] at r5 r7
  have t1 := st2 (p := y) (k := j) G3 (by rw [hzl]; omega)
  have G4 : (g2.put i (.cells (flat2 ((L' ++ [y] ++ x :: (R ++ T)).set j y)) 75 o)).get i = some (.cells (flat2 ((L' ++ [y] ++ x :: (R ++ T)).set j y)) 75 o) := get_put _ _ _
  have t2 := st2 (p := x) (k := j - 1) G4 (by rw [List.length_set, hzl]; omega)
  have hset : ((L' ++ [y] ++ x :: (R ++ T)).set j y).set (j - 1) x = L' ++ x :: (y :: R ++ T) := by
    rw [← l1']
    have : j = L'.length + 1 := by omega
    rw [this]
    simp
  rw [hset] at t2
  have G5 := get_put (g2.put i (.cells (flat2 ((L' ++ [y] ++ x :: (R ++ T)).set j y)) 75 o)) i (.cells (flat2 (L' ++ x :: (y :: R ++ T))) 75 o)
  have X4 := (X2.put (.cells (flat2 ((L' ++ [y] ++ x :: (R ++ T)).set j y)) 75 o)).put (.cells (flat2 (L' ++ x :: (y :: R ++ T))) 75 o)
  refine ok_go 2 ?_
  refine sy_load 0 (r := indexAddrOp Tryd.prog 49 (.slice (some ⟨i, 0, none⟩) n c) (.int .i64 (IntKind.wrap .i64 (Int.ofNat j - 1)))) (h' := g2) (by kernel_rfl) (by rw [hwj]; exact r7) ?_
  refine sy_load 0 (h' := g2) (by kernel_rfl) r8 ?_
  refine ok_go 0 ?_
  refine sy_load 0 (h' := g2) (by kernel_rfl) r5 ?_
  refine sy_load 0 (h' := g2) (by kernel_rfl) r6 ?_
  refine ok_go 0 ?_
  refine sy_load 0 (h' := g2) (by kernel_rfl) r5 ?_
  refine ok_go 0 ?_
  refine sy_store 0 (h' := g2.put i (.cells (flat2 ((L' ++ [y] ++ x :: (R ++ T)).set j y)) 75 o)) (by kernel_rfl) t1 ?_
  refine ok_go 0 ?_
  refine sy_load 0 (r := indexAddrOp Tryd.prog 49 (.slice (some ⟨i, 0, none⟩) n c) (.int .i64 (IntKind.wrap .i64 (Int.ofNat j - 1)))) (h' := g2.put i (.cells (flat2 ((L' ++ [y] ++ x :: (R ++ T)).set j y)) 75 o)) (by kernel_rfl) (by rw [hwj]; exact r7) ?_
  refine ok_go 0 ?_
  refine sy_store 0 (h' := (g2.put i (.cells (flat2 ((L' ++ [y] ++ x :: (R ++ T)).set j y)) 75 o)).put i (.cells (flat2 (L' ++ x :: (y :: R ++ T))) 75 o)) (by kernel_rfl) t2 ?_
  refine ok_go 1 ?_
  exact sy_next 0 _ _ (by kernel_rfl) (by kernel_rfl) (ih2 (j - 1) _ _ ⟨by omega, X4, L', y :: R, T, x, (by
    have : (L' ++ x :: (y :: R ++ T)).Perm (L' ++ [y] ++ x :: (R ++ T)) := by
      simp only [List.append_assoc, List.cons_append, List.nil_append]
      exact List.Perm.append_left _ (List.Perm.swap _ _ _)
    exact this.trans P2), l1', by simp at l2 ⊢; omega, by simpa using S2, fun z hz => (by
      rcases List.mem_cons.1 hz with rfl | hz
      · exact hc
      · exact HR z hz), G5⟩ (show j - 1 < j by omega) ⟨by kernel_rfl, by kernel_rfl, by kernel_rfl, by kernel_rfl, by kernel_rfl, (by kernel_rfl : _ = Value.int .i64 (IntKind.wrap .i64 (Int.ofNat j - 1))).trans (by rw [hwj]), trivial⟩)
end Go.Proofs.YtnfboopfpkaeaaaDoor
namespace Go.Proofs.YtnfboopfpkaeaaaDoor
open Go Go.Eng Nim
set_option maxRecDepth 100000
set_option maxHeartbeats 4000000
theorem pdq_of (lf m : Nat) (hlf : 300 ≤ lf) (i c : Nat) (o : Bool) (ps : List (Nat × Nat)) (hps : ps.length ≤ 12) (k : Nat) (h : Hp)
    (is : ∃ v h', Ev lf m 89 [.slice (some ⟨i, 0, none⟩) ps.length c, J 0, J ps.length, .func (.func 63) #[] #[]] h = some (v, h') ∧ One i h h' ∧ ∃ qs : List (Nat × Nat), qs.Perm ps ∧ Srt qs ∧ h'.get i = some (.cells (flat2 qs) 75 o)) :
    ∃ v h', Ev lf (m + 1) 80 [.slice (some ⟨i, 0, none⟩) ps.length c, J 0, J ps.length, J k, .func (.func 63) #[] #[]] h = some (v, h') ∧ One i h h' ∧ ∃ qs : List (Nat × Nat), qs.Perm ps ∧ Srt qs ∧ h'.get i = some (.cells (flat2 qs) 75 o) := by
  refine fnS_ok (Q := fun v h' => One i h h' ∧ ∃ qs : List (Nat × Nat), qs.Perm ps ∧ Srt qs ∧ h'.get i = some (.cells (flat2 qs) 75 o)) ?_
  obtain ⟨v, h', e, X⟩ := is
  generalize hn : ps.length = n at *
  refine ok_go 0 ?_
  refine sy_loop 0 lf h (α := Nat) (fun _ => [(0, .slice (some ⟨i, 0, none⟩) n c), (1, J 0), (2, J n), (3, J k), (4, .func (.func 63) #[] #[])]) (fun _ g => g = h) (fun _ _ => 0) 0 (by kernel_rfl) (by kernel_rfl)
    ⟨by kernel_rfl, by kernel_rfl, by kernel_rfl, by kernel_rfl, by kernel_rfl, trivial⟩ (show 0 < lf by omega) rfl ?_
  rintro m1 _ f1 g rfl ih
  refine ok_go 2 ?_
  have hw : IntKind.wrap .i64 (Int.ofNat n - Int.ofNat 0) = Int.ofNat n := wrap_sub (b := 0) (by omega) (by omega)
  refine sy_yes 0 (b := decide (IntKind.wrap .i64 (Int.ofNat n - Int.ofNat 0) ≤ 12)) (by kernel_rfl) (decide_eq_true (by rw [hw]; show (n : Int) ≤ 12; omega)) ?_
  refine ok_go 0 ?_
  refine sy_call 0 (by kernel_rfl) e ?_
  refine ok_go 0 ?_
  exact sy_done 0 (v := undef) (h := h') (by kernel_rfl) X
theorem len_of (m n : Nat) (hn : n ≤ 12) (h : Hp) : ∃ k, Ev 100000 (m + 10) 68 [.int .u64 (Int.ofNat n)] h = some (J k, h) := by
  rcases (by omega : n = 0 ∨ n = 1 ∨ n = 2 ∨ n = 3 ∨ n = 4 ∨ n = 5 ∨ n = 6 ∨ n = 7 ∨ n = 8 ∨ n = 9 ∨ n = 10 ∨ n = 11 ∨ n = 12) with rfl | rfl | rfl | rfl | rfl | rfl | rfl | rfl | rfl | rfl | rfl | rfl | rfl
  · exact ⟨0, by kernel_rfl⟩
  · exact ⟨1, by kernel_rfl⟩
  · exact ⟨2, by kernel_rfl⟩
  · exact ⟨2, by kernel_rfl⟩
  · exact ⟨3, by kernel_rfl⟩
  · exact ⟨3, by kernel_rfl⟩
  · exact ⟨3, by kernel_rfl⟩
  · exact ⟨3, by kernel_rfl⟩
  · exact ⟨4, by kernel_rfl⟩
  · exact ⟨4, by kernel_rfl⟩
  · exact ⟨4, by kernel_rfl⟩
  · exact ⟨4, by kernel_rfl⟩
  · exact ⟨4, by kernel_rfl⟩
theorem sort_of (lf m : Nat) (hlf : 300 ≤ lf) (i c : Nat) (o : Bool) (ps : List (Nat × Nat)) (hps : ps.length ≤ 12) (h : Hp)
    (ln : ∃ k, Ev lf m 68 [.int .u64 (Int.ofNat ps.length)] h = some (J k, h))
    (pd : ∀ k, ∃ v h', Ev lf m 80 [.slice (some ⟨i, 0, none⟩) ps.length c, J 0, J ps.length, J k, .func (.func 63) #[] #[]] h = some (v, h') ∧ One i h h' ∧ ∃ qs : List (Nat × Nat), qs.Perm ps ∧ Srt qs ∧ h'.get i = some (.cells (flat2 qs) 75 o)) :
    ∃ v h', Ev lf (m + 1) 62 [.slice (some ⟨i, 0, none⟩) ps.length c, .func (.func 63) #[] #[]] h = some (v, h') ∧ One i h h' ∧ ∃ qs : List (Nat × Nat), qs.Perm ps ∧ Srt qs ∧ h'.get i = some (.cells (flat2 qs) 75 o) := by
  refine fnS_ok (Q := fun v h' => One i h h' ∧ ∃ qs : List (Nat × Nat), qs.Perm ps ∧ Srt qs ∧ h'.get i = some (.cells (flat2 qs) 75 o)) ?_
  obtain ⟨k, ln⟩ := ln
  obtain ⟨v, h', e, X⟩ := pd k
  generalize hn : ps.length = n at *
  have hu : IntKind.wrap .u64 (Int.ofNat n) = Int.ofNat n := u64_nat (by omega)
  refine ok_go 2 ?_
  refine sy_call 0 (r := Ev lf m 68 [.int .u64 (IntKind.wrap .u64 (Int.ofNat n))] h) (by kernel_rfl) (by rw [hu]; exact ln) ?_
  refine ok_go 0 ?_
  refine sy_call 0 (by kernel_rfl) e ?_
  refine ok_go 0 ?_
  exact sy_done 0 (v := undef) (h := h') (by kernel_rfl) X
end Go.Proofs.YtnfboopfpkaeaaaDoor
namespace Go.Proofs.YtnfboopfpkaeaaaDoor
open Go Go.Eng Nim
set_option maxRecDepth 100000
set_option maxHeartbeats 4000000
/-- A slice of pairs, by its block. -/
def Sl2 (h : Hp) (e : TypeId) (v : Value) (ps : List (Nat × Nat)) : Prop := ∃ i, v = oslV i ps.length ∧ Hold h (oent i e (flat2 ps))
theorem Sl2.ext {h g : Hp} {e : TypeId} {v : Value} {ps : List (Nat × Nat)} (H : Sl2 h e v ps) (X : h.Ext g) : Sl2 g e v ps := by
  obtain ⟨i, e1, K⟩ := H
  exact ⟨i, e1, K.ext X⟩
theorem Sl2.of {h : Hp} {e : TypeId} {v : Value} {ps : List (Nat × Nat)} (H : OpenP h e v ps) : Sl2 h e v ps := by
  rcases H with ⟨rfl, rfl⟩ | ⟨i, rfl, hne, hi, hg⟩
  · exact ⟨0, rfl, fun p hp => (by cases hp)⟩
  · cases ps with
    | nil => exact absurd rfl hne
    | cons p r => exact ⟨i, rfl, fun q hq => by
        have : q = (i, .cells (flat2 (p :: r)) e true) := List.mem_singleton.1 hq
        subst this
        exact ⟨hi, hg⟩⟩
theorem Sl2.open_ {h : Hp} {e : TypeId} {v : Value} {ps : List (Nat × Nat)} (H : Sl2 h e v ps) : OpenP h e v ps := by
  obtain ⟨i, rfl, K⟩ := H
  cases ps with
  | nil => exact .inl ⟨rfl, rfl⟩
  | cons p r =>
    obtain ⟨h1, h2⟩ := K (i, .cells (flat2 (p :: r)) e true) (List.mem_singleton.2 rfl)
    exact .inr ⟨i, rfl, by simp, h1, h2⟩
theorem flat2_all : ∀ l, (flat2 l).all scalar = true
  | [] => rfl
  | p :: r => by
    show (scalar (J p.1) && (scalar (J p.2) && (flat2 r).all scalar)) = true
    rw [flat2_all r]
    rfl
theorem app_new {g : Hp} {q i : Nat} {p : Nat × Nat} {r : List (Nat × Nat)} (hr : r.length < 4000) (hq : g.get q = some (.cells [] 75 false)) (hg : g.get i = some (.cells (flat2 (p :: r)) 75 true)) :
    appendOp Tryd.prog g 49 (.slice (some ⟨q, 0, none⟩) 0 0) (oslV i (r.length + 1)) = some (oslV g.next (r.length + 1), g.new (.cells (flat2 (p :: r)) 75 true)) := by
  obtain ⟨inf, hi1, hi2⟩ := s49.i
  obtain ⟨z, hz1, hz2⟩ := s49.z
  have hl := flat2_len (p :: r)
  have hel : elems g 2 (r.length + 1) (oslV i (r.length + 1)) = some (flat2 (p :: r)) := by
    simp only [elems, oslV, loadN, hg, List.drop_zero]
    rw [show (r.length + 1) * 2 = (flat2 (p :: r)).length by rw [hl]; rfl]
    exact takeN_all _
  have hall := flat2_all (p :: r)
  have h1 : Nat.ble (r.length + 1) most = true := Nat.ble_eq_true_of_le (by unfold most; omega)
  have h2 : Nat.ble (r.length + 1) (0 / 2) = false := by
    cases hb : Nat.ble (r.length + 1) (0 / 2) with
    | false => rfl
    | true => have := Nat.le_of_ble_eq_true hb; omega
  have h3 : loadN g q 0 (0 * 2) = some [] := by simp only [loadN, hq]; rfl
  have h4 : Nat.beq (0 % 2) 0 = true := rfl
  simp only [appendOp, s49.u, s49.s, hi1, hz1, oslV_len, hel, hz2, hi2, hall, h1, h2, h3, h4, Nat.zero_add, List.nil_append]
  rfl
theorem clone_of (lf m : Nat) (i : Nat) (ps : List (Nat × Nat)) (hps : ps.length < 4000) (h : Hp) (K : Hold h (oent i 75 (flat2 ps))) :
    ∃ y h', Ev lf (m + 1) 61 [oslV i ps.length] h = some (y, h') ∧ ∃ i', y = oslV i' ps.length ∧ Sto h h' (oent i' 75 (flat2 ps)) := by
  refine fnS_ok (Q := fun y h' => ∃ i', y = oslV i' ps.length ∧ Sto h h' (oent i' 75 (flat2 ps))) ?_
  have W := Sto.start h
  cases ps with
  | nil =>
    refine ok_go 2 ?_
    exact sy_done 0 (v := .slice none 0 0) (h := h) (by kernel_rfl) ⟨0, rfl, W⟩
  | cons p r =>
    have hr : r.length < 4000 := by simp at hps; omega
    obtain ⟨k1, k2⟩ := K (i, .cells (flat2 (p :: r)) 75 true) (List.mem_singleton.2 rfl)
    refine ow_new 2 W (AObj.cells [] 75 false) (fun q => Value.slice (some { block := q, off := 0 }) 0 0) (by kernel_rfl) fun g1 ng1 Wg1 => ?_
    have W := Wg1
    have hg1 : g1.get i = some (.cells (flat2 (p :: r)) 75 true) := (W.ext.get i k1).trans k2
    refine ow_new 0 W (.cells (flat2 (p :: r)) 75 true) (fun q => oslV q (r.length + 1)) ((by kernel_rfl : _ = appendOp Tryd.prog g1 49 (.slice (some ⟨h.next, 0, none⟩) 0 0) (oslV i (r.length + 1))).trans (app_new hr (W.get 0 rfl) hg1)) fun g2 ng2 W => ?_
    refine ok_go 0 ?_
    exact sy_done 0 (v := oslV g1.next (r.length + 1)) (h := g2) (by kernel_rfl) ⟨g1.next, rfl, W.take 1⟩
end Go.Proofs.YtnfboopfpkaeaaaDoor
namespace Go.Proofs.YtnfboopfpkaeaaaDoor
open Go Go.Eng Nim
set_option maxRecDepth 100000
set_option maxHeartbeats 4000000
def inP (p : Nat × Nat) (x : Nat) : Bool := x &&& p.1 == p.2
theorem One.after {i : Nat} {h g g' : Hp} (X : h.Ext g) (Y : One i g g') : One i h g' := ⟨Nat.le_trans X.next Y.next, fun j h1 h2 => (Y.get j (Nat.lt_of_lt_of_le h1 X.next) h2).trans (X.get j h1)⟩
/-- What a search has told. -/
def Fnd (bo : Nat) (res : List (Nat × Nat)) (h' : Hp) : Prop := ∃ qs : List (Nat × Nat), qs.Perm res ∧ Srt qs ∧ ∃ v, h'.get bo = some (.cells [v] 49 false) ∧ Sl2 h' 75 v qs
def CR (bo : Nat) (h : Hp) (y : Value) (h' : Hp) : Option (List (Nat × Nat)) → Prop
  | none => y = .bool false ∧ h.Ext h'
  | some res => y = .bool true ∧ One bo h h' ∧ Fnd bo res h'
/-- What a closure of a search holds. -/
def BL (a1 a2 a3 a4 a5 a6 x n : Nat) (F l s bo : Value) : List (Nat × AObj) := [(a1, .cells [J x] 3 false), (a6, .cells [bo] 70 false), (a5, .cells [J n] 3 false), (a4, .cells [s] 49 false), (a3, .cells [l] 49 false), (a2, .cells [F] 24 false)]
theorem slz49 : SlTz Tryd.prog 49 75 2 := ⟨by kernel_rfl, by kernel_rfl, ⟨_, rfl, by kernel_rfl⟩, ⟨_, rfl, by kernel_rfl⟩, by decide⟩
theorem cl_of (lf m : Nat) (hlf : 300 ≤ lf) (b0 N c : Nat) (a1 a2 a3 a4 a5 a6 x n bo : Nat) (hx : x < 64) (hn : n < 64) (l : Value) (is : Nat) (sm : List (Nat × Nat)) (hsm : sm.length < 4000) (p : Nat × Nat) (s : Value) (hs : s = oslV is sm.length) (h g : Hp) (Kh : Hold h (oent is 75 (flat2 sm)))
    (W : Sto h g (BL a1 a2 a3 a4 a5 a6 x (n + 1) (.slice (some ⟨b0, 0, none⟩) N c) l s (ptr bo 0))) (r : Option (List (Nat × Nat)))
    (cl : ∀ h, Hold h (oent is 75 (flat2 sm)) → ∃ y h', Ev lf m 61 [s] h = some (y, h') ∧ ∃ i', y = oslV i' sm.length ∧ Sto h h' (oent i' 75 (flat2 sm)))
    (rc : ∀ h' i', h.Ext h' → Hold h' (oent i' 75 (flat2 (sm ++ [p]))) → ∃ y h'', Ev lf m 32 [.slice (some ⟨b0, 0, none⟩) N c, l, oslV i' (sm.length + 1), J n, ptr bo 0] h' = some (y, h'') ∧ CR bo h' y h'' r) :
    ∃ y g', Ev lf (m + 1) 65 [.agg #[J p.1, J p.2], ptr a1 0, ptr a2 0, ptr a3 0, ptr a4 0, ptr a5 0, ptr a6 0] g = some (y, g') ∧
      ((y = .bool false ∧ (inP p x = true → r = none) ∧ Sto h g' (BL a1 a2 a3 a4 a5 a6 x (n + 1) (.slice (some ⟨b0, 0, none⟩) N c) l s (ptr bo 0))) ∨ (y = .bool true ∧ inP p x = true ∧ ∃ res, r = some res ∧ One bo h g' ∧ Fnd bo res g')) := by
  refine fnS_ok (Q := fun y g' => ((y = .bool false ∧ (inP p x = true → r = none) ∧ Sto h g' (BL a1 a2 a3 a4 a5 a6 x (n + 1) (.slice (some ⟨b0, 0, none⟩) N c) l s (ptr bo 0))) ∨ (y = .bool true ∧ inP p x = true ∧ ∃ res, r = some res ∧ One bo h g' ∧ Fnd bo res g'))) ?_
  have hand : (andI (Int.ofNat x) (Int.ofNat p.1) == Int.ofNat p.2) = inP p x := by rw [and_nat (by omega), eq_int]; rfl
  unfold BL at *
  refine ow_new 0 W (AObj.cells [Value.int IntKind.i64 (Int.ofNat (Prod.fst p)), Value.int IntKind.i64 (Int.ofNat (Prod.snd p))] 75 false) (fun q => Value.pointer (some { block := q, off := 0 })) (by kernel_rfl) fun q1 nq1 Wq1 => ?_
  have W := Wq1
  refine ow_load (P := Tryd.prog) (T := 3) (off := 0) 0 1 W rfl rfl (by kernel_rfl) (by kernel_rfl) ?_
  refine ow_load (P := Tryd.prog) (T := 3) (off := 0) 1 0 W rfl rfl (by kernel_rfl) (by kernel_rfl) ?_
  refine ow_load (P := Tryd.prog) (T := 3) (off := 1) 2 0 W rfl rfl (by kernel_rfl) (by kernel_rfl) ?_
  refine ok_go 1 ?_
  have Wq1 := W
  refine sy_test 0 (andI (Int.ofNat x) (Int.ofNat p.1) == Int.ofNat p.2) (by kernel_rfl) ?_ ?_
  rotate_left
  · intro hc
    rw [hand] at hc
    refine ok_go 10 ?_
    refine sy_need 0 [] [] (by kernel_rfl) trivial ?_
    refine ok_go 0 ?_
    exact sy_done 0 (v := .bool false) (h := q1) (by kernel_rfl) (.inl ⟨rfl, (fun hh => by rw [hc] at hh; cases hh), W.drop 1⟩)
  intro hc
  rw [hand] at hc
  refine ow_load (P := Tryd.prog) (T := 24) (off := 0) 0 6 W rfl rfl (by kernel_rfl) (by kernel_rfl) ?_
  refine ow_load (P := Tryd.prog) (T := 49) (off := 0) 1 5 W rfl rfl (by kernel_rfl) (by kernel_rfl) ?_
  refine ow_load (P := Tryd.prog) (T := 49) (off := 0) 1 4 W rfl rfl (by kernel_rfl) (by kernel_rfl) ?_
  refine ok_go 1 ?_
  obtain ⟨y, h1, e1, i', hy, V⟩ := cl q1 (Kh.ext W.ext)
  refine sy_call 0 (by kernel_rfl) e1 ?_
  have W := (W.over V).perm List.perm_append_comm
  have Wh1 := W
  refine ow_loadA (P := Tryd.prog) (T := 75) (z := 2) 1 0 W rfl (by kernel_rfl) (by kernel_rfl) rfl (by kernel_rfl) ?_
  refine ow_new 1 W (AObj.cells [Value.int IntKind.i64 (Int.ofNat (Prod.fst p)), Value.int IntKind.i64 (Int.ofNat (Prod.snd p))] 75 false) (fun q => Value.slice (some { block := q, off := 0 }) 1 2) (by kernel_rfl) fun q3 nq3 Wq3 => ?_
  have W := Wq3
  refine ow_app 0 W slz49 (zs := flat2 sm) (c := sm.length) (new := [J p.1, J p.2]) (flat2_len sm) rfl rfl (by omega) ((by kernel_rfl : _ = appendOp Tryd.prog q3 49 y (.slice (some ⟨h1.next, 0, none⟩) 1 2)).trans (by rw [hy])) fun q4 sl nq4 hsl hsc W => ?_
  rw [← flat2_app sm p] at W
  have Wq4 := W
  refine ow_load (P := Tryd.prog) (T := 3) (off := 0) 1 3 W rfl rfl (by kernel_rfl) (by kernel_rfl) ?_
  refine ow_load (P := Tryd.prog) (T := 70) (off := 0) 3 2 W rfl rfl (by kernel_rfl) (by kernel_rfl) ?_
  refine ok_go 1 ?_
  have hwn : IntKind.wrap .i64 (Int.ofNat (n + 1) - 1) = Int.ofNat n := wrap_sub (b := 1) (by omega) (by omega)
  obtain ⟨y2, h2, e2, C⟩ := rc q4 q3.next W.ext (W.hold.sub fun z hz => List.mem_append_right _ hz)
  refine sy_call 0 (r := Ev lf m 32 [.slice (some ⟨b0, 0, none⟩) N c, l, sl, .int .i64 (IntKind.wrap .i64 (Int.ofNat (n + 1) - 1)), ptr bo 0] q4) (by kernel_rfl) (by rw [hwn, hsl]; exact e2) ?_
  cases r with
  | none =>
    obtain ⟨rfl, X⟩ := C
    have W := W.call X
    have Wh2 := W
    refine ok_go 1 ?_
    refine sy_need 0 [] [⟨(loadT Tryd.prog h1 24 (ptr (a2) (0))).map (·, h1), Value.slice (some { block := b0, off := 0 }) N c, h1⟩, ⟨(loadT Tryd.prog q4 24 (ptr (a2) (0))).map (·, q4), Value.slice (some { block := b0, off := 0 }) N c, q4⟩, ⟨(loadT Tryd.prog h1 49 (ptr (a3) (0))).map (·, h1), l, h1⟩, ⟨(loadT Tryd.prog q4 49 (ptr (a3) (0))).map (·, q4), l, q4⟩, ⟨(loadT Tryd.prog q1 75 (ptr (Hp.next g) (0))).map (·, q1), Value.agg { toList := [Value.int IntKind.i64 (Int.ofNat (Prod.fst p)), Value.int IntKind.i64 (Int.ofNat (Prod.snd p))] }, q1⟩, ⟨(loadT Tryd.prog q1 3 (ptr (a5) (0))).map (·, q1), Value.int IntKind.i64 (Int.ofNat (n + 1)), q1⟩, ⟨(loadT Tryd.prog h1 3 (ptr (a5) (0))).map (·, h1), Value.int IntKind.i64 (Int.ofNat (n + 1)), h1⟩, ⟨(loadT Tryd.prog q1 70 (ptr (a6) (0))).map (·, q1), Value.pointer (some { block := bo, off := 0 }), q1⟩, ⟨(loadT Tryd.prog h1 70 (ptr (a6) (0))).map (·, h1), Value.pointer (some { block := bo, off := 0 }), h1⟩] (by kernel_rfl) ⟨ob_load (P := Tryd.prog) (T := 24) (k := 6) Wh1 rfl rfl (by kernel_rfl), ob_load (P := Tryd.prog) (T := 24) (k := 6) Wq4 rfl rfl (by kernel_rfl), ob_load (P := Tryd.prog) (T := 49) (k := 5) Wh1 rfl rfl (by kernel_rfl), ob_load (P := Tryd.prog) (T := 49) (k := 5) Wq4 rfl rfl (by kernel_rfl), ob_loadA (P := Tryd.prog) (T := 75) (k := 0) (z := 2) Wq1 rfl (by kernel_rfl) (by kernel_rfl) rfl, ob_load (P := Tryd.prog) (T := 3) (k := 3) Wq1 rfl rfl (by kernel_rfl), ob_load (P := Tryd.prog) (T := 3) (k := 3) Wh1 rfl rfl (by kernel_rfl), ob_load (P := Tryd.prog) (T := 70) (k := 2) Wq1 rfl rfl (by kernel_rfl), ob_load (P := Tryd.prog) (T := 70) (k := 2) Wh1 rfl rfl (by kernel_rfl), trivial⟩ ?_
    refine ok_go 0 ?_
    exact sy_done 0 (v := .bool false) (h := h2) (by kernel_rfl) (.inl ⟨rfl, (fun _ => rfl), ((W.sub (List.sublist_append_left _ _)).drop 1)⟩)
  | some res =>
    obtain ⟨rfl, X, Fd⟩ := C
    refine ok_go 1 ?_
    refine sy_need 0 [] [⟨(loadT Tryd.prog h1 24 (ptr (a2) (0))).map (·, h1), Value.slice (some { block := b0, off := 0 }) N c, h1⟩, ⟨(loadT Tryd.prog q4 24 (ptr (a2) (0))).map (·, q4), Value.slice (some { block := b0, off := 0 }) N c, q4⟩, ⟨(loadT Tryd.prog h1 49 (ptr (a3) (0))).map (·, h1), l, h1⟩, ⟨(loadT Tryd.prog q4 49 (ptr (a3) (0))).map (·, q4), l, q4⟩, ⟨(loadT Tryd.prog q1 75 (ptr (Hp.next g) (0))).map (·, q1), Value.agg { toList := [Value.int IntKind.i64 (Int.ofNat (Prod.fst p)), Value.int IntKind.i64 (Int.ofNat (Prod.snd p))] }, q1⟩, ⟨(loadT Tryd.prog q1 3 (ptr (a5) (0))).map (·, q1), Value.int IntKind.i64 (Int.ofNat (n + 1)), q1⟩, ⟨(loadT Tryd.prog h1 3 (ptr (a5) (0))).map (·, h1), Value.int IntKind.i64 (Int.ofNat (n + 1)), h1⟩, ⟨(loadT Tryd.prog q1 70 (ptr (a6) (0))).map (·, q1), Value.pointer (some { block := bo, off := 0 }), q1⟩, ⟨(loadT Tryd.prog h1 70 (ptr (a6) (0))).map (·, h1), Value.pointer (some { block := bo, off := 0 }), h1⟩] (by kernel_rfl) ⟨ob_load (P := Tryd.prog) (T := 24) (k := 6) Wh1 rfl rfl (by kernel_rfl), ob_load (P := Tryd.prog) (T := 24) (k := 6) Wq4 rfl rfl (by kernel_rfl), ob_load (P := Tryd.prog) (T := 49) (k := 5) Wh1 rfl rfl (by kernel_rfl), ob_load (P := Tryd.prog) (T := 49) (k := 5) Wq4 rfl rfl (by kernel_rfl), ob_loadA (P := Tryd.prog) (T := 75) (k := 0) (z := 2) Wq1 rfl (by kernel_rfl) (by kernel_rfl) rfl, ob_load (P := Tryd.prog) (T := 3) (k := 3) Wq1 rfl rfl (by kernel_rfl), ob_load (P := Tryd.prog) (T := 3) (k := 3) Wh1 rfl rfl (by kernel_rfl), ob_load (P := Tryd.prog) (T := 70) (k := 2) Wq1 rfl rfl (by kernel_rfl), ob_load (P := Tryd.prog) (T := 70) (k := 2) Wh1 rfl rfl (by kernel_rfl), trivial⟩ ?_
    refine ok_go 0 ?_
    exact sy_done 0 (v := .bool true) (h := h2) (by kernel_rfl) (.inr ⟨rfl, hc, res, rfl, One.after W.ext X, Fd⟩)
end Go.Proofs.YtnfboopfpkaeaaaDoor
namespace Go.Proofs.YtnfboopfpkaeaaaDoor
open Go Go.Eng Nim
set_option maxRecDepth 100000
set_option maxHeartbeats 4000000
theorem find_skip {α : Type} {L : List (Nat × Nat)} {r : Nat × Nat → Option α} {k : Nat} (hk : k < L.length) (h : r L[k] = none) : (L.drop k).findSome? r = (L.drop (k + 1)).findSome? r := by
  rw [List.drop_eq_getElem_cons hk, List.findSome?_cons, h]
theorem find_hit {α : Type} {L : List (Nat × Nat)} {r : Nat × Nat → Option α} {k : Nat} {res : α} (hk : k < L.length) (h : r L[k] = some res) : (L.drop k).findSome? r = some res := by
  rw [List.drop_eq_getElem_cons hk, List.findSome?_cons, h]
theorem idx_of {α : Type} (lf m : Nat) (hlf : 5000 ≤ lf) (a1 a2 a3 a4 a5 a6 : Nat) (l : Value) (L : List (Nat × Nat)) (hL : L.length ≤ 4200) (r : Nat × Nat → Option α) (IV : Hp → Prop) (E : α → Hp → Prop) (hI : ∀ g, IV g → Sl2 g 75 l L)
    (hy : ∀ p g, p ∈ L → IV g → ∃ y g', Ev lf m 65 [.agg #[J p.1, J p.2], ptr a1 0, ptr a2 0, ptr a3 0, ptr a4 0, ptr a5 0, ptr a6 0] g = some (y, g') ∧ ((y = .bool false ∧ r p = none ∧ IV g') ∨ (y = .bool true ∧ ∃ res, r p = some res ∧ E res g'))) (h : Hp) (h0 : IV h) :
    ∃ y h', Ev lf (m + 1) 81 [l, .func (.func 65) #[] #[ptr a1 0, ptr a2 0, ptr a3 0, ptr a4 0, ptr a5 0, ptr a6 0]] h = some (y, h') ∧ ((y = I (-1) ∧ L.findSome? r = none ∧ IV h') ∨ (∃ k res, y = J k ∧ L.findSome? r = some res ∧ E res h')) := by
  refine fnS_ok (Q := fun y h' => ((y = I (-1) ∧ L.findSome? r = none ∧ IV h') ∨ (∃ k res, y = J k ∧ L.findSome? r = some res ∧ E res h'))) ?_
  have hl := (hI h h0).open_.shape
  obtain ⟨la, lc, rfl⟩ := hl
  refine ok_go 1 ?_
  refine sy_loop 0 lf h (α := Nat) (fun k => [(0, .slice la L.length lc), (1, .func (.func 65) #[] #[ptr a1 0, ptr a2 0, ptr a3 0, ptr a4 0, ptr a5 0, ptr a6 0]), (7, J L.length), (8, J k)])
    (fun k g => k ≤ L.length ∧ IV g ∧ L.findSome? r = (L.drop k).findSome? r) (fun k _ => L.length - k) 0 (by kernel_rfl) (by kernel_rfl) ⟨by kernel_rfl, by kernel_rfl, by kernel_rfl, by kernel_rfl, trivial⟩ (show L.length - 0 < lf by omega) ⟨Nat.zero_le _, h0, rfl⟩ ?_
  rintro m1 k f1 g ⟨hk, hg, hf⟩ ih
  refine ok_go 1 ?_
  refine sy_test 0 (decide (Int.ofNat k < Int.ofNat L.length)) (by kernel_rfl) ?_ ?_
  rotate_left
  · intro hlt
    have hlt := no_nat hlt
    obtain rfl : k = L.length := by omega
    refine ok_go 0 ?_
    exact sy_done 0 (v := I (-1)) (h := g) (by kernel_rfl) (.inl ⟨rfl, by rw [hf, List.drop_length]; rfl, hg⟩)
  intro hlt
  have hlt := ok_nat hlt
  have hwk : IntKind.wrap .i64 (Int.ofNat (k + 1)) = Int.ofNat (k + 1) := wrap_nat (by omega)
  obtain ⟨q, e1, e2⟩ := (hI g hg).open_.read s49 agP (List.getElem?_eq_getElem hlt)
  obtain ⟨y, g2, e3, C⟩ := hy L[k] g (List.getElem_mem hlt) hg
  refine ok_go 0 ?_
  refine sy_load 0 (h' := g) (by kernel_rfl) e1 ?_
  refine sy_load 0 (h' := g) (by kernel_rfl) e2 ?_
  refine sy_call 0 (by kernel_rfl) e3 ?_
  rcases C with ⟨rfl, hr, hg2⟩ | ⟨rfl, res, hr, hE⟩
  · refine ok_go 2 ?_
    exact sy_next 0 _ g2 (by kernel_rfl) (by kernel_rfl) (ih (k + 1) _ g2 ⟨hlt, hg2, by rw [hf, find_skip hlt hr]⟩ (show L.length - (k + 1) < L.length - k by omega) ⟨by kernel_rfl, by kernel_rfl, by kernel_rfl, (by kernel_rfl : _ = Value.int .i64 (IntKind.wrap .i64 (Int.ofNat (k + 1)))).trans (by rw [hwk]), trivial⟩)
  · refine ok_go 1 ?_
    exact sy_done 0 (v := J k) (h := g2) (by kernel_rfl) (.inr ⟨k, res, rfl, by rw [hf, find_hit hlt hr], hE⟩)
theorem con_of {α : Type} (lf m : Nat) (a1 a2 a3 a4 a5 a6 : Nat) (l : Value) (L : List (Nat × Nat)) (r : Nat × Nat → Option α) (IV : Hp → Prop) (E : α → Hp → Prop) (h : Hp)
    (ix : ∃ y h', Ev lf m 81 [l, .func (.func 65) #[] #[ptr a1 0, ptr a2 0, ptr a3 0, ptr a4 0, ptr a5 0, ptr a6 0]] h = some (y, h') ∧ ((y = I (-1) ∧ L.findSome? r = none ∧ IV h') ∨ (∃ k res, y = J k ∧ L.findSome? r = some res ∧ E res h'))) :
    ∃ y h', Ev lf (m + 1) 64 [l, .func (.func 65) #[] #[ptr a1 0, ptr a2 0, ptr a3 0, ptr a4 0, ptr a5 0, ptr a6 0]] h = some (y, h') ∧ ((y = .bool false ∧ L.findSome? r = none ∧ IV h') ∨ (y = .bool true ∧ ∃ res, L.findSome? r = some res ∧ E res h')) := by
  refine fnS_ok (Q := fun y h' => ((y = .bool false ∧ L.findSome? r = none ∧ IV h') ∨ (y = .bool true ∧ ∃ res, L.findSome? r = some res ∧ E res h'))) ?_
  obtain ⟨y, g, e, C⟩ := ix
  refine ok_go 0 ?_
  refine sy_call 0 (by kernel_rfl) e ?_
  rcases C with ⟨rfl, hr, hg⟩ | ⟨k, res, rfl, hr, hE⟩
  · refine ok_go 1 ?_
    exact sy_done 0 (v := .bool (decide ((-1 : Int) ≥ 0))) (h := g) (by kernel_rfl) (.inl ⟨rfl, hr, hg⟩)
  · refine ok_go 1 ?_
    exact sy_done 0 (v := .bool (decide (Int.ofNat k ≥ 0))) (h := g) (by kernel_rfl) (.inr ⟨by rw [decide_eq_true (by exact Int.natCast_nonneg k)], res, hr, hE⟩)
end Go.Proofs.YtnfboopfpkaeaaaDoor
namespace Go.Proofs.YtnfboopfpkaeaaaDoor
open Go Go.Eng Nim
set_option maxRecDepth 100000
set_option maxHeartbeats 4000000
/-- The first true input that is not covered. -/
def fs1 (f d : Nat → Bool) : Nat → Nat → Option Nat
  | 0, _ => none
  | k + 1, x => if f x && !d x then some x else fs1 f d k (x + 1)
def don (sm : List (Nat × Nat)) (x : Nat) : Bool := sm.any fun p => inP p x
def srch (f : Nat → Bool) (N : Nat) (L : List (Nat × Nat)) : Nat → List (Nat × Nat) → Option (List (Nat × Nat))
  | 0, sm => match fs1 f (don sm) N 0 with
    | none => some sm
    | some _ => none
  | n + 1, sm => match fs1 f (don sm) N 0 with
    | none => some sm
    | some x => L.findSome? fun p => if inP p x then srch f N L n (sm ++ [p]) else none
theorem cov_of (f : Nat → Bool) (N : Nat) (hN : N ≤ 64) (lf m : Nat) (hlf : 5000 ≤ lf) (b0 c bo n : Nat) (hn : n < 64) (l s : Value) (L sm : List (Nat × Nat)) (hsm : sm.length ≤ 12) (is : Nat) (hs : s = oslV is sm.length) (h : Hp) (A : ArB b0 N f h) (KL : Sl2 h 75 l L) (Ks : Hold h (oent is 75 (flat2 sm)))
    (v0 : Value) (hbo : bo < h.next) (go : h.get bo = some (.cells [v0] 49 false))
    (cl : ∀ h, Hold h (oent is 75 (flat2 sm)) → ∃ y h', Ev lf m 61 [s] h = some (y, h') ∧ ∃ i', y = oslV i' sm.length ∧ Sto h h' (oent i' 75 (flat2 sm)))
    (so : ∀ i c h, i < h.next → h.get i = some (.cells (flat2 sm) 75 true) → ∃ v h', Ev lf m 62 [.slice (some ⟨i, 0, none⟩) sm.length c, .func (.func 63) #[] #[]] h = some (v, h') ∧ One i h h' ∧ ∃ qs : List (Nat × Nat), qs.Perm sm ∧ Srt qs ∧ h'.get i = some (.cells (flat2 qs) 75 true))
    (so0 : sm = [] → ∀ h, Ev lf m 62 [.slice none 0 0, .func (.func 63) #[] #[]] h = some (undef, h))
    (cn : ∀ n', n = n' + 1 → ∀ a1 a2 a3 a4 a5 a6 x g, x < N → Sto h g (BL a1 a2 a3 a4 a5 a6 x n (.slice (some ⟨b0, 0, none⟩) N c) l s (ptr bo 0)) → ∃ y g', Ev lf m 64 [l, .func (.func 65) #[] #[ptr a1 0, ptr a2 0, ptr a3 0, ptr a4 0, ptr a5 0, ptr a6 0]] g = some (y, g') ∧
      ((y = .bool false ∧ (L.findSome? fun p => if inP p x then srch f N L n' (sm ++ [p]) else none) = none ∧ Sto h g' (BL a1 a2 a3 a4 a5 a6 x n (.slice (some ⟨b0, 0, none⟩) N c) l s (ptr bo 0))) ∨ (y = .bool true ∧ ∃ res, (L.findSome? fun p => if inP p x then srch f N L n' (sm ++ [p]) else none) = some res ∧ One bo h g' ∧ Fnd bo res g'))) :
    ∃ y h', Ev lf (m + 1) 32 [.slice (some ⟨b0, 0, none⟩) N c, l, s, J n, ptr bo 0] h = some (y, h') ∧ CR bo h y h' (srch f N L n sm) := by
  refine fnS_ok (Q := fun y h' => CR bo h y h' (srch f N L n sm)) ?_
  obtain ⟨sa, sc, hsv⟩ : ∃ sa sc, s = .slice sa sm.length sc := by
    rw [hs]
    cases sm.length with
    | zero => exact ⟨_, _, rfl⟩
    | succ k => exact ⟨_, _, rfl⟩
  subst hsv
  obtain ⟨la, lc, rfl⟩ := KL.open_.shape
  have W := Sto.start h
  refine ow_new 0 W (AObj.cells [Value.slice (some { block := b0, off := 0 }) N c] 24 false) (fun q => Value.pointer (some { block := q, off := 0 })) (by kernel_rfl) fun g1 ng1 Wg1 => ?_
  have W := Wg1
  refine ow_new 0 W (AObj.cells [Value.slice la (List.length L) lc] 49 false) (fun q => Value.pointer (some { block := q, off := 0 })) (by kernel_rfl) fun g2 ng2 Wg2 => ?_
  have W := Wg2
  refine ow_new 0 W (AObj.cells [Value.slice sa (List.length sm) sc] 49 false) (fun q => Value.pointer (some { block := q, off := 0 })) (by kernel_rfl) fun g3 ng3 Wg3 => ?_
  have W := Wg3
  refine ow_new 0 W (AObj.cells [Value.int IntKind.i64 (Int.ofNat n)] 3 false) (fun q => Value.pointer (some { block := q, off := 0 })) (by kernel_rfl) fun g4 ng4 Wg4 => ?_
  have W := Wg4
  refine ow_new 0 W (AObj.cells [Value.pointer (some { block := bo, off := 0 })] 70 false) (fun q => Value.pointer (some { block := q, off := 0 })) (by kernel_rfl) fun g5 ng5 Wg5 => ?_
  have W := Wg5
  refine ow_new 0 W (AObj.cells [Value.int IntKind.i64 (Int.ofNat 0)] 3 false) (fun q => Value.pointer (some { block := q, off := 0 })) (by kernel_rfl) fun g6 ng6 Wg6 => ?_
  have W := Wg6
  refine ow_store (P := Tryd.prog) (T := 3) (off := 0) (v := Value.int IntKind.i64 (Int.negSucc 0)) 0 0 W rfl (Nat.le_of_ble_eq_true (by kernel_rfl)) (by kernel_rfl) (by first | rfl | assumption) (by kernel_rfl) fun g7 ng7 Wg7 => ?_
  have W := Wg7
  refine ow_load (P := Tryd.prog) (T := 24) (off := 0) 0 5 W rfl rfl (by kernel_rfl) (by kernel_rfl) ?_
  refine ok_go 1 ?_
  have W : Sto h g7 [(g5.next, .cells [I (-1)] 3 false), (g4.next, .cells [ptr bo 0] 70 false), (g3.next, .cells [J n] 3 false), (g2.next, .cells [.slice sa sm.length sc] 49 false), (g1.next, .cells [.slice la L.length lc] 49 false), (h.next, .cells [.slice (some ⟨b0, 0, none⟩) N c] 24 false)] := W
  refine sy_loop 0 lf g7 (α := Nat) (fun x => [(5, ptr h.next 0), (6, ptr g1.next 0), (7, ptr g2.next 0), (8, ptr g3.next 0), (9, ptr g4.next 0), (11, ptr g5.next 0), (16, .slice (some ⟨b0, 0, none⟩) N c), (17, J N), (18, J x)])
    (fun x g => x ≤ N ∧ Sto h g [(g5.next, .cells [I (-1)] 3 false), (g4.next, .cells [ptr bo 0] 70 false), (g3.next, .cells [J n] 3 false), (g2.next, .cells [.slice sa sm.length sc] 49 false), (g1.next, .cells [.slice la L.length lc] 49 false), (h.next, .cells [.slice (some ⟨b0, 0, none⟩) N c] 24 false)] ∧ fs1 f (don sm) N 0 = fs1 f (don sm) (N - x) x) (fun x _ => N - x) 0 (by kernel_rfl) (by kernel_rfl)
    ⟨by kernel_rfl, by kernel_rfl, by kernel_rfl, by kernel_rfl, by kernel_rfl, by kernel_rfl, by kernel_rfl, by kernel_rfl, by kernel_rfl, trivial⟩ (show N - 0 < lf by omega) ⟨Nat.zero_le _, W, rfl⟩ ?_
  rintro m1 x f1 q ⟨hx, W, hfs⟩ ih
  have Wq := W
  refine ok_go 1 ?_
  refine sy_test 0 (decide (Int.ofNat x < Int.ofNat N)) (by kernel_rfl) ?_ ?_
  rotate_left
  · intro hlt
    have hlt := no_nat hlt
    obtain rfl : x = N := by omega
    rw [Nat.sub_self] at hfs
    refine ow_load (P := Tryd.prog) (T := 3) (off := 0) 0 0 W rfl rfl (by kernel_rfl) (by kernel_rfl) ?_
    refine ow_load (P := Tryd.prog) (T := 70) (off := 0) 2 1 W rfl rfl (by kernel_rfl) (by kernel_rfl) ?_
    refine ow_load (P := Tryd.prog) (T := 49) (off := 0) 0 3 W rfl rfl (by kernel_rfl) (by kernel_rfl) ?_
    obtain ⟨y, h1, e1, i', hy, V⟩ := cl q (Ks.ext W.ext)
    refine sy_call 0 (by kernel_rfl) e1 ?_
    have W := (W.over V).perm List.perm_append_comm
    have Wh1 := W
    obtain ⟨ya, yc, rfl⟩ : ∃ ya yc, y = .slice ya sm.length yc := by
      rw [hy]
      cases sm.length with
      | zero => exact ⟨_, _, rfl⟩
      | succ k => exact ⟨_, _, rfl⟩
    have hnx := W.ext.next
    have gbo := (W.ext.get bo hbo).trans go
    have st := store1 (P := Tryd.prog) (h := h1) (t := 49) (i := bo) (off := 0) (v := .slice ya sm.length yc) (by kernel_rfl) rfl gbo (by show 0 < 1; omega)
    refine ok_go 1 ?_
    refine sy_store 0 (h' := h1.put bo (.cells [.slice ya sm.length yc] 49 false)) (by kernel_rfl) st ?_
    have hi' : ∀ z ∈ oent i' 75 (flat2 sm), h.next ≤ z.1 ∧ z.1 < h1.next ∧ h1.get z.1 = some z.2 := fun z hz => W.all z (List.mem_append_right _ hz)
    have w9 := W.mem (k := 1) rfl
    have X2 : One bo h1 (h1.put bo (.cells [.slice ya sm.length yc] 49 false)) := (One.refl bo h1).put _
    have G2 : (h1.put bo (.cells [.slice ya sm.length yc] 49 false)).get bo = some (.cells [.slice ya sm.length yc] 49 false) := get_put _ _ _
    have n2 : (h1.put bo (.cells [.slice ya sm.length yc] 49 false)).next = h1.next := rfl
    have K9 : (h1.put bo (.cells [.slice ya sm.length yc] 49 false)).get g4.next = some (.cells [ptr bo 0] 70 false) := by
      rw [X2.get _ w9.2.1 (by have := w9.1; omega)]
      exact w9.2.2
    have Ki : ∀ z ∈ oent i' 75 (flat2 sm), z.1 < (h1.put bo (.cells [.slice ya sm.length yc] 49 false)).next ∧ (h1.put bo (.cells [.slice ya sm.length yc] 49 false)).get z.1 = some z.2 := fun z hz => by
      obtain ⟨r1, r2, r3⟩ := hi' z hz
      exact ⟨r2, (X2.get z.1 r2 (by omega)).trans r3⟩
    have hsr : srch f x L n sm = some sm := by
      have : fs1 f (don sm) x 0 = none := hfs
      cases n with
      | zero => rw [srch, this]
      | succ n => rw [srch, this]
    rw [hsr]
    refine ok_go 0 ?_
    refine sy_need 0 [] [⟨(loadT Tryd.prog h1 70 (ptr (Hp.next g4) (0))).map (·, h1), Value.pointer (some { block := bo, off := 0 }), h1⟩] (by kernel_rfl) ⟨ob_load (P := Tryd.prog) (T := 70) (k := 1) Wh1 rfl rfl (by kernel_rfl), trivial⟩ ?_
    generalize h1.put bo (.cells [.slice ya sm.length yc] 49 false) = h2 at *
    refine ok_go 0 ?_
    refine sy_load 0 (h' := h2) (by kernel_rfl) (load1 (P := Tryd.prog) (t := 70) (i := g4.next) (off := 0) (by kernel_rfl) K9 rfl) ?_
    refine ok_go 1 ?_
    refine sy_load 0 (h' := h2) (by kernel_rfl) (load1 (P := Tryd.prog) (t := 49) (i := bo) (off := 0) (by kernel_rfl) G2 rfl) ?_
    cases sm with
    | nil =>
      have hy' : Value.slice ya 0 yc = .slice none 0 0 := hy
      cases hy'
      refine sy_call 0 (by kernel_rfl) (so0 rfl h2) ?_
      refine ok_go 0 ?_
      exact sy_done 0 (v := .bool true) (h := h2) (by kernel_rfl) ⟨rfl, One.after W.ext X2, [], List.Perm.refl _, List.Pairwise.nil, _, G2, 0, rfl, fun z hz => (by cases hz)⟩
    | cons p r =>
      have hy' : Value.slice ya (r.length + 1) yc = .slice (some ⟨i', 0, none⟩) (r.length + 1) (2 * (r.length + 1) + 1) := hy
      cases hy'
      obtain ⟨k1, k2⟩ := Ki (i', .cells (flat2 (p :: r)) 75 true) (List.mem_singleton.2 rfl)
      obtain ⟨k0, _, _⟩ := hi' (i', .cells (flat2 (p :: r)) 75 true) (List.mem_singleton.2 rfl)
      obtain ⟨v, h3, e3, X3, qs, P3, S3, G3⟩ := so i' (2 * (r.length + 1) + 1) h2 k1 k2
      refine sy_call 0 (by kernel_rfl) e3 ?_
      refine ok_go 0 ?_
      refine sy_done 0 (v := .bool true) (h := h3) (by kernel_rfl) ⟨rfl, ⟨?_, fun j hj1 hj2 => ?_⟩, qs, P3, S3, .slice (some ⟨i', 0, none⟩) (r.length + 1) (2 * (r.length + 1) + 1), ?_, i', ?_, ?_⟩
      · have := X3.next; omega
      · rw [X3.get j (by omega) (by simp only at k0; omega), X2.get j (by omega) hj2]
        exact W.ext.get j hj1
      · rw [X3.get bo (by omega) (by simp only at k0; omega)]
        exact G2
      · rw [P3.length_eq]; rfl
      · have hq := P3.length_eq
        cases qs with
        | nil => simp at hq
        | cons q1 qr =>
          have nx3 := X3.next
          have kk : i' < h3.next := by simp only at k1; omega
          intro z hz
          have hz : z = (i', .cells (flat2 (q1 :: qr)) 75 true) := List.mem_singleton.1 hz
          rw [hz]
          exact ⟨kk, G3⟩
  intro hlt
  have hlt := ok_nat hlt
  have hwx : IntKind.wrap .i64 (Int.ofNat (x + 1)) = Int.ofNat (x + 1) := wrap_nat (by omega)
  have A' := A.ext W.ext
  have hfs' := hfs
  rw [show N - x = (N - (x + 1)) + 1 by omega, fs1] at hfs
  refine sy_load 0 (r := indexAddrOp Tryd.prog 24 (Value.slice (some { block := b0, off := 0 }) N c) (Value.int IntKind.i64 (Int.ofNat x))) (h' := q) (by kernel_rfl) (idxS0 (e := 4) (by kernel_rfl) (by kernel_rfl) (by omega)) ?_
  refine sy_load 0 (r := loadT Tryd.prog q 4 (ptr (b0) (x))) (h' := q) (by kernel_rfl) ((A.ext W.ext).read (by omega)) ?_
  refine ok_go 1 ?_
  refine sy_test 0 (!f x) (by kernel_rfl) ?_ ?_
  · intro hf
    rw [if_neg (by simp at hf; simp [hf])] at hfs
    refine ok_go 1 ?_
    exact sy_next 0 _ q (by kernel_rfl) (by kernel_rfl) (ih (x + 1) _ q ⟨hlt, W, hfs⟩ (show N - (x + 1) < N - x by omega) ⟨by kernel_rfl, by kernel_rfl, by kernel_rfl, by kernel_rfl, by kernel_rfl, by kernel_rfl, by kernel_rfl, by kernel_rfl, (by kernel_rfl : _ = Value.int .i64 (IntKind.wrap .i64 (Int.ofNat (x + 1)))).trans (by rw [hwx]), trivial⟩)
  intro hf
  have hf : f x = true := by simpa using hf
  rw [hf, Bool.true_and] at hfs
  refine ow_load (P := Tryd.prog) (T := 49) (off := 0) 0 3 W rfl rfl (by kernel_rfl) (by kernel_rfl) ?_
  refine ok_go 1 ?_
  have hand : ∀ p : Nat × Nat, (andI (Int.ofNat x) (Int.ofNat p.1) == Int.ofNat p.2) = inP p x := fun p => by rw [and_nat (by omega), eq_int]; rfl
  refine sy_loop 0 lf q (α := Nat) (fun j => [(5, ptr h.next 0), (6, ptr g1.next 0), (7, ptr g2.next 0), (8, ptr g3.next 0), (9, ptr g4.next 0), (11, ptr g5.next 0), (16, .slice (some ⟨b0, 0, none⟩) N c), (17, J N), (18, J x), (12, J x), (25, .slice sa sm.length sc), (26, J sm.length), (27, J j)])
    (fun j g => j ≤ sm.length ∧ Sto h g [(g5.next, .cells [I (-1)] 3 false), (g4.next, .cells [ptr bo 0] 70 false), (g3.next, .cells [J n] 3 false), (g2.next, .cells [.slice sa sm.length sc] 49 false), (g1.next, .cells [.slice la L.length lc] 49 false), (h.next, .cells [.slice (some ⟨b0, 0, none⟩) N c] 24 false)] ∧ (sm.take j).any (fun p => inP p x) = false) (fun j _ => sm.length - j) 0 (by kernel_rfl) (by kernel_rfl)
    ⟨by kernel_rfl, by kernel_rfl, by kernel_rfl, by kernel_rfl, by kernel_rfl, by kernel_rfl, by kernel_rfl, by kernel_rfl, by kernel_rfl, by kernel_rfl, by kernel_rfl, by kernel_rfl, by kernel_rfl, trivial⟩ (show sm.length - 0 < lf by omega) ⟨Nat.zero_le _, W, rfl⟩ ?_
  rintro m2 j f2 z ⟨hj, W, hany⟩ ih2
  refine ok_go 1 ?_
  refine sy_test 0 (decide (Int.ofNat j < Int.ofNat sm.length)) (by kernel_rfl) ?_ ?_
  rotate_left
  · intro hlt2
    have hlt2 := no_nat hlt2
    obtain rfl : j = sm.length := by omega
    rw [List.take_length] at hany
    rw [show don sm x = false from hany, Bool.not_false, if_pos rfl] at hfs
    refine ow_store (P := Tryd.prog) (T := 3) (off := 0) (v := Value.int IntKind.i64 (Int.ofNat x)) 0 0 W rfl (Nat.le_of_ble_eq_true (by kernel_rfl)) (by kernel_rfl) (by first | rfl | assumption) (by kernel_rfl) fun w1 nw1 Ww1 => ?_
    have W := Ww1
    refine ow_load (P := Tryd.prog) (T := 3) (off := 0) 0 0 W rfl rfl (by kernel_rfl) (by kernel_rfl) ?_
    refine ow_load (P := Tryd.prog) (T := 3) (off := 0) 2 2 W rfl rfl (by kernel_rfl) (by kernel_rfl) ?_
    refine ok_go 1 ?_
    have hn0 : (Int.ofNat n == 0) = (n == 0) := eq_int n 0
    refine sy_test 0 (Int.ofNat n == 0) (by kernel_rfl) ?_ ?_
    · intro h0
      rw [hn0] at h0
      obtain rfl : n = 0 := by simpa using h0
      refine ok_go 0 ?_
      refine sy_done 0 (v := .bool false) (h := w1) (by kernel_rfl) ?_
      rw [srch, hfs]
      exact ⟨rfl, W.ext⟩
    intro h0
    rw [hn0] at h0
    have hnz : n ≠ 0 := by simpa using h0
    obtain ⟨n', rfl⟩ : ∃ n', n = n' + 1 := ⟨n - 1, by omega⟩
    refine ow_load (P := Tryd.prog) (T := 49) (off := 0) 0 4 W rfl rfl (by kernel_rfl) (by kernel_rfl) ?_
    refine ok_go 1 ?_
    obtain ⟨y, g', e, C⟩ := cn n' rfl g5.next h.next g1.next g2.next g3.next g4.next x w1 hlt W
    refine sy_call 0 (by kernel_rfl) e ?_
    have hsr : srch f N L (n' + 1) sm = L.findSome? fun p => if inP p x then srch f N L n' (sm ++ [p]) else none := by rw [srch, hfs]
    rw [hsr]
    rcases C with ⟨rfl, hr, W⟩ | ⟨rfl, res, hr, X, Fd⟩
    · rw [hr]
      refine ok_go 0 ?_
      exact sy_done 0 (v := .bool false) (h := g') (by kernel_rfl) ⟨rfl, W.ext⟩
    · rw [hr]
      refine ok_go 0 ?_
      exact sy_done 0 (v := .bool true) (h := g') (by kernel_rfl) ⟨rfl, X, Fd⟩
  intro hlt2
  have hlt2 := ok_nat hlt2
  have hwj : IntKind.wrap .i64 (Int.ofNat (j + 1)) = Int.ofNat (j + 1) := wrap_nat (by omega)
  have Ss : Sl2 z 75 (.slice sa sm.length sc) sm := ⟨is, hs, Ks.ext W.ext⟩
  obtain ⟨aa, e1, e2⟩ := Ss.open_.read s49 agP (List.getElem?_eq_getElem hlt2)
  refine ok_go 0 ?_
  refine sy_load 0 (h' := z) (by kernel_rfl) e1 ?_
  refine sy_load 0 (h' := z) (by kernel_rfl) e2 ?_
  refine ow_new 0 W (AObj.cells [Value.int IntKind.i64 (Int.ofNat 0), Value.int IntKind.i64 (Int.ofNat 0)] 75 false) (fun q => Value.pointer (some { block := q, off := 0 })) (by kernel_rfl) fun w1 nw1 Ww1 => ?_
  have W := Ww1
  refine ow_storeA (P := Tryd.prog) (T := 75) (v := Value.agg { toList := [Value.int IntKind.i64 (Int.ofNat (Prod.fst sm[j])), Value.int IntKind.i64 (Int.ofNat (Prod.snd sm[j]))] }) 0 0 W ([Value.int IntKind.i64 (Int.ofNat (Prod.fst sm[j])), Value.int IntKind.i64 (Int.ofNat (Prod.snd sm[j]))]) rfl rfl rfl (by kernel_rfl) (by first | rfl | (repeat' (first | exact rfl | assumption | apply sc_cons))) (by kernel_rfl) fun w2 nw2 Ww2 => ?_
  have W := Ww2
  refine ow_load (P := Tryd.prog) (T := 3) (off := 0) 1 0 W rfl rfl (by kernel_rfl) (by kernel_rfl) ?_
  refine ow_load (P := Tryd.prog) (T := 3) (off := 1) 2 0 W rfl rfl (by kernel_rfl) (by kernel_rfl) ?_
  refine ok_go 1 ?_
  refine sy_test 0 (andI (Int.ofNat x) (Int.ofNat sm[j].1) == Int.ofNat sm[j].2) (by kernel_rfl) ?_ ?_
  · intro hc
    rw [hand] at hc
    have hd : don sm x = true := List.any_eq_true.2 ⟨sm[j], List.getElem_mem hlt2, hc⟩
    rw [hd, Bool.not_true, if_neg (by decide)] at hfs
    refine ok_go 1 ?_
    exact sy_next 0 _ w2 (by kernel_rfl) (by kernel_rfl) (ih (x + 1) _ w2 ⟨hlt, W.drop 1, hfs⟩ (show N - (x + 1) < N - x by omega) ⟨by kernel_rfl, by kernel_rfl, by kernel_rfl, by kernel_rfl, by kernel_rfl, by kernel_rfl, by kernel_rfl, by kernel_rfl, (by kernel_rfl : _ = Value.int .i64 (IntKind.wrap .i64 (Int.ofNat (x + 1)))).trans (by rw [hwx]), trivial⟩)
  intro hc
  rw [hand] at hc
  refine ok_go 1 ?_
  exact sy_next 0 _ w2 (by kernel_rfl) (by kernel_rfl) (ih2 (j + 1) _ w2 ⟨hlt2, W.drop 1, by rw [List.take_succ_eq_append_getElem hlt2, List.any_append, hany, List.any_cons, hc]; rfl⟩ (show sm.length - (j + 1) < sm.length - j by omega) ⟨by kernel_rfl, by kernel_rfl, by kernel_rfl, by kernel_rfl, by kernel_rfl, by kernel_rfl, by kernel_rfl, by kernel_rfl, by kernel_rfl, by kernel_rfl, by kernel_rfl, by kernel_rfl, (by kernel_rfl : _ = Value.int .i64 (IntKind.wrap .i64 (Int.ofNat (j + 1)))).trans (by rw [hwj]), trivial⟩)
end Go.Proofs.YtnfboopfpkaeaaaDoor
namespace Go.Proofs.YtnfboopfpkaeaaaDoor
open Go Go.Eng Nim
set_option maxRecDepth 100000
set_option maxHeartbeats 4000000
theorem sort_nil (k : Nat) (h : Hp) : Ev 100000 (k + 20) 62 [.slice none 0 0, .func (.func 63) #[] #[]] h = some (undef, h) := by
  kernel_rfl
theorem cov_all (f : Nat → Bool) (N : Nat) (hN : N ≤ 64) (b0 c bo : Nat) (l : Value) (L : List (Nat × Nat)) (hL : L.length ≤ 4200) : ∀ (n k : Nat) (sm : List (Nat × Nat)) (is : Nat) (s v0 : Value) (h : Hp), sm.length + n ≤ 12 → s = oslV is sm.length → ArB b0 N f h → Sl2 h 75 l L → Hold h (oent is 75 (flat2 sm)) → bo < h.next → h.get bo = some (.cells [v0] 49 false) →
    ∃ y h', Ev 100000 (4 * n + k + 30) 32 [.slice (some ⟨b0, 0, none⟩) N c, l, s, J n, ptr bo 0] h = some (y, h') ∧ CR bo h y h' (srch f N L n sm) := by
  intro n
  induction n with
  | zero =>
    intro k sm is s v0 h hsm hs A KL Ks hbo go
    have hs' := hs
    refine cov_of f N hN 100000 (4 * 0 + k + 29) (by decide) b0 c bo 0 (by decide) l s L sm (by omega) is hs h A KL Ks v0 hbo go (fun g K => ?_) (fun i c g hi gi => ?_) (fun _ g => ?_) (fun n' e => by omega)
    · rw [hs]
      exact clone_of 100000 (4 * 0 + k + 28) is sm (by omega) g K
    · exact sort_of 100000 (4 * 0 + k + 28) (by decide) i c true sm (by omega) g (len_of (4 * 0 + k + 18) sm.length (by omega) g) fun q => pdq_of 100000 (4 * 0 + k + 27) (by decide) i c true sm (by omega) q g (isort_of 100000 (4 * 0 + k + 26) (by decide) i c true sm (by omega) g hi gi fun a b c d g => pcmp_of 100000 (4 * 0 + k + 22) (by decide) a b c d g)
    · exact sort_nil (4 * 0 + k + 9) g
  | succ n ih =>
    intro k sm is s v0 h hsm hs A KL Ks hbo go
    have e4 : 4 * (n + 1) + k + 30 = 4 * n + k + 33 + 1 := by omega
    rw [e4]
    refine cov_of f N hN 100000 (4 * n + k + 33) (by decide) b0 c bo (n + 1) (by omega) l s L sm (by omega) is hs h A KL Ks v0 hbo go (fun g K => ?_) (fun i c g hi gi => ?_) (fun _ g => ?_) (fun n' e a1 a2 a3 a4 a5 a6 x g hx W => ?_)
    · rw [hs]
      exact clone_of 100000 (4 * n + k + 32) is sm (by omega) g K
    · exact sort_of 100000 (4 * n + k + 32) (by decide) i c true sm (by omega) g (len_of (4 * n + k + 22) sm.length (by omega) g) fun q => pdq_of 100000 (4 * n + k + 31) (by decide) i c true sm (by omega) q g (isort_of 100000 (4 * n + k + 30) (by decide) i c true sm (by omega) g hi gi fun a b c d g => pcmp_of 100000 (4 * n + k + 26) (by decide) a b c d g)
    · exact sort_nil (4 * n + k + 13) g
    · obtain rfl : n = n' := by omega
      refine con_of 100000 (4 * n + k + 32) a1 a2 a3 a4 a5 a6 l L (fun p => if inP p x then srch f N L n (sm ++ [p]) else none) (fun g => Sto h g (BL a1 a2 a3 a4 a5 a6 x (n + 1) (.slice (some ⟨b0, 0, none⟩) N c) l s (ptr bo 0))) (fun res g => One bo h g ∧ Fnd bo res g) g ?_
      refine idx_of 100000 (4 * n + k + 31) (by decide) a1 a2 a3 a4 a5 a6 l L hL (fun p => if inP p x then srch f N L n (sm ++ [p]) else none) (fun g => Sto h g (BL a1 a2 a3 a4 a5 a6 x (n + 1) (.slice (some ⟨b0, 0, none⟩) N c) l s (ptr bo 0))) (fun res g => One bo h g ∧ Fnd bo res g) (fun g W => KL.ext W.ext) (fun p g hp W => ?_) g W
      obtain ⟨y, g', e, C⟩ := cl_of 100000 (4 * n + k + 30) (by decide) b0 N c a1 a2 a3 a4 a5 a6 x n bo (by omega) (by omega) l is sm (by omega) p s hs h g Ks W (srch f N L n (sm ++ [p])) (fun g K => by rw [hs]; exact clone_of 100000 (4 * n + k + 29) is sm (by omega) g K)
        (fun h' i' X K => ih k (sm ++ [p]) i' (oslV i' (sm.length + 1)) v0 h' (by rw [List.length_append, List.length_singleton]; omega) (by rw [List.length_append, List.length_singleton]) (A.ext X) (KL.ext X) K (by have := X.next; omega) ((X.get bo hbo).trans go))
      refine ⟨y, g', e, ?_⟩
      rcases C with ⟨hy, hr, W'⟩ | ⟨hy, hin, res, hr, X, Fd⟩
      · refine .inl ⟨hy, ?_, W'⟩
        by_cases hin : inP p x = true
        · rw [if_pos hin]; exact hr hin
        · rw [if_neg hin]
      · exact .inr ⟨hy, res, by rw [if_pos hin]; exact hr, X, Fd⟩
end Go.Proofs.YtnfboopfpkaeaaaDoor
namespace Go.Proofs.YtnfboopfpkaeaaaDoor
open Go Go.Eng Nim
set_option maxRecDepth 100000
set_option maxHeartbeats 4000000
theorem cover_of (f : Nat → Bool) (N : Nat) (lf m : Nat) (hlf : 5000 ≤ lf) (b0 c : Nat) (h : Hp) (A : ArB b0 N f h) (L : List (Nat × Nat)) (n0 : Nat) (hn0 : n0 ≤ 12) (res : List (Nat × Nat)) (hres : srch f N L n0 [] = some res) (hr12 : res.length ≤ 4200) (hmin : ∀ n, n < n0 → srch f N L n [] = none)
    (ck : Ev lf m 31 [.slice (some ⟨b0, 0, none⟩) N c, J 4] h = some (J 0, h))
    (pr : ∀ bd h, ArB b0 N f h → Dcd bd b0 N c h → ∃ v h', Ev lf m 22 [ptr bd 0] h = some (v, h') ∧ OpenP h' 75 v L ∧ Exc [b0, bd] h h' ∧ ArB b0 N f h')
    (co : ∀ n bo l v0 h, n ≤ 12 → ArB b0 N f h → Sl2 h 75 l L → bo < h.next → h.get bo = some (.cells [v0] 49 false) → ∃ y h', Ev lf m 32 [.slice (some ⟨b0, 0, none⟩) N c, l, .slice none 0 0, J n, ptr bo 0] h = some (y, h') ∧ CR bo h y h' (srch f N L n []))
    (pa : ∀ l ps h, ps.length ≤ 4200 → OpenP h 75 l ps → ∃ v h', Ev lf m 21 [l] h = some (v, h') ∧ OpenP h' 23 v ps ∧ h.Ext h') :
    ∃ x h', Ev lf (m + 1) 13 [.slice (some ⟨b0, 0, none⟩) N c] h = some (x, h') ∧ Exc [b0] h h' ∧ ArB b0 N f h' ∧ ∃ v qs, x = .tuple #[v, J 0] ∧ qs.Perm res ∧ Srt qs ∧ Sl2 h' 23 v qs := by
  refine fnS_ok (Q := fun x h' => Exc [b0] h h' ∧ ArB b0 N f h' ∧ ∃ v qs, x = .tuple #[v, J 0] ∧ qs.Perm res ∧ Srt qs ∧ Sl2 h' 23 v qs) ?_
  have W := Sto.start h
  refine sy_call 0 (by kernel_rfl) ck ?_
  refine ow_new 3 W (AObj.cells [Value.slice (some { block := b0, off := 0 }) N c, Value.map none] 53 false) (fun q => Value.pointer (some { block := q, off := 0 })) (by kernel_rfl) fun g1 ng1 Wg1 => ?_
  have W := Wg1
  have D : Dcd h.next b0 N c g1 := ⟨W.lt 0 rfl, .map none, false, W.get 0 rfl⟩
  obtain ⟨l, h2, e2, O2, E2, A2⟩ := pr h.next g1 (A.ext W.ext) D
  refine sy_call 0 (by kernel_rfl) e2 ?_
  have S2 := Sl2.of O2
  have V := Sto.start h2
  refine ow_new 0 V (AObj.cells [Value.slice none 0 0] 49 false) (fun q => Value.pointer (some { block := q, off := 0 })) (by kernel_rfl) fun k1 nk1 Vk1 => ?_
  have V := Vk1
  refine sy_loop 0 lf k1 (α := Nat) (fun n => [(0, .slice (some ⟨b0, 0, none⟩) N c), (5, l), (6, ptr h2.next 0), (7, J n)]) (fun n g => n ≤ n0 ∧ Sto h2 g [(h2.next, .cells [.slice none 0 0] 49 false)]) (fun n _ => n0 - n) 0 (by kernel_rfl) (by kernel_rfl)
    ⟨by kernel_rfl, by kernel_rfl, by kernel_rfl, by kernel_rfl, trivial⟩ (show n0 - 0 < lf by omega) ⟨Nat.zero_le _, V⟩ ?_
  rintro m1 n f1 q ⟨hn, V⟩ ih
  have hwn : IntKind.wrap .i64 (Int.ofNat (n + 1)) = Int.ofNat (n + 1) := wrap_nat (by omega)
  obtain ⟨y, q2, e3, C⟩ := co n h2.next l (.slice none 0 0) q (by omega) (A2.ext V.ext) (S2.ext V.ext) (V.lt 0 rfl) (V.get 0 rfl)
  refine ok_go 0 ?_
  refine sy_call 0 (by kernel_rfl) e3 ?_
  rcases Nat.lt_or_ge n n0 with hlt | hge
  · rw [hmin n hlt] at C
    obtain ⟨rfl, X⟩ := C
    refine ok_go 2 ?_
    exact sy_next 0 _ q2 (by kernel_rfl) (by kernel_rfl) (ih (n + 1) _ q2 ⟨hlt, V.call X⟩ (show n0 - (n + 1) < n0 - n by omega) ⟨by kernel_rfl, by kernel_rfl, by kernel_rfl, (by kernel_rfl : _ = Value.int .i64 (IntKind.wrap .i64 (Int.ofNat (n + 1)))).trans (by rw [hwn]), trivial⟩)
  · obtain rfl : n = n0 := by omega
    rw [hres] at C
    obtain ⟨rfl, X, qs, P, S, v, Gv, Sv⟩ := C
    obtain ⟨w, q3, e4, O4, X4⟩ := pa v qs q2 (by rw [P.length_eq]; exact hr12) Sv.open_
    refine ok_go 1 ?_
    refine sy_load 0 (h' := q2) (by kernel_rfl) (load1 (P := Tryd.prog) (t := 49) (i := h2.next) (off := 0) (by kernel_rfl) Gv rfl) ?_
    refine ok_go 0 ?_
    refine sy_call 0 (by kernel_rfl) e4 ?_
    refine ok_go 0 ?_
    have nW := W.ext.next
    have nE := E2.next
    have nV := V.ext.next
    have nX := X.next
    have nX4 := X4.next
    have hb0 := A.lt
    have g1n := W.lt 0 rfl
    refine sy_done 0 (v := .tuple #[w, J 0]) (h := q3) (by kernel_rfl) ⟨⟨by omega, fun j hj hm => ?_⟩, ?_, w, qs, rfl, P, S, Sl2.of O4⟩
    · have hm' : j ≠ b0 := by simpa using hm
      rw [X4.get j (by omega), X.get j (by omega) (by omega), V.ext.get j (by omega), E2.get j (by omega) (by simp; omega)]
      exact W.ext.get j hj
    · have A3 := (A2.ext V.ext)
      refine ArB.ext (h := q2) ⟨by have := A3.lt; omega, ?_⟩ X4
      obtain ⟨o, e⟩ := A3.get
      exact ⟨o, by rw [X.get b0 A3.lt (by have := A2.lt; omega)]; exact e⟩
end Go.Proofs.YtnfboopfpkaeaaaDoor
