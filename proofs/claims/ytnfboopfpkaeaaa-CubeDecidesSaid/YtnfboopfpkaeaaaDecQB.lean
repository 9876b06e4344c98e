/- Depth by the reference, and the tree that the program makes: contracts. -/
import Derived.Test.YtnfboopfpkaeaaaProg
import Derived.KernelRfl
import Derived.Test.YtnfboopfpkaeaaaSyF
import Derived.Test.YtnfboopfpkaeaaaDecQA
/- DecM: contracts of functions. -/
namespace Go.Proofs.Ytnfboopfpkaeaaa
open Go Go.Eng Nim
set_option maxRecDepth 100000
set_option maxHeartbeats 4000000
/-- A bit put in. -/
def ins (b c y : Nat) : Nat := y / 2 ^ b * 2 ^ (b + 1) + c * 2 ^ b + y % 2 ^ b
/-- The least of the first numbers, and 7. -/
def mn7 (D : Nat → Nat) : Nat → Nat
  | 0 => 7
  | b + 1 => min (mn7 D b) (D b)
/-- The depth of a table of k bits. -/
def DR : Nat → (Nat → Bool) → Nat
  | 0, _ => 0
  | k + 1, g => if al (fun x => g x == g 0) (2 ^ (k + 1)) = true then 0 else mn7 (fun b => 1 + max (DR k fun y => g (ins b 0 y)) (DR k fun y => g (ins b 1 y))) (k + 1)
/-- The inputs with a bit, or without it. -/
def half (b c x : Nat) : List Nat := (List.range x).filter fun y => (y &&& 2 ^ b == 0) == (c == 0)
theorem half_all : ∀ k, k < 6 → ∀ b, b < k + 1 → ∀ c, c < 2 → half b c (2 ^ (k + 1)) = (List.range (2 ^ k)).map (ins b c) := by
  have h : (List.range 6).all (fun k => (List.range (k + 1)).all fun b => (List.range 2).all fun c => decide (half b c (2 ^ (k + 1)) = (List.range (2 ^ k)).map (ins b c))) = true := by kernel_rfl
  intro k hk b hb c hc
  rw [List.all_eq_true] at h
  have h := h k (List.mem_range.2 hk)
  rw [List.all_eq_true] at h
  have h := h b (List.mem_range.2 hb)
  rw [List.all_eq_true] at h
  exact of_decide_eq_true (h c (List.mem_range.2 hc))
theorem half_up (b c x : Nat) : half b c (x + 1) = half b c x ++ (if ((x &&& 2 ^ b == 0) == (c == 0)) = true then [x] else []) := by
  unfold half
  rw [List.range_succ, List.filter_append]
  congr 1
  by_cases h : ((x &&& 2 ^ b == 0) == (c == 0)) = true
  · rw [if_pos h, List.filter_cons_of_pos (by simpa using h)]; rfl
  · rw [if_neg h, List.filter_cons_of_neg (by simpa using h)]; rfl
theorem half_in {b c x : Nat} (h : ((x &&& 2 ^ b == 0) == (c == 0)) = true) : half b c (x + 1) = half b c x ++ [x] := by rw [half_up, if_pos h]
theorem half_out {b c x : Nat} (h : ((x &&& 2 ^ b == 0) == (c == 0)) = false) : half b c (x + 1) = half b c x := by rw [half_up, if_neg (by rw [h]; decide), List.append_nil]
/-- The values at them. -/
def lst (g : Nat → Bool) (b c x : Nat) : List Value := (half b c x).map fun y => .bool (g y)
theorem half_len (b c x : Nat) : (half b c x).length ≤ x := by
  have := List.length_filter_le (fun y => (y &&& 2 ^ b == 0) == (c == 0)) (List.range x)
  rw [List.length_range] at this
  exact this
theorem ite_min (a b : Nat) : (if Int.ofNat b < Int.ofNat a then Int.ofNat b else Int.ofNat a) = Int.ofNat (min a b) := by
  by_cases h : b < a
  · rw [if_pos (by show (b : Int) < (a : Int); omega), Nat.min_eq_right (by omega)]
  · rw [if_neg (by show ¬ (b : Int) < (a : Int); omega), Nat.min_eq_left (by omega)]
theorem mn7_le (D : Nat → Nat) : ∀ b, mn7 D b ≤ 7
  | 0 => Nat.le_refl _
  | b + 1 => by have := mn7_le D b; rw [mn7]; omega
theorem DR_le : ∀ k g, DR k g ≤ 7
  | 0, _ => Nat.zero_le _
  | k + 1, g => by
    rw [DR]
    split
    · omega
    · exact mn7_le _ _
theorem sl4 : SlTz Try.prog 27 4 1 := ⟨by kernel_rfl, by kernel_rfl, ⟨_, rfl, by kernel_rfl⟩, ⟨_, rfl, by kernel_rfl⟩, by decide⟩
theorem rdepth_step (F k : Nat) (hk : k ≤ 5) (g0 : Nat → Bool) (a : Option Addr) (c : Nat) (h : Hp) (R : Rds h (.slice a (2 ^ k) c) (cellsF (2 ^ k) fun x => .bool (g0 x)))
    (rec_ : ∀ j, k = j + 1 → ∀ g a c h, Rds h (.slice a (2 ^ j) c) (cellsF (2 ^ j) fun x => .bool (g x)) → ∃ y h', Ev 100000 F 14 [.slice a (2 ^ j) c] h = some (y, h') ∧ y = J (DR j g) ∧ h.Ext h') :
    ∃ y h', Ev 100000 (F + 1) 14 [.slice a (2 ^ k) c] h = some (y, h') ∧ y = J (DR k g0) ∧ h.Ext h' := by
  have hp : 2 ^ k ≤ 32 := Nat.pow_le_pow_right (n := 2) (by decide) hk
  have hp0 : 0 < 2 ^ k := Nat.two_pow_pos k
  refine fnS_ok (Q := fun y h' => y = J (DR k g0) ∧ h.Ext h') ?_
  have hrd : ∀ {g : Hp} (x : Nat), h.Ext g → x < 2 ^ k → ∃ p, indexAddrOp Try.prog 27 (.slice a (2 ^ k) c) (.int .i64 (Int.ofNat x)) = some p ∧ loadT Try.prog g 4 p = some (.bool (g0 x)) := fun {g} x X hx =>
    (R.ext X).read uB zB agB (cellsF_get hx)
  generalize hN : 2 ^ k = N at *
  have W := Sto.start h
  refine sy_loop 0 100000 h (α := Nat) (fun x => [(0, .slice a N c), (3, .bool (al (fun y => g0 y == g0 0) x)), (4, J x)]) (fun x g => x ≤ N ∧ Sto h g []) (fun x _ => N - x) 0 (by kernel_rfl) (by kernel_rfl)
    ⟨by kernel_rfl, by kernel_rfl, by kernel_rfl, trivial⟩ (show N - 0 < 100000 by omega) ⟨Nat.zero_le _, W⟩ ?_
  rintro m1 x f1 g ⟨hx, W⟩ ih
  refine ok_go 2 ?_
  refine sy_test 0 (decide (Int.ofNat x < Int.ofNat N)) (by kernel_rfl) ?_ ?_
  · intro hlt
    have hlt := ok_nat hlt
    have hwx : IntKind.wrap .i64 (Int.ofNat (x + 1)) = Int.ofNat (x + 1) := wrap_nat (by omega)
    obtain ⟨p, e1, e2⟩ := hrd x W.ext hlt
    obtain ⟨p0, e3, e4⟩ := hrd 0 W.ext hp0
    refine sy_test 0 (al (fun y => g0 y == g0 0) x) (by kernel_rfl) ?_ ?_
    · intro ha
      refine ok_go 2 ?_
      refine sy_load 0 (h' := g) (by kernel_rfl) e1 ?_
      refine ok_go 1 ?_
      refine sy_load 0 (h' := g) (by kernel_rfl) e2 ?_
      refine ok_go 2 ?_
      refine sy_load 0 (h' := g) (by kernel_rfl) e3 ?_
      refine ok_go 1 ?_
      refine sy_load 0 (h' := g) (by kernel_rfl) e4 ?_
      refine ok_go 4 ?_
      exact sy_next 0 _ g (by kernel_rfl) (by kernel_rfl) (ih (x + 1) _ g ⟨hlt, W⟩ (show N - (x + 1) < N - x by omega) ⟨by kernel_rfl, (by kernel_rfl : _ = Value.bool (g0 x == g0 0)).trans (by rw [al, ha]; rfl), (by kernel_rfl : _ = Value.int .i64 (IntKind.wrap .i64 (Int.ofNat (x + 1)))).trans (by rw [hwx]), trivial⟩)
    · intro ha
      refine ok_go 9 ?_
      exact sy_next 0 _ g (by kernel_rfl) (by kernel_rfl) (ih (x + 1) _ g ⟨hlt, W⟩ (show N - (x + 1) < N - x by omega) ⟨by kernel_rfl, (by kernel_rfl : _ = Value.bool false).trans (by rw [al, ha]; rfl), (by kernel_rfl : _ = Value.int .i64 (IntKind.wrap .i64 (Int.ofNat (x + 1)))).trans (by rw [hwx]), trivial⟩)
  intro hlt
  have hlt := no_nat hlt
  obtain rfl : x = N := by omega
  refine sy_test 0 (al (fun y => g0 y == g0 0) x) (by kernel_rfl) ?_ ?_
  · intro ha
    refine sy_done 0 (v := J 0) (h := g) (by kernel_rfl) ⟨?_, W.ext⟩
    cases k with
    | zero => rfl
    | succ k => rw [DR, if_pos (by rw [hN]; exact ha)]
  intro ha
  cases k with
  | zero =>
    obtain rfl : x = 1 := hN.symm
    exact absurd (show al (fun y => g0 y == g0 0) 1 = true by show (true && (g0 0 == g0 0)) = true; simp) (by rw [ha]; decide)
  | succ k =>
  have hDR : DR (k + 1) g0 = mn7 (fun b => 1 + max (DR k fun y => g0 (ins b 0 y)) (DR k fun y => g0 (ins b 1 y))) (k + 1) := by rw [DR, if_neg (by rw [hN, ha]; decide)]
  generalize hD : (fun b => 1 + max (DR k fun y => g0 (ins b 0 y)) (DR k fun y => g0 (ins b 1 y))) = D at hDR
  have hN2 : 2 ^ k * 2 = x := by rw [← hN, Nat.pow_succ]
  generalize x = N at *
  refine sy_loop 0 100000 g (α := Nat) (fun b => [(0, .slice a N c), (5, J (mn7 D b)), (6, J (2 ^ b))]) (fun b g => b ≤ k + 1 ∧ Sto h g []) (fun b _ => k + 1 - b) 0 (by kernel_rfl) (by kernel_rfl)
    ⟨by kernel_rfl, by kernel_rfl, by kernel_rfl, trivial⟩ (show k + 1 - 0 < 100000 by omega) ⟨Nat.zero_le _, W⟩ ?_
  rintro m2 b f2 g ⟨hb, W⟩ ih2
  have hmn := mn7_le D b
  have hDb : D b ≤ 8 := by
    have h1 := DR_le k fun y => g0 (ins b 0 y)
    have h2 := DR_le k fun y => g0 (ins b 1 y)
    rw [← hD]
    show 1 + max _ _ ≤ 8
    omega
  generalize hB : 2 ^ b = B at *
  refine ok_go 2 ?_
  refine sy_test 0 (decide (Int.ofNat B < Int.ofNat N)) (by kernel_rfl) ?_ ?_
  · intro hlt
    have hlt := ok_nat hlt
    have hbk : b < k + 1 := by
      rw [← hB, ← hN] at hlt
      exact (Nat.pow_lt_pow_iff_right (by decide)).1 hlt
    refine sy_loop 0 100000 g (α := Nat × Nat × Value × Nat × Value) (fun s => [(0, .slice a N c), (5, J (mn7 D b)), (6, J B), (7, s.2.2.1), (8, s.2.2.2.2), (9, J s.1)])
      (fun s q => s.1 ≤ N ∧ s.2.2.1 = oslV s.2.1 (half b 0 s.1).length ∧ s.2.2.2.2 = oslV s.2.2.2.1 (half b 1 s.1).length ∧ Sto h q (oent s.2.1 4 (lst g0 b 0 s.1) ++ oent s.2.2.2.1 4 (lst g0 b 1 s.1))) (fun s _ => N - s.1) (0, 0, .slice none 0 0, 0, .slice none 0 0) (by kernel_rfl) (by kernel_rfl)
      ⟨by kernel_rfl, by kernel_rfl, by kernel_rfl, by kernel_rfl, by kernel_rfl, by kernel_rfl, trivial⟩ (show N - 0 < 100000 by omega) ⟨Nat.zero_le _, rfl, rfl, W⟩ ?_
    rintro m3 ⟨x, i1, s1, i2, s2⟩ f3 q ⟨hx, hs1, hs2, W⟩ ih3
    dsimp only at hx hs1 hs2 W
    have hl1 := half_len b 0 x
    have hl2 := half_len b 1 x
    refine ok_go 2 ?_
    refine sy_test 0 (decide (Int.ofNat x < Int.ofNat N)) (by kernel_rfl) ?_ ?_
    · intro hlt
      have hlt := ok_nat hlt
      have hwx : IntKind.wrap .i64 (Int.ofNat (x + 1)) = Int.ofNat (x + 1) := wrap_nat (by omega)
      obtain ⟨p, e1, e2⟩ := hrd x W.ext hlt
      refine ok_go 2 ?_
      refine sy_test 0 (andI (Int.ofNat x) (Int.ofNat B) == 0) (by kernel_rfl) ?_ ?_
      · intro hb
        have hb : (x &&& 2 ^ b == 0) = true := by rw [and_nat (by omega)] at hb; rw [hB, ← hb]; exact (eq_int (x &&& B) 0).symm
        refine sy_load 0 (h' := q) (by kernel_rfl) e1 ?_
        refine sy_load 0 (h' := q) (by kernel_rfl) e2 ?_
        refine ow_new 0 W (AObj.cells [Value.bool (g0 x)] 4 false) (fun q => Value.slice (some { block := q, off := 0 }) 1 2) (by kernel_rfl) fun q2 nq2 W => ?_
        have W : Sto h q2 ((q.next, .cells [.bool (g0 x)] 4 false) :: (oent i2 4 (lst g0 b 1 x) ++ oent i1 4 (lst g0 b 0 x))) := W.perm (List.Perm.cons _ List.perm_append_comm)
        refine ow_app (P := Try.prog) (t := 27) 0 W sl4 (by rw [lst, List.length_map, Nat.mul_one]) rfl rfl (by omega) (by rw [← hs1]; kernel_rfl) fun q3 sl' nq3 hsl' hsc' W => ?_
        have u0 : lst g0 b 0 (x + 1) = lst g0 b 0 x ++ [.bool (g0 x)] := by rw [lst, lst, half_in (by rw [hb]; rfl), List.map_append]; rfl
        have u1 : half b 1 (x + 1) = half b 1 x := half_out (by rw [hb]; rfl)
        have u2 : (half b 0 (x + 1)).length = (half b 0 x).length + 1 := by rw [half_in (by rw [hb]; rfl), List.length_append]; rfl
        rw [← u0] at W
        have W := W.perm List.perm_append_comm
        refine ok_go 1 ?_
        exact sy_next 0 _ q3 (by kernel_rfl) (by kernel_rfl) (ih3 (x + 1, q2.next, sl', i2, s2) _ q3 ⟨hlt, (by rw [u2]; exact hsl'), (by rw [u1]; exact hs2), by rw [show lst g0 b 1 (x + 1) = lst g0 b 1 x by rw [lst, lst, u1]]; exact W⟩ (show N - (x + 1) < N - x by omega) ⟨by kernel_rfl, by kernel_rfl, by kernel_rfl, by kernel_rfl, by kernel_rfl, (by kernel_rfl : _ = Value.int .i64 (IntKind.wrap .i64 (Int.ofNat (x + 1)))).trans (by rw [hwx]), trivial⟩)
      · intro hb
        have hb : (x &&& 2 ^ b == 0) = false := by rw [and_nat (by omega)] at hb; rw [hB, ← hb]; exact (eq_int (x &&& B) 0).symm
        refine sy_load 0 (h' := q) (by kernel_rfl) e1 ?_
        refine sy_load 0 (h' := q) (by kernel_rfl) e2 ?_
        refine ow_new 0 W (AObj.cells [Value.bool (g0 x)] 4 false) (fun q => Value.slice (some { block := q, off := 0 }) 1 2) (by kernel_rfl) fun q2 nq2 W => ?_
        have W : Sto h q2 ((q.next, .cells [.bool (g0 x)] 4 false) :: (oent i1 4 (lst g0 b 0 x) ++ oent i2 4 (lst g0 b 1 x))) := W
        refine ow_app (P := Try.prog) (t := 27) 0 W sl4 (by rw [lst, List.length_map, Nat.mul_one]) rfl rfl (by omega) (by rw [← hs2]; kernel_rfl) fun q3 sl' nq3 hsl' hsc' W => ?_
        have u0 : lst g0 b 1 (x + 1) = lst g0 b 1 x ++ [.bool (g0 x)] := by rw [lst, lst, half_in (by rw [hb]; rfl), List.map_append]; rfl
        have u1 : half b 0 (x + 1) = half b 0 x := half_out (by rw [hb]; rfl)
        have u2 : (half b 1 (x + 1)).length = (half b 1 x).length + 1 := by rw [half_in (by rw [hb]; rfl), List.length_append]; rfl
        rw [← u0] at W
        have W := W
        refine ok_go 1 ?_
        exact sy_next 0 _ q3 (by kernel_rfl) (by kernel_rfl) (ih3 (x + 1, i1, s1, q2.next, sl') _ q3 ⟨hlt, (by rw [u1]; exact hs1), (by rw [u2]; exact hsl'), by rw [show lst g0 b 0 (x + 1) = lst g0 b 0 x by rw [lst, lst, u1]]; exact W⟩ (show N - (x + 1) < N - x by omega) ⟨by kernel_rfl, by kernel_rfl, by kernel_rfl, by kernel_rfl, by kernel_rfl, (by kernel_rfl : _ = Value.int .i64 (IntKind.wrap .i64 (Int.ofNat (x + 1)))).trans (by rw [hwx]), trivial⟩)
    intro hlt
    have hlt := no_nat hlt
    obtain rfl : x = N := by omega
    have len : ∀ c, c < 2 → half b c x = (List.range (2 ^ k)).map (ins b c) := fun c hc => by rw [← hN]; exact half_all k (by omega) b hbk c hc
    have hcl : ∀ c, c < 2 → lst g0 b c x = cellsF (2 ^ k) fun y => .bool (g0 (ins b c y)) := fun c hc => by rw [lst, len c hc, List.map_map]; rfl
    have ln : ∀ c, c < 2 → (half b c x).length = 2 ^ k := fun c hc => by rw [len c hc, List.length_map, List.length_range]
    have R1 : Rds q s1 (cellsF (2 ^ k) fun y => .bool (g0 (ins b 0 y))) := by
      have := osl_rd (e := 4) (i := i1) (zs := lst g0 b 0 x) (H := q) fun p hp => (W.all p (List.mem_append_left _ hp)).2
      rw [lst, List.length_map, ← hs1, ← lst, hcl 0 (by decide)] at this
      exact this
    have R2 : Rds q s2 (cellsF (2 ^ k) fun y => .bool (g0 (ins b 1 y))) := by
      have := osl_rd (e := 4) (i := i2) (zs := lst g0 b 1 x) (H := q) fun p hp => (W.all p (List.mem_append_right _ hp)).2
      rw [lst, List.length_map, ← hs2, ← lst, hcl 1 (by decide)] at this
      exact this
    obtain ⟨a1, c1, rfl⟩ := R1.shape
    obtain ⟨a2, c2, rfl⟩ := R2.shape
    rw [cellsF_len] at R1 R2
    obtain ⟨_, q1, ec1, rfl, X1⟩ := rec_ k rfl (fun y => g0 (ins b 0 y)) a1 c1 q R1
    obtain ⟨_, q2, ec2, rfl, X2⟩ := rec_ k rfl (fun y => g0 (ins b 1 y)) a2 c2 q1 (R2.ext X1)
    have hw1 : IntKind.wrap .i64 (1 + Int.ofNat (max (DR k fun y => g0 (ins b 0 y)) (DR k fun y => g0 (ins b 1 y)))) = Int.ofNat (D b) := by
      rw [← hD]
      have h1 := DR_le k fun y => g0 (ins b 0 y)
      have h2 := DR_le k fun y => g0 (ins b 1 y)
      exact wrap_add (a := 1) (by omega)
    have hw2 : IntKind.wrap .i64 (2 * Int.ofNat B) = Int.ofNat (2 ^ (b + 1)) := by
      rw [Nat.pow_succ, hB, Nat.mul_comm B 2]
      show IntKind.wrap .i64 (Int.ofNat (2 * B)) = _
      exact wrap_nat (by omega)
    refine sy_call 0 (r := Ev 100000 F 14 [.slice a1 (cellsF (2 ^ k) fun y => .bool (g0 (ins b 0 y))).length c1] q) (by kernel_rfl) (by rw [cellsF_len]; exact ec1) ?_
    have W := W.call X1
    refine sy_call 0 (r := Ev 100000 F 14 [.slice a2 (cellsF (2 ^ k) fun y => .bool (g0 (ins b 1 y))).length c2] q1) (by kernel_rfl) (by rw [cellsF_len]; exact ec2) ?_
    have W := W.call X2
    refine ok_go 4 ?_
    exact sy_next 0 _ q2 (by kernel_rfl) (by kernel_rfl) (ih2 (b + 1) _ q2 ⟨hbk, W.sub (List.nil_sublist _)⟩ (show k + 1 - (b + 1) < k + 1 - b by omega)
      ⟨by kernel_rfl, (by kernel_rfl : _ = Value.int .i64 (if IntKind.wrap .i64 (1 + (if Int.ofNat (DR k fun y => g0 (ins b 1 y)) > Int.ofNat (DR k fun y => g0 (ins b 0 y)) then Int.ofNat (DR k fun y => g0 (ins b 1 y)) else Int.ofNat (DR k fun y => g0 (ins b 0 y)))) < Int.ofNat (mn7 D b) then IntKind.wrap .i64 (1 + (if Int.ofNat (DR k fun y => g0 (ins b 1 y)) > Int.ofNat (DR k fun y => g0 (ins b 0 y)) then Int.ofNat (DR k fun y => g0 (ins b 1 y)) else Int.ofNat (DR k fun y => g0 (ins b 0 y)))) else Int.ofNat (mn7 D b))).trans (by rw [ite_max, hw1, ite_min]; rfl),
        (by kernel_rfl : _ = Value.int .i64 (IntKind.wrap .i64 (2 * Int.ofNat B))).trans (by rw [hw2]), trivial⟩)
  · intro hlt
    have hlt := no_nat hlt
    have hbk : b = k + 1 := by
      have : ¬ b < k + 1 := fun h => by
        have := Nat.pow_lt_pow_right (a := 2) (by decide) h
        omega
      omega
    refine sy_done 0 (v := J (mn7 D b)) (h := g) (by kernel_rfl) ⟨by rw [hDR, hbk], W.ext⟩
end Go.Proofs.Ytnfboopfpkaeaaa
/- DecN: contracts of functions. -/
namespace Go.Proofs.Ytnfboopfpkaeaaa
open Go Go.Eng Nim
set_option maxRecDepth 100000
set_option maxHeartbeats 4000000
/-- Whether a bit is the one to ask for first. -/
def cho (f : Nat → Bool) (n m v i : Nat) : Bool := (m &&& 2 ^ i == 0) && (1 + max (Lf f n (m ||| 2 ^ i) v) (Lf f n (m ||| 2 ^ i) (v ||| 2 ^ i)) == Lf f n m v)
/-- The program's tree, of at most so many levels. -/
def trF (f : Nat → Bool) (n : Nat) : Nat → Nat → Nat → RT
  | 0, _, _ => .mk 0 false []
  | d + 1, m, v => if al (cq f m v) (2 ^ n) = true then .mk 0 (f v) [] else match (List.range n).find? (cho f n m v) with
    | some i => .mk (Int.ofNat i) false [trF f n d (m ||| 2 ^ i) v, trF f n d (m ||| 2 ^ i) (v ||| 2 ^ i)]
    | none => .mk 0 false []
theorem least_sto {f : Nat → Bool} {n lf F bd b0 c mid m v : Nat} {hb h : Hp} {l : List (Nat × AObj)} {es : List MapEntry} {cl : Nat} (le : Least f n lf F bd b0 c mid m v) (A : ArB b0 (2 ^ n) f hb) (ok : MapOk (Lf f n) es) (W : Sto hb h l) (k j : Nat)
    (hk : l[k]? = some (mid, .map es cl)) (hj : l[j]? = some (bd, .cells [.slice (some ⟨b0, 0, none⟩) (2 ^ n) c, .map (some mid)] 83 false)) :
    ∃ h' es' cl', Ev lf F 52 [ptr bd 0, keyV m v] h = some (J (Lf f n m v), h') ∧ MapOk (Lf f n) es' ∧ Sto hb h' (l.set k (mid, .map es' cl')) := by
  have hne : bd ≠ mid := fun e => by
    have h1 := W.get j hj
    have h2 := W.get k hk
    rw [e, h2] at h1
    cases h1
  obtain ⟨h', es', cl', e, D, _, X⟩ := le h es cl ⟨⟨W.lt j hj, W.get j hj⟩, ⟨W.lt k hk, W.get k hk⟩, ⟨hne, by have := W.ge k hk; have := A.lt; omega⟩, ok, A.ext W.ext⟩
  exact ⟨h', es', cl', e, D.ok, W.chg k hk X.next (fun q hq hn => X.get q hq (by simpa using hn)) D.mp.2⟩
theorem perm_up {α : Type} {P F l : List α} : (P ++ (F ++ l)).Perm (F ++ (P ++ l)) := by
  rw [← List.append_assoc, ← List.append_assoc]
  exact List.Perm.append_right l List.perm_append_comm
theorem perm_dn {α : Type} {P F L l : List α} : (F ++ (L ++ (P ++ l))).Perm (P ++ (F ++ (L ++ l))) :=
  (List.Perm.append_left F perm_up).trans perm_up
theorem perm_in {α : Type} {a : α} {P F X : List α} : (a :: (P ++ (F ++ X))).Perm (P ++ (F ++ (a :: X))) := by
  rw [← List.append_assoc, ← List.append_assoc]
  exact List.perm_middle.symm
theorem find_none {p : Nat → Bool} {n : Nat} (h : ∀ j, j < n → p j = false) : (List.range n).find? p = none := by
  rw [List.find?_eq_none]
  intro x hx
  rw [h x (List.mem_range.1 hx)]
  decide
theorem find_some {p : Nat → Bool} {n i : Nat} (hi : i < n) (hp : p i = true) (h : ∀ j, j < i → p j = false) : (List.range n).find? p = some i := by
  have e : List.range n = List.range i ++ (i :: (List.range n).drop (i + 1)) := by
    have h1 : (List.range n).drop i = i :: (List.range n).drop (i + 1) := by
      rw [List.drop_eq_getElem_cons (by rw [List.length_range]; exact hi), List.getElem_range]
    rw [← h1]
    have h2 := List.take_append_drop i (List.range n)
    rw [List.take_range, Nat.min_eq_left (Nat.le_of_lt hi)] at h2
    exact h2.symm
  rw [e, List.find?_append, find_none h, List.find?_cons_of_pos hp]
  rfl
/-- What stands ready for the growing: the map, the decider, the two cells of the closure. -/
def fxL (N b0 c bd mid bD bG : Nat) (es : List MapEntry) (cl : Nat) : List (Nat × AObj) :=
  [(mid, .map es cl), (bd, .cells [.slice (some ⟨b0, 0, none⟩) N c, .map (some mid)] 83 false), (bD, .cells [ptr bd 0] 80 false), (bG, .cells [.func (.func 85) #[] #[ptr bD 0, ptr bG 0]] 117 false)]
def Grow (f : Nat → Bool) (n lf F : Nat) (hb : Hp) (b0 c bd mid bD bG d m v : Nat) : Prop := ∀ h es cl l, MapOk (Lf f n) es → Sto hb h (fxL (2 ^ n) b0 c bd mid bD bG es cl ++ l) →
  ∃ y h' es' cl' L, Ev lf F 85 [keyV m v, ptr bD 0, ptr bG 0] h = some (y, h') ∧ MapOk (Lf f n) es' ∧ Sto hb h' (fxL (2 ^ n) b0 c bd mid bD bG es' cl' ++ (L ++ l)) ∧ At L d y (trF f n d m v)
theorem grow_step (f : Nat → Bool) (n : Nat) (hn : n ≤ 5) (F : Nat) (hb : Hp) (b0 c bd mid bD bG d m v : Nat) (hm : m < 2 ^ n) (hv : v < 2 ^ n) (A : ArB b0 (2 ^ n) f hb)
    (co : ∀ h, ArB b0 (2 ^ n) f h → Dcd bd b0 (2 ^ n) c h → ∃ y h', Ev 100000 (F + 2) 82 [ptr bd 0, keyV m v] h = some (y, h') ∧ y = .tuple #[.bool (f v), .bool (al (cq f m v) (2 ^ n))] ∧ h.Ext h')
    (wi : ∀ i s h, i < n → ∃ y h', Ev 100000 F 84 [keyV m v, J (2 ^ i), .bool s] h = some (y, h') ∧ y = keyV (m ||| 2 ^ i) (if s = true then v ||| 2 ^ i else v) ∧ h.Ext h')
    (le : ∀ m v, m < 2 ^ n → v < 2 ^ n → Least f n 100000 F bd b0 c mid m v)
    (rec_ : ∀ i w, i < n → m &&& 2 ^ i = 0 → (w = v ∨ w = v ||| 2 ^ i) → Grow f n 100000 F hb b0 c bd mid bD bG d (m ||| 2 ^ i) w) : Grow f n 100000 (F + 3) hb b0 c bd mid bD bG (d + 1) m v := by
  intro h es cl l ok W
  have hp32 : 2 ^ n ≤ 32 := Nat.pow_le_pow_right (n := 2) (by decide) hn
  have hi2 : ∀ i, i < n → 2 ^ i < 2 ^ n := fun i hi => Nat.pow_lt_pow_right (by decide) hi
  have main : ∃ y h', Ev 100000 (F + 3) 85 [keyV m v, ptr bD 0, ptr bG 0] h = some (y, h') ∧ ∃ es' cl' L, MapOk (Lf f n) es' ∧ Sto hb h' (fxL (2 ^ n) b0 c bd mid bD bG es' cl' ++ (L ++ l)) ∧ At L (d + 1) y (trF f n (d + 1) m v) := by
    refine fnS_ok (Q := fun y h' => ∃ es' cl' L, MapOk (Lf f n) es' ∧ Sto hb h' (fxL (2 ^ n) b0 c bd mid bD bG es' cl' ++ (L ++ l)) ∧ At L (d + 1) y (trF f n (d + 1) m v)) ?_
    refine ow_new 0 W (AObj.cells [Value.int IntKind.i64 (Int.ofNat m), Value.int IntKind.i64 (Int.ofNat v)] 86 false) (fun q => Value.pointer (some { block := q, off := 0 })) (by kernel_rfl) fun g1 ng1 Wg1 => ?_
    have W := Wg1
    refine ow_new 0 W (AObj.cells [Value.int IntKind.i64 (Int.ofNat 0), Value.bool false, Value.slice none 0 0] 35 false) (fun q => Value.pointer (some { block := q, off := 0 })) (by kernel_rfl) fun g2 ng2 Wg2 => ?_
    have W := Wg2
    refine ow_load (P := Try.prog) (T := 80) (off := 0) 0 4 W rfl rfl (by kernel_rfl) (by kernel_rfl) ?_
    refine ow_loadA (P := Try.prog) (T := 86) (z := 2) 0 1 W rfl (by kernel_rfl) (by kernel_rfl) rfl (by kernel_rfl) ?_
    obtain ⟨_, g3, ec, rfl, X⟩ := co g2 (A.ext W.ext) ⟨W.lt 3 rfl, .map (some mid), false, W.get 3 rfl⟩
    refine sy_call 0 (by kernel_rfl) ec ?_
    have W := W.call X
    refine ok_go 2 ?_
    refine sy_test 0 (al (cq f m v) (2 ^ n)) (by kernel_rfl) ?_ ?_
    · intro ha
      refine ow_storeA (P := Try.prog) (T := 35) (v := Value.agg { toList := [Value.int IntKind.i64 (Int.ofNat 0), Value.bool (f v), Value.slice none 0 0] }) 1 0 W ([Value.int IntKind.i64 (Int.ofNat 0), Value.bool (f v), Value.slice none 0 0]) rfl rfl rfl (by kernel_rfl) (by first | rfl | (repeat' (first | exact rfl | assumption | apply sc_cons))) (by kernel_rfl) fun g4 ng4 Wg4 => ?_
      have W := Wg4
      refine ow_loadA (P := Try.prog) (T := 35) (z := 3) 1 0 W rfl (by kernel_rfl) (by kernel_rfl) rfl (by kernel_rfl) ?_
      refine sy_done 0 (v := .agg #[I 0, .bool (f v), .slice none 0 0]) (h := g4) (by kernel_rfl) ⟨es, cl, [], ok, W.drop 2, ?_⟩
      rw [trF, if_pos ha]
      exact ⟨none, 0, rfl, fun hn => absurd rfl hn⟩
    intro ha
    refine ow_new 0 W (AObj.cells [Value.int IntKind.i64 (Int.ofNat 0)] 3 false) (fun q => Value.pointer (some { block := q, off := 0 })) (by kernel_rfl) fun g4 ng4 Wg4 => ?_
    have W := Wg4
    refine ow_store (P := Try.prog) (T := 3) (off := 0) (v := Value.int IntKind.i64 (Int.ofNat 0)) 0 0 W rfl (Nat.le_of_ble_eq_true (by kernel_rfl)) (by kernel_rfl) (by first | rfl | assumption) (by kernel_rfl) fun g5 ng5 Wg5 => ?_
    have W := Wg5
    refine ow_load (P := Try.prog) (T := 80) (off := 0) 0 5 W rfl rfl (by kernel_rfl) (by kernel_rfl) ?_
    refine ow_load (P := Try.prog) (T := 27) (off := 0) 2 4 W rfl rfl (by kernel_rfl) (by kernel_rfl) ?_
    refine ow_new 0 W (AObj.cells [Value.slice (some { block := b0, off := 0 }) (2 ^ n) c] 27 false) (fun q => Value.func (Fn.func 96) { toList := [] } { toList := [Value.pointer (some { block := q, off := 0 })] }) (by kernel_rfl) fun g6 ng6 Wg6 => ?_
    have W := Wg6
    refine ow_range 0 (callF := evInv Try.prog orc 100000 (F + 2)) (P := Try.prog) (lf := 100000) (m := 63) (rcOf Try.prog 85 0) W [(1, ptr bD 0), (2, ptr bG 0), (3, ptr h.next 0), (4, ptr g1.next 0), (7, ptr g3.next 0)] 96 [.func (.yield (g6.next + 1)) #[] #[], ptr g5.next 0]
      (by kernel_rfl) (fun F => by kernel_rfl) ⟨by kernel_rfl, by kernel_rfl, by kernel_rfl, by kernel_rfl, by kernel_rfl, trivial⟩ (by kernel_rfl) (by kernel_rfl) fun F1 f2 HH hr nH W => ?_
    let CC : RC := rcOf Try.prog 85 0
    let SL : Value := .slice (some ⟨b0, 0, none⟩) (2 ^ n) c
    let Inv : Nat → Hp → Prop := fun i q => ∃ es cl, MapOk (Lf f n) es ∧ (∀ j, j < i → cho f n m v j = false) ∧ Sto hb q ((g6.next + 1, CC.obj F1 g6.next .ready none) :: (g6.next, .defd false) :: (g5.next, .cells [SL] 27 false) :: (g3.next, .cells [J i] 3 false) :: (g1.next, .cells [I 0, .bool false, .slice none 0 0] 35 false) :: (h.next, .cells [J m, J v] 86 false) :: (fxL (2 ^ n) b0 c bd mid bD bG es cl ++ l))
    let Out : Hp → Prop := fun q => ∃ es cl L i x y z, MapOk (Lf f n) es ∧ i < n ∧ cho f n m v i = true ∧ (∀ j, j < i → cho f n m v j = false) ∧ Sto hb q ((g6.next + 1, CC.obj F1 g6.next .done (some .ret)) :: (g6.next, .defd false) :: (g5.next, .cells [SL] 27 false) :: (g3.next, .cells [J i] 3 false) :: (g1.next, .cells [x, y, z] 35 false) :: (h.next, .cells [J m, J v] 86 false) :: (fxL (2 ^ n) b0 c bd mid bD bG es cl ++ (L ++ l))) ∧
      At L (d + 1) (.agg #[x, y, z]) (.mk (Int.ofNat i) false [trF f n d (m ||| 2 ^ i) v, trF f n d (m ||| 2 ^ i) (v ||| 2 ^ i)])
    have hbx : ∀ i q, Inv i q → loadT Try.prog q 27 (ptr g5.next 0) = some (.slice (some ⟨b0, 0, none⟩) (2 ^ n) c) := fun i q ⟨es, cl, _, _, W⟩ => load1 (by kernel_rfl) (W.get 2 rfl) rfl
    have hy : ∀ i q, i < n → Inv i q → (∃ g', evInv Try.prog orc 100000 (F + 1) (.yield (g6.next + 1) [J (2 ^ i)]) q = some (.bool true, g') ∧ Inv (i + 1) g') ∨ (∃ g', evInv Try.prog orc 100000 (F + 1) (.yield (g6.next + 1) [J (2 ^ i)]) q = some (.bool false, g') ∧ Out g') := fun i q hi ⟨es, cl, ok, hno, W⟩ => by
      have key : ∃ w g', evInv Try.prog orc 100000 (F + 1) (.yield (g6.next + 1) [J (2 ^ i)]) q = some (w, g') ∧ ((w = .bool true ∧ Inv (i + 1) g') ∨ (w = .bool false ∧ Out g')) := by
        refine yld_ok (c := CC) (Q := fun w g' => (w = .bool true ∧ Inv (i + 1) g') ∨ (w = .bool false ∧ Out g')) hr (W.get 0 rfl) (by kernel_rfl) ?_
        refine ow_busy 0 0 W rfl (by kernel_rfl) fun q1 nq1 Wq1 => ?_
        have W := Wq1
        refine ow_loadA (P := Try.prog) (T := 86) (z := 2) 0 5 W rfl (by kernel_rfl) (by kernel_rfl) rfl (by kernel_rfl) ?_
        obtain ⟨_, q2, ec, e0, X⟩ := wi i false q1 hi
        rw [if_neg (by decide)] at e0
        subst e0
        refine sy_call 0 (by kernel_rfl) ec ?_
        have Wq2 := W.call X
        have W := Wq2
        refine ow_loadA (P := Try.prog) (T := 86) (z := 2) 0 5 W rfl (by kernel_rfl) (by kernel_rfl) rfl (by kernel_rfl) ?_
        obtain ⟨_, q3, ec, e0, X⟩ := wi i true q2 hi
        rw [if_pos rfl] at e0
        subst e0
        refine sy_call 0 (by kernel_rfl) ec ?_
        have Wq3 := W.call X
        have W := Wq3
        refine ow_var (P := Try.prog) (T := 86) (cs := [Value.int IntKind.i64 (Int.ofNat 0), Value.int IntKind.i64 (Int.ofNat 0)]) (e := 86) (v := Value.agg { toList := [Value.int IntKind.i64 (Int.ofNat (m ||| 2 ^ i)), Value.int IntKind.i64 (Int.ofNat v)] }) 0 W ([Value.int IntKind.i64 (Int.ofNat (m ||| 2 ^ i)), Value.int IntKind.i64 (Int.ofNat v)]) rfl rfl (by kernel_rfl) (by first | rfl | (repeat' (first | exact rfl | assumption | apply sc_cons))) (by kernel_rfl) fun q4 nq4 Wq4 => ?_
        have W := Wq4
        refine ow_var (P := Try.prog) (T := 86) (cs := [Value.int IntKind.i64 (Int.ofNat 0), Value.int IntKind.i64 (Int.ofNat 0)]) (e := 86) (v := Value.agg { toList := [Value.int IntKind.i64 (Int.ofNat (m ||| 2 ^ i)), Value.int IntKind.i64 (Int.ofNat (v ||| 2 ^ i))] }) 0 W ([Value.int IntKind.i64 (Int.ofNat (m ||| 2 ^ i)), Value.int IntKind.i64 (Int.ofNat (v ||| 2 ^ i))]) rfl rfl (by kernel_rfl) (by first | rfl | (repeat' (first | exact rfl | assumption | apply sc_cons))) (by kernel_rfl) fun q5 nq5 Wq5 => ?_
        have W := Wq5
        refine sy_need 0 [] [⟨(loadT Try.prog q1 86 (ptr (Hp.next h) (0))).map (·, q1), Value.agg { toList := [Value.int IntKind.i64 (Int.ofNat m), Value.int IntKind.i64 (Int.ofNat v)] }, q1⟩] (by kernel_rfl) ⟨ob_loadA (P := Try.prog) (T := 86) (k := 5) (z := 2) Wq1 rfl (by kernel_rfl) (by kernel_rfl) rfl, trivial⟩ ?_
        refine ow_load (P := Try.prog) (T := 3) (off := 0) 1 7 W rfl rfl (by kernel_rfl) (by kernel_rfl) ?_
        refine ok_go 2 ?_
        have hbm : (andI (Int.ofNat m) (Int.ofNat (2 ^ i)) == 0) = (m &&& 2 ^ i == 0) := by rw [and_nat (by omega)]; exact eq_int _ 0
        have hm1 : m ||| 2 ^ i < 2 ^ n := or_small hm (hi2 i hi)
        have hv1 : v ||| 2 ^ i < 2 ^ n := or_small hv (hi2 i hi)
        refine sy_test 0 (andI (Int.ofNat m) (Int.ofNat (2 ^ i)) == 0) (by kernel_rfl) ?_ ?_
        rotate_left
        · intro hz
          rw [hbm] at hz
          refine ok_go 12 ?_
          refine sy_need 0 [] [] (by kernel_rfl) trivial ?_
          refine ow_load (P := Try.prog) (T := 3) (off := 0) 1 5 W rfl rfl (by kernel_rfl) (by kernel_rfl) ?_
          refine ow_store (P := Try.prog) (T := 3) (off := 0) (v := Value.int IntKind.i64 (IntKind.wrap IntKind.i64 (Int.ofNat i + 1))) 1 5 W rfl (Nat.le_of_ble_eq_true (by kernel_rfl)) (by kernel_rfl) (by first | rfl | assumption) (by kernel_rfl) fun q6 nq6 Wq6 => ?_
          have W := Wq6
          refine ow_round 0 2 W rfl (by kernel_rfl) fun q7 nq7 Wq7 => ?_
          have W := Wq7
          refine sy_done 0 (v := .bool true) (h := q7) (by kernel_rfl) (.inl ⟨rfl, es, cl, ok, fun j hj => ?_, ?_⟩)
          · rcases Nat.lt_succ_iff_lt_or_eq.1 hj with hj | rfl
            · exact hno j hj
            · rw [cho, hz]; rfl
          · rw [show IntKind.i64.wrap (Int.ofNat i + 1) = Int.ofNat (i + 1) from wrap_add (b := 1) (by omega)] at W
            exact W.drop 2
        intro hz
        rw [hbm] at hz
        refine ow_load (P := Try.prog) (T := 80) (off := 0) 0 10 W rfl rfl (by kernel_rfl) (by kernel_rfl) ?_
        refine ow_loadA (P := Try.prog) (T := 86) (z := 2) 1 1 W rfl (by kernel_rfl) (by kernel_rfl) rfl (by kernel_rfl) ?_
        refine ok_go 1 ?_
        obtain ⟨q6, es1, cl1, ec1, ok1, Wq6⟩ := least_sto (le (m ||| 2 ^ i) v hm1 hv) A ok W 8 9 rfl rfl
        have W := Wq6
        refine sy_call 0 (by kernel_rfl) ec1 ?_
        refine ow_load (P := Try.prog) (T := 80) (off := 0) 1 10 W rfl rfl (by kernel_rfl) (by kernel_rfl) ?_
        refine ow_loadA (P := Try.prog) (T := 86) (z := 2) 1 0 W rfl (by kernel_rfl) (by kernel_rfl) rfl (by kernel_rfl) ?_
        refine ok_go 1 ?_
        obtain ⟨q7, es2, cl2, ec2, ok2, Wq7⟩ := least_sto (le (m ||| 2 ^ i) (v ||| 2 ^ i) hm1 hv1) A ok1 W 8 9 rfl rfl
        have W := Wq7
        refine sy_call 0 (by kernel_rfl) ec2 ?_
        refine ow_load (P := Try.prog) (T := 80) (off := 0) 5 10 W rfl rfl (by kernel_rfl) (by kernel_rfl) ?_
        refine ow_loadA (P := Try.prog) (T := 86) (z := 2) 1 7 W rfl (by kernel_rfl) (by kernel_rfl) rfl (by kernel_rfl) ?_
        refine ok_go 1 ?_
        obtain ⟨q8, es3, cl3, ec3, ok3, Wq8⟩ := least_sto (le m v hm hv) A ok2 W 8 9 rfl rfl
        have W := Wq8
        refine sy_call 0 (by kernel_rfl) ec3 ?_
        refine ok_go 3 ?_
        refine sy_need 0 [] [⟨(loadT Try.prog q5 80 (ptr (bD) (0))).map (·, q5), Value.pointer (some { block := bd, off := 0 }), q5⟩, ⟨(loadT Try.prog q5 86 (ptr (Hp.next q4) (0))).map (·, q5), Value.agg { toList := [Value.int IntKind.i64 (Int.ofNat (m ||| 2 ^ i)), Value.int IntKind.i64 (Int.ofNat (v ||| 2 ^ i))] }, q5⟩, ⟨some (Value.int IntKind.i64 (if Int.ofNat (Lf f n (m ||| 2 ^ i) (v ||| 2 ^ i)) > Int.ofNat (Lf f n (m ||| 2 ^ i) v) then Int.ofNat (Lf f n (m ||| 2 ^ i) (v ||| 2 ^ i)) else Int.ofNat (Lf f n (m ||| 2 ^ i) v)), q8), Value.int IntKind.i64 (if Int.ofNat (Lf f n (m ||| 2 ^ i) (v ||| 2 ^ i)) > Int.ofNat (Lf f n (m ||| 2 ^ i) v) then Int.ofNat (Lf f n (m ||| 2 ^ i) (v ||| 2 ^ i)) else Int.ofNat (Lf f n (m ||| 2 ^ i) v)), q8⟩, ⟨(loadT Try.prog q5 80 (ptr (bD) (0))).map (·, q5), Value.pointer (some { block := bd, off := 0 }), q5⟩, ⟨(loadT Try.prog q6 80 (ptr (bD) (0))).map (·, q6), Value.pointer (some { block := bd, off := 0 }), q6⟩, ⟨(loadT Try.prog q5 86 (ptr (Hp.next h) (0))).map (·, q5), Value.agg { toList := [Value.int IntKind.i64 (Int.ofNat m), Value.int IntKind.i64 (Int.ofNat v)] }, q5⟩, ⟨(loadT Try.prog q6 86 (ptr (Hp.next h) (0))).map (·, q6), Value.agg { toList := [Value.int IntKind.i64 (Int.ofNat m), Value.int IntKind.i64 (Int.ofNat v)] }, q6⟩] (by kernel_rfl) ⟨ob_load (P := Try.prog) (T := 80) (k := 10) Wq5 rfl rfl (by kernel_rfl), ob_loadA (P := Try.prog) (T := 86) (k := 0) (z := 2) Wq5 rfl (by kernel_rfl) (by kernel_rfl) rfl, rfl, ob_load (P := Try.prog) (T := 80) (k := 10) Wq5 rfl rfl (by kernel_rfl), ob_load (P := Try.prog) (T := 80) (k := 10) Wq6 rfl rfl (by kernel_rfl), ob_loadA (P := Try.prog) (T := 86) (k := 7) (z := 2) Wq5 rfl (by kernel_rfl) (by kernel_rfl) rfl, ob_loadA (P := Try.prog) (T := 86) (k := 7) (z := 2) Wq6 rfl (by kernel_rfl) (by kernel_rfl) rfl, trivial⟩ ?_
        have hL1 := Lf_le f n (m ||| 2 ^ i) v
        have hL2 := Lf_le f n (m ||| 2 ^ i) (v ||| 2 ^ i)
        have hcv : (IntKind.wrap .i64 (1 + (if Int.ofNat (Lf f n (m ||| 2 ^ i) (v ||| 2 ^ i)) > Int.ofNat (Lf f n (m ||| 2 ^ i) v) then Int.ofNat (Lf f n (m ||| 2 ^ i) (v ||| 2 ^ i)) else Int.ofNat (Lf f n (m ||| 2 ^ i) v))) == Int.ofNat (Lf f n m v)) = cho f n m v i := by
          rw [ite_max, show IntKind.wrap .i64 (1 + Int.ofNat (max (Lf f n (m ||| 2 ^ i) v) (Lf f n (m ||| 2 ^ i) (v ||| 2 ^ i)))) = Int.ofNat (1 + max (Lf f n (m ||| 2 ^ i) v) (Lf f n (m ||| 2 ^ i) (v ||| 2 ^ i))) from wrap_add (a := 1) (by omega), eq_int, cho, hz, Bool.true_and]
        refine sy_test 0 (IntKind.wrap .i64 (1 + (if Int.ofNat (Lf f n (m ||| 2 ^ i) (v ||| 2 ^ i)) > Int.ofNat (Lf f n (m ||| 2 ^ i) v) then Int.ofNat (Lf f n (m ||| 2 ^ i) (v ||| 2 ^ i)) else Int.ofNat (Lf f n (m ||| 2 ^ i) v))) == Int.ofNat (Lf f n m v)) (by kernel_rfl) ?_ ?_
        rotate_left
        · intro hc
          rw [hcv] at hc
          refine ow_load (P := Try.prog) (T := 3) (off := 0) 0 5 W rfl rfl (by kernel_rfl) (by kernel_rfl) ?_
          refine ow_store (P := Try.prog) (T := 3) (off := 0) (v := Value.int IntKind.i64 (IntKind.wrap IntKind.i64 (Int.ofNat i + 1))) 1 5 W rfl (Nat.le_of_ble_eq_true (by kernel_rfl)) (by kernel_rfl) (by first | rfl | assumption) (by kernel_rfl) fun q9 nq9 Wq9 => ?_
          have W := Wq9
          refine ow_round 0 2 W rfl (by kernel_rfl) fun q10 nq10 Wq10 => ?_
          have W := Wq10
          refine sy_done 0 (v := .bool true) (h := q10) (by kernel_rfl) (.inl ⟨rfl, es3, cl3, ok3, fun j hj => ?_, ?_⟩)
          · rcases Nat.lt_succ_iff_lt_or_eq.1 hj with hj | rfl
            · exact hno j hj
            · exact hc
          · rw [show IntKind.i64.wrap (Int.ofNat i + 1) = Int.ofNat (i + 1) from wrap_add (b := 1) (by omega)] at W
            exact W.drop 2
        intro hc
        rw [hcv] at hc
        let pre : List (Nat × AObj) := [(q4.next, .cells [J (m ||| 2 ^ i), J (v ||| 2 ^ i)] 86 false), (q3.next, .cells [J (m ||| 2 ^ i), J v] 86 false), (g6.next + 1, CC.obj F1 g6.next .busy none), (g6.next, .defd false), (g5.next, .cells [SL] 27 false), (g3.next, .cells [J i] 3 false), (g1.next, .cells [I 0, .bool false, .slice none 0 0] 35 false), (h.next, .cells [J m, J v] 86 false)]
        have W : Sto hb q8 (pre ++ (fxL (2 ^ n) b0 c bd mid bD bG es3 cl3 ++ l)) := W
        have Wq8 := W
        refine ow_load (P := Try.prog) (T := 3) (off := 0) 0 5 W rfl rfl (by kernel_rfl) (by kernel_rfl) ?_
        refine ow_load (P := Try.prog) (T := 117) (off := 0) 0 11 W rfl rfl (by kernel_rfl) (by kernel_rfl) ?_
        refine ow_loadA (P := Try.prog) (T := 86) (z := 2) 0 1 W rfl (by kernel_rfl) (by kernel_rfl) rfl (by kernel_rfl) ?_
        have hz' : m &&& 2 ^ i = 0 := eq_of_beq hz
        obtain ⟨y1, q9, es4, cl4, L1, ec4, ok4, W', A1⟩ := rec_ i v hi hz' (.inl rfl) q8 es3 cl3 (pre ++ l) ok3 (W.perm perm_up)
        have Wq9 : Sto hb q9 (pre ++ (fxL (2 ^ n) b0 c bd mid bD bG es4 cl4 ++ (L1 ++ l))) := W'.perm perm_dn
        have W := Wq9
        obtain ⟨a1, c1, rfl⟩ := A1.shape
        refine sy_call 0 (by kernel_rfl) ec4 ?_
        refine ow_load (P := Try.prog) (T := 117) (off := 0) 0 11 W rfl rfl (by kernel_rfl) (by kernel_rfl) ?_
        refine ow_loadA (P := Try.prog) (T := 86) (z := 2) 0 0 W rfl (by kernel_rfl) (by kernel_rfl) rfl (by kernel_rfl) ?_
        obtain ⟨y2, q10, es5, cl5, L2, ec5, ok5, W', A2⟩ := rec_ i (v ||| 2 ^ i) hi hz' (.inr rfl) q9 es4 cl4 (pre ++ (L1 ++ l)) ok4 (W.perm perm_up)
        have Wq10 : Sto hb q10 (pre ++ (fxL (2 ^ n) b0 c bd mid bD bG es5 cl5 ++ (L2 ++ (L1 ++ l)))) := W'.perm perm_dn
        have W := Wq10
        obtain ⟨a2, c2, rfl⟩ := A2.shape
        refine sy_call 0 (by kernel_rfl) ec5 ?_
        refine ow_new 0 W (AObj.cells [Value.int IntKind.i64 (RT.b (trF f n d (m ||| 2 ^ i) v)), Value.bool (RT.w (trF f n d (m ||| 2 ^ i) v)), Value.slice a1 (List.length (RT.l (trF f n d (m ||| 2 ^ i) v))) c1, Value.int IntKind.i64 (RT.b (trF f n d (m ||| 2 ^ i) (v ||| 2 ^ i))), Value.bool (RT.w (trF f n d (m ||| 2 ^ i) (v ||| 2 ^ i))), Value.slice a2 (List.length (RT.l (trF f n d (m ||| 2 ^ i) (v ||| 2 ^ i)))) c2] 35 false) (fun q => Value.slice (some { block := q, off := 0 }) 2 4) (by kernel_rfl) fun q11 nq11 Wq11 => ?_
        have W := Wq11
        refine ow_storeA (P := Try.prog) (T := 35) (v := Value.agg { toList := [Value.int IntKind.i64 (Int.ofNat i), Value.bool false, Value.slice (some { block := Hp.next q10, off := 0 }) 2 4] }) 1 7 W ([Value.int IntKind.i64 (Int.ofNat i), Value.bool false, Value.slice (some { block := Hp.next q10, off := 0 }) 2 4]) rfl rfl rfl (by kernel_rfl) (by first | rfl | (repeat' (first | exact rfl | assumption | apply sc_cons))) (by kernel_rfl) fun q12 nq12 Wq12 => ?_
        have W := Wq12
        refine sy_need 0 [] [⟨(loadT Try.prog q9 3 (ptr (Hp.next g3) (0))).map (·, q9), Value.int IntKind.i64 (Int.ofNat i), q9⟩, ⟨(loadT Try.prog q10 3 (ptr (Hp.next g3) (0))).map (·, q10), Value.int IntKind.i64 (Int.ofNat i), q10⟩, ⟨(loadT Try.prog q11 3 (ptr (Hp.next g3) (0))).map (·, q11), Value.int IntKind.i64 (Int.ofNat i), q11⟩, ⟨(loadT Try.prog q8 117 (ptr (bG) (0))).map (·, q8), Value.func (Fn.func 85) { toList := [] } { toList := [Value.pointer (some { block := bD, off := 0 }), Value.pointer (some { block := bG, off := 0 })] }, q8⟩, ⟨(loadT Try.prog q8 86 (ptr (Hp.next q4) (0))).map (·, q8), Value.agg { toList := [Value.int IntKind.i64 (Int.ofNat (m ||| 2 ^ i)), Value.int IntKind.i64 (Int.ofNat (v ||| 2 ^ i))] }, q8⟩] (by kernel_rfl) ⟨ob_load (P := Try.prog) (T := 3) (k := 5) Wq9 rfl rfl (by kernel_rfl), ob_load (P := Try.prog) (T := 3) (k := 5) Wq10 rfl rfl (by kernel_rfl), ob_load (P := Try.prog) (T := 3) (k := 6) Wq11 rfl rfl (by kernel_rfl), ob_load (P := Try.prog) (T := 117) (k := 11) Wq8 rfl rfl (by kernel_rfl), ob_loadA (P := Try.prog) (T := 86) (k := 0) (z := 2) Wq8 rfl (by kernel_rfl) (by kernel_rfl) rfl, trivial⟩ ?_
        refine ow_leave 0 3 (Ex.ret) W rfl (by kernel_rfl) (by simp) fun q15 nq15 Wq15 => ?_
        have W := Wq15
        let nd : Nat × AObj := (q10.next, .cells [I (trF f n d (m ||| 2 ^ i) v).b, .bool (trF f n d (m ||| 2 ^ i) v).w, .slice a1 (trF f n d (m ||| 2 ^ i) v).l.length c1, I (trF f n d (m ||| 2 ^ i) (v ||| 2 ^ i)).b, .bool (trF f n d (m ||| 2 ^ i) (v ||| 2 ^ i)).w, .slice a2 (trF f n d (m ||| 2 ^ i) (v ||| 2 ^ i)).l.length c2] 35 false)
        have W : Sto hb q15 (nd :: ([(q4.next, .cells [J (m ||| 2 ^ i), J (v ||| 2 ^ i)] 86 false), (q3.next, .cells [J (m ||| 2 ^ i), J v] 86 false), (g6.next + 1, CC.obj F1 g6.next .done (some .ret)), (g6.next, .defd false), (g5.next, .cells [SL] 27 false), (g3.next, .cells [J i] 3 false), (g1.next, .cells [J i, .bool false, .slice (some ⟨q10.next, 0, none⟩) 2 4] 35 false), (h.next, .cells [J m, J v] 86 false)] ++ (fxL (2 ^ n) b0 c bd mid bD bG es5 cl5 ++ (L2 ++ (L1 ++ l))))) := W
        have W := (W.perm perm_in).drop 2
        refine sy_done 0 (v := .bool false) (h := q15) (by kernel_rfl) (.inr ⟨rfl, es5, cl5, nd :: (L2 ++ L1), i, J i, .bool false, .slice (some ⟨q10.next, 0, none⟩) 2 4, ok5, hi, hc, hno, ?_, ?_⟩)
        · rw [List.cons_append, List.append_assoc]; exact W
        · refine ⟨some ⟨q10.next, 0, none⟩, 4, rfl, fun _ => ⟨q10.next, 0, nd.2, _, rfl, List.mem_cons_self .., rfl, ⟨_, _, _, _, rfl, A1.mono fun p hp => ?_, ⟨_, _, _, _, rfl, A2.mono fun p hp => ?_, rfl⟩⟩⟩⟩
          · exact List.mem_cons_of_mem _ (List.mem_append_right _ hp)
          · exact List.mem_cons_of_mem _ (List.mem_append_left _ hp)
      obtain ⟨w, g', e, ⟨rfl, hI⟩ | ⟨rfl, hO⟩⟩ := key
      · exact .inl ⟨g', e, hI⟩
      · exact .inr ⟨g', e, hO⟩
    obtain ⟨w, h3, ev, hI | hO⟩ := single_run n (by omega) 100000 (F + 1) g5.next (g6.next + 1) (by decide) (some ⟨b0, 0, none⟩) c Inv Out hbx hy (h := HH) ⟨es, cl, ok, fun j hj => absurd hj (Nat.not_lt_zero j), W⟩
    · obtain ⟨es3, cl3, ok3, hno, W⟩ := hI
      refine ⟨w, h3, .ready, none, g6.next, .normal, _, ev, W, by decide, rfl, fun H' nH' W => ?_⟩
      refine ow_storeA (P := Try.prog) (T := 35) (v := Value.agg { toList := [Value.int IntKind.i64 (Int.ofNat 0), Value.bool false, Value.slice none 0 0] }) 1 3 W ([Value.int IntKind.i64 (Int.ofNat 0), Value.bool false, Value.slice none 0 0]) rfl rfl rfl (by kernel_rfl) (by first | rfl | (repeat' (first | exact rfl | assumption | apply sc_cons))) (by kernel_rfl) fun r1 nr1 Wr1 => ?_
      have W := Wr1
      refine ow_marks 0 [g6.next] (l' := [(g5.next, .cells [SL] 27 false), (g3.next, .cells [J n] 3 false), (g1.next, .cells [I 0, .bool false, .slice none 0 0] 35 false), (h.next, .cells [J m, J v] 86 false)] ++ (fxL (2 ^ n) b0 c bd mid bD bG es3 cl3 ++ l)) W (by kernel_rfl) fun r2 nr2 W => ?_
      refine ow_loadA (P := Try.prog) (T := 35) (z := 3) 0 2 W rfl (by kernel_rfl) (by kernel_rfl) rfl (by kernel_rfl) ?_
      refine sy_done 0 (v := .agg #[I 0, .bool false, .slice none 0 0]) (h := r2) (by kernel_rfl) ⟨es3, cl3, [], ok3, W.drop 4, ?_⟩
      rw [trF, if_neg (by rw [ha]; decide), find_none hno]
      exact ⟨none, 0, rfl, fun hn => absurd rfl hn⟩
    · obtain ⟨es3, cl3, L, i, x, y, z, ok3, hi, hc, hno, W, A3⟩ := hO
      refine ⟨w, h3, .done, some .ret, g6.next, .ret, _, ev, W, by decide, rfl, fun H' nH' W => ?_⟩
      refine ow_marks 0 [g6.next] (l' := [(g5.next, .cells [SL] 27 false), (g3.next, .cells [J i] 3 false), (g1.next, .cells [x, y, z] 35 false), (h.next, .cells [J m, J v] 86 false)] ++ (fxL (2 ^ n) b0 c bd mid bD bG es3 cl3 ++ (L ++ l))) W (by kernel_rfl) fun r2 nr2 W => ?_
      refine ow_loadA (P := Try.prog) (T := 35) (z := 3) 0 2 W rfl (by kernel_rfl) (by kernel_rfl) rfl (by kernel_rfl) ?_
      refine sy_done 0 (v := .agg #[x, y, z]) (h := r2) (by kernel_rfl) ⟨es3, cl3, L, ok3, W.drop 4, ?_⟩
      rw [trF, if_neg (by rw [ha]; decide), find_some hi hc hno]
      exact A3
  obtain ⟨y, h', e, es', cl', L, ok', W', A'⟩ := main
  exact ⟨y, h', es', cl', L, e, ok', W', A'⟩
end Go.Proofs.Ytnfboopfpkaeaaa
