/- What stands around the part that is still to be sorted. -/
import Derived.Test.YtkfbfgcflnkllaaGreatDoorProg
import Derived.KernelRfl
import Derived.Test.YtkfbfgcflnkllaaGreatDoorSyF
import Derived.Test.YtkfbfgcflnkllaaGreatDoorSxA
namespace Go.Proofs.YtkfbfgcflnkllaaGreatDoor.Ch
open Go Go.Eng Nim Oct
set_option maxRecDepth 100000
set_option maxHeartbeats 8000000
section
variable {lf m C q N : Nat} {h : Hp} {l : List (Nat × AObj)} {o : Bool} {V : Value → Prop} {lt : Value → Value → Prop}
theorem pivot_of (K : Cmp lf m C h l q N o V lt) (K1 : Cmp lf (m + 1) C h l q N o V lt) (hN : N ≤ 10000) (c : Nat) (f : Nat → Value) (hV : ∀ k, k < N → V (f k)) (a n : Nat) (hn : 13 ≤ n) (hb : a + n ≤ N) (g : Hp) (W : Dat h l q N o f g) :
    ∃ v g', Ev lf (m + 4) 120 [.slice (some ⟨q, 0, none⟩) N c, J a, J (a + n), .func (.func C) #[] #[]] g = some (v, g') ∧ ∃ x t, v = .tuple #[J x, J t] ∧ t ≤ 2 ∧ (a ≤ x ∧ x < a + n) ∧ Dat h l q N o f g' := by
  refine fnS_ok (Q := fun v g' => ∃ x t, v = .tuple #[J x, J t] ∧ t ≤ 2 ∧ (a ≤ x ∧ x < a + n) ∧ Dat h l q N o f g') ?_
  let SL : Value := .slice (some ⟨q, 0, none⟩) N c
  let P : Nat → Prop := fun x => a ≤ x ∧ x < a + n
  have hP : ∀ x, P x → x < N := fun x hx => Nat.lt_of_lt_of_le hx.2 hb
  have hw1 : IntKind.wrap .i64 (Int.ofNat (a + n) - Int.ofNat a) = Int.ofNat n := by rw [wrap_sub (by omega) (by omega), Nat.add_sub_cancel_left]
  have hq : ∀ k : Nat, k ≤ 3 → IntKind.wrap .i64 (Int.ofNat a + IntKind.wrap .i64 (IntKind.wrap .i64 ((IntKind.wrap .i64 (Int.ofNat (a + n) - Int.ofNat a)).tdiv 4) * Int.ofNat k)) = Int.ofNat (a + n / 4 * k) := by
    intro k hk
    have hle : n / 4 * k ≤ n / 4 * 3 := Nat.mul_le_mul_left _ hk
    rw [hw1, show IntKind.wrap .i64 ((Int.ofNat n).tdiv 4) = Int.ofNat (n / 4) from wrap_nat (n := n / 4) (by omega)]
    rw [show IntKind.wrap .i64 (Int.ofNat (n / 4) * Int.ofNat k) = Int.ofNat (n / 4 * k) from wrap_nat (n := n / 4 * k) (by omega)]
    exact wrap_add (by omega)
  have q1 : IntKind.wrap .i64 (Int.ofNat a + IntKind.wrap .i64 (IntKind.wrap .i64 ((IntKind.wrap .i64 (Int.ofNat (a + n) - Int.ofNat a)).tdiv 4) * 1)) = Int.ofNat (a + n / 4 * 1) := hq 1 (by decide)
  have q2 : IntKind.wrap .i64 (Int.ofNat a + IntKind.wrap .i64 (IntKind.wrap .i64 ((IntKind.wrap .i64 (Int.ofNat (a + n) - Int.ofNat a)).tdiv 4) * 2)) = Int.ofNat (a + n / 4 * 2) := hq 2 (by decide)
  have q3 : IntKind.wrap .i64 (Int.ofNat a + IntKind.wrap .i64 (IntKind.wrap .i64 ((IntKind.wrap .i64 (Int.ofNat (a + n) - Int.ofNat a)).tdiv 4) * 3)) = Int.ofNat (a + n / 4 * 3) := hq 3 (by decide)
  refine ow_new 1 W (AObj.cells [Value.int IntKind.i64 (Int.ofNat 0)] 3 false) (fun q => Value.pointer (some { block := q, off := 0 })) (by kernel_rfl) fun s1 ns1 Ws1 => ?_
  have W := Ws1
  refine ok_go 10 ?_
  generalize g.next = r at *
  refine sy_yes 0 (b := decide (IntKind.wrap .i64 (Int.ofNat (a + n) - Int.ofNat a) ≥ 8)) (by kernel_rfl) (decide_eq_true (by rw [hw1]; show (8 : Int) ≤ (n : Int); omega)) ?_
  refine ok_go 1 ?_
  refine sy_test 0 (decide (IntKind.wrap .i64 (Int.ofNat (a + n) - Int.ofNat a) ≥ 50)) (by kernel_rfl) ?_ ?_
  · intro h50
    have h50 : 50 ≤ n := by rw [hw1] at h50; exact Int.ofNat_le.1 (of_decide_eq_true h50)
    obtain ⟨_, g1, e1, x1, z1, rfl, hx1, W⟩ := adj_of K hN c f hV P hP (a + n / 4 * 1 - 1) r 0 ⟨by omega, by omega⟩ ⟨by omega, by omega⟩ ⟨by omega, by omega⟩ s1 W
    have e1 : Ev lf (m + 3) 161 [SL, I (IntKind.wrap .i64 (Int.ofNat a + IntKind.wrap .i64 (IntKind.wrap .i64 ((IntKind.wrap .i64 (Int.ofNat (a + n) - Int.ofNat a)).tdiv 4) * 1))), ptr r 0, .func (.func C) #[] #[]] s1 = some (J x1, g1) := by rw [q1, show a + n / 4 * 1 = a + n / 4 * 1 - 1 + 1 by omega]; exact e1
    refine ok_go 0 ?_
    refine sy_call 0 (by kernel_rfl) e1 ?_
    obtain ⟨_, g2, e2, x2, z2, rfl, hx2, W⟩ := adj_of K hN c f hV P hP (a + n / 4 * 2 - 1) r z1 ⟨by omega, by omega⟩ ⟨by omega, by omega⟩ ⟨by omega, by omega⟩ g1 W
    have e2 : Ev lf (m + 3) 161 [SL, I (IntKind.wrap .i64 (Int.ofNat a + IntKind.wrap .i64 (IntKind.wrap .i64 ((IntKind.wrap .i64 (Int.ofNat (a + n) - Int.ofNat a)).tdiv 4) * 2))), ptr r 0, .func (.func C) #[] #[]] g1 = some (J x2, g2) := by rw [q2, show a + n / 4 * 2 = a + n / 4 * 2 - 1 + 1 by omega]; exact e2
    refine ok_go 0 ?_
    refine sy_call 0 (by kernel_rfl) e2 ?_
    obtain ⟨_, g3, e3, x3, z3, rfl, hx3, W⟩ := adj_of K hN c f hV P hP (a + n / 4 * 3 - 1) r z2 ⟨by omega, by omega⟩ ⟨by omega, by omega⟩ ⟨by omega, by omega⟩ g2 W
    have e3 : Ev lf (m + 3) 161 [SL, I (IntKind.wrap .i64 (Int.ofNat a + IntKind.wrap .i64 (IntKind.wrap .i64 ((IntKind.wrap .i64 (Int.ofNat (a + n) - Int.ofNat a)).tdiv 4) * 3))), ptr r 0, .func (.func C) #[] #[]] g2 = some (J x3, g3) := by rw [q3, show a + n / 4 * 3 = a + n / 4 * 3 - 1 + 1 by omega]; exact e3
    refine ok_go 0 ?_
    refine sy_call 0 (by kernel_rfl) e3 ?_
    obtain ⟨_, g4, e4, x4, z4, rfl, hx4, W⟩ := med_of K1 c f hV P hP x1 x2 x3 r z3 hx1 hx2 hx3 g3 W
    refine ok_go 0 ?_
    refine sy_call 0 (by kernel_rfl) e4 ?_
    refine ow_load (P := Tryz.prog) (T := 3) (off := 0) 0 0 W rfl rfl (by kernel_rfl) (by kernel_rfl) ?_
    refine ok_go 1 ?_
    refine sy_test 0 (z4 == 0) (by kernel_rfl) ?_ ?_
    · intro _
      refine sy_done 0 (v := Value.tuple { toList := [Value.int IntKind.i64 (Int.ofNat x4), Value.int IntKind.i64 (Int.ofNat 1)] }) (h := g4) (by kernel_rfl) ?_
      exact ⟨x4, 1, rfl, by decide, hx4, W.drop 1⟩
    · intro _
      refine ok_go 1 ?_
      refine sy_test 0 (z4 == 12) (by kernel_rfl) ?_ ?_
      · intro _
        refine sy_done 0 (v := Value.tuple { toList := [Value.int IntKind.i64 (Int.ofNat x4), Value.int IntKind.i64 (Int.ofNat 2)] }) (h := g4) (by kernel_rfl) ?_
        exact ⟨x4, 2, rfl, by decide, hx4, W.drop 1⟩
      · intro _
        refine sy_done 0 (v := Value.tuple { toList := [Value.int IntKind.i64 (Int.ofNat x4), Value.int IntKind.i64 (Int.ofNat 0)] }) (h := g4) (by kernel_rfl) ?_
        exact ⟨x4, 0, rfl, by decide, hx4, W.drop 1⟩
  · intro h50
    obtain ⟨_, g4, e4, x4, z4, rfl, hx4, W⟩ := med_of K1 c f hV P hP (a + n / 4 * 1) (a + n / 4 * 2) (a + n / 4 * 3) r 0 ⟨by omega, by omega⟩ ⟨by omega, by omega⟩ ⟨by omega, by omega⟩ s1 W
    have e4 : Ev lf (m + 3) 162 [SL, I (IntKind.wrap .i64 (Int.ofNat a + IntKind.wrap .i64 (IntKind.wrap .i64 ((IntKind.wrap .i64 (Int.ofNat (a + n) - Int.ofNat a)).tdiv 4) * 1))), I (IntKind.wrap .i64 (Int.ofNat a + IntKind.wrap .i64 (IntKind.wrap .i64 ((IntKind.wrap .i64 (Int.ofNat (a + n) - Int.ofNat a)).tdiv 4) * 2))), I (IntKind.wrap .i64 (Int.ofNat a + IntKind.wrap .i64 (IntKind.wrap .i64 ((IntKind.wrap .i64 (Int.ofNat (a + n) - Int.ofNat a)).tdiv 4) * 3))), ptr r 0, .func (.func C) #[] #[]] s1 = some (J x4, g4) := by rw [q1, q2, q3]; exact e4
    refine ok_go 0 ?_
    refine sy_call 0 (by kernel_rfl) e4 ?_
    refine ow_load (P := Tryz.prog) (T := 3) (off := 0) 0 0 W rfl rfl (by kernel_rfl) (by kernel_rfl) ?_
    refine ok_go 1 ?_
    refine sy_test 0 (z4 == 0) (by kernel_rfl) ?_ ?_
    · intro _
      refine sy_done 0 (v := Value.tuple { toList := [Value.int IntKind.i64 (Int.ofNat x4), Value.int IntKind.i64 (Int.ofNat 1)] }) (h := g4) (by kernel_rfl) ?_
      exact ⟨x4, 1, rfl, by decide, hx4, W.drop 1⟩
    · intro _
      refine ok_go 1 ?_
      refine sy_test 0 (z4 == 12) (by kernel_rfl) ?_ ?_
      · intro _
        refine sy_done 0 (v := Value.tuple { toList := [Value.int IntKind.i64 (Int.ofNat x4), Value.int IntKind.i64 (Int.ofNat 2)] }) (h := g4) (by kernel_rfl) ?_
        exact ⟨x4, 2, rfl, by decide, hx4, W.drop 1⟩
      · intro _
        refine sy_done 0 (v := Value.tuple { toList := [Value.int IntKind.i64 (Int.ofNat x4), Value.int IntKind.i64 (Int.ofNat 0)] }) (h := g4) (by kernel_rfl) ?_
        exact ⟨x4, 0, rfl, by decide, hx4, W.drop 1⟩
end
end Go.Proofs.YtkfbfgcflnkllaaGreatDoor.Ch
namespace Go.Proofs.YtkfbfgcflnkllaaGreatDoor.Ch
open Go Go.Eng Nim Oct
set_option maxRecDepth 100000
set_option maxHeartbeats 8000000
section
variable {lf m C q N : Nat} {h : Hp} {l : List (Nat × AObj)} {o : Bool} {V : Value → Prop} {lt : Value → Value → Prop}
theorem rev_of (hlf : 20000 ≤ lf) (K : Cmp lf m C h l q N o V lt) (hN : N ≤ 10000) (c : Nat) (f : Nat → Value) (hV : ∀ k, k < N → V (f k)) (a n : Nat) (hn : 1 ≤ n) (hb : a + n ≤ N) (g : Hp) (W : Dat h l q N o f g) :
    ∃ v g', Ev lf (m + 1) 121 [.slice (some ⟨q, 0, none⟩) N c, J a, J (a + n), .func (.func C) #[] #[]] g = some (v, g') ∧ ∃ f', Dat h l q N o f' g' ∧ Sw a (a + n) f f' := by
  refine fnS_ok (Q := fun v g' => ∃ f', Dat h l q N o f' g' ∧ Sw a (a + n) f f') ?_
  let SL : Value := .slice (some ⟨q, 0, none⟩) N c
  have hw0 : IntKind.wrap .i64 (Int.ofNat (a + n) - 1) = Int.ofNat (a + n - 1 - 0) := wrap_sub (b := 1) (by omega) (by omega)
  refine ok_go 1 ?_
  refine sy_loop 0 lf g (α := Nat × (Nat → Value)) (fun x => [(0, SL), (8, J (a + x.1)), (9, J (a + n - 1 - x.1))]) (fun x g => 2 * x.1 ≤ n ∧ Dat h l q N o x.2 g ∧ Sw a (a + n) f x.2) (fun x _ => n - x.1) (0, f) (by kernel_rfl) (by kernel_rfl)
    ⟨by kernel_rfl, by kernel_rfl, (by kernel_rfl : _ = Value.int .i64 (IntKind.wrap .i64 (Int.ofNat (a + n) - 1))).trans (by rw [hw0]), trivial⟩ (show n - 0 < lf by omega) ⟨Nat.zero_le _, W, .refl f⟩ ?_
  clear W
  rintro m1 ⟨i, f1⟩ F1 g ⟨hi, W, S⟩ ih
  dsimp only at hi W S
  have hV1 := S.every hb hV
  refine ok_go 1 ?_
  refine sy_test 0 (decide (Int.ofNat (a + i) < Int.ofNat (a + n - 1 - i))) (by kernel_rfl) ?_ ?_
  · intro hlt
    have hlt : a + i < a + n - 1 - i := ok_nat hlt
    have hw1 : IntKind.wrap .i64 (Int.ofNat (a + i) + 1) = Int.ofNat (a + (i + 1)) := wrap_add (b := 1) (by omega)
    have hw2 : IntKind.wrap .i64 (Int.ofNat (a + n - 1 - i) - 1) = Int.ofNat (a + n - 1 - (i + 1)) := (wrap_sub (b := 1) (by omega) (by omega)).trans (by rw [Nat.sub_sub (a + n - 1) i 1])
    refine ok_go 0 ?_
    refine sy_load 0 (r := indexAddrOp Tryz.prog 22 SL (J (a + n - 1 - i))) (h' := g) (v := ptr q (a + n - 1 - i)) (by kernel_rfl) (idxS0 (e := 28) (by kernel_rfl) (by kernel_rfl) (by omega)) ?_
    refine ok_go 0 ?_
    refine ow_loadF (P := Tryz.prog) (T := 28) (off := a + n - 1 - i) 0 0 W rfl (by omega) (by kernel_rfl) (by kernel_rfl) ?_
    refine ok_go 0 ?_
    refine sy_load 0 (r := indexAddrOp Tryz.prog 22 SL (J (a + i))) (h' := g) (v := ptr q (a + i)) (by kernel_rfl) (idxS0 (e := 28) (by kernel_rfl) (by kernel_rfl) (by omega)) ?_
    refine ok_go 0 ?_
    refine ow_loadF (P := Tryz.prog) (T := 28) (off := a + i) 0 0 W rfl (by omega) (by kernel_rfl) (by kernel_rfl) ?_
    refine ok_go 0 ?_
    refine sy_load 0 (r := indexAddrOp Tryz.prog 22 SL (J (a + i))) (h' := g) (v := ptr q (a + i)) (by kernel_rfl) (idxS0 (e := 28) (by kernel_rfl) (by kernel_rfl) (by omega)) ?_
    refine ok_go 0 ?_
    refine ow_storeF (P := Tryz.prog) (T := 28) (off := a + i) (v := f1 (a + n - 1 - i)) 0 0 W rfl (by omega) (by kernel_rfl) (K.sc _ (hV1 _ (by omega))) (by kernel_rfl) fun ga nga W => ?_
    refine ok_go 0 ?_
    refine sy_load 0 (r := indexAddrOp Tryz.prog 22 SL (J (a + n - 1 - i))) (h' := ga) (v := ptr q (a + n - 1 - i)) (by kernel_rfl) (idxS0 (e := 28) (by kernel_rfl) (by kernel_rfl) (by omega)) ?_
    refine ok_go 0 ?_
    refine ow_storeF (P := Tryz.prog) (T := 28) (off := a + n - 1 - i) (v := f1 (a + i)) 0 0 W rfl (by omega) (by kernel_rfl) (K.sc _ (hV1 _ (by omega))) (by kernel_rfl) fun g3 ng3 W => ?_
    refine ok_go 2 ?_
    have W : Dat h l q N o (swp f1 (a + i) (a + n - 1 - i)) g3 := by rw [← updF_swp]; exact W
    exact sy_next 0 _ g3 (by kernel_rfl) (by kernel_rfl) (ih (i + 1, swp f1 (a + i) (a + n - 1 - i)) _ g3 ⟨by omega, W, S.trans (.one (by omega) (by omega) (by omega) (by omega))⟩ (show n - (i + 1) < n - i by omega) ⟨by kernel_rfl, (by kernel_rfl : _ = Value.int .i64 (IntKind.wrap .i64 (Int.ofNat (a + i) + 1))).trans (by rw [hw1]), (by kernel_rfl : _ = Value.int .i64 (IntKind.wrap .i64 (Int.ofNat (a + n - 1 - i) - 1))).trans (by rw [hw2]), trivial⟩)
  · intro _
    refine sy_done 0 (v := Value.tuple { toList := [] }) (h := g) (by kernel_rfl) ?_
    exact ⟨f1, W, S⟩
end
end Go.Proofs.YtkfbfgcflnkllaaGreatDoor.Ch
namespace Go.Proofs.YtkfbfgcflnkllaaGreatDoor.Oct
theorem Sw.low {α : Type} {lt : α → α → Prop} {f g : Nat → α} {a b : Nat} (S : Sw a b f g) (hl : a = 0 ∨ ∀ k, a ≤ k → k < b → ¬ lt (f k) (f (a - 1))) : a = 0 ∨ ∀ k, a ≤ k → k < b → ¬ lt (g k) (g (a - 1)) := by
  by_cases h0 : a = 0
  · exact .inl h0
  · rcases hl with h | h
    · exact absurd h h0
    · exact .inr (by rw [S.out (x := a - 1) (.inl (by omega))]; exact S.all (P := fun v => ¬ lt v (f (a - 1))) h)
theorem Srt.keep {α : Type} {lt : α → α → Prop} {f g : Nat → α} {a i b : Nat} (Z : Srt lt f a i) (S : Sw i b f g) : Srt lt g a i := fun x y h1 h2 h3 => by
  rw [S.out (x := x) (.inl (by omega)), S.out (x := y) (.inl h3)]
  exact Z x y h1 h2 h3
theorem Srt.more {α : Type} {lt : α → α → Prop} {f : Nat → α} {a i : Nat} (O : Ord lt) (Z : Srt lt f a i) (ha : a < i) (hn : ¬ lt (f i) (f (i - 1))) : Srt lt f a (i + 1) := (Ins.start Z).done O (.inr ⟨ha, hn⟩)
end Go.Proofs.YtkfbfgcflnkllaaGreatDoor.Oct
namespace Go.Proofs.YtkfbfgcflnkllaaGreatDoor.Ch
open Go Go.Eng Nim Oct
set_option maxRecDepth 100000
set_option maxHeartbeats 8000000
section
variable {lf m C q N : Nat} {h : Hp} {l : List (Nat × AObj)} {o : Bool} {V : Value → Prop} {lt : Value → Value → Prop}
theorem pins_of (hlf : 20000 ≤ lf) (K : Cmp lf m C h l q N o V lt) (hN : N ≤ 10000) (c : Nat) (f : Nat → Value) (hV : ∀ k, k < N → V (f k)) (a b : Nat) (hab : a < b) (hb : b ≤ N) (hlow : a = 0 ∨ ∀ k, a ≤ k → k < b → ¬ lt (f k) (f (a - 1))) (g : Hp) (W : Dat h l q N o f g) :
    ∃ v g', Ev lf (m + 1) 122 [.slice (some ⟨q, 0, none⟩) N c, J a, J b, .func (.func C) #[] #[]] g = some (v, g') ∧ ∃ f' r, v = .bool r ∧ Dat h l q N o f' g' ∧ Sw a b f f' ∧ (r = true → Srt lt f' a b) := by
  refine fnS_ok (Q := fun v g' => ∃ f' r, v = .bool r ∧ Dat h l q N o f' g' ∧ Sw a b f f' ∧ (r = true → Srt lt f' a b)) ?_
  let SL : Value := .slice (some ⟨q, 0, none⟩) N c
  have hwa : IntKind.wrap .i64 (Int.ofNat a + 1) = Int.ofNat (a + 1) := wrap_add (b := 1) (by omega)
  refine ok_go 1 ?_
  refine sy_loop 0 lf g (α := Nat × Nat × (Nat → Value)) (fun x => [(0, SL), (1, J a), (2, J b), (3, .func (.func C) #[] #[]), (9, J x.2.1), (10, J x.1)]) (fun x g => x.1 ≤ 5 ∧ a + 1 ≤ x.2.1 ∧ x.2.1 ≤ b ∧ Dat h l q N o x.2.2 g ∧ Sw a b f x.2.2 ∧ Srt lt x.2.2 a x.2.1) (fun x _ => 5 - x.1) (0, a + 1, f) (by kernel_rfl) (by kernel_rfl)
    ⟨by kernel_rfl, by kernel_rfl, by kernel_rfl, by kernel_rfl, (by kernel_rfl : _ = Value.int .i64 (IntKind.wrap .i64 (Int.ofNat a + 1))).trans (by rw [hwa]), by kernel_rfl, trivial⟩ (show 5 - 0 < lf by omega) ⟨Nat.zero_le 5, Nat.le_refl _, hab, W, .refl f, fun x y h1 h2 h3 => by dsimp only at h3; omega⟩ ?_
  clear W
  rintro m1 ⟨s, i, f1⟩ F1 g ⟨hs, h1, h2, W, S, Z⟩ ih
  dsimp only at hs h1 h2 W S Z
  have hws : IntKind.wrap .i64 (Int.ofNat (s + 1)) = Int.ofNat (s + 1) := wrap_nat (by omega)
  refine ok_go 1 ?_
  refine sy_test 0 (decide (Int.ofNat s < 5)) (by kernel_rfl) ?_ ?_
  · intro hs5
    have hs5 : s < 5 := ok_nat (b := 5) hs5
    refine ok_go 0 ?_
    refine sy_loop 0 lf g (α := Nat) (fun i => [(0, SL), (1, J a), (2, J b), (3, .func (.func C) #[] #[]), (9, J i), (10, J s)]) (fun i g' => a + 1 ≤ i ∧ i ≤ b ∧ g' = g ∧ Srt lt f1 a i) (fun i _ => b - i) i (by kernel_rfl) (by kernel_rfl)
      ⟨by kernel_rfl, by kernel_rfl, by kernel_rfl, by kernel_rfl, by kernel_rfl, by kernel_rfl, trivial⟩ (show b - i < lf by omega) ⟨h1, h2, rfl, Z⟩ ?_
    clear Z h1 h2
    rintro m2 i F2 g ⟨h1, h2, rfl, Z⟩ ih2
    have hV1 := S.every hb hV
    refine ok_go 1 ?_
    refine sy_test 0 (decide (Int.ofNat i < Int.ofNat b)) (by kernel_rfl) ?_ ?_
    · intro hib
      have hib : i < b := ok_nat hib
      obtain ⟨i, rfl⟩ : ∃ k, i = k + 1 := ⟨i - 1, by omega⟩
      have hwi : IntKind.wrap .i64 (Int.ofNat (i + 1) - 1) = Int.ofNat i := sub_one (by omega)
      have hwk : IntKind.wrap .i64 (Int.ofNat (i + 1 + 1)) = Int.ofNat (i + 1 + 1) := wrap_nat (by omega)
      obtain ⟨z, ec, hz⟩ := K.cmp f1 g _ _ W (hV1 (i + 1) (by omega)) (hV1 i (by omega))
      refine ok_go 3 ?_
      refine sy_load 0 (r := indexAddrOp Tryz.prog 22 SL (J (i + 1))) (h' := g) (v := ptr q (i + 1)) (by kernel_rfl) (idxS0 (e := 28) (by kernel_rfl) (by kernel_rfl) (by omega)) ?_
      refine ok_go 1 ?_
      refine ow_loadF (P := Tryz.prog) (T := 28) (off := i + 1) 0 0 W rfl (by omega) (by kernel_rfl) (by kernel_rfl) ?_
      refine ok_go 5 ?_
      refine sy_load 0 (r := indexAddrOp Tryz.prog 22 SL (I (IntKind.wrap .i64 (Int.ofNat (i + 1) - 1)))) (h' := g) (v := ptr q (i)) (by kernel_rfl) (by rw [hwi]; exact idxS0 (e := 28) (by kernel_rfl) (by kernel_rfl) (by omega)) ?_
      refine ok_go 1 ?_
      refine ow_loadF (P := Tryz.prog) (T := 28) (off := i) 0 0 W rfl (by omega) (by kernel_rfl) (by kernel_rfl) ?_
      refine ok_go 1 ?_
      refine sy_call 0 (by kernel_rfl) ec ?_
      refine ok_go 5 ?_
      refine sy_test 0 (!decide (z < 0)) (by kernel_rfl) ?_ ?_
      · intro hz0
        have hz0 : ¬ lt (f1 (i + 1)) (f1 i) := fun h => by rw [decide_eq_true (hz.2 h)] at hz0; cases hz0
        refine ok_go 1 ?_
        exact sy_next 0 _ g (by kernel_rfl) (by kernel_rfl) (ih2 (i + 1 + 1) _ g ⟨by omega, hib, rfl, Z.more K.ord (by omega) hz0⟩ (show b - (i + 1 + 1) < b - (i + 1) by omega) ⟨by kernel_rfl, by kernel_rfl, by kernel_rfl, by kernel_rfl, (by kernel_rfl : _ = Value.int .i64 (IntKind.wrap .i64 (Int.ofNat (i + 1 + 1)))).trans (by rw [hwk]), by kernel_rfl, trivial⟩)
      · intro hz0
        have hz0 : lt (f1 (i + 1)) (f1 i) := hz.1 (by
          cases hd : decide (z < 0) with
          | true => exact of_decide_eq_true hd
          | false => rw [hd] at hz0; cases hz0)
        refine ok_go 1 ?_
        refine sy_no 0 (b := Int.ofNat (i + 1) == Int.ofNat b) (by kernel_rfl) (beq_eq_false_iff_ne.2 fun h => by have := Int.ofNat.inj h; omega) ?_
        refine ok_go 2 ?_
        refine sy_test 0 (decide (IntKind.wrap .i64 (Int.ofNat b - Int.ofNat a) < 50)) (by kernel_rfl) ?_ ?_
        · intro _
          refine sy_done 0 (v := Value.bool false) (h := g) (by kernel_rfl) ?_
          exact ⟨f1, false, rfl, W, S, fun h => by cases h⟩
        intro _
        refine ok_go 2 ?_
        refine sy_load 0 (r := indexAddrOp Tryz.prog 22 SL (I (IntKind.wrap .i64 (Int.ofNat (i + 1) - 1)))) (h' := g) (v := ptr q (i)) (by kernel_rfl) (by rw [hwi]; exact idxS0 (e := 28) (by kernel_rfl) (by kernel_rfl) (by omega)) ?_
        refine ok_go 0 ?_
        refine ow_loadF (P := Tryz.prog) (T := 28) (off := i) 0 0 W rfl (by omega) (by kernel_rfl) (by kernel_rfl) ?_
        refine ok_go 0 ?_
        refine sy_load 0 (r := indexAddrOp Tryz.prog 22 SL (J (i + 1))) (h' := g) (v := ptr q (i + 1)) (by kernel_rfl) (idxS0 (e := 28) (by kernel_rfl) (by kernel_rfl) (by omega)) ?_
        refine ok_go 0 ?_
        refine ow_loadF (P := Tryz.prog) (T := 28) (off := i + 1) 0 0 W rfl (by omega) (by kernel_rfl) (by kernel_rfl) ?_
        refine ok_go 0 ?_
        refine sy_load 0 (r := indexAddrOp Tryz.prog 22 SL (J (i + 1))) (h' := g) (v := ptr q (i + 1)) (by kernel_rfl) (idxS0 (e := 28) (by kernel_rfl) (by kernel_rfl) (by omega)) ?_
        refine ok_go 0 ?_
        refine ow_storeF (P := Tryz.prog) (T := 28) (off := i + 1) (v := f1 (i)) 0 0 W rfl (by omega) (by kernel_rfl) (K.sc _ (hV1 _ (by omega))) (by kernel_rfl) fun ga nga W => ?_
        refine ok_go 0 ?_
        refine sy_load 0 (r := indexAddrOp Tryz.prog 22 SL (I (IntKind.wrap .i64 (Int.ofNat (i + 1) - 1)))) (h' := ga) (v := ptr q (i)) (by kernel_rfl) (by rw [hwi]; exact idxS0 (e := 28) (by kernel_rfl) (by kernel_rfl) (by omega)) ?_
        refine ok_go 0 ?_
        refine ow_storeF (P := Tryz.prog) (T := 28) (off := i) (v := f1 (i + 1)) 0 0 W rfl (by omega) (by kernel_rfl) (K.sc _ (hV1 _ (by omega))) (by kernel_rfl) fun g3 ng3 W => ?_
        refine ok_go 2 ?_
        have W : Dat h l q N o (swp f1 (i + 1) (i)) g3 := by rw [← updF_swp]; exact W
        have hIns : Ins lt (swp f1 (i + 1) i) a i i := .start fun x y k1 k2 k3 => by
          rw [swp_o _ (by omega) (by omega), swp_o _ (by omega) (by omega)]
          exact Z x y k1 k2 (by omega)
        have S := S.trans (.one (f := f1) (i := i + 1) (j := i) (by omega) (by omega) (by omega) (by omega))
        obtain ⟨f2, hf2⟩ : ∃ f2, f2 = swp f1 (i + 1) i := ⟨_, rfl⟩
        rw [← hf2] at W S hIns
        clear hz0 ec hz ih2 Z hwk hV1
        refine sy_test 0 (decide (IntKind.wrap .i64 (Int.ofNat (i + 1) - Int.ofNat a) ≥ 2)) (by kernel_rfl) ?_ ?_
        · intro _
          refine ok_go 1 ?_
          refine sy_loop 0 lf g3 (α := Nat × (Nat → Value)) (fun x => [(0, SL), (1, J a), (2, J b), (3, .func (.func C) #[] #[]), (9, J (i + 1)), (10, J s), (11, J x.1)]) (fun x g => a ≤ x.1 ∧ x.1 ≤ i ∧ Dat h l q N o x.2 g ∧ Sw a b f x.2 ∧ Ins lt x.2 a i x.1) (fun x _ => x.1) (i, f2) (by kernel_rfl) (by kernel_rfl)
            ⟨by kernel_rfl, by kernel_rfl, by kernel_rfl, by kernel_rfl, by kernel_rfl, by kernel_rfl, (by kernel_rfl : _ = Value.int .i64 (IntKind.wrap .i64 (Int.ofNat (i + 1) - 1))).trans (by rw [hwi]), trivial⟩ (show i < lf by omega) ⟨by dsimp only; omega, Nat.le_refl _, W, S, hIns⟩ ?_
          clear W S hIns
          rintro m3 ⟨j, f3⟩ F3 g ⟨hj1, hj2, W, S, X⟩ ih3
          dsimp only at hj1 hj2 W S X
          have hV3 := S.every hb hV
          refine ok_go 1 ?_
          refine sy_test 0 (decide (Int.ofNat j ≥ 1)) (by kernel_rfl) ?_ ?_
          · intro hj0
            have hj0 : 1 ≤ j := Int.ofNat_le.1 (of_decide_eq_true hj0)
            obtain ⟨j, rfl⟩ : ∃ k, j = k + 1 := ⟨j - 1, by omega⟩
            have hwj : IntKind.wrap .i64 (Int.ofNat (j + 1) - 1) = Int.ofNat j := sub_one (by omega)
            obtain ⟨z, ec, hz⟩ := K.cmp f3 g _ _ W (hV3 (j + 1) (by omega)) (hV3 j (by omega))
            refine ok_go 0 ?_
            refine sy_load 0 (r := indexAddrOp Tryz.prog 22 SL (J (j + 1))) (h' := g) (v := ptr q (j + 1)) (by kernel_rfl) (idxS0 (e := 28) (by kernel_rfl) (by kernel_rfl) (by omega)) ?_
            refine ok_go 0 ?_
            refine ow_loadF (P := Tryz.prog) (T := 28) (off := j + 1) 0 0 W rfl (by omega) (by kernel_rfl) (by kernel_rfl) ?_
            refine ok_go 1 ?_
            refine sy_load 0 (r := indexAddrOp Tryz.prog 22 SL (I (IntKind.wrap .i64 (Int.ofNat (j + 1) - 1)))) (h' := g) (v := ptr q (j)) (by kernel_rfl) (by rw [hwj]; exact idxS0 (e := 28) (by kernel_rfl) (by kernel_rfl) (by omega)) ?_
            refine ok_go 0 ?_
            refine ow_loadF (P := Tryz.prog) (T := 28) (off := j) 0 0 W rfl (by omega) (by kernel_rfl) (by kernel_rfl) ?_
            refine ok_go 0 ?_
            refine sy_call 0 (by kernel_rfl) ec ?_
            refine ok_go 2 ?_
            refine sy_test 0 (!decide (z < 0)) (by kernel_rfl) ?_ ?_
            · intro hz0
              have hz0 : ¬ lt (f3 (j + 1)) (f3 j) := fun h => by rw [decide_eq_true (hz.2 h)] at hz0; cases hz0
              have Z : Srt lt f3 a (i + 1) := X.done K.ord (by
                by_cases e : j + 1 = a
                · exact .inl e
                · exact .inr ⟨by omega, hz0⟩)
              clear ih3 X ec hz hz0 hj1 hj2 hj0 hwj
              refine ok_go 2 ?_
              refine sy_test 0 (decide (IntKind.wrap .i64 (Int.ofNat b - Int.ofNat (i + 1)) ≥ 2)) (by kernel_rfl) ?_ ?_
              · intro _
                refine ok_go 1 ?_
                refine sy_loop 0 lf g (α := Nat × (Nat → Value)) (fun x => [(0, SL), (1, J a), (2, J b), (3, .func (.func C) #[] #[]), (9, J (i + 1)), (10, J s), (12, J x.1)]) (fun x g => i + 1 + 1 ≤ x.1 ∧ x.1 ≤ b ∧ Dat h l q N o x.2 g ∧ Sw a b f x.2 ∧ Srt lt x.2 a (i + 1)) (fun x _ => b - x.1) (i + 1 + 1, f3) (by kernel_rfl) (by kernel_rfl)
                  ⟨by kernel_rfl, by kernel_rfl, by kernel_rfl, by kernel_rfl, by kernel_rfl, by kernel_rfl, (by kernel_rfl : _ = Value.int .i64 (IntKind.wrap .i64 (Int.ofNat (i + 1 + 1)))).trans (by rw [show IntKind.wrap .i64 (Int.ofNat (i + 1 + 1)) = Int.ofNat (i + 1 + 1) from wrap_nat (by omega)]), trivial⟩ (show b - (i + 1 + 1) < lf by omega) ⟨Nat.le_refl _, hib, W, S, Z⟩ ?_
                clear W S Z
                rintro m4 ⟨j, f4⟩ F4 g ⟨hj1, hj2, W, S, Z⟩ ih4
                dsimp only at hj1 hj2 W S Z
                have hV4 := S.every hb hV
                refine ok_go 1 ?_
                refine sy_test 0 (decide (Int.ofNat j < Int.ofNat b)) (by kernel_rfl) ?_ ?_
                · intro hjb
                  have hjb : j < b := ok_nat hjb
                  obtain ⟨j, rfl⟩ : ∃ k, j = k + 1 := ⟨j - 1, by omega⟩
                  have hwj : IntKind.wrap .i64 (Int.ofNat (j + 1) - 1) = Int.ofNat j := sub_one (by omega)
                  have hwk : IntKind.wrap .i64 (Int.ofNat (j + 1 + 1)) = Int.ofNat (j + 1 + 1) := wrap_nat (by omega)
                  obtain ⟨z, ec, hz⟩ := K.cmp f4 g _ _ W (hV4 (j + 1) (by omega)) (hV4 j (by omega))
                  refine ok_go 0 ?_
                  refine sy_load 0 (r := indexAddrOp Tryz.prog 22 SL (J (j + 1))) (h' := g) (v := ptr q (j + 1)) (by kernel_rfl) (idxS0 (e := 28) (by kernel_rfl) (by kernel_rfl) (by omega)) ?_
                  refine ok_go 0 ?_
                  refine ow_loadF (P := Tryz.prog) (T := 28) (off := j + 1) 0 0 W rfl (by omega) (by kernel_rfl) (by kernel_rfl) ?_
                  refine ok_go 1 ?_
                  refine sy_load 0 (r := indexAddrOp Tryz.prog 22 SL (I (IntKind.wrap .i64 (Int.ofNat (j + 1) - 1)))) (h' := g) (v := ptr q (j)) (by kernel_rfl) (by rw [hwj]; exact idxS0 (e := 28) (by kernel_rfl) (by kernel_rfl) (by omega)) ?_
                  refine ok_go 0 ?_
                  refine ow_loadF (P := Tryz.prog) (T := 28) (off := j) 0 0 W rfl (by omega) (by kernel_rfl) (by kernel_rfl) ?_
                  refine ok_go 0 ?_
                  refine sy_call 0 (by kernel_rfl) ec ?_
                  refine ok_go 2 ?_
                  refine sy_test 0 (!decide (z < 0)) (by kernel_rfl) ?_ ?_
                  · intro _
                    refine ok_go 1 ?_
                    exact sy_next 0 _ g (by kernel_rfl) (by kernel_rfl) (ih (s + 1, i + 1, f4) _ g ⟨by omega, h1, h2, W, S, Z⟩ (show 5 - (s + 1) < 5 - s by omega) ⟨by kernel_rfl, by kernel_rfl, by kernel_rfl, by kernel_rfl, by kernel_rfl, (by kernel_rfl : _ = Value.int .i64 (IntKind.wrap .i64 (Int.ofNat (s + 1)))).trans (by rw [hws]), trivial⟩)
                  · intro _
                    refine ok_go 2 ?_
                    refine sy_load 0 (r := indexAddrOp Tryz.prog 22 SL (I (IntKind.wrap .i64 (Int.ofNat (j + 1) - 1)))) (h' := g) (v := ptr q (j)) (by kernel_rfl) (by rw [hwj]; exact idxS0 (e := 28) (by kernel_rfl) (by kernel_rfl) (by omega)) ?_
                    refine ok_go 0 ?_
                    refine ow_loadF (P := Tryz.prog) (T := 28) (off := j) 0 0 W rfl (by omega) (by kernel_rfl) (by kernel_rfl) ?_
                    refine ok_go 0 ?_
                    refine sy_load 0 (r := indexAddrOp Tryz.prog 22 SL (J (j + 1))) (h' := g) (v := ptr q (j + 1)) (by kernel_rfl) (idxS0 (e := 28) (by kernel_rfl) (by kernel_rfl) (by omega)) ?_
                    refine ok_go 0 ?_
                    refine ow_loadF (P := Tryz.prog) (T := 28) (off := j + 1) 0 0 W rfl (by omega) (by kernel_rfl) (by kernel_rfl) ?_
                    refine ok_go 0 ?_
                    refine sy_load 0 (r := indexAddrOp Tryz.prog 22 SL (J (j + 1))) (h' := g) (v := ptr q (j + 1)) (by kernel_rfl) (idxS0 (e := 28) (by kernel_rfl) (by kernel_rfl) (by omega)) ?_
                    refine ok_go 0 ?_
                    refine ow_storeF (P := Tryz.prog) (T := 28) (off := j + 1) (v := f4 (j)) 0 0 W rfl (by omega) (by kernel_rfl) (K.sc _ (hV4 _ (by omega))) (by kernel_rfl) fun ga nga W => ?_
                    refine ok_go 0 ?_
                    refine sy_load 0 (r := indexAddrOp Tryz.prog 22 SL (I (IntKind.wrap .i64 (Int.ofNat (j + 1) - 1)))) (h' := ga) (v := ptr q (j)) (by kernel_rfl) (by rw [hwj]; exact idxS0 (e := 28) (by kernel_rfl) (by kernel_rfl) (by omega)) ?_
                    refine ok_go 0 ?_
                    refine ow_storeF (P := Tryz.prog) (T := 28) (off := j) (v := f4 (j + 1)) 0 0 W rfl (by omega) (by kernel_rfl) (K.sc _ (hV4 _ (by omega))) (by kernel_rfl) fun g3 ng3 W => ?_
                    refine ok_go 1 ?_
                    have W : Dat h l q N o (swp f4 (j + 1) (j)) g3 := by rw [← updF_swp]; exact W
                    exact sy_next 0 _ g3 (by kernel_rfl) (by kernel_rfl) (ih4 (j + 1 + 1, swp f4 (j + 1) j) _ g3 ⟨by omega, hjb, W, S.trans (.one (by omega) (by omega) (by omega) (by omega)), Z.keep (b := b) (.one (by omega) (by omega) (by omega) (by omega))⟩ (show b - (j + 1 + 1) < b - (j + 1) by omega) ⟨by kernel_rfl, by kernel_rfl, by kernel_rfl, by kernel_rfl, by kernel_rfl, by kernel_rfl, (by kernel_rfl : _ = Value.int .i64 (IntKind.wrap .i64 (Int.ofNat (j + 1 + 1)))).trans (by rw [hwk]), trivial⟩)
                · intro _
                  refine ok_go 1 ?_
                  exact sy_next 0 _ g (by kernel_rfl) (by kernel_rfl) (ih (s + 1, i + 1, f4) _ g ⟨by omega, h1, h2, W, S, Z⟩ (show 5 - (s + 1) < 5 - s by omega) ⟨by kernel_rfl, by kernel_rfl, by kernel_rfl, by kernel_rfl, by kernel_rfl, (by kernel_rfl : _ = Value.int .i64 (IntKind.wrap .i64 (Int.ofNat (s + 1)))).trans (by rw [hws]), trivial⟩)
              · intro _
                refine ok_go 1 ?_
                exact sy_next 0 _ g (by kernel_rfl) (by kernel_rfl) (ih (s + 1, i + 1, f3) _ g ⟨by omega, h1, h2, W, S, Z⟩ (show 5 - (s + 1) < 5 - s by omega) ⟨by kernel_rfl, by kernel_rfl, by kernel_rfl, by kernel_rfl, by kernel_rfl, (by kernel_rfl : _ = Value.int .i64 (IntKind.wrap .i64 (Int.ofNat (s + 1)))).trans (by rw [hws]), trivial⟩)
            · intro hz0
              have hz0 : lt (f3 (j + 1)) (f3 j) := hz.1 (by
                cases hd : decide (z < 0) with
                | true => exact of_decide_eq_true hd
                | false => rw [hd] at hz0; cases hz0)
              have haj : a ≤ j := by
                rcases S.low hlow with h0 | hl
                · omega
                · refine Classical.byContradiction fun hc => ?_
                  obtain rfl : a = j + 1 := by omega
                  exact hl (j + 1) (Nat.le_refl _) (by omega) hz0
              refine ok_go 2 ?_
              refine sy_load 0 (r := indexAddrOp Tryz.prog 22 SL (I (IntKind.wrap .i64 (Int.ofNat (j + 1) - 1)))) (h' := g) (v := ptr q (j)) (by kernel_rfl) (by rw [hwj]; exact idxS0 (e := 28) (by kernel_rfl) (by kernel_rfl) (by omega)) ?_
              refine ok_go 0 ?_
              refine ow_loadF (P := Tryz.prog) (T := 28) (off := j) 0 0 W rfl (by omega) (by kernel_rfl) (by kernel_rfl) ?_
              refine ok_go 0 ?_
              refine sy_load 0 (r := indexAddrOp Tryz.prog 22 SL (J (j + 1))) (h' := g) (v := ptr q (j + 1)) (by kernel_rfl) (idxS0 (e := 28) (by kernel_rfl) (by kernel_rfl) (by omega)) ?_
              refine ok_go 0 ?_
              refine ow_loadF (P := Tryz.prog) (T := 28) (off := j + 1) 0 0 W rfl (by omega) (by kernel_rfl) (by kernel_rfl) ?_
              refine ok_go 0 ?_
              refine sy_load 0 (r := indexAddrOp Tryz.prog 22 SL (J (j + 1))) (h' := g) (v := ptr q (j + 1)) (by kernel_rfl) (idxS0 (e := 28) (by kernel_rfl) (by kernel_rfl) (by omega)) ?_
              refine ok_go 0 ?_
              refine ow_storeF (P := Tryz.prog) (T := 28) (off := j + 1) (v := f3 (j)) 0 0 W rfl (by omega) (by kernel_rfl) (K.sc _ (hV3 _ (by omega))) (by kernel_rfl) fun ga nga W => ?_
              refine ok_go 0 ?_
              refine sy_load 0 (r := indexAddrOp Tryz.prog 22 SL (I (IntKind.wrap .i64 (Int.ofNat (j + 1) - 1)))) (h' := ga) (v := ptr q (j)) (by kernel_rfl) (by rw [hwj]; exact idxS0 (e := 28) (by kernel_rfl) (by kernel_rfl) (by omega)) ?_
              refine ok_go 0 ?_
              refine ow_storeF (P := Tryz.prog) (T := 28) (off := j) (v := f3 (j + 1)) 0 0 W rfl (by omega) (by kernel_rfl) (K.sc _ (hV3 _ (by omega))) (by kernel_rfl) fun g4 ng4 W => ?_
              refine ok_go 1 ?_
              have W : Dat h l q N o (swp f3 (j + 1) (j)) g4 := by rw [← updF_swp]; exact W
              exact sy_next 0 _ g4 (by kernel_rfl) (by kernel_rfl) (ih3 (j, swp f3 (j + 1) j) _ g4 ⟨haj, by omega, W, S.trans (.one (by omega) (by omega) (by omega) (by omega)), X.swap K.ord haj hj2 hz0⟩ (show j < j + 1 by omega) ⟨by kernel_rfl, by kernel_rfl, by kernel_rfl, by kernel_rfl, by kernel_rfl, by kernel_rfl, (by kernel_rfl : _ = Value.int .i64 (IntKind.wrap .i64 (Int.ofNat (j + 1) - 1))).trans (by rw [hwj]), trivial⟩)
          · intro hj0
            obtain rfl : j = 0 := by
              have : ¬ 1 ≤ j := fun h => (of_decide_eq_false hj0) (Int.ofNat_le.2 h)
              omega
            have Z : Srt lt f3 a (i + 1) := X.done K.ord (.inl (by omega))
            clear ih3 X hj1 hj2
            refine ok_go 2 ?_
            refine sy_test 0 (decide (IntKind.wrap .i64 (Int.ofNat b - Int.ofNat (i + 1)) ≥ 2)) (by kernel_rfl) ?_ ?_
            · intro _
              refine ok_go 1 ?_
              refine sy_loop 0 lf g (α := Nat × (Nat → Value)) (fun x => [(0, SL), (1, J a), (2, J b), (3, .func (.func C) #[] #[]), (9, J (i + 1)), (10, J s), (12, J x.1)]) (fun x g => i + 1 + 1 ≤ x.1 ∧ x.1 ≤ b ∧ Dat h l q N o x.2 g ∧ Sw a b f x.2 ∧ Srt lt x.2 a (i + 1)) (fun x _ => b - x.1) (i + 1 + 1, f3) (by kernel_rfl) (by kernel_rfl)
                ⟨by kernel_rfl, by kernel_rfl, by kernel_rfl, by kernel_rfl, by kernel_rfl, by kernel_rfl, (by kernel_rfl : _ = Value.int .i64 (IntKind.wrap .i64 (Int.ofNat (i + 1 + 1)))).trans (by rw [show IntKind.wrap .i64 (Int.ofNat (i + 1 + 1)) = Int.ofNat (i + 1 + 1) from wrap_nat (by omega)]), trivial⟩ (show b - (i + 1 + 1) < lf by omega) ⟨Nat.le_refl _, hib, W, S, Z⟩ ?_
              clear W S Z
              rintro m4 ⟨j, f4⟩ F4 g ⟨hj1, hj2, W, S, Z⟩ ih4
              dsimp only at hj1 hj2 W S Z
              have hV4 := S.every hb hV
              refine ok_go 1 ?_
              refine sy_test 0 (decide (Int.ofNat j < Int.ofNat b)) (by kernel_rfl) ?_ ?_
              · intro hjb
                have hjb : j < b := ok_nat hjb
                obtain ⟨j, rfl⟩ : ∃ k, j = k + 1 := ⟨j - 1, by omega⟩
                have hwj : IntKind.wrap .i64 (Int.ofNat (j + 1) - 1) = Int.ofNat j := sub_one (by omega)
                have hwk : IntKind.wrap .i64 (Int.ofNat (j + 1 + 1)) = Int.ofNat (j + 1 + 1) := wrap_nat (by omega)
                obtain ⟨z, ec, hz⟩ := K.cmp f4 g _ _ W (hV4 (j + 1) (by omega)) (hV4 j (by omega))
                refine ok_go 0 ?_
                refine sy_load 0 (r := indexAddrOp Tryz.prog 22 SL (J (j + 1))) (h' := g) (v := ptr q (j + 1)) (by kernel_rfl) (idxS0 (e := 28) (by kernel_rfl) (by kernel_rfl) (by omega)) ?_
                refine ok_go 0 ?_
                refine ow_loadF (P := Tryz.prog) (T := 28) (off := j + 1) 0 0 W rfl (by omega) (by kernel_rfl) (by kernel_rfl) ?_
                refine ok_go 1 ?_
                refine sy_load 0 (r := indexAddrOp Tryz.prog 22 SL (I (IntKind.wrap .i64 (Int.ofNat (j + 1) - 1)))) (h' := g) (v := ptr q (j)) (by kernel_rfl) (by rw [hwj]; exact idxS0 (e := 28) (by kernel_rfl) (by kernel_rfl) (by omega)) ?_
                refine ok_go 0 ?_
                refine ow_loadF (P := Tryz.prog) (T := 28) (off := j) 0 0 W rfl (by omega) (by kernel_rfl) (by kernel_rfl) ?_
                refine ok_go 0 ?_
                refine sy_call 0 (by kernel_rfl) ec ?_
                refine ok_go 2 ?_
                refine sy_test 0 (!decide (z < 0)) (by kernel_rfl) ?_ ?_
                · intro _
                  refine ok_go 1 ?_
                  exact sy_next 0 _ g (by kernel_rfl) (by kernel_rfl) (ih (s + 1, i + 1, f4) _ g ⟨by omega, h1, h2, W, S, Z⟩ (show 5 - (s + 1) < 5 - s by omega) ⟨by kernel_rfl, by kernel_rfl, by kernel_rfl, by kernel_rfl, by kernel_rfl, (by kernel_rfl : _ = Value.int .i64 (IntKind.wrap .i64 (Int.ofNat (s + 1)))).trans (by rw [hws]), trivial⟩)
                · intro _
                  refine ok_go 2 ?_
                  refine sy_load 0 (r := indexAddrOp Tryz.prog 22 SL (I (IntKind.wrap .i64 (Int.ofNat (j + 1) - 1)))) (h' := g) (v := ptr q (j)) (by kernel_rfl) (by rw [hwj]; exact idxS0 (e := 28) (by kernel_rfl) (by kernel_rfl) (by omega)) ?_
                  refine ok_go 0 ?_
                  refine ow_loadF (P := Tryz.prog) (T := 28) (off := j) 0 0 W rfl (by omega) (by kernel_rfl) (by kernel_rfl) ?_
                  refine ok_go 0 ?_
                  refine sy_load 0 (r := indexAddrOp Tryz.prog 22 SL (J (j + 1))) (h' := g) (v := ptr q (j + 1)) (by kernel_rfl) (idxS0 (e := 28) (by kernel_rfl) (by kernel_rfl) (by omega)) ?_
                  refine ok_go 0 ?_
                  refine ow_loadF (P := Tryz.prog) (T := 28) (off := j + 1) 0 0 W rfl (by omega) (by kernel_rfl) (by kernel_rfl) ?_
                  refine ok_go 0 ?_
                  refine sy_load 0 (r := indexAddrOp Tryz.prog 22 SL (J (j + 1))) (h' := g) (v := ptr q (j + 1)) (by kernel_rfl) (idxS0 (e := 28) (by kernel_rfl) (by kernel_rfl) (by omega)) ?_
                  refine ok_go 0 ?_
                  refine ow_storeF (P := Tryz.prog) (T := 28) (off := j + 1) (v := f4 (j)) 0 0 W rfl (by omega) (by kernel_rfl) (K.sc _ (hV4 _ (by omega))) (by kernel_rfl) fun ga nga W => ?_
                  refine ok_go 0 ?_
                  refine sy_load 0 (r := indexAddrOp Tryz.prog 22 SL (I (IntKind.wrap .i64 (Int.ofNat (j + 1) - 1)))) (h' := ga) (v := ptr q (j)) (by kernel_rfl) (by rw [hwj]; exact idxS0 (e := 28) (by kernel_rfl) (by kernel_rfl) (by omega)) ?_
                  refine ok_go 0 ?_
                  refine ow_storeF (P := Tryz.prog) (T := 28) (off := j) (v := f4 (j + 1)) 0 0 W rfl (by omega) (by kernel_rfl) (K.sc _ (hV4 _ (by omega))) (by kernel_rfl) fun g3 ng3 W => ?_
                  refine ok_go 1 ?_
                  have W : Dat h l q N o (swp f4 (j + 1) (j)) g3 := by rw [← updF_swp]; exact W
                  exact sy_next 0 _ g3 (by kernel_rfl) (by kernel_rfl) (ih4 (j + 1 + 1, swp f4 (j + 1) j) _ g3 ⟨by omega, hjb, W, S.trans (.one (by omega) (by omega) (by omega) (by omega)), Z.keep (b := b) (.one (by omega) (by omega) (by omega) (by omega))⟩ (show b - (j + 1 + 1) < b - (j + 1) by omega) ⟨by kernel_rfl, by kernel_rfl, by kernel_rfl, by kernel_rfl, by kernel_rfl, by kernel_rfl, (by kernel_rfl : _ = Value.int .i64 (IntKind.wrap .i64 (Int.ofNat (j + 1 + 1)))).trans (by rw [hwk]), trivial⟩)
              · intro _
                refine ok_go 1 ?_
                exact sy_next 0 _ g (by kernel_rfl) (by kernel_rfl) (ih (s + 1, i + 1, f4) _ g ⟨by omega, h1, h2, W, S, Z⟩ (show 5 - (s + 1) < 5 - s by omega) ⟨by kernel_rfl, by kernel_rfl, by kernel_rfl, by kernel_rfl, by kernel_rfl, (by kernel_rfl : _ = Value.int .i64 (IntKind.wrap .i64 (Int.ofNat (s + 1)))).trans (by rw [hws]), trivial⟩)
            · intro _
              refine ok_go 1 ?_
              exact sy_next 0 _ g (by kernel_rfl) (by kernel_rfl) (ih (s + 1, i + 1, f3) _ g ⟨by omega, h1, h2, W, S, Z⟩ (show 5 - (s + 1) < 5 - s by omega) ⟨by kernel_rfl, by kernel_rfl, by kernel_rfl, by kernel_rfl, by kernel_rfl, (by kernel_rfl : _ = Value.int .i64 (IntKind.wrap .i64 (Int.ofNat (s + 1)))).trans (by rw [hws]), trivial⟩)
        · intro hi2
          have hi2 : i + 1 < a + 2 := by
            refine Nat.lt_of_not_le fun hc => (of_decide_eq_false hi2) ?_
            rw [wrap_sub (by omega) (by omega)]
            show (2 : Int) ≤ ((i + 1 - a : Nat) : Int)
            omega
          have Z : Srt lt f2 a (i + 1) := fun x y k1 k2 k3 => by omega
          clear hi2 hIns
          refine ok_go 2 ?_
          refine sy_test 0 (decide (IntKind.wrap .i64 (Int.ofNat b - Int.ofNat (i + 1)) ≥ 2)) (by kernel_rfl) ?_ ?_
          · intro _
            refine ok_go 1 ?_
            refine sy_loop 0 lf g3 (α := Nat × (Nat → Value)) (fun x => [(0, SL), (1, J a), (2, J b), (3, .func (.func C) #[] #[]), (9, J (i + 1)), (10, J s), (12, J x.1)]) (fun x g => i + 1 + 1 ≤ x.1 ∧ x.1 ≤ b ∧ Dat h l q N o x.2 g ∧ Sw a b f x.2 ∧ Srt lt x.2 a (i + 1)) (fun x _ => b - x.1) (i + 1 + 1, f2) (by kernel_rfl) (by kernel_rfl)
              ⟨by kernel_rfl, by kernel_rfl, by kernel_rfl, by kernel_rfl, by kernel_rfl, by kernel_rfl, (by kernel_rfl : _ = Value.int .i64 (IntKind.wrap .i64 (Int.ofNat (i + 1 + 1)))).trans (by rw [show IntKind.wrap .i64 (Int.ofNat (i + 1 + 1)) = Int.ofNat (i + 1 + 1) from wrap_nat (by omega)]), trivial⟩ (show b - (i + 1 + 1) < lf by omega) ⟨Nat.le_refl _, hib, W, S, Z⟩ ?_
            clear W S Z
            rintro m4 ⟨j, f4⟩ F4 g ⟨hj1, hj2, W, S, Z⟩ ih4
            dsimp only at hj1 hj2 W S Z
            have hV4 := S.every hb hV
            refine ok_go 1 ?_
            refine sy_test 0 (decide (Int.ofNat j < Int.ofNat b)) (by kernel_rfl) ?_ ?_
            · intro hjb
              have hjb : j < b := ok_nat hjb
              obtain ⟨j, rfl⟩ : ∃ k, j = k + 1 := ⟨j - 1, by omega⟩
              have hwj : IntKind.wrap .i64 (Int.ofNat (j + 1) - 1) = Int.ofNat j := sub_one (by omega)
              have hwk : IntKind.wrap .i64 (Int.ofNat (j + 1 + 1)) = Int.ofNat (j + 1 + 1) := wrap_nat (by omega)
              obtain ⟨z, ec, hz⟩ := K.cmp f4 g _ _ W (hV4 (j + 1) (by omega)) (hV4 j (by omega))
              refine ok_go 0 ?_
              refine sy_load 0 (r := indexAddrOp Tryz.prog 22 SL (J (j + 1))) (h' := g) (v := ptr q (j + 1)) (by kernel_rfl) (idxS0 (e := 28) (by kernel_rfl) (by kernel_rfl) (by omega)) ?_
              refine ok_go 0 ?_
              refine ow_loadF (P := Tryz.prog) (T := 28) (off := j + 1) 0 0 W rfl (by omega) (by kernel_rfl) (by kernel_rfl) ?_
              refine ok_go 1 ?_
              refine sy_load 0 (r := indexAddrOp Tryz.prog 22 SL (I (IntKind.wrap .i64 (Int.ofNat (j + 1) - 1)))) (h' := g) (v := ptr q (j)) (by kernel_rfl) (by rw [hwj]; exact idxS0 (e := 28) (by kernel_rfl) (by kernel_rfl) (by omega)) ?_
              refine ok_go 0 ?_
              refine ow_loadF (P := Tryz.prog) (T := 28) (off := j) 0 0 W rfl (by omega) (by kernel_rfl) (by kernel_rfl) ?_
              refine ok_go 0 ?_
              refine sy_call 0 (by kernel_rfl) ec ?_
              refine ok_go 2 ?_
              refine sy_test 0 (!decide (z < 0)) (by kernel_rfl) ?_ ?_
              · intro _
                refine ok_go 1 ?_
                exact sy_next 0 _ g (by kernel_rfl) (by kernel_rfl) (ih (s + 1, i + 1, f4) _ g ⟨by omega, h1, h2, W, S, Z⟩ (show 5 - (s + 1) < 5 - s by omega) ⟨by kernel_rfl, by kernel_rfl, by kernel_rfl, by kernel_rfl, by kernel_rfl, (by kernel_rfl : _ = Value.int .i64 (IntKind.wrap .i64 (Int.ofNat (s + 1)))).trans (by rw [hws]), trivial⟩)
              · intro _
                refine ok_go 2 ?_
                refine sy_load 0 (r := indexAddrOp Tryz.prog 22 SL (I (IntKind.wrap .i64 (Int.ofNat (j + 1) - 1)))) (h' := g) (v := ptr q (j)) (by kernel_rfl) (by rw [hwj]; exact idxS0 (e := 28) (by kernel_rfl) (by kernel_rfl) (by omega)) ?_
                refine ok_go 0 ?_
                refine ow_loadF (P := Tryz.prog) (T := 28) (off := j) 0 0 W rfl (by omega) (by kernel_rfl) (by kernel_rfl) ?_
                refine ok_go 0 ?_
                refine sy_load 0 (r := indexAddrOp Tryz.prog 22 SL (J (j + 1))) (h' := g) (v := ptr q (j + 1)) (by kernel_rfl) (idxS0 (e := 28) (by kernel_rfl) (by kernel_rfl) (by omega)) ?_
                refine ok_go 0 ?_
                refine ow_loadF (P := Tryz.prog) (T := 28) (off := j + 1) 0 0 W rfl (by omega) (by kernel_rfl) (by kernel_rfl) ?_
                refine ok_go 0 ?_
                refine sy_load 0 (r := indexAddrOp Tryz.prog 22 SL (J (j + 1))) (h' := g) (v := ptr q (j + 1)) (by kernel_rfl) (idxS0 (e := 28) (by kernel_rfl) (by kernel_rfl) (by omega)) ?_
                refine ok_go 0 ?_
                refine ow_storeF (P := Tryz.prog) (T := 28) (off := j + 1) (v := f4 (j)) 0 0 W rfl (by omega) (by kernel_rfl) (K.sc _ (hV4 _ (by omega))) (by kernel_rfl) fun ga nga W => ?_
                refine ok_go 0 ?_
                refine sy_load 0 (r := indexAddrOp Tryz.prog 22 SL (I (IntKind.wrap .i64 (Int.ofNat (j + 1) - 1)))) (h' := ga) (v := ptr q (j)) (by kernel_rfl) (by rw [hwj]; exact idxS0 (e := 28) (by kernel_rfl) (by kernel_rfl) (by omega)) ?_
                refine ok_go 0 ?_
                refine ow_storeF (P := Tryz.prog) (T := 28) (off := j) (v := f4 (j + 1)) 0 0 W rfl (by omega) (by kernel_rfl) (K.sc _ (hV4 _ (by omega))) (by kernel_rfl) fun g3 ng3 W => ?_
                refine ok_go 1 ?_
                have W : Dat h l q N o (swp f4 (j + 1) (j)) g3 := by rw [← updF_swp]; exact W
                exact sy_next 0 _ g3 (by kernel_rfl) (by kernel_rfl) (ih4 (j + 1 + 1, swp f4 (j + 1) j) _ g3 ⟨by omega, hjb, W, S.trans (.one (by omega) (by omega) (by omega) (by omega)), Z.keep (b := b) (.one (by omega) (by omega) (by omega) (by omega))⟩ (show b - (j + 1 + 1) < b - (j + 1) by omega) ⟨by kernel_rfl, by kernel_rfl, by kernel_rfl, by kernel_rfl, by kernel_rfl, by kernel_rfl, (by kernel_rfl : _ = Value.int .i64 (IntKind.wrap .i64 (Int.ofNat (j + 1 + 1)))).trans (by rw [hwk]), trivial⟩)
            · intro _
              refine ok_go 1 ?_
              exact sy_next 0 _ g (by kernel_rfl) (by kernel_rfl) (ih (s + 1, i + 1, f4) _ g ⟨by omega, h1, h2, W, S, Z⟩ (show 5 - (s + 1) < 5 - s by omega) ⟨by kernel_rfl, by kernel_rfl, by kernel_rfl, by kernel_rfl, by kernel_rfl, (by kernel_rfl : _ = Value.int .i64 (IntKind.wrap .i64 (Int.ofNat (s + 1)))).trans (by rw [hws]), trivial⟩)
          · intro _
            refine ok_go 1 ?_
            exact sy_next 0 _ g3 (by kernel_rfl) (by kernel_rfl) (ih (s + 1, i + 1, f2) _ g3 ⟨by omega, h1, h2, W, S, Z⟩ (show 5 - (s + 1) < 5 - s by omega) ⟨by kernel_rfl, by kernel_rfl, by kernel_rfl, by kernel_rfl, by kernel_rfl, (by kernel_rfl : _ = Value.int .i64 (IntKind.wrap .i64 (Int.ofNat (s + 1)))).trans (by rw [hws]), trivial⟩)
    · intro hib
      obtain rfl : i = b := Nat.le_antisymm h2 (no_nat hib)
      refine ok_go 15 ?_
      refine sy_yes 0 (b := Int.ofNat i == Int.ofNat i) (by kernel_rfl) (beq_self_eq_true _) ?_
      refine sy_done 0 (v := Value.bool true) (h := g) (by kernel_rfl) ?_
      exact ⟨f1, true, rfl, W, S, fun _ => Z⟩
  · intro _
    refine sy_done 0 (v := Value.bool false) (h := g) (by kernel_rfl) ?_
    exact ⟨f1, false, rfl, W, S, fun h => by cases h⟩
end
end Go.Proofs.YtkfbfgcflnkllaaGreatDoor.Ch
namespace Go.Proofs.YtkfbfgcflnkllaaGreatDoor.Ch
open Go Go.Eng Nim Oct
set_option maxRecDepth 100000
set_option maxHeartbeats 8000000
section
variable {lf m C q N : Nat} {h : Hp} {l : List (Nat × AObj)} {o : Bool} {V : Value → Prop} {lt : Value → Value → Prop}
theorem part_step {B : Value → Prop} {f : Nat → Value} {P : Value} {a b i j : Nat} (hP : f a = P) (h1 : a + 1 ≤ i) (hlt : i < j + 1) (_ : j + 1 + 1 ≤ b) (hL : ∀ k, a + 1 ≤ k → k < i → B (f k)) (hR : ∀ k, j + 1 < k → k < b → ¬ B (f k)) (n1 : ¬ B (f i)) (n2 : B (f (j + 1))) :
    swp f i (j + 1) a = P ∧ (∀ k, a + 1 ≤ k → k < i + 1 → B (swp f i (j + 1) k)) ∧ ∀ k, j < k → k < b → ¬ B (swp f i (j + 1) k) := by
  refine ⟨by rw [swp_o _ (by omega) (by omega)]; exact hP, fun k k1 k2 => ?_, fun k k1 k2 => ?_⟩
  · by_cases e : k = i
    · subst e; rw [swp_l]; exact n2
    · rw [swp_o _ e (by omega)]; exact hL k k1 (by omega)
  · by_cases e : k = j + 1
    · subst e; rw [swp_r]; exact n1
    · rw [swp_o _ (by omega) e]; exact hR k (by omega) k2
theorem peq_of (hlf : 20000 ≤ lf) (K : Cmp lf m C h l q N o V lt) (hN : N ≤ 10000) (c : Nat) (f : Nat → Value) (hV : ∀ k, k < N → V (f k)) (a b p : Nat) (hap : a ≤ p) (hpb : p < b) (hab : a + 1 < b) (hb : b ≤ N) (g : Hp) (W : Dat h l q N o f g) :
    ∃ v g', Ev lf (m + 1) 123 [.slice (some ⟨q, 0, none⟩) N c, J a, J b, J p, .func (.func C) #[] #[]] g = some (v, g') ∧ ∃ f' i, v = J i ∧ Dat h l q N o f' g' ∧ Sw a b f f' ∧ a < i ∧ i ≤ b ∧ f' a = f p ∧ (∀ k, a ≤ k → k < i → ¬ lt (f p) (f' k)) ∧ (∀ k, i ≤ k → k < b → lt (f p) (f' k)) := by
  obtain ⟨P, hPe⟩ : ∃ P, P = f p := ⟨_, rfl⟩
  simp only [← hPe]
  refine fnS_ok (Q := fun v g' => ∃ f' i, v = J i ∧ Dat h l q N o f' g' ∧ Sw a b f f' ∧ a < i ∧ i ≤ b ∧ f' a = P ∧ (∀ k, a ≤ k → k < i → ¬ lt P (f' k)) ∧ (∀ k, i ≤ k → k < b → lt P (f' k))) ?_
  let SL : Value := .slice (some ⟨q, 0, none⟩) N c
  have hwa : IntKind.wrap .i64 (Int.ofNat a + 1) = Int.ofNat (a + 1) := wrap_add (b := 1) (by omega)
  have hwb : IntKind.wrap .i64 (Int.ofNat b - 1) = Int.ofNat (b - 1) := wrap_sub (b := 1) (by omega) (by omega)
  refine ok_go 0 ?_
  refine sy_load 0 (r := indexAddrOp Tryz.prog 22 SL (J p)) (h' := g) (v := ptr q (p)) (by kernel_rfl) (idxS0 (e := 28) (by kernel_rfl) (by kernel_rfl) (by omega)) ?_
  refine ok_go 0 ?_
  refine ow_loadF (P := Tryz.prog) (T := 28) (off := p) 0 0 W rfl (by omega) (by kernel_rfl) (by kernel_rfl) ?_
  refine ok_go 0 ?_
  refine sy_load 0 (r := indexAddrOp Tryz.prog 22 SL (J a)) (h' := g) (v := ptr q (a)) (by kernel_rfl) (idxS0 (e := 28) (by kernel_rfl) (by kernel_rfl) (by omega)) ?_
  refine ok_go 0 ?_
  refine ow_loadF (P := Tryz.prog) (T := 28) (off := a) 0 0 W rfl (by omega) (by kernel_rfl) (by kernel_rfl) ?_
  refine ok_go 0 ?_
  refine sy_load 0 (r := indexAddrOp Tryz.prog 22 SL (J a)) (h' := g) (v := ptr q (a)) (by kernel_rfl) (idxS0 (e := 28) (by kernel_rfl) (by kernel_rfl) (by omega)) ?_
  refine ok_go 0 ?_
  refine ow_storeF (P := Tryz.prog) (T := 28) (off := a) (v := f (p)) 0 0 W rfl (by omega) (by kernel_rfl) (K.sc _ (hV _ (by omega))) (by kernel_rfl) fun ga nga W => ?_
  refine ok_go 0 ?_
  refine sy_load 0 (r := indexAddrOp Tryz.prog 22 SL (J p)) (h' := ga) (v := ptr q (p)) (by kernel_rfl) (idxS0 (e := 28) (by kernel_rfl) (by kernel_rfl) (by omega)) ?_
  refine ok_go 0 ?_
  refine ow_storeF (P := Tryz.prog) (T := 28) (off := p) (v := f (a)) 0 0 W rfl (by omega) (by kernel_rfl) (K.sc _ (hV _ (by omega))) (by kernel_rfl) fun g3 ng3 W => ?_
  refine ok_go 2 ?_
  have W : Dat h l q N o (swp f (a) (p)) g3 := by rw [← updF_swp]; exact W
  have hP0 : swp f a p a = P := by rw [hPe]; exact swp_l f a p
  refine sy_loop 0 lf g3 (α := Nat × Nat × (Nat → Value)) (fun x => [(0, SL), (1, J a), (4, .func (.func C) #[] #[]), (11, J x.1), (12, J x.2.1)]) (fun x g => a + 1 ≤ x.1 ∧ x.1 ≤ x.2.1 + 1 ∧ x.2.1 + 1 ≤ b ∧ Dat h l q N o x.2.2 g ∧ Sw a b f x.2.2 ∧ x.2.2 a = P ∧ (∀ k, a + 1 ≤ k → k < x.1 → ¬ lt P (x.2.2 k)) ∧ (∀ k, x.2.1 < k → k < b → ¬ (¬ lt P (x.2.2 k)))) (fun x _ => x.2.1 + 1 - x.1) (a + 1, b - 1, swp f a p) (by kernel_rfl) (by kernel_rfl)
    ⟨by kernel_rfl, by kernel_rfl, by kernel_rfl, (by kernel_rfl : _ = Value.int .i64 (IntKind.wrap .i64 (Int.ofNat a + 1))).trans (by rw [hwa]), (by kernel_rfl : _ = Value.int .i64 (IntKind.wrap .i64 (Int.ofNat b - 1))).trans (by rw [hwb]), trivial⟩ (show b - 1 + 1 - (a + 1) < lf by omega) ⟨Nat.le_refl _, by show a + 1 ≤ b - 1 + 1; omega, by show b - 1 + 1 ≤ b; omega, W, .one (by omega) (by omega) hap hpb, hP0, fun k k1 k2 => by dsimp only at k2; omega, fun k k1 k2 => by dsimp only at k1; omega⟩ ?_
  clear W hP0
  rintro m1 ⟨i, j, f1⟩ F1 g ⟨h1, h2, h3, W, S, hP, hL, hR⟩ ih
  dsimp only at h1 h2 h3 W S hP hL hR
  have hV1 := S.every hb hV
  refine ok_go 0 ?_
  obtain ⟨i0, hi0⟩ : ∃ i0, i0 = i := ⟨_, rfl⟩
  obtain ⟨j0, hj0⟩ : ∃ j0, j0 = j := ⟨_, rfl⟩
  refine sy_loop 0 lf g (α := Nat) (fun i => [(0, SL), (1, J a), (4, .func (.func C) #[] #[]), (11, J i), (12, J j)]) (fun i g' => g' = g ∧ i0 ≤ i ∧ a + 1 ≤ i ∧ i ≤ j + 1 ∧ ∀ k, a + 1 ≤ k → k < i → ¬ lt P (f1 k)) (fun i _ => j + 1 - i) i (by kernel_rfl) (by kernel_rfl)
    ⟨by kernel_rfl, by kernel_rfl, by kernel_rfl, by kernel_rfl, by kernel_rfl, trivial⟩ (show j + 1 - i < lf by omega) ⟨rfl, by omega, h1, h2, hL⟩ ?_
  clear h1 h2 hL
  rintro mU1 i FU1 g ⟨rfl, hii, h1, h2, hL⟩ ihU1
  have hwi1 : IntKind.wrap .i64 (Int.ofNat (i + 1)) = Int.ofNat (i + 1) := wrap_nat (by omega)
  refine ok_go 1 ?_
  refine sy_test 0 (decide (Int.ofNat i ≤ Int.ofNat j)) (by kernel_rfl) ?_ ?_
  · intro hij
    have hij : i ≤ j := Int.ofNat_le.1 (of_decide_eq_true hij)
    obtain ⟨z, ec, hz⟩ := K.cmp f1 g (f1 a) (f1 i) W (hV1 a (by omega)) (hV1 i (by omega))
    rw [hP] at hz
    refine ok_go 3 ?_
    refine sy_load 0 (r := indexAddrOp Tryz.prog 22 SL (J a)) (h' := g) (v := ptr q (a)) (by kernel_rfl) (idxS0 (e := 28) (by kernel_rfl) (by kernel_rfl) (by omega)) ?_
    refine ok_go 1 ?_
    refine ow_loadF (P := Tryz.prog) (T := 28) (off := a) 0 0 W rfl (by omega) (by kernel_rfl) (by kernel_rfl) ?_
    refine ok_go 3 ?_
    refine sy_load 0 (r := indexAddrOp Tryz.prog 22 SL (J i)) (h' := g) (v := ptr q (i)) (by kernel_rfl) (idxS0 (e := 28) (by kernel_rfl) (by kernel_rfl) (by omega)) ?_
    refine ok_go 1 ?_
    refine ow_loadF (P := Tryz.prog) (T := 28) (off := i) 0 0 W rfl (by omega) (by kernel_rfl) (by kernel_rfl) ?_
    refine ok_go 1 ?_
    refine sy_call 0 (by kernel_rfl) ec ?_
    refine ok_go 5 ?_
    refine sy_test 0 (!decide (z < 0)) (by kernel_rfl) ?_ ?_
    · intro ht
      have hB : ¬ lt P (f1 i) := fun h => by rw [decide_eq_true (hz.2 h)] at ht; cases ht
      refine ok_go 1 ?_
      exact sy_next 0 _ g (by kernel_rfl) (by kernel_rfl) (ihU1 (i + 1) _ g ⟨rfl, by omega, by omega, by omega, fun k k1 k2 => by
        by_cases e : k = i
        · rw [e]; exact hB
        · exact hL k k1 (by omega)⟩ (show j + 1 - (i + 1) < j + 1 - i by omega) ⟨by kernel_rfl, by kernel_rfl, by kernel_rfl, (by kernel_rfl : _ = Value.int .i64 (IntKind.wrap .i64 (Int.ofNat (i + 1)))).trans (by rw [hwi1]), by kernel_rfl, trivial⟩)
    · intro ht
      have HX : i ≤ j → ¬ (¬ lt P (f1 i)) := fun _ => fun hn => hn (hz.1 (by
          cases hd : decide (z < 0) with
          | true => exact of_decide_eq_true hd
          | false => rw [hd] at ht; cases ht))
      clear ec hz ht hij
      refine ok_go 0 ?_
      refine sy_loop 0 lf g (α := Nat) (fun j => [(0, SL), (1, J a), (4, .func (.func C) #[] #[]), (11, J i), (12, J j)]) (fun j g' => g' = g ∧ j ≤ j0 ∧ i ≤ j + 1 ∧ j + 1 ≤ b ∧ (∀ k, j < k → k < b → ¬ (¬ lt P (f1 k))) ∧ (i ≤ j → ¬ (¬ lt P (f1 i)))) (fun j _ => j) j (by kernel_rfl) (by kernel_rfl)
        ⟨by kernel_rfl, by kernel_rfl, by kernel_rfl, by kernel_rfl, by kernel_rfl, trivial⟩ (show j < lf by omega) ⟨rfl, by omega, h2, h3, hR, HX⟩ ?_
      clear h2 h3 hR HX ihU1
      rintro mD1 j FD1 g ⟨rfl, hjj, h2, h3, hR, HX⟩ ihD1
      refine ok_go 1 ?_
      refine sy_test 0 (decide (Int.ofNat i ≤ Int.ofNat j)) (by kernel_rfl) ?_ ?_
      · intro hij
        have hij : i ≤ j := Int.ofNat_le.1 (of_decide_eq_true hij)
        obtain ⟨z, ec, hz⟩ := K.cmp f1 g (f1 a) (f1 j) W (hV1 a (by omega)) (hV1 j (by omega))
        rw [hP] at hz
        refine ok_go 3 ?_
        refine sy_load 0 (r := indexAddrOp Tryz.prog 22 SL (J a)) (h' := g) (v := ptr q (a)) (by kernel_rfl) (idxS0 (e := 28) (by kernel_rfl) (by kernel_rfl) (by omega)) ?_
        refine ok_go 1 ?_
        refine ow_loadF (P := Tryz.prog) (T := 28) (off := a) 0 0 W rfl (by omega) (by kernel_rfl) (by kernel_rfl) ?_
        refine ok_go 3 ?_
        refine sy_load 0 (r := indexAddrOp Tryz.prog 22 SL (J j)) (h' := g) (v := ptr q (j)) (by kernel_rfl) (idxS0 (e := 28) (by kernel_rfl) (by kernel_rfl) (by omega)) ?_
        refine ok_go 1 ?_
        refine ow_loadF (P := Tryz.prog) (T := 28) (off := j) 0 0 W rfl (by omega) (by kernel_rfl) (by kernel_rfl) ?_
        refine ok_go 1 ?_
        refine sy_call 0 (by kernel_rfl) ec ?_
        refine ok_go 3 ?_
        refine sy_test 0 (decide (z < 0)) (by kernel_rfl) ?_ ?_
        · intro ht
          have hB : ¬ (¬ lt P (f1 j)) := fun hn => hn (hz.1 (of_decide_eq_true ht))
          obtain ⟨j, rfl⟩ : ∃ k, j = k + 1 := ⟨j - 1, by omega⟩
          have hwj : IntKind.wrap .i64 (Int.ofNat (j + 1) - 1) = Int.ofNat j := sub_one (by omega)
          refine ok_go 1 ?_
          exact sy_next 0 _ g (by kernel_rfl) (by kernel_rfl) (ihD1 j _ g ⟨rfl, by omega, by omega, by omega, fun k k1 k2 => by
            by_cases e : k = j + 1
            · rw [e]; exact hB
            · exact hR k (by omega) k2, fun h => HX (by omega)⟩ (show j < j + 1 by omega) ⟨by kernel_rfl, by kernel_rfl, by kernel_rfl, by kernel_rfl, (by kernel_rfl : _ = Value.int .i64 (IntKind.wrap .i64 (Int.ofNat (j + 1) - 1))).trans (by rw [hwj]), trivial⟩)
        · intro ht
          have HY : i ≤ j → ¬ lt P (f1 j) := fun _ => fun h => (of_decide_eq_false ht) (hz.2 h)
          clear ihD1 ec hz ht
          refine ok_go 1 ?_
          refine sy_test 0 (decide (Int.ofNat i > Int.ofNat j)) (by kernel_rfl) ?_ ?_
          · intro hij
            have hij : j < i := ok_nat hij
            refine sy_done 0 (v := Value.int IntKind.i64 (Int.ofNat i)) (h := g) (by kernel_rfl) ?_
            exact ⟨f1, i, rfl, W, S, by omega, by omega, hP, fun k k1 k2 => by
              by_cases e : k = a
              · rw [e, hP]; exact K.ord.irr _
              · exact hL k (by omega) k2, fun k k1 k2 => Classical.byContradiction fun hn => hR k (by omega) k2 hn⟩
          · intro hij
            have hij : i ≤ j := no_nat hij
            have n1 := HX hij
            have n2 := HY hij
            have hlt : i < j := by
              rcases Nat.lt_or_eq_of_le hij with h | h
              · exact h
              · subst h; exact absurd n2 n1
            obtain ⟨j, rfl⟩ : ∃ k, j = k + 1 := ⟨j - 1, by omega⟩
            have hwj : IntKind.wrap .i64 (Int.ofNat (j + 1) - 1) = Int.ofNat j := sub_one (by omega)
            have hwi : IntKind.wrap .i64 (Int.ofNat (i + 1)) = Int.ofNat (i + 1) := wrap_nat (by omega)
            obtain ⟨k1, k2, k3⟩ := part_step (B := fun v => ¬ lt P (v)) hP h1 hlt h3 hL hR n1 n2
            refine ok_go 0 ?_
            refine sy_load 0 (r := indexAddrOp Tryz.prog 22 SL (J (j + 1))) (h' := g) (v := ptr q (j + 1)) (by kernel_rfl) (idxS0 (e := 28) (by kernel_rfl) (by kernel_rfl) (by omega)) ?_
            refine ok_go 0 ?_
            refine ow_loadF (P := Tryz.prog) (T := 28) (off := j + 1) 0 0 W rfl (by omega) (by kernel_rfl) (by kernel_rfl) ?_
            refine ok_go 0 ?_
            refine sy_load 0 (r := indexAddrOp Tryz.prog 22 SL (J i)) (h' := g) (v := ptr q (i)) (by kernel_rfl) (idxS0 (e := 28) (by kernel_rfl) (by kernel_rfl) (by omega)) ?_
            refine ok_go 0 ?_
            refine ow_loadF (P := Tryz.prog) (T := 28) (off := i) 0 0 W rfl (by omega) (by kernel_rfl) (by kernel_rfl) ?_
            refine ok_go 0 ?_
            refine sy_load 0 (r := indexAddrOp Tryz.prog 22 SL (J i)) (h' := g) (v := ptr q (i)) (by kernel_rfl) (idxS0 (e := 28) (by kernel_rfl) (by kernel_rfl) (by omega)) ?_
            refine ok_go 0 ?_
            refine ow_storeF (P := Tryz.prog) (T := 28) (off := i) (v := f1 (j + 1)) 0 0 W rfl (by omega) (by kernel_rfl) (K.sc _ (hV1 _ (by omega))) (by kernel_rfl) fun ga nga W => ?_
            refine ok_go 0 ?_
            refine sy_load 0 (r := indexAddrOp Tryz.prog 22 SL (J (j + 1))) (h' := ga) (v := ptr q (j + 1)) (by kernel_rfl) (idxS0 (e := 28) (by kernel_rfl) (by kernel_rfl) (by omega)) ?_
            refine ok_go 0 ?_
            refine ow_storeF (P := Tryz.prog) (T := 28) (off := j + 1) (v := f1 (i)) 0 0 W rfl (by omega) (by kernel_rfl) (K.sc _ (hV1 _ (by omega))) (by kernel_rfl) fun g3 ng3 W => ?_
            refine ok_go 2 ?_
            have W : Dat h l q N o (swp f1 (i) (j + 1)) g3 := by rw [← updF_swp]; exact W
            exact sy_next 0 _ g3 (by kernel_rfl) (by kernel_rfl) (ih (i + 1, j, swp f1 i (j + 1)) _ g3 ⟨show a + 1 ≤ i + 1 by omega, show i + 1 ≤ j + 1 by omega, show j + 1 ≤ b by omega, W, S.trans (.one (by omega) (by omega) (by omega) (by omega)), k1, k2, k3⟩ (by dsimp only; omega) ⟨by kernel_rfl, by kernel_rfl, by kernel_rfl, (by kernel_rfl : _ = Value.int .i64 (IntKind.wrap .i64 (Int.ofNat (i + 1)))).trans (by rw [hwi]), (by kernel_rfl : _ = Value.int .i64 (IntKind.wrap .i64 (Int.ofNat (j + 1) - 1))).trans (by rw [hwj]), trivial⟩)
      · intro hij
        have HY : i ≤ j → ¬ lt P (f1 j) := fun h => absurd (Int.ofNat_le.2 h) (of_decide_eq_false hij)
        clear ihD1 hij
        refine ok_go 13 ?_
        refine sy_test 0 (decide (Int.ofNat i > Int.ofNat j)) (by kernel_rfl) ?_ ?_
        · intro hij
          have hij : j < i := ok_nat hij
          refine sy_done 0 (v := Value.int IntKind.i64 (Int.ofNat i)) (h := g) (by kernel_rfl) ?_
          exact ⟨f1, i, rfl, W, S, by omega, by omega, hP, fun k k1 k2 => by
            by_cases e : k = a
            · rw [e, hP]; exact K.ord.irr _
            · exact hL k (by omega) k2, fun k k1 k2 => Classical.byContradiction fun hn => hR k (by omega) k2 hn⟩
        · intro hij
          have hij : i ≤ j := no_nat hij
          have n1 := HX hij
          have n2 := HY hij
          have hlt : i < j := by
            rcases Nat.lt_or_eq_of_le hij with h | h
            · exact h
            · subst h; exact absurd n2 n1
          obtain ⟨j, rfl⟩ : ∃ k, j = k + 1 := ⟨j - 1, by omega⟩
          have hwj : IntKind.wrap .i64 (Int.ofNat (j + 1) - 1) = Int.ofNat j := sub_one (by omega)
          have hwi : IntKind.wrap .i64 (Int.ofNat (i + 1)) = Int.ofNat (i + 1) := wrap_nat (by omega)
          obtain ⟨k1, k2, k3⟩ := part_step (B := fun v => ¬ lt P (v)) hP h1 hlt h3 hL hR n1 n2
          refine ok_go 0 ?_
          refine sy_load 0 (r := indexAddrOp Tryz.prog 22 SL (J (j + 1))) (h' := g) (v := ptr q (j + 1)) (by kernel_rfl) (idxS0 (e := 28) (by kernel_rfl) (by kernel_rfl) (by omega)) ?_
          refine ok_go 0 ?_
          refine ow_loadF (P := Tryz.prog) (T := 28) (off := j + 1) 0 0 W rfl (by omega) (by kernel_rfl) (by kernel_rfl) ?_
          refine ok_go 0 ?_
          refine sy_load 0 (r := indexAddrOp Tryz.prog 22 SL (J i)) (h' := g) (v := ptr q (i)) (by kernel_rfl) (idxS0 (e := 28) (by kernel_rfl) (by kernel_rfl) (by omega)) ?_
          refine ok_go 0 ?_
          refine ow_loadF (P := Tryz.prog) (T := 28) (off := i) 0 0 W rfl (by omega) (by kernel_rfl) (by kernel_rfl) ?_
          refine ok_go 0 ?_
          refine sy_load 0 (r := indexAddrOp Tryz.prog 22 SL (J i)) (h' := g) (v := ptr q (i)) (by kernel_rfl) (idxS0 (e := 28) (by kernel_rfl) (by kernel_rfl) (by omega)) ?_
          refine ok_go 0 ?_
          refine ow_storeF (P := Tryz.prog) (T := 28) (off := i) (v := f1 (j + 1)) 0 0 W rfl (by omega) (by kernel_rfl) (K.sc _ (hV1 _ (by omega))) (by kernel_rfl) fun ga nga W => ?_
          refine ok_go 0 ?_
          refine sy_load 0 (r := indexAddrOp Tryz.prog 22 SL (J (j + 1))) (h' := ga) (v := ptr q (j + 1)) (by kernel_rfl) (idxS0 (e := 28) (by kernel_rfl) (by kernel_rfl) (by omega)) ?_
          refine ok_go 0 ?_
          refine ow_storeF (P := Tryz.prog) (T := 28) (off := j + 1) (v := f1 (i)) 0 0 W rfl (by omega) (by kernel_rfl) (K.sc _ (hV1 _ (by omega))) (by kernel_rfl) fun g3 ng3 W => ?_
          refine ok_go 2 ?_
          have W : Dat h l q N o (swp f1 (i) (j + 1)) g3 := by rw [← updF_swp]; exact W
          exact sy_next 0 _ g3 (by kernel_rfl) (by kernel_rfl) (ih (i + 1, j, swp f1 i (j + 1)) _ g3 ⟨show a + 1 ≤ i + 1 by omega, show i + 1 ≤ j + 1 by omega, show j + 1 ≤ b by omega, W, S.trans (.one (by omega) (by omega) (by omega) (by omega)), k1, k2, k3⟩ (by dsimp only; omega) ⟨by kernel_rfl, by kernel_rfl, by kernel_rfl, (by kernel_rfl : _ = Value.int .i64 (IntKind.wrap .i64 (Int.ofNat (i + 1)))).trans (by rw [hwi]), (by kernel_rfl : _ = Value.int .i64 (IntKind.wrap .i64 (Int.ofNat (j + 1) - 1))).trans (by rw [hwj]), trivial⟩)
  · intro hij
    have HX : i ≤ j → ¬ (¬ lt P (f1 i)) := fun h => absurd (Int.ofNat_le.2 h) (of_decide_eq_false hij)
    clear hij
    refine ok_go 13 ?_
    refine sy_loop 0 lf g (α := Nat) (fun j => [(0, SL), (1, J a), (4, .func (.func C) #[] #[]), (11, J i), (12, J j)]) (fun j g' => g' = g ∧ j ≤ j0 ∧ i ≤ j + 1 ∧ j + 1 ≤ b ∧ (∀ k, j < k → k < b → ¬ (¬ lt P (f1 k))) ∧ (i ≤ j → ¬ (¬ lt P (f1 i)))) (fun j _ => j) j (by kernel_rfl) (by kernel_rfl)
      ⟨by kernel_rfl, by kernel_rfl, by kernel_rfl, by kernel_rfl, by kernel_rfl, trivial⟩ (show j < lf by omega) ⟨rfl, by omega, h2, h3, hR, HX⟩ ?_
    clear h2 h3 hR HX ihU1
    rintro mD1 j FD1 g ⟨rfl, hjj, h2, h3, hR, HX⟩ ihD1
    refine ok_go 1 ?_
    refine sy_test 0 (decide (Int.ofNat i ≤ Int.ofNat j)) (by kernel_rfl) ?_ ?_
    · intro hij
      have hij : i ≤ j := Int.ofNat_le.1 (of_decide_eq_true hij)
      obtain ⟨z, ec, hz⟩ := K.cmp f1 g (f1 a) (f1 j) W (hV1 a (by omega)) (hV1 j (by omega))
      rw [hP] at hz
      refine ok_go 3 ?_
      refine sy_load 0 (r := indexAddrOp Tryz.prog 22 SL (J a)) (h' := g) (v := ptr q (a)) (by kernel_rfl) (idxS0 (e := 28) (by kernel_rfl) (by kernel_rfl) (by omega)) ?_
      refine ok_go 1 ?_
      refine ow_loadF (P := Tryz.prog) (T := 28) (off := a) 0 0 W rfl (by omega) (by kernel_rfl) (by kernel_rfl) ?_
      refine ok_go 3 ?_
      refine sy_load 0 (r := indexAddrOp Tryz.prog 22 SL (J j)) (h' := g) (v := ptr q (j)) (by kernel_rfl) (idxS0 (e := 28) (by kernel_rfl) (by kernel_rfl) (by omega)) ?_
      refine ok_go 1 ?_
      refine ow_loadF (P := Tryz.prog) (T := 28) (off := j) 0 0 W rfl (by omega) (by kernel_rfl) (by kernel_rfl) ?_
      refine ok_go 1 ?_
      refine sy_call 0 (by kernel_rfl) ec ?_
      refine ok_go 3 ?_
      refine sy_test 0 (decide (z < 0)) (by kernel_rfl) ?_ ?_
      · intro ht
        have hB : ¬ (¬ lt P (f1 j)) := fun hn => hn (hz.1 (of_decide_eq_true ht))
        obtain ⟨j, rfl⟩ : ∃ k, j = k + 1 := ⟨j - 1, by omega⟩
        have hwj : IntKind.wrap .i64 (Int.ofNat (j + 1) - 1) = Int.ofNat j := sub_one (by omega)
        refine ok_go 1 ?_
        exact sy_next 0 _ g (by kernel_rfl) (by kernel_rfl) (ihD1 j _ g ⟨rfl, by omega, by omega, by omega, fun k k1 k2 => by
          by_cases e : k = j + 1
          · rw [e]; exact hB
          · exact hR k (by omega) k2, fun h => HX (by omega)⟩ (show j < j + 1 by omega) ⟨by kernel_rfl, by kernel_rfl, by kernel_rfl, by kernel_rfl, (by kernel_rfl : _ = Value.int .i64 (IntKind.wrap .i64 (Int.ofNat (j + 1) - 1))).trans (by rw [hwj]), trivial⟩)
      · intro ht
        have HY : i ≤ j → ¬ lt P (f1 j) := fun _ => fun h => (of_decide_eq_false ht) (hz.2 h)
        clear ihD1 ec hz ht
        refine ok_go 1 ?_
        refine sy_test 0 (decide (Int.ofNat i > Int.ofNat j)) (by kernel_rfl) ?_ ?_
        · intro hij
          have hij : j < i := ok_nat hij
          refine sy_done 0 (v := Value.int IntKind.i64 (Int.ofNat i)) (h := g) (by kernel_rfl) ?_
          exact ⟨f1, i, rfl, W, S, by omega, by omega, hP, fun k k1 k2 => by
            by_cases e : k = a
            · rw [e, hP]; exact K.ord.irr _
            · exact hL k (by omega) k2, fun k k1 k2 => Classical.byContradiction fun hn => hR k (by omega) k2 hn⟩
        · intro hij
          have hij : i ≤ j := no_nat hij
          have n1 := HX hij
          have n2 := HY hij
          have hlt : i < j := by
            rcases Nat.lt_or_eq_of_le hij with h | h
            · exact h
            · subst h; exact absurd n2 n1
          obtain ⟨j, rfl⟩ : ∃ k, j = k + 1 := ⟨j - 1, by omega⟩
          have hwj : IntKind.wrap .i64 (Int.ofNat (j + 1) - 1) = Int.ofNat j := sub_one (by omega)
          have hwi : IntKind.wrap .i64 (Int.ofNat (i + 1)) = Int.ofNat (i + 1) := wrap_nat (by omega)
          obtain ⟨k1, k2, k3⟩ := part_step (B := fun v => ¬ lt P (v)) hP h1 hlt h3 hL hR n1 n2
          refine ok_go 0 ?_
          refine sy_load 0 (r := indexAddrOp Tryz.prog 22 SL (J (j + 1))) (h' := g) (v := ptr q (j + 1)) (by kernel_rfl) (idxS0 (e := 28) (by kernel_rfl) (by kernel_rfl) (by omega)) ?_
          refine ok_go 0 ?_
          refine ow_loadF (P := Tryz.prog) (T := 28) (off := j + 1) 0 0 W rfl (by omega) (by kernel_rfl) (by kernel_rfl) ?_
          refine ok_go 0 ?_
          refine sy_load 0 (r := indexAddrOp Tryz.prog 22 SL (J i)) (h' := g) (v := ptr q (i)) (by kernel_rfl) (idxS0 (e := 28) (by kernel_rfl) (by kernel_rfl) (by omega)) ?_
          refine ok_go 0 ?_
          refine ow_loadF (P := Tryz.prog) (T := 28) (off := i) 0 0 W rfl (by omega) (by kernel_rfl) (by kernel_rfl) ?_
          refine ok_go 0 ?_
          refine sy_load 0 (r := indexAddrOp Tryz.prog 22 SL (J i)) (h' := g) (v := ptr q (i)) (by kernel_rfl) (idxS0 (e := 28) (by kernel_rfl) (by kernel_rfl) (by omega)) ?_
          refine ok_go 0 ?_
          refine ow_storeF (P := Tryz.prog) (T := 28) (off := i) (v := f1 (j + 1)) 0 0 W rfl (by omega) (by kernel_rfl) (K.sc _ (hV1 _ (by omega))) (by kernel_rfl) fun ga nga W => ?_
          refine ok_go 0 ?_
          refine sy_load 0 (r := indexAddrOp Tryz.prog 22 SL (J (j + 1))) (h' := ga) (v := ptr q (j + 1)) (by kernel_rfl) (idxS0 (e := 28) (by kernel_rfl) (by kernel_rfl) (by omega)) ?_
          refine ok_go 0 ?_
          refine ow_storeF (P := Tryz.prog) (T := 28) (off := j + 1) (v := f1 (i)) 0 0 W rfl (by omega) (by kernel_rfl) (K.sc _ (hV1 _ (by omega))) (by kernel_rfl) fun g3 ng3 W => ?_
          refine ok_go 2 ?_
          have W : Dat h l q N o (swp f1 (i) (j + 1)) g3 := by rw [← updF_swp]; exact W
          exact sy_next 0 _ g3 (by kernel_rfl) (by kernel_rfl) (ih (i + 1, j, swp f1 i (j + 1)) _ g3 ⟨show a + 1 ≤ i + 1 by omega, show i + 1 ≤ j + 1 by omega, show j + 1 ≤ b by omega, W, S.trans (.one (by omega) (by omega) (by omega) (by omega)), k1, k2, k3⟩ (by dsimp only; omega) ⟨by kernel_rfl, by kernel_rfl, by kernel_rfl, (by kernel_rfl : _ = Value.int .i64 (IntKind.wrap .i64 (Int.ofNat (i + 1)))).trans (by rw [hwi]), (by kernel_rfl : _ = Value.int .i64 (IntKind.wrap .i64 (Int.ofNat (j + 1) - 1))).trans (by rw [hwj]), trivial⟩)
    · intro hij
      have HY : i ≤ j → ¬ lt P (f1 j) := fun h => absurd (Int.ofNat_le.2 h) (of_decide_eq_false hij)
      clear ihD1 hij
      refine ok_go 13 ?_
      refine sy_test 0 (decide (Int.ofNat i > Int.ofNat j)) (by kernel_rfl) ?_ ?_
      · intro hij
        have hij : j < i := ok_nat hij
        refine sy_done 0 (v := Value.int IntKind.i64 (Int.ofNat i)) (h := g) (by kernel_rfl) ?_
        exact ⟨f1, i, rfl, W, S, by omega, by omega, hP, fun k k1 k2 => by
          by_cases e : k = a
          · rw [e, hP]; exact K.ord.irr _
          · exact hL k (by omega) k2, fun k k1 k2 => Classical.byContradiction fun hn => hR k (by omega) k2 hn⟩
      · intro hij
        have hij : i ≤ j := no_nat hij
        have n1 := HX hij
        have n2 := HY hij
        have hlt : i < j := by
          rcases Nat.lt_or_eq_of_le hij with h | h
          · exact h
          · subst h; exact absurd n2 n1
        obtain ⟨j, rfl⟩ : ∃ k, j = k + 1 := ⟨j - 1, by omega⟩
        have hwj : IntKind.wrap .i64 (Int.ofNat (j + 1) - 1) = Int.ofNat j := sub_one (by omega)
        have hwi : IntKind.wrap .i64 (Int.ofNat (i + 1)) = Int.ofNat (i + 1) := wrap_nat (by omega)
        obtain ⟨k1, k2, k3⟩ := part_step (B := fun v => ¬ lt P (v)) hP h1 hlt h3 hL hR n1 n2
        refine ok_go 0 ?_
        refine sy_load 0 (r := indexAddrOp Tryz.prog 22 SL (J (j + 1))) (h' := g) (v := ptr q (j + 1)) (by kernel_rfl) (idxS0 (e := 28) (by kernel_rfl) (by kernel_rfl) (by omega)) ?_
        refine ok_go 0 ?_
        refine ow_loadF (P := Tryz.prog) (T := 28) (off := j + 1) 0 0 W rfl (by omega) (by kernel_rfl) (by kernel_rfl) ?_
        refine ok_go 0 ?_
        refine sy_load 0 (r := indexAddrOp Tryz.prog 22 SL (J i)) (h' := g) (v := ptr q (i)) (by kernel_rfl) (idxS0 (e := 28) (by kernel_rfl) (by kernel_rfl) (by omega)) ?_
        refine ok_go 0 ?_
        refine ow_loadF (P := Tryz.prog) (T := 28) (off := i) 0 0 W rfl (by omega) (by kernel_rfl) (by kernel_rfl) ?_
        refine ok_go 0 ?_
        refine sy_load 0 (r := indexAddrOp Tryz.prog 22 SL (J i)) (h' := g) (v := ptr q (i)) (by kernel_rfl) (idxS0 (e := 28) (by kernel_rfl) (by kernel_rfl) (by omega)) ?_
        refine ok_go 0 ?_
        refine ow_storeF (P := Tryz.prog) (T := 28) (off := i) (v := f1 (j + 1)) 0 0 W rfl (by omega) (by kernel_rfl) (K.sc _ (hV1 _ (by omega))) (by kernel_rfl) fun ga nga W => ?_
        refine ok_go 0 ?_
        refine sy_load 0 (r := indexAddrOp Tryz.prog 22 SL (J (j + 1))) (h' := ga) (v := ptr q (j + 1)) (by kernel_rfl) (idxS0 (e := 28) (by kernel_rfl) (by kernel_rfl) (by omega)) ?_
        refine ok_go 0 ?_
        refine ow_storeF (P := Tryz.prog) (T := 28) (off := j + 1) (v := f1 (i)) 0 0 W rfl (by omega) (by kernel_rfl) (K.sc _ (hV1 _ (by omega))) (by kernel_rfl) fun g3 ng3 W => ?_
        refine ok_go 2 ?_
        have W : Dat h l q N o (swp f1 (i) (j + 1)) g3 := by rw [← updF_swp]; exact W
        exact sy_next 0 _ g3 (by kernel_rfl) (by kernel_rfl) (ih (i + 1, j, swp f1 i (j + 1)) _ g3 ⟨show a + 1 ≤ i + 1 by omega, show i + 1 ≤ j + 1 by omega, show j + 1 ≤ b by omega, W, S.trans (.one (by omega) (by omega) (by omega) (by omega)), k1, k2, k3⟩ (by dsimp only; omega) ⟨by kernel_rfl, by kernel_rfl, by kernel_rfl, (by kernel_rfl : _ = Value.int .i64 (IntKind.wrap .i64 (Int.ofNat (i + 1)))).trans (by rw [hwi]), (by kernel_rfl : _ = Value.int .i64 (IntKind.wrap .i64 (Int.ofNat (j + 1) - 1))).trans (by rw [hwj]), trivial⟩)
end
end Go.Proofs.YtkfbfgcflnkllaaGreatDoor.Ch
namespace Go.Proofs.YtkfbfgcflnkllaaGreatDoor.Ch
open Go Go.Eng Nim Oct
set_option maxRecDepth 100000
set_option maxHeartbeats 8000000
section
variable {lf m C q N : Nat} {h : Hp} {l : List (Nat × AObj)} {o : Bool} {V : Value → Prop} {lt : Value → Value → Prop}
theorem part_end {B : Value → Prop} {f : Nat → Value} {P : Value} {a b j : Nat} (hP : f a = P) (h1 : a ≤ j) (hL : ∀ k, a + 1 ≤ k → k ≤ j → B (f k)) (hR : ∀ k, j < k → k < b → ¬ B (f k)) :
    swp f j a j = P ∧ (∀ k, a ≤ k → k < j → B (swp f j a k)) ∧ ∀ k, j < k → k < b → ¬ B (swp f j a k) := by
  refine ⟨by rw [swp_l]; exact hP, fun k k1 k2 => ?_, fun k k1 k2 => ?_⟩
  · by_cases e : k = a
    · subst e; rw [swp_r]; exact hL j (by omega) (Nat.le_refl _)
    · rw [swp_o _ (by omega) e]; exact hL k (by omega) (by omega)
  · rw [swp_o _ (by omega) (by omega)]; exact hR k k1 k2
theorem part_of (hlf : 20000 ≤ lf) (K : Cmp lf m C h l q N o V lt) (hN : N ≤ 10000) (c : Nat) (f : Nat → Value) (hV : ∀ k, k < N → V (f k)) (a b p : Nat) (hap : a ≤ p) (hpb : p < b) (hab : a + 1 < b) (hb : b ≤ N) (g : Hp) (W : Dat h l q N o f g) :
    ∃ v g', Ev lf (m + 1) 124 [.slice (some ⟨q, 0, none⟩) N c, J a, J b, J p, .func (.func C) #[] #[]] g = some (v, g') ∧ ∃ f' j r, v = .tuple #[J j, .bool r] ∧ Dat h l q N o f' g' ∧ Sw a b f f' ∧ a ≤ j ∧ j < b ∧ f' j = f p ∧ (∀ k, a ≤ k → k < j → lt (f' k) (f p)) ∧ (∀ k, j < k → k < b → ¬ lt (f' k) (f p)) := by
  obtain ⟨P, hPe⟩ : ∃ P, P = f p := ⟨_, rfl⟩
  simp only [← hPe]
  refine fnS_ok (Q := fun v g' => ∃ f' j r, v = .tuple #[J j, .bool r] ∧ Dat h l q N o f' g' ∧ Sw a b f f' ∧ a ≤ j ∧ j < b ∧ f' j = P ∧ (∀ k, a ≤ k → k < j → lt (f' k) P) ∧ (∀ k, j < k → k < b → ¬ lt (f' k) P)) ?_
  let SL : Value := .slice (some ⟨q, 0, none⟩) N c
  have hwa : IntKind.wrap .i64 (Int.ofNat a + 1) = Int.ofNat (a + 1) := wrap_add (b := 1) (by omega)
  have hwb : IntKind.wrap .i64 (Int.ofNat b - 1) = Int.ofNat (b - 1) := wrap_sub (b := 1) (by omega) (by omega)
  refine ok_go 0 ?_
  refine sy_load 0 (r := indexAddrOp Tryz.prog 22 SL (J p)) (h' := g) (v := ptr q (p)) (by kernel_rfl) (idxS0 (e := 28) (by kernel_rfl) (by kernel_rfl) (by omega)) ?_
  refine ok_go 0 ?_
  refine ow_loadF (P := Tryz.prog) (T := 28) (off := p) 0 0 W rfl (by omega) (by kernel_rfl) (by kernel_rfl) ?_
  refine ok_go 0 ?_
  refine sy_load 0 (r := indexAddrOp Tryz.prog 22 SL (J a)) (h' := g) (v := ptr q (a)) (by kernel_rfl) (idxS0 (e := 28) (by kernel_rfl) (by kernel_rfl) (by omega)) ?_
  refine ok_go 0 ?_
  refine ow_loadF (P := Tryz.prog) (T := 28) (off := a) 0 0 W rfl (by omega) (by kernel_rfl) (by kernel_rfl) ?_
  refine ok_go 0 ?_
  refine sy_load 0 (r := indexAddrOp Tryz.prog 22 SL (J a)) (h' := g) (v := ptr q (a)) (by kernel_rfl) (idxS0 (e := 28) (by kernel_rfl) (by kernel_rfl) (by omega)) ?_
  refine ok_go 0 ?_
  refine ow_storeF (P := Tryz.prog) (T := 28) (off := a) (v := f (p)) 0 0 W rfl (by omega) (by kernel_rfl) (K.sc _ (hV _ (by omega))) (by kernel_rfl) fun ga nga W => ?_
  refine ok_go 0 ?_
  refine sy_load 0 (r := indexAddrOp Tryz.prog 22 SL (J p)) (h' := ga) (v := ptr q (p)) (by kernel_rfl) (idxS0 (e := 28) (by kernel_rfl) (by kernel_rfl) (by omega)) ?_
  refine ok_go 0 ?_
  refine ow_storeF (P := Tryz.prog) (T := 28) (off := p) (v := f (a)) 0 0 W rfl (by omega) (by kernel_rfl) (K.sc _ (hV _ (by omega))) (by kernel_rfl) fun g3 ng3 W => ?_
  refine ok_go 2 ?_
  have W : Dat h l q N o (swp f (a) (p)) g3 := by rw [← updF_swp]; exact W
  have hP : swp f a p a = P := by rw [hPe]; exact swp_l f a p
  have S : Sw a b f (swp f a p) := .one (by omega) (by omega) hap hpb
  clear hPe
  obtain ⟨f1, hf1⟩ : ∃ f1, f1 = swp f a p := ⟨_, rfl⟩
  rw [← hf1] at W hP S
  clear hf1
  obtain ⟨i, hi⟩ : ∃ i, i = a + 1 := ⟨_, rfl⟩
  obtain ⟨j, hj⟩ : ∃ j, j = b - 1 := ⟨_, rfl⟩
  have h1 : a + 1 ≤ i := by omega
  have h2 : i ≤ j + 1 := by omega
  have h3 : j + 1 ≤ b := by omega
  have hL : ∀ k, a + 1 ≤ k → k < i → lt (f1 k) P := fun k k1 k2 => by omega
  have hR : ∀ k, j < k → k < b → ¬ lt (f1 k) P := fun k k1 k2 => by omega
  rw [← hi] at hwa
  rw [← hj] at hwb
  have hV1 := S.every hb hV
  clear hi hj
  obtain ⟨g, hg⟩ : ∃ g, g = g3 := ⟨_, rfl⟩
  rw [← hg] at W ⊢
  clear hg
  obtain ⟨i0, hi0⟩ : ∃ i0, i0 = i := ⟨_, rfl⟩
  obtain ⟨j0, hj0⟩ : ∃ j0, j0 = j := ⟨_, rfl⟩
  refine sy_loop 0 lf g (α := Nat) (fun i => [(0, SL), (1, J a), (4, .func (.func C) #[] #[]), (12, J i), (13, J j)]) (fun i g' => g' = g ∧ i0 ≤ i ∧ a + 1 ≤ i ∧ i ≤ j + 1 ∧ ∀ k, a + 1 ≤ k → k < i → lt (f1 k) P) (fun i _ => j + 1 - i) i (by kernel_rfl) (by kernel_rfl)
    ⟨by kernel_rfl, by kernel_rfl, by kernel_rfl, (by kernel_rfl : _ = Value.int .i64 (IntKind.wrap .i64 (Int.ofNat a + 1))).trans (by rw [hwa]), (by kernel_rfl : _ = Value.int .i64 (IntKind.wrap .i64 (Int.ofNat b - 1))).trans (by rw [hwb]), trivial⟩ (show j + 1 - i < lf by omega) ⟨rfl, by omega, h1, h2, hL⟩ ?_
  clear h1 h2 hL
  rintro mU1 i FU1 g ⟨rfl, hii, h1, h2, hL⟩ ihU1
  have hwi1 : IntKind.wrap .i64 (Int.ofNat (i + 1)) = Int.ofNat (i + 1) := wrap_nat (by omega)
  refine ok_go 1 ?_
  refine sy_test 0 (decide (Int.ofNat i ≤ Int.ofNat j)) (by kernel_rfl) ?_ ?_
  · intro hij
    have hij : i ≤ j := Int.ofNat_le.1 (of_decide_eq_true hij)
    obtain ⟨z, ec, hz⟩ := K.cmp f1 g (f1 i) (f1 a) W (hV1 i (by omega)) (hV1 a (by omega))
    rw [hP] at hz
    refine ok_go 3 ?_
    refine sy_load 0 (r := indexAddrOp Tryz.prog 22 SL (J i)) (h' := g) (v := ptr q (i)) (by kernel_rfl) (idxS0 (e := 28) (by kernel_rfl) (by kernel_rfl) (by omega)) ?_
    refine ok_go 1 ?_
    refine ow_loadF (P := Tryz.prog) (T := 28) (off := i) 0 0 W rfl (by omega) (by kernel_rfl) (by kernel_rfl) ?_
    refine ok_go 3 ?_
    refine sy_load 0 (r := indexAddrOp Tryz.prog 22 SL (J a)) (h' := g) (v := ptr q (a)) (by kernel_rfl) (idxS0 (e := 28) (by kernel_rfl) (by kernel_rfl) (by omega)) ?_
    refine ok_go 1 ?_
    refine ow_loadF (P := Tryz.prog) (T := 28) (off := a) 0 0 W rfl (by omega) (by kernel_rfl) (by kernel_rfl) ?_
    refine ok_go 1 ?_
    refine sy_call 0 (by kernel_rfl) ec ?_
    refine ok_go 3 ?_
    refine sy_test 0 (decide (z < 0)) (by kernel_rfl) ?_ ?_
    · intro ht
      have hB : lt (f1 i) P := hz.1 (of_decide_eq_true ht)
      refine ok_go 1 ?_
      exact sy_next 0 _ g (by kernel_rfl) (by kernel_rfl) (ihU1 (i + 1) _ g ⟨rfl, by omega, by omega, by omega, fun k k1 k2 => by
        by_cases e : k = i
        · rw [e]; exact hB
        · exact hL k k1 (by omega)⟩ (show j + 1 - (i + 1) < j + 1 - i by omega) ⟨by kernel_rfl, by kernel_rfl, by kernel_rfl, (by kernel_rfl : _ = Value.int .i64 (IntKind.wrap .i64 (Int.ofNat (i + 1)))).trans (by rw [hwi1]), by kernel_rfl, trivial⟩)
    · intro ht
      have n1 : ¬ (lt (f1 i) P) := fun h => (of_decide_eq_false ht) (hz.2 h)
      clear ec hz ht hij
      refine ok_go 0 ?_
      refine sy_loop 0 lf g (α := Nat) (fun j => [(0, SL), (1, J a), (4, .func (.func C) #[] #[]), (12, J i), (13, J j)]) (fun j g' => g' = g ∧ j ≤ j0 ∧ i ≤ j + 1 ∧ j + 1 ≤ b ∧ (∀ k, j < k → k < b → ¬ (lt (f1 k) P))) (fun j _ => j) j (by kernel_rfl) (by kernel_rfl)
        ⟨by kernel_rfl, by kernel_rfl, by kernel_rfl, by kernel_rfl, by kernel_rfl, trivial⟩ (show j < lf by omega) ⟨rfl, by omega, h2, h3, hR⟩ ?_
      clear h2 h3 hR ihU1
      rintro mD1 j FD1 g ⟨rfl, hjj, h2, h3, hR⟩ ihD1
      refine ok_go 1 ?_
      refine sy_test 0 (decide (Int.ofNat i ≤ Int.ofNat j)) (by kernel_rfl) ?_ ?_
      · intro hij
        have hij : i ≤ j := Int.ofNat_le.1 (of_decide_eq_true hij)
        obtain ⟨z, ec, hz⟩ := K.cmp f1 g (f1 j) (f1 a) W (hV1 j (by omega)) (hV1 a (by omega))
        rw [hP] at hz
        refine ok_go 3 ?_
        refine sy_load 0 (r := indexAddrOp Tryz.prog 22 SL (J j)) (h' := g) (v := ptr q (j)) (by kernel_rfl) (idxS0 (e := 28) (by kernel_rfl) (by kernel_rfl) (by omega)) ?_
        refine ok_go 1 ?_
        refine ow_loadF (P := Tryz.prog) (T := 28) (off := j) 0 0 W rfl (by omega) (by kernel_rfl) (by kernel_rfl) ?_
        refine ok_go 3 ?_
        refine sy_load 0 (r := indexAddrOp Tryz.prog 22 SL (J a)) (h' := g) (v := ptr q (a)) (by kernel_rfl) (idxS0 (e := 28) (by kernel_rfl) (by kernel_rfl) (by omega)) ?_
        refine ok_go 1 ?_
        refine ow_loadF (P := Tryz.prog) (T := 28) (off := a) 0 0 W rfl (by omega) (by kernel_rfl) (by kernel_rfl) ?_
        refine ok_go 1 ?_
        refine sy_call 0 (by kernel_rfl) ec ?_
        refine ok_go 5 ?_
        refine sy_test 0 (!decide (z < 0)) (by kernel_rfl) ?_ ?_
        · intro ht
          have hB : ¬ (lt (f1 j) P) := fun h => by rw [decide_eq_true (hz.2 h)] at ht; cases ht
          obtain ⟨j, rfl⟩ : ∃ k, j = k + 1 := ⟨j - 1, by omega⟩
          have hwj : IntKind.wrap .i64 (Int.ofNat (j + 1) - 1) = Int.ofNat j := sub_one (by omega)
          refine ok_go 1 ?_
          exact sy_next 0 _ g (by kernel_rfl) (by kernel_rfl) (ihD1 j _ g ⟨rfl, by omega, by omega, by omega, fun k k1 k2 => by
            by_cases e : k = j + 1
            · rw [e]; exact hB
            · exact hR k (by omega) k2⟩ (show j < j + 1 by omega) ⟨by kernel_rfl, by kernel_rfl, by kernel_rfl, by kernel_rfl, (by kernel_rfl : _ = Value.int .i64 (IntKind.wrap .i64 (Int.ofNat (j + 1) - 1))).trans (by rw [hwj]), trivial⟩)
        · intro ht
          have n2 : lt (f1 j) P := hz.1 (by
              cases hd : decide (z < 0) with
              | true => exact of_decide_eq_true hd
              | false => rw [hd] at ht; cases ht)
          clear ihD1 ec hz ht
          refine ok_go 1 ?_
          refine sy_no 0 (b := decide (Int.ofNat i > Int.ofNat j)) (by kernel_rfl) (decide_eq_false fun h => by have := Int.ofNat_lt.1 h; omega) ?_
          have hlt : i < j := by
            rcases Nat.lt_or_eq_of_le hij with h | h
            · exact h
            · subst h; exact absurd n2 n1
          obtain ⟨j, rfl⟩ : ∃ k, j = k + 1 := ⟨j - 1, by omega⟩
          have hwj : IntKind.wrap .i64 (Int.ofNat (j + 1) - 1) = Int.ofNat j := sub_one (by omega)
          have hwi : IntKind.wrap .i64 (Int.ofNat (i + 1)) = Int.ofNat (i + 1) := wrap_nat (by omega)
          obtain ⟨k1, k2, k3⟩ := part_step (B := fun v => lt v P) hP h1 hlt h3 hL hR n1 n2
          refine ok_go 0 ?_
          refine sy_load 0 (r := indexAddrOp Tryz.prog 22 SL (J (j + 1))) (h' := g) (v := ptr q (j + 1)) (by kernel_rfl) (idxS0 (e := 28) (by kernel_rfl) (by kernel_rfl) (by omega)) ?_
          refine ok_go 0 ?_
          refine ow_loadF (P := Tryz.prog) (T := 28) (off := j + 1) 0 0 W rfl (by omega) (by kernel_rfl) (by kernel_rfl) ?_
          refine ok_go 0 ?_
          refine sy_load 0 (r := indexAddrOp Tryz.prog 22 SL (J i)) (h' := g) (v := ptr q (i)) (by kernel_rfl) (idxS0 (e := 28) (by kernel_rfl) (by kernel_rfl) (by omega)) ?_
          refine ok_go 0 ?_
          refine ow_loadF (P := Tryz.prog) (T := 28) (off := i) 0 0 W rfl (by omega) (by kernel_rfl) (by kernel_rfl) ?_
          refine ok_go 0 ?_
          refine sy_load 0 (r := indexAddrOp Tryz.prog 22 SL (J i)) (h' := g) (v := ptr q (i)) (by kernel_rfl) (idxS0 (e := 28) (by kernel_rfl) (by kernel_rfl) (by omega)) ?_
          refine ok_go 0 ?_
          refine ow_storeF (P := Tryz.prog) (T := 28) (off := i) (v := f1 (j + 1)) 0 0 W rfl (by omega) (by kernel_rfl) (K.sc _ (hV1 _ (by omega))) (by kernel_rfl) fun ga nga W => ?_
          refine ok_go 0 ?_
          refine sy_load 0 (r := indexAddrOp Tryz.prog 22 SL (J (j + 1))) (h' := ga) (v := ptr q (j + 1)) (by kernel_rfl) (idxS0 (e := 28) (by kernel_rfl) (by kernel_rfl) (by omega)) ?_
          refine ok_go 0 ?_
          refine ow_storeF (P := Tryz.prog) (T := 28) (off := j + 1) (v := f1 (i)) 0 0 W rfl (by omega) (by kernel_rfl) (K.sc _ (hV1 _ (by omega))) (by kernel_rfl) fun g3 ng3 W => ?_
          refine ok_go 2 ?_
          have W : Dat h l q N o (swp f1 (i) (j + 1)) g3 := by rw [← updF_swp]; exact W
          have S := S.trans (.one (f := f1) (i := i) (j := j + 1) (by omega) (by omega) (by omega) (by omega))
          clear hi0 hj0 hii hjj i0 j0
          refine sy_loop 0 lf g3 (α := Nat × Nat × (Nat → Value)) (fun x => [(0, SL), (1, J a), (4, .func (.func C) #[] #[]), (12, J x.1), (13, J x.2.1)]) (fun x g => a + 1 ≤ x.1 ∧ x.1 ≤ x.2.1 + 1 ∧ x.2.1 + 1 ≤ b ∧ Dat h l q N o x.2.2 g ∧ Sw a b f x.2.2 ∧ x.2.2 a = P ∧ (∀ k, a + 1 ≤ k → k < x.1 → lt (x.2.2 k) P) ∧ (∀ k, x.2.1 < k → k < b → ¬ lt (x.2.2 k) P)) (fun x _ => x.2.1 + 1 - x.1) (i + 1, j, swp f1 i (j + 1)) (by kernel_rfl) (by kernel_rfl)
            ⟨by kernel_rfl, by kernel_rfl, by kernel_rfl, (by kernel_rfl : _ = Value.int .i64 (IntKind.wrap .i64 (Int.ofNat (i + 1)))).trans (by rw [hwi]), (by kernel_rfl : _ = Value.int .i64 (IntKind.wrap .i64 (Int.ofNat (j + 1) - 1))).trans (by rw [hwj]), trivial⟩ (show j + 1 - (i + 1) < lf by omega) ⟨show a + 1 ≤ i + 1 by omega, show i + 1 ≤ j + 1 by omega, show j + 1 ≤ b by omega, W, S, k1, k2, k3⟩ ?_
          clear W S hP hL hR k1 k2 k3 n1 n2 h1 h2 h3 hV1 hwi hwj hlt hij
          rintro m9 ⟨i, j, f1⟩ F9 g ⟨h1, h2, h3, W, S, hP, hL, hR⟩ ih
          dsimp only at h1 h2 h3 W S hP hL hR
          have hV1 := S.every hb hV
          refine ok_go 0 ?_
          obtain ⟨i0, hi0⟩ : ∃ i0, i0 = i := ⟨_, rfl⟩
          obtain ⟨j0, hj0⟩ : ∃ j0, j0 = j := ⟨_, rfl⟩
          refine sy_loop 0 lf g (α := Nat) (fun i => [(0, SL), (1, J a), (4, .func (.func C) #[] #[]), (12, J i), (13, J j)]) (fun i g' => g' = g ∧ i0 ≤ i ∧ a + 1 ≤ i ∧ i ≤ j + 1 ∧ ∀ k, a + 1 ≤ k → k < i → lt (f1 k) P) (fun i _ => j + 1 - i) i (by kernel_rfl) (by kernel_rfl)
            ⟨by kernel_rfl, by kernel_rfl, by kernel_rfl, by kernel_rfl, by kernel_rfl, trivial⟩ (show j + 1 - i < lf by omega) ⟨rfl, by omega, h1, h2, hL⟩ ?_
          clear h1 h2 hL
          rintro mU2 i FU2 g ⟨rfl, hii, h1, h2, hL⟩ ihU2
          have hwi2 : IntKind.wrap .i64 (Int.ofNat (i + 1)) = Int.ofNat (i + 1) := wrap_nat (by omega)
          refine ok_go 1 ?_
          refine sy_test 0 (decide (Int.ofNat i ≤ Int.ofNat j)) (by kernel_rfl) ?_ ?_
          · intro hij
            have hij : i ≤ j := Int.ofNat_le.1 (of_decide_eq_true hij)
            obtain ⟨z, ec, hz⟩ := K.cmp f1 g (f1 i) (f1 a) W (hV1 i (by omega)) (hV1 a (by omega))
            rw [hP] at hz
            refine ok_go 3 ?_
            refine sy_load 0 (r := indexAddrOp Tryz.prog 22 SL (J i)) (h' := g) (v := ptr q (i)) (by kernel_rfl) (idxS0 (e := 28) (by kernel_rfl) (by kernel_rfl) (by omega)) ?_
            refine ok_go 1 ?_
            refine ow_loadF (P := Tryz.prog) (T := 28) (off := i) 0 0 W rfl (by omega) (by kernel_rfl) (by kernel_rfl) ?_
            refine ok_go 3 ?_
            refine sy_load 0 (r := indexAddrOp Tryz.prog 22 SL (J a)) (h' := g) (v := ptr q (a)) (by kernel_rfl) (idxS0 (e := 28) (by kernel_rfl) (by kernel_rfl) (by omega)) ?_
            refine ok_go 1 ?_
            refine ow_loadF (P := Tryz.prog) (T := 28) (off := a) 0 0 W rfl (by omega) (by kernel_rfl) (by kernel_rfl) ?_
            refine ok_go 1 ?_
            refine sy_call 0 (by kernel_rfl) ec ?_
            refine ok_go 3 ?_
            refine sy_test 0 (decide (z < 0)) (by kernel_rfl) ?_ ?_
            · intro ht
              have hB : lt (f1 i) P := hz.1 (of_decide_eq_true ht)
              refine ok_go 1 ?_
              exact sy_next 0 _ g (by kernel_rfl) (by kernel_rfl) (ihU2 (i + 1) _ g ⟨rfl, by omega, by omega, by omega, fun k k1 k2 => by
                by_cases e : k = i
                · rw [e]; exact hB
                · exact hL k k1 (by omega)⟩ (show j + 1 - (i + 1) < j + 1 - i by omega) ⟨by kernel_rfl, by kernel_rfl, by kernel_rfl, (by kernel_rfl : _ = Value.int .i64 (IntKind.wrap .i64 (Int.ofNat (i + 1)))).trans (by rw [hwi2]), by kernel_rfl, trivial⟩)
            · intro ht
              have n1 : ¬ (lt (f1 i) P) := fun h => (of_decide_eq_false ht) (hz.2 h)
              clear ec hz ht hij
              refine ok_go 0 ?_
              refine sy_loop 0 lf g (α := Nat) (fun j => [(0, SL), (1, J a), (4, .func (.func C) #[] #[]), (12, J i), (13, J j)]) (fun j g' => g' = g ∧ j ≤ j0 ∧ i ≤ j + 1 ∧ j + 1 ≤ b ∧ (∀ k, j < k → k < b → ¬ (lt (f1 k) P))) (fun j _ => j) j (by kernel_rfl) (by kernel_rfl)
                ⟨by kernel_rfl, by kernel_rfl, by kernel_rfl, by kernel_rfl, by kernel_rfl, trivial⟩ (show j < lf by omega) ⟨rfl, by omega, h2, h3, hR⟩ ?_
              clear h2 h3 hR ihU2
              rintro mD2 j FD2 g ⟨rfl, hjj, h2, h3, hR⟩ ihD2
              refine ok_go 1 ?_
              refine sy_test 0 (decide (Int.ofNat i ≤ Int.ofNat j)) (by kernel_rfl) ?_ ?_
              · intro hij
                have hij : i ≤ j := Int.ofNat_le.1 (of_decide_eq_true hij)
                obtain ⟨z, ec, hz⟩ := K.cmp f1 g (f1 j) (f1 a) W (hV1 j (by omega)) (hV1 a (by omega))
                rw [hP] at hz
                refine ok_go 3 ?_
                refine sy_load 0 (r := indexAddrOp Tryz.prog 22 SL (J j)) (h' := g) (v := ptr q (j)) (by kernel_rfl) (idxS0 (e := 28) (by kernel_rfl) (by kernel_rfl) (by omega)) ?_
                refine ok_go 1 ?_
                refine ow_loadF (P := Tryz.prog) (T := 28) (off := j) 0 0 W rfl (by omega) (by kernel_rfl) (by kernel_rfl) ?_
                refine ok_go 3 ?_
                refine sy_load 0 (r := indexAddrOp Tryz.prog 22 SL (J a)) (h' := g) (v := ptr q (a)) (by kernel_rfl) (idxS0 (e := 28) (by kernel_rfl) (by kernel_rfl) (by omega)) ?_
                refine ok_go 1 ?_
                refine ow_loadF (P := Tryz.prog) (T := 28) (off := a) 0 0 W rfl (by omega) (by kernel_rfl) (by kernel_rfl) ?_
                refine ok_go 1 ?_
                refine sy_call 0 (by kernel_rfl) ec ?_
                refine ok_go 5 ?_
                refine sy_test 0 (!decide (z < 0)) (by kernel_rfl) ?_ ?_
                · intro ht
                  have hB : ¬ (lt (f1 j) P) := fun h => by rw [decide_eq_true (hz.2 h)] at ht; cases ht
                  obtain ⟨j, rfl⟩ : ∃ k, j = k + 1 := ⟨j - 1, by omega⟩
                  have hwj : IntKind.wrap .i64 (Int.ofNat (j + 1) - 1) = Int.ofNat j := sub_one (by omega)
                  refine ok_go 1 ?_
                  exact sy_next 0 _ g (by kernel_rfl) (by kernel_rfl) (ihD2 j _ g ⟨rfl, by omega, by omega, by omega, fun k k1 k2 => by
                    by_cases e : k = j + 1
                    · rw [e]; exact hB
                    · exact hR k (by omega) k2⟩ (show j < j + 1 by omega) ⟨by kernel_rfl, by kernel_rfl, by kernel_rfl, by kernel_rfl, (by kernel_rfl : _ = Value.int .i64 (IntKind.wrap .i64 (Int.ofNat (j + 1) - 1))).trans (by rw [hwj]), trivial⟩)
                · intro ht
                  have n2 : lt (f1 j) P := hz.1 (by
                      cases hd : decide (z < 0) with
                      | true => exact of_decide_eq_true hd
                      | false => rw [hd] at ht; cases ht)
                  clear ihD2 ec hz ht
                  refine ok_go 1 ?_
                  refine sy_no 0 (b := decide (Int.ofNat i > Int.ofNat j)) (by kernel_rfl) (decide_eq_false fun h => by have := Int.ofNat_lt.1 h; omega) ?_
                  have hlt : i < j := by
                    rcases Nat.lt_or_eq_of_le hij with h | h
                    · exact h
                    · subst h; exact absurd n2 n1
                  obtain ⟨j, rfl⟩ : ∃ k, j = k + 1 := ⟨j - 1, by omega⟩
                  have hwj : IntKind.wrap .i64 (Int.ofNat (j + 1) - 1) = Int.ofNat j := sub_one (by omega)
                  have hwi : IntKind.wrap .i64 (Int.ofNat (i + 1)) = Int.ofNat (i + 1) := wrap_nat (by omega)
                  obtain ⟨k1, k2, k3⟩ := part_step (B := fun v => lt v P) hP h1 hlt h3 hL hR n1 n2
                  refine ok_go 0 ?_
                  refine sy_load 0 (r := indexAddrOp Tryz.prog 22 SL (J (j + 1))) (h' := g) (v := ptr q (j + 1)) (by kernel_rfl) (idxS0 (e := 28) (by kernel_rfl) (by kernel_rfl) (by omega)) ?_
                  refine ok_go 0 ?_
                  refine ow_loadF (P := Tryz.prog) (T := 28) (off := j + 1) 0 0 W rfl (by omega) (by kernel_rfl) (by kernel_rfl) ?_
                  refine ok_go 0 ?_
                  refine sy_load 0 (r := indexAddrOp Tryz.prog 22 SL (J i)) (h' := g) (v := ptr q (i)) (by kernel_rfl) (idxS0 (e := 28) (by kernel_rfl) (by kernel_rfl) (by omega)) ?_
                  refine ok_go 0 ?_
                  refine ow_loadF (P := Tryz.prog) (T := 28) (off := i) 0 0 W rfl (by omega) (by kernel_rfl) (by kernel_rfl) ?_
                  refine ok_go 0 ?_
                  refine sy_load 0 (r := indexAddrOp Tryz.prog 22 SL (J i)) (h' := g) (v := ptr q (i)) (by kernel_rfl) (idxS0 (e := 28) (by kernel_rfl) (by kernel_rfl) (by omega)) ?_
                  refine ok_go 0 ?_
                  refine ow_storeF (P := Tryz.prog) (T := 28) (off := i) (v := f1 (j + 1)) 0 0 W rfl (by omega) (by kernel_rfl) (K.sc _ (hV1 _ (by omega))) (by kernel_rfl) fun ga nga W => ?_
                  refine ok_go 0 ?_
                  refine sy_load 0 (r := indexAddrOp Tryz.prog 22 SL (J (j + 1))) (h' := ga) (v := ptr q (j + 1)) (by kernel_rfl) (idxS0 (e := 28) (by kernel_rfl) (by kernel_rfl) (by omega)) ?_
                  refine ok_go 0 ?_
                  refine ow_storeF (P := Tryz.prog) (T := 28) (off := j + 1) (v := f1 (i)) 0 0 W rfl (by omega) (by kernel_rfl) (K.sc _ (hV1 _ (by omega))) (by kernel_rfl) fun g3 ng3 W => ?_
                  refine ok_go 2 ?_
                  have W : Dat h l q N o (swp f1 (i) (j + 1)) g3 := by rw [← updF_swp]; exact W
                  have S := S.trans (.one (f := f1) (i := i) (j := j + 1) (by omega) (by omega) (by omega) (by omega))
                  exact sy_next 0 _ g3 (by kernel_rfl) (by kernel_rfl) (ih (i + 1, j, swp f1 i (j + 1)) _ g3 ⟨show a + 1 ≤ i + 1 by omega, show i + 1 ≤ j + 1 by omega, show j + 1 ≤ b by omega, W, S, k1, k2, k3⟩ (by dsimp only; omega) ⟨by kernel_rfl, by kernel_rfl, by kernel_rfl, (by kernel_rfl : _ = Value.int .i64 (IntKind.wrap .i64 (Int.ofNat (i + 1)))).trans (by rw [hwi]), (by kernel_rfl : _ = Value.int .i64 (IntKind.wrap .i64 (Int.ofNat (j + 1) - 1))).trans (by rw [hwj]), trivial⟩)
              · intro hij
                have hji : j < i := Nat.lt_of_not_le fun h => (of_decide_eq_false hij) (Int.ofNat_le.2 h)
                clear ihD2 hij
                refine ok_go 14 ?_
                refine sy_yes 0 (b := decide (Int.ofNat i > Int.ofNat j)) (by kernel_rfl) (decide_eq_true (Int.ofNat_lt.2 hji)) ?_
                obtain ⟨k1, k2, k3⟩ := part_end (B := fun v => lt v P) hP (show a ≤ j by omega) (fun k k1 k2 => hL k k1 (by omega)) hR
                refine ok_go 0 ?_
                refine sy_load 0 (r := indexAddrOp Tryz.prog 22 SL (J a)) (h' := g) (v := ptr q (a)) (by kernel_rfl) (idxS0 (e := 28) (by kernel_rfl) (by kernel_rfl) (by omega)) ?_
                refine ok_go 0 ?_
                refine ow_loadF (P := Tryz.prog) (T := 28) (off := a) 0 0 W rfl (by omega) (by kernel_rfl) (by kernel_rfl) ?_
                refine ok_go 0 ?_
                refine sy_load 0 (r := indexAddrOp Tryz.prog 22 SL (J j)) (h' := g) (v := ptr q (j)) (by kernel_rfl) (idxS0 (e := 28) (by kernel_rfl) (by kernel_rfl) (by omega)) ?_
                refine ok_go 0 ?_
                refine ow_loadF (P := Tryz.prog) (T := 28) (off := j) 0 0 W rfl (by omega) (by kernel_rfl) (by kernel_rfl) ?_
                refine ok_go 0 ?_
                refine sy_load 0 (r := indexAddrOp Tryz.prog 22 SL (J j)) (h' := g) (v := ptr q (j)) (by kernel_rfl) (idxS0 (e := 28) (by kernel_rfl) (by kernel_rfl) (by omega)) ?_
                refine ok_go 0 ?_
                refine ow_storeF (P := Tryz.prog) (T := 28) (off := j) (v := f1 (a)) 0 0 W rfl (by omega) (by kernel_rfl) (K.sc _ (hV1 _ (by omega))) (by kernel_rfl) fun ga nga W => ?_
                refine ok_go 0 ?_
                refine sy_load 0 (r := indexAddrOp Tryz.prog 22 SL (J a)) (h' := ga) (v := ptr q (a)) (by kernel_rfl) (idxS0 (e := 28) (by kernel_rfl) (by kernel_rfl) (by omega)) ?_
                refine ok_go 0 ?_
                refine ow_storeF (P := Tryz.prog) (T := 28) (off := a) (v := f1 (j)) 0 0 W rfl (by omega) (by kernel_rfl) (K.sc _ (hV1 _ (by omega))) (by kernel_rfl) fun g3 ng3 W => ?_
                refine ok_go 0 ?_
                have W : Dat h l q N o (swp f1 (j) (a)) g3 := by rw [← updF_swp]; exact W
                refine sy_done 0 (v := Value.tuple { toList := [Value.int IntKind.i64 (Int.ofNat j), Value.bool false] }) (h := g3) (by kernel_rfl) ?_
                exact ⟨swp f1 j a, j, false, rfl, W, S.trans (.one (by omega) (by omega) (by omega) (by omega)), by omega, by omega, k1, k2, k3⟩
          · intro hij
            have hxj : j < i := Nat.lt_of_not_le fun h => (of_decide_eq_false hij) (Int.ofNat_le.2 h)
            clear hij
            refine ok_go 12 ?_
            refine sy_loop 0 lf g (α := Nat) (fun j => [(0, SL), (1, J a), (4, .func (.func C) #[] #[]), (12, J i), (13, J j)]) (fun j g' => g' = g ∧ j ≤ j0 ∧ i ≤ j + 1 ∧ j + 1 ≤ b ∧ (∀ k, j < k → k < b → ¬ (lt (f1 k) P))) (fun j _ => j) j (by kernel_rfl) (by kernel_rfl)
              ⟨by kernel_rfl, by kernel_rfl, by kernel_rfl, by kernel_rfl, by kernel_rfl, trivial⟩ (show j < lf by omega) ⟨rfl, by omega, h2, h3, hR⟩ ?_
            clear h2 h3 hR ihU2
            rintro mD2 j FD2 g ⟨rfl, hjj, h2, h3, hR⟩ ihD2
            refine ok_go 1 ?_
            refine sy_no 0 (b := decide (Int.ofNat i ≤ Int.ofNat j)) (by kernel_rfl) (decide_eq_false fun h => by have := Int.ofNat_le.1 h; omega) ?_
            have hji : j < i := by omega
            clear ihD2
            refine ok_go 14 ?_
            refine sy_yes 0 (b := decide (Int.ofNat i > Int.ofNat j)) (by kernel_rfl) (decide_eq_true (Int.ofNat_lt.2 hji)) ?_
            obtain ⟨k1, k2, k3⟩ := part_end (B := fun v => lt v P) hP (show a ≤ j by omega) (fun k k1 k2 => hL k k1 (by omega)) hR
            refine ok_go 0 ?_
            refine sy_load 0 (r := indexAddrOp Tryz.prog 22 SL (J a)) (h' := g) (v := ptr q (a)) (by kernel_rfl) (idxS0 (e := 28) (by kernel_rfl) (by kernel_rfl) (by omega)) ?_
            refine ok_go 0 ?_
            refine ow_loadF (P := Tryz.prog) (T := 28) (off := a) 0 0 W rfl (by omega) (by kernel_rfl) (by kernel_rfl) ?_
            refine ok_go 0 ?_
            refine sy_load 0 (r := indexAddrOp Tryz.prog 22 SL (J j)) (h' := g) (v := ptr q (j)) (by kernel_rfl) (idxS0 (e := 28) (by kernel_rfl) (by kernel_rfl) (by omega)) ?_
            refine ok_go 0 ?_
            refine ow_loadF (P := Tryz.prog) (T := 28) (off := j) 0 0 W rfl (by omega) (by kernel_rfl) (by kernel_rfl) ?_
            refine ok_go 0 ?_
            refine sy_load 0 (r := indexAddrOp Tryz.prog 22 SL (J j)) (h' := g) (v := ptr q (j)) (by kernel_rfl) (idxS0 (e := 28) (by kernel_rfl) (by kernel_rfl) (by omega)) ?_
            refine ok_go 0 ?_
            refine ow_storeF (P := Tryz.prog) (T := 28) (off := j) (v := f1 (a)) 0 0 W rfl (by omega) (by kernel_rfl) (K.sc _ (hV1 _ (by omega))) (by kernel_rfl) fun ga nga W => ?_
            refine ok_go 0 ?_
            refine sy_load 0 (r := indexAddrOp Tryz.prog 22 SL (J a)) (h' := ga) (v := ptr q (a)) (by kernel_rfl) (idxS0 (e := 28) (by kernel_rfl) (by kernel_rfl) (by omega)) ?_
            refine ok_go 0 ?_
            refine ow_storeF (P := Tryz.prog) (T := 28) (off := a) (v := f1 (j)) 0 0 W rfl (by omega) (by kernel_rfl) (K.sc _ (hV1 _ (by omega))) (by kernel_rfl) fun g3 ng3 W => ?_
            refine ok_go 0 ?_
            have W : Dat h l q N o (swp f1 (j) (a)) g3 := by rw [← updF_swp]; exact W
            refine sy_done 0 (v := Value.tuple { toList := [Value.int IntKind.i64 (Int.ofNat j), Value.bool false] }) (h := g3) (by kernel_rfl) ?_
            exact ⟨swp f1 j a, j, false, rfl, W, S.trans (.one (by omega) (by omega) (by omega) (by omega)), by omega, by omega, k1, k2, k3⟩
      · intro hij
        have hji : j < i := Nat.lt_of_not_le fun h => (of_decide_eq_false hij) (Int.ofNat_le.2 h)
        clear ihD1 hij
        refine ok_go 14 ?_
        refine sy_yes 0 (b := decide (Int.ofNat i > Int.ofNat j)) (by kernel_rfl) (decide_eq_true (Int.ofNat_lt.2 hji)) ?_
        obtain ⟨k1, k2, k3⟩ := part_end (B := fun v => lt v P) hP (show a ≤ j by omega) (fun k k1 k2 => hL k k1 (by omega)) hR
        refine ok_go 0 ?_
        refine sy_load 0 (r := indexAddrOp Tryz.prog 22 SL (J a)) (h' := g) (v := ptr q (a)) (by kernel_rfl) (idxS0 (e := 28) (by kernel_rfl) (by kernel_rfl) (by omega)) ?_
        refine ok_go 0 ?_
        refine ow_loadF (P := Tryz.prog) (T := 28) (off := a) 0 0 W rfl (by omega) (by kernel_rfl) (by kernel_rfl) ?_
        refine ok_go 0 ?_
        refine sy_load 0 (r := indexAddrOp Tryz.prog 22 SL (J j)) (h' := g) (v := ptr q (j)) (by kernel_rfl) (idxS0 (e := 28) (by kernel_rfl) (by kernel_rfl) (by omega)) ?_
        refine ok_go 0 ?_
        refine ow_loadF (P := Tryz.prog) (T := 28) (off := j) 0 0 W rfl (by omega) (by kernel_rfl) (by kernel_rfl) ?_
        refine ok_go 0 ?_
        refine sy_load 0 (r := indexAddrOp Tryz.prog 22 SL (J j)) (h' := g) (v := ptr q (j)) (by kernel_rfl) (idxS0 (e := 28) (by kernel_rfl) (by kernel_rfl) (by omega)) ?_
        refine ok_go 0 ?_
        refine ow_storeF (P := Tryz.prog) (T := 28) (off := j) (v := f1 (a)) 0 0 W rfl (by omega) (by kernel_rfl) (K.sc _ (hV1 _ (by omega))) (by kernel_rfl) fun ga nga W => ?_
        refine ok_go 0 ?_
        refine sy_load 0 (r := indexAddrOp Tryz.prog 22 SL (J a)) (h' := ga) (v := ptr q (a)) (by kernel_rfl) (idxS0 (e := 28) (by kernel_rfl) (by kernel_rfl) (by omega)) ?_
        refine ok_go 0 ?_
        refine ow_storeF (P := Tryz.prog) (T := 28) (off := a) (v := f1 (j)) 0 0 W rfl (by omega) (by kernel_rfl) (K.sc _ (hV1 _ (by omega))) (by kernel_rfl) fun g3 ng3 W => ?_
        refine ok_go 0 ?_
        have W : Dat h l q N o (swp f1 (j) (a)) g3 := by rw [← updF_swp]; exact W
        refine sy_done 0 (v := Value.tuple { toList := [Value.int IntKind.i64 (Int.ofNat j), Value.bool true] }) (h := g3) (by kernel_rfl) ?_
        exact ⟨swp f1 j a, j, true, rfl, W, S.trans (.one (by omega) (by omega) (by omega) (by omega)), by omega, by omega, k1, k2, k3⟩
  · intro hij
    have hxj : j < i := Nat.lt_of_not_le fun h => (of_decide_eq_false hij) (Int.ofNat_le.2 h)
    clear hij
    refine ok_go 12 ?_
    refine sy_loop 0 lf g (α := Nat) (fun j => [(0, SL), (1, J a), (4, .func (.func C) #[] #[]), (12, J i), (13, J j)]) (fun j g' => g' = g ∧ j ≤ j0 ∧ i ≤ j + 1 ∧ j + 1 ≤ b ∧ (∀ k, j < k → k < b → ¬ (lt (f1 k) P))) (fun j _ => j) j (by kernel_rfl) (by kernel_rfl)
      ⟨by kernel_rfl, by kernel_rfl, by kernel_rfl, by kernel_rfl, by kernel_rfl, trivial⟩ (show j < lf by omega) ⟨rfl, by omega, h2, h3, hR⟩ ?_
    clear h2 h3 hR ihU1
    rintro mD1 j FD1 g ⟨rfl, hjj, h2, h3, hR⟩ ihD1
    refine ok_go 1 ?_
    refine sy_no 0 (b := decide (Int.ofNat i ≤ Int.ofNat j)) (by kernel_rfl) (decide_eq_false fun h => by have := Int.ofNat_le.1 h; omega) ?_
    have hji : j < i := by omega
    clear ihD1
    refine ok_go 14 ?_
    refine sy_yes 0 (b := decide (Int.ofNat i > Int.ofNat j)) (by kernel_rfl) (decide_eq_true (Int.ofNat_lt.2 hji)) ?_
    obtain ⟨k1, k2, k3⟩ := part_end (B := fun v => lt v P) hP (show a ≤ j by omega) (fun k k1 k2 => hL k k1 (by omega)) hR
    refine ok_go 0 ?_
    refine sy_load 0 (r := indexAddrOp Tryz.prog 22 SL (J a)) (h' := g) (v := ptr q (a)) (by kernel_rfl) (idxS0 (e := 28) (by kernel_rfl) (by kernel_rfl) (by omega)) ?_
    refine ok_go 0 ?_
    refine ow_loadF (P := Tryz.prog) (T := 28) (off := a) 0 0 W rfl (by omega) (by kernel_rfl) (by kernel_rfl) ?_
    refine ok_go 0 ?_
    refine sy_load 0 (r := indexAddrOp Tryz.prog 22 SL (J j)) (h' := g) (v := ptr q (j)) (by kernel_rfl) (idxS0 (e := 28) (by kernel_rfl) (by kernel_rfl) (by omega)) ?_
    refine ok_go 0 ?_
    refine ow_loadF (P := Tryz.prog) (T := 28) (off := j) 0 0 W rfl (by omega) (by kernel_rfl) (by kernel_rfl) ?_
    refine ok_go 0 ?_
    refine sy_load 0 (r := indexAddrOp Tryz.prog 22 SL (J j)) (h' := g) (v := ptr q (j)) (by kernel_rfl) (idxS0 (e := 28) (by kernel_rfl) (by kernel_rfl) (by omega)) ?_
    refine ok_go 0 ?_
    refine ow_storeF (P := Tryz.prog) (T := 28) (off := j) (v := f1 (a)) 0 0 W rfl (by omega) (by kernel_rfl) (K.sc _ (hV1 _ (by omega))) (by kernel_rfl) fun ga nga W => ?_
    refine ok_go 0 ?_
    refine sy_load 0 (r := indexAddrOp Tryz.prog 22 SL (J a)) (h' := ga) (v := ptr q (a)) (by kernel_rfl) (idxS0 (e := 28) (by kernel_rfl) (by kernel_rfl) (by omega)) ?_
    refine ok_go 0 ?_
    refine ow_storeF (P := Tryz.prog) (T := 28) (off := a) (v := f1 (j)) 0 0 W rfl (by omega) (by kernel_rfl) (K.sc _ (hV1 _ (by omega))) (by kernel_rfl) fun g3 ng3 W => ?_
    refine ok_go 0 ?_
    have W : Dat h l q N o (swp f1 (j) (a)) g3 := by rw [← updF_swp]; exact W
    refine sy_done 0 (v := Value.tuple { toList := [Value.int IntKind.i64 (Int.ofNat j), Value.bool true] }) (h := g3) (by kernel_rfl) ?_
    exact ⟨swp f1 j a, j, true, rfl, W, S.trans (.one (by omega) (by omega) (by omega) (by omega)), by omega, by omega, k1, k2, k3⟩
end
end Go.Proofs.YtkfbfgcflnkllaaGreatDoor.Ch
namespace Go.Proofs.YtkfbfgcflnkllaaGreatDoor.Oct
section
variable {α : Type} {lt : α → α → Prop} {f g : Nat → α} {a b u v : Nat}
/-- All pairs are in order of which one is not between u and v. -/
def Env (lt : α → α → Prop) (f : Nat → α) (a b u v : Nat) : Prop := ∀ x y, a ≤ x → x < y → y < b → (x < u ∨ v ≤ y) → ¬ lt (f y) (f x)
theorem Env.start : Env lt f a b a b := fun x y h1 h2 h3 h4 => by omega
theorem Env.sw (E : Env lt f a b u v) (S : Sw u v f g) (ha : a ≤ u) (hb : v ≤ b) : Env lt g a b u v := fun x y h1 h2 h3 h4 => by
  by_cases hx : x < u
  · rw [S.out (x := x) (.inl hx)]
    by_cases hy : u ≤ y ∧ y < v
    · exact S.all (P := fun w => ¬ lt w (f x)) (fun k k1 k2 => E x k h1 (by omega) (by omega) (.inl hx)) y hy.1 hy.2
    · rw [S.out (x := y) (by omega)]; exact E x y h1 h2 h3 h4
  · have hy : v ≤ y := by omega
    rw [S.out (x := y) (.inr hy)]
    by_cases hxv : x < v
    · exact S.all (P := fun w => ¬ lt (f y) w) (fun k k1 k2 => E k y (by omega) (by omega) h3 (.inr hy)) x (by omega) hxv
    · rw [S.out (x := x) (by omega)]; exact E x y h1 h2 h3 h4
theorem Env.fin (E : Env lt f a b u v) (Z : Srt lt f u v) : Srt lt f a b := fun x y h1 h2 h3 => by
  by_cases h : x < u ∨ v ≤ y
  · exact E x y h1 h2 h3 h
  · exact Z x y (by omega) h2 (by omega)
theorem Env.low (E : Env lt f a b u v) (hl : a = 0 ∨ ∀ k, a ≤ k → k < b → ¬ lt (f k) (f (a - 1))) (ha : a ≤ u) (hb : v ≤ b) : u = 0 ∨ ∀ k, u ≤ k → k < v → ¬ lt (f k) (f (u - 1)) := by
  by_cases e : u = a
  · subst e
    rcases hl with h | h
    · exact .inl h
    · exact .inr fun k k1 k2 => h k k1 (by omega)
  · exact .inr fun k k1 k2 => E (u - 1) k (by omega) (by omega) (by omega) (.inl (by omega))
theorem Env.left (O : Ord lt) (E : Env lt f a b u v) {j : Nat} (S : Sw u j f g) (hj : u ≤ j) (hjv : j < v) (hv : v ≤ b) (hu : a ≤ u) (h1 : ∀ k, u ≤ k → k < j → lt (f k) (f j)) (h2 : ∀ k, j < k → k < v → ¬ lt (f k) (f j)) (Z : Srt lt g u j) : Env lt g a b (j + 1) v := fun x y k1 k2 k3 k4 => by
  have E' := E.sw (S.mono (Nat.le_refl _) (by omega : j ≤ v)) hu hv
  by_cases c1 : x < u ∨ v ≤ y
  · exact E' x y k1 k2 k3 c1
  have gj : g j = f j := S.out (.inr (Nat.le_refl _))
  have hl : ∀ k, u ≤ k → k < j → lt (g k) (g j) := by rw [gj]; exact S.all (P := fun w => lt w (f j)) h1
  have hr : ∀ k, j < k → k < v → ¬ lt (g k) (g j) := fun k q1 q2 => by rw [gj, S.out (x := k) (.inr (by omega))]; exact h2 k q1 q2
  by_cases c2 : y < j
  · exact Z x y (by omega) k2 c2
  · by_cases c3 : x = j
    · subst c3; exact hr y k2 (by omega)
    · have a1 := O.asym (hl x (by omega) (by omega))
      by_cases c4 : y = j
      · subst c4; exact a1
      · exact O.letr a1 (hr y (by omega) (by omega))
theorem Env.right (O : Ord lt) (E : Env lt f a b u v) {j : Nat} (S : Sw (j + 1) v f g) (hj : u ≤ j) (hjv : j < v) (hv : v ≤ b) (hu : a ≤ u) (h1 : ∀ k, u ≤ k → k < j → lt (f k) (f j)) (h2 : ∀ k, j < k → k < v → ¬ lt (f k) (f j)) (Z : Srt lt g (j + 1) v) : Env lt g a b u j := fun x y k1 k2 k3 k4 => by
  have E' := E.sw (S.mono (by omega : u ≤ j + 1) (Nat.le_refl _)) hu hv
  by_cases c1 : x < u ∨ v ≤ y
  · exact E' x y k1 k2 k3 c1
  have gj : g j = f j := S.out (.inl (by omega))
  have hl : ∀ k, u ≤ k → k < j → lt (g k) (g j) := fun k q1 q2 => by rw [gj, S.out (x := k) (.inl (by omega))]; exact h1 k q1 q2
  have hr : ∀ k, j + 1 ≤ k → k < v → ¬ lt (g k) (g j) := by rw [gj]; exact S.all (P := fun w => ¬ lt w (f j)) fun k q1 q2 => h2 k (by omega) q2
  by_cases c2 : j + 1 ≤ x
  · exact Z x y c2 k2 (by omega)
  · by_cases c3 : x = j
    · subst c3; exact hr y (by omega) (by omega)
    · have a1 := O.asym (hl x (by omega) (by omega))
      by_cases c4 : y = j
      · subst c4; exact a1
      · exact O.letr a1 (hr y (by omega) (by omega))
theorem Env.equal (O : Ord lt) (E : Env lt f a b u v) {i : Nat} {P : α} (_ : v ≤ b) (_ : a ≤ u) (hl : ∀ k, u ≤ k → k < v → ¬ lt (f k) (f (u - 1))) (hP : ¬ lt (f (u - 1)) P) (h1 : ∀ k, u ≤ k → k < i → ¬ lt P (f k)) (h2 : ∀ k, i ≤ k → k < v → lt P (f k)) : Env lt f a b i v := fun x y k1 k2 k3 k4 => by
  by_cases c1 : x < u ∨ v ≤ y
  · exact E x y k1 k2 k3 c1
  have hx := h1 x (by omega) (by omega)
  by_cases c2 : y < i
  · exact O.letr (O.letr hx hP) (hl y (by omega) (by omega))
  · exact O.letr hx (O.asym (h2 y (by omega) (by omega)))
end
end Go.Proofs.YtkfbfgcflnkllaaGreatDoor.Oct
namespace Go.Proofs.YtkfbfgcflnkllaaGreatDoor.Ch
open Go Go.Eng Nim Oct
set_option maxRecDepth 100000
set_option maxHeartbeats 8000000
section
variable {lf m C q N : Nat} {h : Hp} {l : List (Nat × AObj)} {o : Bool} {V : Value → Prop} {lt : Value → Value → Prop}
theorem pdq_of (hlf : 20000 ≤ lf) (K : ∀ j, Cmp lf (m + j) C h l q N o V lt) (hN : N ≤ 10000) (c : Nat) : ∀ (k a b : Nat) (z : Int) (f : Nat → Value) (_ : ∀ k, k < N → V (f k)) (_ : a ≤ b) (_ : b ≤ N) (_ : b - a < 2 ^ k) (_ : a = 0 ∨ ∀ k, a ≤ k → k < b → ¬ lt (f k) (f (a - 1))) (g : Hp) (_ : Dat h l q N o f g),
    ∃ v g', Ev lf (m + k + 6) 90 [.slice (some ⟨q, 0, none⟩) N c, J a, J b, I z, .func (.func C) #[] #[]] g = some (v, g') ∧ ∃ f', Dat h l q N o f' g' ∧ Sw a b f f' ∧ Srt lt f' a b := by
  intro k
  induction k with
  | zero =>
    intro a b z f hV hab hb hk hlow g W
    refine fnS_ok (Q := fun v g' => ∃ f', Dat h l q N o f' g' ∧ Sw a b f f' ∧ Srt lt f' a b) ?_
    obtain rfl : b = a := by simp at hk; omega
    obtain ⟨_, g2, e2, f2, W2, S2, Z2⟩ := isort_of (K 4) hlf hN c f hV b b (Nat.le_refl _) hb g W
    refine ok_go 1 ?_
    refine sy_loop 0 lf g (α := Unit) (fun _ => [(0, .slice (some ⟨q, 0, none⟩) N c), (1, J b), (2, J b), (4, .func (.func C) #[] #[])]) (fun _ g' => g' = g) (fun _ _ => 0) () (by kernel_rfl) (by kernel_rfl)
      ⟨by kernel_rfl, by kernel_rfl, by kernel_rfl, by kernel_rfl, trivial⟩ (show 0 < lf by omega) rfl ?_
    rintro m1 ⟨⟩ F1 g rfl ih
    refine ok_go 2 ?_
    refine sy_yes 0 (b := decide (IntKind.wrap .i64 (Int.ofNat b - Int.ofNat b) ≤ 12)) (by kernel_rfl) (decide_eq_true (by rw [wrap_sub (Nat.le_refl _) (by omega), Nat.sub_self]; decide)) ?_
    refine ok_go 0 ?_
    refine sy_call 0 (by kernel_rfl) e2 ?_
    refine sy_done 0 (v := Value.tuple { toList := [] }) (h := g2) (by kernel_rfl) ?_
    exact ⟨f2, W2, S2, Z2⟩
  | succ k ihk =>
    intro a b z f hV hab hb hk hlow g W
    refine fnS_ok (Q := fun v g' => ∃ f', Dat h l q N o f' g' ∧ Sw a b f f' ∧ Srt lt f' a b) ?_
    let SL : Value := .slice (some ⟨q, 0, none⟩) N c
    rw [Nat.pow_succ] at hk
    refine ok_go 0 ?_
    refine sy_loop 0 lf g (α := Nat × Nat × Int × Bool × Bool × (Nat → Value)) (fun x => [(0, SL), (1, J x.1), (2, J x.2.1), (3, I x.2.2.1), (4, .func (.func C) #[] #[]), (10, .bool x.2.2.2.1), (11, .bool x.2.2.2.2.1)]) (fun x g => a ≤ x.1 ∧ x.1 ≤ x.2.1 ∧ x.2.1 ≤ b ∧ Dat h l q N o x.2.2.2.2.2 g ∧ Sw a b f x.2.2.2.2.2 ∧ Env lt x.2.2.2.2.2 a b x.1 x.2.1) (fun x _ => x.2.1 - x.1) (a, b, z, true, true, f) (by kernel_rfl) (by kernel_rfl)
      ⟨by kernel_rfl, by kernel_rfl, by kernel_rfl, by kernel_rfl, by kernel_rfl, by kernel_rfl, by kernel_rfl, trivial⟩ (show b - a < lf by omega) ⟨Nat.le_refl _, hab, Nat.le_refl _, W, .refl f, .start⟩ ?_
    clear W
    rintro m1 ⟨u, v, z, wb, wp, f1⟩ F1 g ⟨hu, huv, hvb, W, S, E⟩ ih
    dsimp only at hu huv hvb W S E
    obtain ⟨n, rfl⟩ : ∃ n, v = u + n := ⟨v - u, by omega⟩
    have hVC := S.every hb hV
    have hwn : IntKind.wrap .i64 (Int.ofNat (u + n) - Int.ofNat u) = Int.ofNat n := by rw [wrap_sub (by omega) (by omega), Nat.add_sub_cancel_left]
    refine ok_go 2 ?_
    refine sy_test 0 (decide (IntKind.wrap .i64 (Int.ofNat (u + n) - Int.ofNat u) ≤ 12)) (by kernel_rfl) ?_ ?_
    · intro h12
      obtain ⟨_, g2, e2, f2, W2, S2, Z2⟩ := isort_of (K (k + 5)) hlf hN c f1 hVC u (u + n) (by omega) (by omega) g W
      refine ok_go 0 ?_
      refine sy_call 0 (by kernel_rfl) e2 ?_
      refine sy_done 0 (v := Value.tuple { toList := [] }) (h := g2) (by kernel_rfl) ?_
      exact ⟨f2, W2, S.trans (S2.mono hu hvb), (E.sw S2 hu hvb).fin Z2⟩
    intro h12
    have hn : 13 ≤ n := by
      rw [hwn] at h12
      have : ¬ n ≤ 12 := fun h => (of_decide_eq_false h12) (Int.ofNat_le.2 h)
      omega
    refine ok_go 1 ?_
    refine sy_test 0 (z == 0) (by kernel_rfl) ?_ ?_
    · intro _
      obtain ⟨_, g2, e2, f2, W2, S2, Z2⟩ := hsort_of hlf (K (k + 4)) hN c f1 hVC u (u + n) (by omega) (by omega) g W
      refine ok_go 0 ?_
      refine sy_call 0 (by kernel_rfl) e2 ?_
      refine sy_done 0 (v := Value.tuple { toList := [] }) (h := g2) (by kernel_rfl) ?_
      exact ⟨f2, W2, S.trans (S2.mono hu hvb), (E.sw S2 hu hvb).fin Z2⟩
    intro _
    cases wb with
    | false =>
      obtain ⟨_, g2, e2, f2, W, S2⟩ := break_of hlf (K (k + 2)) hN c f1 hVC u n hn (by omega) g W
      have S := S.trans (S2.mono hu hvb)
      have E := E.sw S2 hu hvb
      have hVC := S.every hb hV
      refine ok_go 2 ?_
      refine sy_call 0 (by kernel_rfl) e2 ?_
      clear e2 S2
      obtain ⟨_, g3, e3, x, t, rfl, ht, ⟨x1, x2⟩, W⟩ := pivot_of (K (k + 2)) (K (k + 3)) hN c f2 hVC u n hn (by omega) g2 W
      refine ok_go 1 ?_
      refine sy_call 0 (by kernel_rfl) e3 ?_
      have hX1 : Int.ofNat x = Int.ofNat x := rfl
      obtain rfl | rfl | rfl : t = 0 ∨ t = 1 ∨ t = 2 := by omega
      · clear e3
        refine ok_go 11 ?_
        refine sy_test 0 (decide (Int.ofNat u > 0)) (by kernel_rfl) ?_ ?_
        · intro h0
          have h0 : 0 < u := ok_nat (a := 0) h0
          have hwu : IntKind.wrap .i64 (Int.ofNat u - 1) = Int.ofNat (u - 1) := wrap_sub (b := 1) (by omega) (by omega)
          obtain ⟨z4, ec4, hz4⟩ := (K (k + 6)).cmp f2 g3 _ _ W (hVC (u - 1) (by omega)) (hVC (x) (by omega))
          refine ok_go 5 ?_
          refine sy_load 0 (r := indexAddrOp Tryz.prog 22 SL (I (IntKind.wrap .i64 (Int.ofNat u - 1)))) (h' := g3) (v := ptr q (u - 1)) (by kernel_rfl) (by rw [hwu]; exact idxS0 (e := 28) (by kernel_rfl) (by kernel_rfl) (by omega)) ?_
          refine ok_go 1 ?_
          refine ow_loadF (P := Tryz.prog) (T := 28) (off := u - 1) 0 0 W rfl (by omega) (by kernel_rfl) (by kernel_rfl) ?_
          refine ok_go 3 ?_
          refine sy_load 0 (r := indexAddrOp Tryz.prog 22 SL (I (Int.ofNat x))) (h' := g3) (v := ptr q (x)) (by kernel_rfl) (by rw [hX1]; exact idxS0 (e := 28) (by kernel_rfl) (by kernel_rfl) (by omega)) ?_
          refine ok_go 1 ?_
          refine ow_loadF (P := Tryz.prog) (T := 28) (off := x) 0 0 W rfl (by omega) (by kernel_rfl) (by kernel_rfl) ?_
          refine ok_go 1 ?_
          refine sy_call 0 (by kernel_rfl) ec4 ?_
          refine ok_go 5 ?_
          refine sy_test 0 (!decide (z4 < 0)) (by kernel_rfl) ?_ ?_
          · intro ht
            have hnl : ¬ lt (f2 (u - 1)) (f2 (x)) := fun h => by rw [decide_eq_true (hz4.2 h)] at ht; cases ht
            obtain ⟨_, g5, e5, f5, i, rfl, W, S5, i1, i2, _, p1, p2⟩ := peq_of hlf (K (k + 5)) hN c f2 hVC u (u + n) (x) (by omega) (by omega) (by omega) (by omega) g3 W
            have e5 : Ev lf (m + k + 6) 123 [SL, J u, J (u + n), I (Int.ofNat x), .func (.func C) #[] #[]] g3 = some (J i, g5) := by rw [hX1]; exact e5
            have S := S.trans (S5.mono hu hvb)
            have E := E.sw S5 hu hvb
            have hlo := (E.low (S.low hlow) hu hvb).resolve_left (by omega)
            have E := E.equal (K 0).ord hvb hu hlo (by rw [S5.out (x := u - 1) (.inl (by omega))]; exact hnl) p1 p2
            refine ok_go 0 ?_
            refine sy_call 0 (by kernel_rfl) e5 ?_
            refine ok_go 0 ?_
            exact sy_next 0 _ g5 (by kernel_rfl) (by kernel_rfl) (ih (i, u + n, IntKind.wrap .i64 (z - 1), false, wp, f5) _ g5 ⟨by dsimp only; omega, by dsimp only; omega, by dsimp only; omega, W, S, E⟩ (by dsimp only; omega) ⟨by kernel_rfl, by kernel_rfl, by kernel_rfl, by kernel_rfl, by kernel_rfl, by kernel_rfl, by kernel_rfl, trivial⟩)
          · intro ht
            clear ec4 hz4 ht
            obtain ⟨_, g5, e5, f5, j, r, rfl, W, S5, j1, j2, hjP, p1, p2⟩ := part_of hlf (K (k + 5)) hN c f2 hVC u (u + n) (x) (by omega) (by omega) (by omega) (by omega) g3 W
            rw [← hjP] at p1 p2
            have e5 : Ev lf (m + k + 6) 124 [SL, J u, J (u + n), I (Int.ofNat x), .func (.func C) #[] #[]] g3 = some (.tuple #[J j, .bool r], g5) := by rw [hX1]; exact e5
            have S := S.trans (S5.mono hu hvb)
            have E := E.sw S5 hu hvb
            have hV5 := S.every hb hV
            have t18 : IntKind.wrap .i64 (Int.ofNat j - Int.ofNat u) = Int.ofNat (j - u) := wrap_sub (by omega) (by omega)
            have t19 : IntKind.wrap .i64 (Int.ofNat (u + n) - Int.ofNat j) = Int.ofNat (u + n - j) := wrap_sub (by omega) (by omega)
            refine ok_go 0 ?_
            refine sy_call 0 (by kernel_rfl) e5 ?_
            refine ok_go 6 ?_
            refine sy_test 0 (decide (IntKind.wrap .i64 (Int.ofNat j - Int.ofNat u) < IntKind.wrap .i64 (Int.ofNat (u + n) - Int.ofNat j))) (by kernel_rfl) ?_ ?_
            · intro hl
              have hl : j - u < u + n - j := by rw [t18, t19] at hl; exact ok_nat hl
              have hlo : u = 0 ∨ ∀ k, u ≤ k → k < j → ¬ lt (f5 k) (f5 (u - 1)) := (E.low (S.low hlow) hu hvb).imp id fun h k k1 k2 => h k k1 (by omega)
              obtain ⟨_, g6, e6, f6, W, S6, Z6⟩ := ihk u j (IntKind.wrap .i64 (z - 1)) f5 hV5 (by omega) (by omega) (by omega) hlo g5 W
              have E := E.left (K 0).ord S6 j1 j2 hvb hu p1 p2 Z6
              have S := S.trans (S6.mono hu (by omega))
              have hwj : IntKind.wrap .i64 (Int.ofNat (j + 1)) = Int.ofNat (j + 1) := wrap_nat (by omega)
              refine ok_go 1 ?_
              refine sy_call 0 (by kernel_rfl) e6 ?_
              refine ok_go 1 ?_
              exact sy_next 0 _ g6 (by kernel_rfl) (by kernel_rfl) (ih (j + 1, u + n, IntKind.wrap .i64 (z - 1), decide (IntKind.wrap .i64 (Int.ofNat j - Int.ofNat u) ≥ IntKind.wrap .i64 ((IntKind.wrap .i64 (Int.ofNat (u + n) - Int.ofNat u)).tdiv 8)), r, f6) _ g6 ⟨by dsimp only; omega, by dsimp only; omega, by dsimp only; omega, W, S, E⟩ (by dsimp only; omega) ⟨by kernel_rfl, (by kernel_rfl : _ = Value.int .i64 (IntKind.wrap .i64 (Int.ofNat (j + 1)))).trans (by rw [hwj]), by kernel_rfl, by kernel_rfl, by kernel_rfl, by kernel_rfl, by kernel_rfl, trivial⟩)
            · intro hl
              have hl : u + n - j ≤ j - u := by rw [t18, t19] at hl; exact no_nat hl
              have hwj : IntKind.wrap .i64 (Int.ofNat (j + 1)) = Int.ofNat (j + 1) := wrap_nat (by omega)
              have hlo : j + 1 = 0 ∨ ∀ k, j + 1 ≤ k → k < u + n → ¬ lt (f5 k) (f5 (j + 1 - 1)) := .inr fun k k1 k2 => p2 k (by omega) k2
              obtain ⟨v6, g6, e6, f6, W, S6, Z6⟩ := ihk (j + 1) (u + n) (IntKind.wrap .i64 (z - 1)) f5 hV5 (by omega) (by omega) (by omega) hlo g5 W
              have e6 : Ev lf (m + k + 6) 90 [SL, I (IntKind.wrap .i64 (Int.ofNat (j + 1))), J (u + n), I (IntKind.wrap .i64 (z - 1)), .func (.func C) #[] #[]] g5 = some (v6, g6) := by rw [hwj]; exact e6
              have E := E.right (K 0).ord S6 j1 j2 hvb hu p1 p2 Z6
              have S := S.trans (S6.mono (by omega) hvb)
              refine ok_go 2 ?_
              refine sy_call 0 (by kernel_rfl) e6 ?_
              refine ok_go 0 ?_
              exact sy_next 0 _ g6 (by kernel_rfl) (by kernel_rfl) (ih (u, j, IntKind.wrap .i64 (z - 1), decide (IntKind.wrap .i64 (Int.ofNat (u + n) - Int.ofNat j) ≥ IntKind.wrap .i64 ((IntKind.wrap .i64 (Int.ofNat (u + n) - Int.ofNat u)).tdiv 8)), r, f6) _ g6 ⟨by dsimp only; omega, by dsimp only; omega, by dsimp only; omega, W, S, E⟩ (by dsimp only; omega) ⟨by kernel_rfl, by kernel_rfl, by kernel_rfl, by kernel_rfl, by kernel_rfl, by kernel_rfl, by kernel_rfl, trivial⟩)
        · intro h0
          obtain ⟨_, g5, e5, f5, j, r, rfl, W, S5, j1, j2, hjP, p1, p2⟩ := part_of hlf (K (k + 5)) hN c f2 hVC u (u + n) (x) (by omega) (by omega) (by omega) (by omega) g3 W
          rw [← hjP] at p1 p2
          have e5 : Ev lf (m + k + 6) 124 [SL, J u, J (u + n), I (Int.ofNat x), .func (.func C) #[] #[]] g3 = some (.tuple #[J j, .bool r], g5) := by rw [hX1]; exact e5
          have S := S.trans (S5.mono hu hvb)
          have E := E.sw S5 hu hvb
          have hV5 := S.every hb hV
          have t18 : IntKind.wrap .i64 (Int.ofNat j - Int.ofNat u) = Int.ofNat (j - u) := wrap_sub (by omega) (by omega)
          have t19 : IntKind.wrap .i64 (Int.ofNat (u + n) - Int.ofNat j) = Int.ofNat (u + n - j) := wrap_sub (by omega) (by omega)
          refine ok_go 14 ?_
          refine sy_call 0 (by kernel_rfl) e5 ?_
          refine ok_go 6 ?_
          refine sy_test 0 (decide (IntKind.wrap .i64 (Int.ofNat j - Int.ofNat u) < IntKind.wrap .i64 (Int.ofNat (u + n) - Int.ofNat j))) (by kernel_rfl) ?_ ?_
          · intro hl
            have hl : j - u < u + n - j := by rw [t18, t19] at hl; exact ok_nat hl
            have hlo : u = 0 ∨ ∀ k, u ≤ k → k < j → ¬ lt (f5 k) (f5 (u - 1)) := (E.low (S.low hlow) hu hvb).imp id fun h k k1 k2 => h k k1 (by omega)
            obtain ⟨_, g6, e6, f6, W, S6, Z6⟩ := ihk u j (IntKind.wrap .i64 (z - 1)) f5 hV5 (by omega) (by omega) (by omega) hlo g5 W
            have E := E.left (K 0).ord S6 j1 j2 hvb hu p1 p2 Z6
            have S := S.trans (S6.mono hu (by omega))
            have hwj : IntKind.wrap .i64 (Int.ofNat (j + 1)) = Int.ofNat (j + 1) := wrap_nat (by omega)
            refine ok_go 1 ?_
            refine sy_call 0 (by kernel_rfl) e6 ?_
            refine ok_go 1 ?_
            exact sy_next 0 _ g6 (by kernel_rfl) (by kernel_rfl) (ih (j + 1, u + n, IntKind.wrap .i64 (z - 1), decide (IntKind.wrap .i64 (Int.ofNat j - Int.ofNat u) ≥ IntKind.wrap .i64 ((IntKind.wrap .i64 (Int.ofNat (u + n) - Int.ofNat u)).tdiv 8)), r, f6) _ g6 ⟨by dsimp only; omega, by dsimp only; omega, by dsimp only; omega, W, S, E⟩ (by dsimp only; omega) ⟨by kernel_rfl, (by kernel_rfl : _ = Value.int .i64 (IntKind.wrap .i64 (Int.ofNat (j + 1)))).trans (by rw [hwj]), by kernel_rfl, by kernel_rfl, by kernel_rfl, by kernel_rfl, by kernel_rfl, trivial⟩)
          · intro hl
            have hl : u + n - j ≤ j - u := by rw [t18, t19] at hl; exact no_nat hl
            have hwj : IntKind.wrap .i64 (Int.ofNat (j + 1)) = Int.ofNat (j + 1) := wrap_nat (by omega)
            have hlo : j + 1 = 0 ∨ ∀ k, j + 1 ≤ k → k < u + n → ¬ lt (f5 k) (f5 (j + 1 - 1)) := .inr fun k k1 k2 => p2 k (by omega) k2
            obtain ⟨v6, g6, e6, f6, W, S6, Z6⟩ := ihk (j + 1) (u + n) (IntKind.wrap .i64 (z - 1)) f5 hV5 (by omega) (by omega) (by omega) hlo g5 W
            have e6 : Ev lf (m + k + 6) 90 [SL, I (IntKind.wrap .i64 (Int.ofNat (j + 1))), J (u + n), I (IntKind.wrap .i64 (z - 1)), .func (.func C) #[] #[]] g5 = some (v6, g6) := by rw [hwj]; exact e6
            have E := E.right (K 0).ord S6 j1 j2 hvb hu p1 p2 Z6
            have S := S.trans (S6.mono (by omega) hvb)
            refine ok_go 2 ?_
            refine sy_call 0 (by kernel_rfl) e6 ?_
            refine ok_go 0 ?_
            exact sy_next 0 _ g6 (by kernel_rfl) (by kernel_rfl) (ih (u, j, IntKind.wrap .i64 (z - 1), decide (IntKind.wrap .i64 (Int.ofNat (u + n) - Int.ofNat j) ≥ IntKind.wrap .i64 ((IntKind.wrap .i64 (Int.ofNat (u + n) - Int.ofNat u)).tdiv 8)), r, f6) _ g6 ⟨by dsimp only; omega, by dsimp only; omega, by dsimp only; omega, W, S, E⟩ (by dsimp only; omega) ⟨by kernel_rfl, by kernel_rfl, by kernel_rfl, by kernel_rfl, by kernel_rfl, by kernel_rfl, by kernel_rfl, trivial⟩)
      · clear e3
        refine ok_go 11 ?_
        refine sy_test 0 (decide (Int.ofNat u > 0)) (by kernel_rfl) ?_ ?_
        · intro h0
          have h0 : 0 < u := ok_nat (a := 0) h0
          have hwu : IntKind.wrap .i64 (Int.ofNat u - 1) = Int.ofNat (u - 1) := wrap_sub (b := 1) (by omega) (by omega)
          obtain ⟨z4, ec4, hz4⟩ := (K (k + 6)).cmp f2 g3 _ _ W (hVC (u - 1) (by omega)) (hVC (x) (by omega))
          refine ok_go 5 ?_
          refine sy_load 0 (r := indexAddrOp Tryz.prog 22 SL (I (IntKind.wrap .i64 (Int.ofNat u - 1)))) (h' := g3) (v := ptr q (u - 1)) (by kernel_rfl) (by rw [hwu]; exact idxS0 (e := 28) (by kernel_rfl) (by kernel_rfl) (by omega)) ?_
          refine ok_go 1 ?_
          refine ow_loadF (P := Tryz.prog) (T := 28) (off := u - 1) 0 0 W rfl (by omega) (by kernel_rfl) (by kernel_rfl) ?_
          refine ok_go 3 ?_
          refine sy_load 0 (r := indexAddrOp Tryz.prog 22 SL (I (Int.ofNat x))) (h' := g3) (v := ptr q (x)) (by kernel_rfl) (by rw [hX1]; exact idxS0 (e := 28) (by kernel_rfl) (by kernel_rfl) (by omega)) ?_
          refine ok_go 1 ?_
          refine ow_loadF (P := Tryz.prog) (T := 28) (off := x) 0 0 W rfl (by omega) (by kernel_rfl) (by kernel_rfl) ?_
          refine ok_go 1 ?_
          refine sy_call 0 (by kernel_rfl) ec4 ?_
          refine ok_go 5 ?_
          refine sy_test 0 (!decide (z4 < 0)) (by kernel_rfl) ?_ ?_
          · intro ht
            have hnl : ¬ lt (f2 (u - 1)) (f2 (x)) := fun h => by rw [decide_eq_true (hz4.2 h)] at ht; cases ht
            obtain ⟨_, g5, e5, f5, i, rfl, W, S5, i1, i2, _, p1, p2⟩ := peq_of hlf (K (k + 5)) hN c f2 hVC u (u + n) (x) (by omega) (by omega) (by omega) (by omega) g3 W
            have e5 : Ev lf (m + k + 6) 123 [SL, J u, J (u + n), I (Int.ofNat x), .func (.func C) #[] #[]] g3 = some (J i, g5) := by rw [hX1]; exact e5
            have S := S.trans (S5.mono hu hvb)
            have E := E.sw S5 hu hvb
            have hlo := (E.low (S.low hlow) hu hvb).resolve_left (by omega)
            have E := E.equal (K 0).ord hvb hu hlo (by rw [S5.out (x := u - 1) (.inl (by omega))]; exact hnl) p1 p2
            refine ok_go 0 ?_
            refine sy_call 0 (by kernel_rfl) e5 ?_
            refine ok_go 0 ?_
            exact sy_next 0 _ g5 (by kernel_rfl) (by kernel_rfl) (ih (i, u + n, IntKind.wrap .i64 (z - 1), false, wp, f5) _ g5 ⟨by dsimp only; omega, by dsimp only; omega, by dsimp only; omega, W, S, E⟩ (by dsimp only; omega) ⟨by kernel_rfl, by kernel_rfl, by kernel_rfl, by kernel_rfl, by kernel_rfl, by kernel_rfl, by kernel_rfl, trivial⟩)
          · intro ht
            clear ec4 hz4 ht
            obtain ⟨_, g5, e5, f5, j, r, rfl, W, S5, j1, j2, hjP, p1, p2⟩ := part_of hlf (K (k + 5)) hN c f2 hVC u (u + n) (x) (by omega) (by omega) (by omega) (by omega) g3 W
            rw [← hjP] at p1 p2
            have e5 : Ev lf (m + k + 6) 124 [SL, J u, J (u + n), I (Int.ofNat x), .func (.func C) #[] #[]] g3 = some (.tuple #[J j, .bool r], g5) := by rw [hX1]; exact e5
            have S := S.trans (S5.mono hu hvb)
            have E := E.sw S5 hu hvb
            have hV5 := S.every hb hV
            have t18 : IntKind.wrap .i64 (Int.ofNat j - Int.ofNat u) = Int.ofNat (j - u) := wrap_sub (by omega) (by omega)
            have t19 : IntKind.wrap .i64 (Int.ofNat (u + n) - Int.ofNat j) = Int.ofNat (u + n - j) := wrap_sub (by omega) (by omega)
            refine ok_go 0 ?_
            refine sy_call 0 (by kernel_rfl) e5 ?_
            refine ok_go 6 ?_
            refine sy_test 0 (decide (IntKind.wrap .i64 (Int.ofNat j - Int.ofNat u) < IntKind.wrap .i64 (Int.ofNat (u + n) - Int.ofNat j))) (by kernel_rfl) ?_ ?_
            · intro hl
              have hl : j - u < u + n - j := by rw [t18, t19] at hl; exact ok_nat hl
              have hlo : u = 0 ∨ ∀ k, u ≤ k → k < j → ¬ lt (f5 k) (f5 (u - 1)) := (E.low (S.low hlow) hu hvb).imp id fun h k k1 k2 => h k k1 (by omega)
              obtain ⟨_, g6, e6, f6, W, S6, Z6⟩ := ihk u j (IntKind.wrap .i64 (z - 1)) f5 hV5 (by omega) (by omega) (by omega) hlo g5 W
              have E := E.left (K 0).ord S6 j1 j2 hvb hu p1 p2 Z6
              have S := S.trans (S6.mono hu (by omega))
              have hwj : IntKind.wrap .i64 (Int.ofNat (j + 1)) = Int.ofNat (j + 1) := wrap_nat (by omega)
              refine ok_go 1 ?_
              refine sy_call 0 (by kernel_rfl) e6 ?_
              refine ok_go 1 ?_
              exact sy_next 0 _ g6 (by kernel_rfl) (by kernel_rfl) (ih (j + 1, u + n, IntKind.wrap .i64 (z - 1), decide (IntKind.wrap .i64 (Int.ofNat j - Int.ofNat u) ≥ IntKind.wrap .i64 ((IntKind.wrap .i64 (Int.ofNat (u + n) - Int.ofNat u)).tdiv 8)), r, f6) _ g6 ⟨by dsimp only; omega, by dsimp only; omega, by dsimp only; omega, W, S, E⟩ (by dsimp only; omega) ⟨by kernel_rfl, (by kernel_rfl : _ = Value.int .i64 (IntKind.wrap .i64 (Int.ofNat (j + 1)))).trans (by rw [hwj]), by kernel_rfl, by kernel_rfl, by kernel_rfl, by kernel_rfl, by kernel_rfl, trivial⟩)
            · intro hl
              have hl : u + n - j ≤ j - u := by rw [t18, t19] at hl; exact no_nat hl
              have hwj : IntKind.wrap .i64 (Int.ofNat (j + 1)) = Int.ofNat (j + 1) := wrap_nat (by omega)
              have hlo : j + 1 = 0 ∨ ∀ k, j + 1 ≤ k → k < u + n → ¬ lt (f5 k) (f5 (j + 1 - 1)) := .inr fun k k1 k2 => p2 k (by omega) k2
              obtain ⟨v6, g6, e6, f6, W, S6, Z6⟩ := ihk (j + 1) (u + n) (IntKind.wrap .i64 (z - 1)) f5 hV5 (by omega) (by omega) (by omega) hlo g5 W
              have e6 : Ev lf (m + k + 6) 90 [SL, I (IntKind.wrap .i64 (Int.ofNat (j + 1))), J (u + n), I (IntKind.wrap .i64 (z - 1)), .func (.func C) #[] #[]] g5 = some (v6, g6) := by rw [hwj]; exact e6
              have E := E.right (K 0).ord S6 j1 j2 hvb hu p1 p2 Z6
              have S := S.trans (S6.mono (by omega) hvb)
              refine ok_go 2 ?_
              refine sy_call 0 (by kernel_rfl) e6 ?_
              refine ok_go 0 ?_
              exact sy_next 0 _ g6 (by kernel_rfl) (by kernel_rfl) (ih (u, j, IntKind.wrap .i64 (z - 1), decide (IntKind.wrap .i64 (Int.ofNat (u + n) - Int.ofNat j) ≥ IntKind.wrap .i64 ((IntKind.wrap .i64 (Int.ofNat (u + n) - Int.ofNat u)).tdiv 8)), r, f6) _ g6 ⟨by dsimp only; omega, by dsimp only; omega, by dsimp only; omega, W, S, E⟩ (by dsimp only; omega) ⟨by kernel_rfl, by kernel_rfl, by kernel_rfl, by kernel_rfl, by kernel_rfl, by kernel_rfl, by kernel_rfl, trivial⟩)
        · intro h0
          obtain ⟨_, g5, e5, f5, j, r, rfl, W, S5, j1, j2, hjP, p1, p2⟩ := part_of hlf (K (k + 5)) hN c f2 hVC u (u + n) (x) (by omega) (by omega) (by omega) (by omega) g3 W
          rw [← hjP] at p1 p2
          have e5 : Ev lf (m + k + 6) 124 [SL, J u, J (u + n), I (Int.ofNat x), .func (.func C) #[] #[]] g3 = some (.tuple #[J j, .bool r], g5) := by rw [hX1]; exact e5
          have S := S.trans (S5.mono hu hvb)
          have E := E.sw S5 hu hvb
          have hV5 := S.every hb hV
          have t18 : IntKind.wrap .i64 (Int.ofNat j - Int.ofNat u) = Int.ofNat (j - u) := wrap_sub (by omega) (by omega)
          have t19 : IntKind.wrap .i64 (Int.ofNat (u + n) - Int.ofNat j) = Int.ofNat (u + n - j) := wrap_sub (by omega) (by omega)
          refine ok_go 14 ?_
          refine sy_call 0 (by kernel_rfl) e5 ?_
          refine ok_go 6 ?_
          refine sy_test 0 (decide (IntKind.wrap .i64 (Int.ofNat j - Int.ofNat u) < IntKind.wrap .i64 (Int.ofNat (u + n) - Int.ofNat j))) (by kernel_rfl) ?_ ?_
          · intro hl
            have hl : j - u < u + n - j := by rw [t18, t19] at hl; exact ok_nat hl
            have hlo : u = 0 ∨ ∀ k, u ≤ k → k < j → ¬ lt (f5 k) (f5 (u - 1)) := (E.low (S.low hlow) hu hvb).imp id fun h k k1 k2 => h k k1 (by omega)
            obtain ⟨_, g6, e6, f6, W, S6, Z6⟩ := ihk u j (IntKind.wrap .i64 (z - 1)) f5 hV5 (by omega) (by omega) (by omega) hlo g5 W
            have E := E.left (K 0).ord S6 j1 j2 hvb hu p1 p2 Z6
            have S := S.trans (S6.mono hu (by omega))
            have hwj : IntKind.wrap .i64 (Int.ofNat (j + 1)) = Int.ofNat (j + 1) := wrap_nat (by omega)
            refine ok_go 1 ?_
            refine sy_call 0 (by kernel_rfl) e6 ?_
            refine ok_go 1 ?_
            exact sy_next 0 _ g6 (by kernel_rfl) (by kernel_rfl) (ih (j + 1, u + n, IntKind.wrap .i64 (z - 1), decide (IntKind.wrap .i64 (Int.ofNat j - Int.ofNat u) ≥ IntKind.wrap .i64 ((IntKind.wrap .i64 (Int.ofNat (u + n) - Int.ofNat u)).tdiv 8)), r, f6) _ g6 ⟨by dsimp only; omega, by dsimp only; omega, by dsimp only; omega, W, S, E⟩ (by dsimp only; omega) ⟨by kernel_rfl, (by kernel_rfl : _ = Value.int .i64 (IntKind.wrap .i64 (Int.ofNat (j + 1)))).trans (by rw [hwj]), by kernel_rfl, by kernel_rfl, by kernel_rfl, by kernel_rfl, by kernel_rfl, trivial⟩)
          · intro hl
            have hl : u + n - j ≤ j - u := by rw [t18, t19] at hl; exact no_nat hl
            have hwj : IntKind.wrap .i64 (Int.ofNat (j + 1)) = Int.ofNat (j + 1) := wrap_nat (by omega)
            have hlo : j + 1 = 0 ∨ ∀ k, j + 1 ≤ k → k < u + n → ¬ lt (f5 k) (f5 (j + 1 - 1)) := .inr fun k k1 k2 => p2 k (by omega) k2
            obtain ⟨v6, g6, e6, f6, W, S6, Z6⟩ := ihk (j + 1) (u + n) (IntKind.wrap .i64 (z - 1)) f5 hV5 (by omega) (by omega) (by omega) hlo g5 W
            have e6 : Ev lf (m + k + 6) 90 [SL, I (IntKind.wrap .i64 (Int.ofNat (j + 1))), J (u + n), I (IntKind.wrap .i64 (z - 1)), .func (.func C) #[] #[]] g5 = some (v6, g6) := by rw [hwj]; exact e6
            have E := E.right (K 0).ord S6 j1 j2 hvb hu p1 p2 Z6
            have S := S.trans (S6.mono (by omega) hvb)
            refine ok_go 2 ?_
            refine sy_call 0 (by kernel_rfl) e6 ?_
            refine ok_go 0 ?_
            exact sy_next 0 _ g6 (by kernel_rfl) (by kernel_rfl) (ih (u, j, IntKind.wrap .i64 (z - 1), decide (IntKind.wrap .i64 (Int.ofNat (u + n) - Int.ofNat j) ≥ IntKind.wrap .i64 ((IntKind.wrap .i64 (Int.ofNat (u + n) - Int.ofNat u)).tdiv 8)), r, f6) _ g6 ⟨by dsimp only; omega, by dsimp only; omega, by dsimp only; omega, W, S, E⟩ (by dsimp only; omega) ⟨by kernel_rfl, by kernel_rfl, by kernel_rfl, by kernel_rfl, by kernel_rfl, by kernel_rfl, by kernel_rfl, trivial⟩)
      · have hX2 : IntKind.wrap .i64 (IntKind.wrap .i64 (Int.ofNat (u + n) - 1) - IntKind.wrap .i64 (Int.ofNat x - Int.ofNat u)) = Int.ofNat (u + n - 1 - (x - u)) := by
          rw [show IntKind.wrap .i64 (Int.ofNat (u + n) - 1) = Int.ofNat (u + n - 1) from wrap_sub (b := 1) (by omega) (by omega), show IntKind.wrap .i64 (Int.ofNat x - Int.ofNat u) = Int.ofNat (x - u) from wrap_sub (by omega) (by omega)]
          exact wrap_sub (by omega) (by omega)
        obtain ⟨_, g7, e7, f7, W, S7⟩ := rev_of hlf (K (k + 5)) hN c f2 hVC u n (by omega) (by omega) g3 W
        have S := S.trans (S7.mono hu hvb)
        have E := E.sw S7 hu hvb
        have hVC := S.every hb hV
        clear e3
        refine ok_go 4 ?_
        refine sy_call 0 (by kernel_rfl) e7 ?_
        clear e7 S7
        refine ok_go 10 ?_
        refine sy_test 0 (decide (Int.ofNat u > 0)) (by kernel_rfl) ?_ ?_
        · intro h0
          have h0 : 0 < u := ok_nat (a := 0) h0
          have hwu : IntKind.wrap .i64 (Int.ofNat u - 1) = Int.ofNat (u - 1) := wrap_sub (b := 1) (by omega) (by omega)
          obtain ⟨z4, ec4, hz4⟩ := (K (k + 6)).cmp f7 g7 _ _ W (hVC (u - 1) (by omega)) (hVC (u + n - 1 - (x - u)) (by omega))
          refine ok_go 5 ?_
          refine sy_load 0 (r := indexAddrOp Tryz.prog 22 SL (I (IntKind.wrap .i64 (Int.ofNat u - 1)))) (h' := g7) (v := ptr q (u - 1)) (by kernel_rfl) (by rw [hwu]; exact idxS0 (e := 28) (by kernel_rfl) (by kernel_rfl) (by omega)) ?_
          refine ok_go 1 ?_
          refine ow_loadF (P := Tryz.prog) (T := 28) (off := u - 1) 0 0 W rfl (by omega) (by kernel_rfl) (by kernel_rfl) ?_
          refine ok_go 3 ?_
          refine sy_load 0 (r := indexAddrOp Tryz.prog 22 SL (I (IntKind.wrap .i64 (IntKind.wrap .i64 (Int.ofNat (u + n) - 1) - IntKind.wrap .i64 (Int.ofNat x - Int.ofNat u))))) (h' := g7) (v := ptr q (u + n - 1 - (x - u))) (by kernel_rfl) (by rw [hX2]; exact idxS0 (e := 28) (by kernel_rfl) (by kernel_rfl) (by omega)) ?_
          refine ok_go 1 ?_
          refine ow_loadF (P := Tryz.prog) (T := 28) (off := u + n - 1 - (x - u)) 0 0 W rfl (by omega) (by kernel_rfl) (by kernel_rfl) ?_
          refine ok_go 1 ?_
          refine sy_call 0 (by kernel_rfl) ec4 ?_
          refine ok_go 5 ?_
          refine sy_test 0 (!decide (z4 < 0)) (by kernel_rfl) ?_ ?_
          · intro ht
            have hnl : ¬ lt (f7 (u - 1)) (f7 (u + n - 1 - (x - u))) := fun h => by rw [decide_eq_true (hz4.2 h)] at ht; cases ht
            obtain ⟨_, g5, e5, f5, i, rfl, W, S5, i1, i2, _, p1, p2⟩ := peq_of hlf (K (k + 5)) hN c f7 hVC u (u + n) (u + n - 1 - (x - u)) (by omega) (by omega) (by omega) (by omega) g7 W
            have e5 : Ev lf (m + k + 6) 123 [SL, J u, J (u + n), I (IntKind.wrap .i64 (IntKind.wrap .i64 (Int.ofNat (u + n) - 1) - IntKind.wrap .i64 (Int.ofNat x - Int.ofNat u))), .func (.func C) #[] #[]] g7 = some (J i, g5) := by rw [hX2]; exact e5
            have S := S.trans (S5.mono hu hvb)
            have E := E.sw S5 hu hvb
            have hlo := (E.low (S.low hlow) hu hvb).resolve_left (by omega)
            have E := E.equal (K 0).ord hvb hu hlo (by rw [S5.out (x := u - 1) (.inl (by omega))]; exact hnl) p1 p2
            refine ok_go 0 ?_
            refine sy_call 0 (by kernel_rfl) e5 ?_
            refine ok_go 0 ?_
            exact sy_next 0 _ g5 (by kernel_rfl) (by kernel_rfl) (ih (i, u + n, IntKind.wrap .i64 (z - 1), false, wp, f5) _ g5 ⟨by dsimp only; omega, by dsimp only; omega, by dsimp only; omega, W, S, E⟩ (by dsimp only; omega) ⟨by kernel_rfl, by kernel_rfl, by kernel_rfl, by kernel_rfl, by kernel_rfl, by kernel_rfl, by kernel_rfl, trivial⟩)
          · intro ht
            clear ec4 hz4 ht
            obtain ⟨_, g5, e5, f5, j, r, rfl, W, S5, j1, j2, hjP, p1, p2⟩ := part_of hlf (K (k + 5)) hN c f7 hVC u (u + n) (u + n - 1 - (x - u)) (by omega) (by omega) (by omega) (by omega) g7 W
            rw [← hjP] at p1 p2
            have e5 : Ev lf (m + k + 6) 124 [SL, J u, J (u + n), I (IntKind.wrap .i64 (IntKind.wrap .i64 (Int.ofNat (u + n) - 1) - IntKind.wrap .i64 (Int.ofNat x - Int.ofNat u))), .func (.func C) #[] #[]] g7 = some (.tuple #[J j, .bool r], g5) := by rw [hX2]; exact e5
            have S := S.trans (S5.mono hu hvb)
            have E := E.sw S5 hu hvb
            have hV5 := S.every hb hV
            have t18 : IntKind.wrap .i64 (Int.ofNat j - Int.ofNat u) = Int.ofNat (j - u) := wrap_sub (by omega) (by omega)
            have t19 : IntKind.wrap .i64 (Int.ofNat (u + n) - Int.ofNat j) = Int.ofNat (u + n - j) := wrap_sub (by omega) (by omega)
            refine ok_go 0 ?_
            refine sy_call 0 (by kernel_rfl) e5 ?_
            refine ok_go 6 ?_
            refine sy_test 0 (decide (IntKind.wrap .i64 (Int.ofNat j - Int.ofNat u) < IntKind.wrap .i64 (Int.ofNat (u + n) - Int.ofNat j))) (by kernel_rfl) ?_ ?_
            · intro hl
              have hl : j - u < u + n - j := by rw [t18, t19] at hl; exact ok_nat hl
              have hlo : u = 0 ∨ ∀ k, u ≤ k → k < j → ¬ lt (f5 k) (f5 (u - 1)) := (E.low (S.low hlow) hu hvb).imp id fun h k k1 k2 => h k k1 (by omega)
              obtain ⟨_, g6, e6, f6, W, S6, Z6⟩ := ihk u j (IntKind.wrap .i64 (z - 1)) f5 hV5 (by omega) (by omega) (by omega) hlo g5 W
              have E := E.left (K 0).ord S6 j1 j2 hvb hu p1 p2 Z6
              have S := S.trans (S6.mono hu (by omega))
              have hwj : IntKind.wrap .i64 (Int.ofNat (j + 1)) = Int.ofNat (j + 1) := wrap_nat (by omega)
              refine ok_go 1 ?_
              refine sy_call 0 (by kernel_rfl) e6 ?_
              refine ok_go 1 ?_
              exact sy_next 0 _ g6 (by kernel_rfl) (by kernel_rfl) (ih (j + 1, u + n, IntKind.wrap .i64 (z - 1), decide (IntKind.wrap .i64 (Int.ofNat j - Int.ofNat u) ≥ IntKind.wrap .i64 ((IntKind.wrap .i64 (Int.ofNat (u + n) - Int.ofNat u)).tdiv 8)), r, f6) _ g6 ⟨by dsimp only; omega, by dsimp only; omega, by dsimp only; omega, W, S, E⟩ (by dsimp only; omega) ⟨by kernel_rfl, (by kernel_rfl : _ = Value.int .i64 (IntKind.wrap .i64 (Int.ofNat (j + 1)))).trans (by rw [hwj]), by kernel_rfl, by kernel_rfl, by kernel_rfl, by kernel_rfl, by kernel_rfl, trivial⟩)
            · intro hl
              have hl : u + n - j ≤ j - u := by rw [t18, t19] at hl; exact no_nat hl
              have hwj : IntKind.wrap .i64 (Int.ofNat (j + 1)) = Int.ofNat (j + 1) := wrap_nat (by omega)
              have hlo : j + 1 = 0 ∨ ∀ k, j + 1 ≤ k → k < u + n → ¬ lt (f5 k) (f5 (j + 1 - 1)) := .inr fun k k1 k2 => p2 k (by omega) k2
              obtain ⟨v6, g6, e6, f6, W, S6, Z6⟩ := ihk (j + 1) (u + n) (IntKind.wrap .i64 (z - 1)) f5 hV5 (by omega) (by omega) (by omega) hlo g5 W
              have e6 : Ev lf (m + k + 6) 90 [SL, I (IntKind.wrap .i64 (Int.ofNat (j + 1))), J (u + n), I (IntKind.wrap .i64 (z - 1)), .func (.func C) #[] #[]] g5 = some (v6, g6) := by rw [hwj]; exact e6
              have E := E.right (K 0).ord S6 j1 j2 hvb hu p1 p2 Z6
              have S := S.trans (S6.mono (by omega) hvb)
              refine ok_go 2 ?_
              refine sy_call 0 (by kernel_rfl) e6 ?_
              refine ok_go 0 ?_
              exact sy_next 0 _ g6 (by kernel_rfl) (by kernel_rfl) (ih (u, j, IntKind.wrap .i64 (z - 1), decide (IntKind.wrap .i64 (Int.ofNat (u + n) - Int.ofNat j) ≥ IntKind.wrap .i64 ((IntKind.wrap .i64 (Int.ofNat (u + n) - Int.ofNat u)).tdiv 8)), r, f6) _ g6 ⟨by dsimp only; omega, by dsimp only; omega, by dsimp only; omega, W, S, E⟩ (by dsimp only; omega) ⟨by kernel_rfl, by kernel_rfl, by kernel_rfl, by kernel_rfl, by kernel_rfl, by kernel_rfl, by kernel_rfl, trivial⟩)
        · intro h0
          obtain ⟨_, g5, e5, f5, j, r, rfl, W, S5, j1, j2, hjP, p1, p2⟩ := part_of hlf (K (k + 5)) hN c f7 hVC u (u + n) (u + n - 1 - (x - u)) (by omega) (by omega) (by omega) (by omega) g7 W
          rw [← hjP] at p1 p2
          have e5 : Ev lf (m + k + 6) 124 [SL, J u, J (u + n), I (IntKind.wrap .i64 (IntKind.wrap .i64 (Int.ofNat (u + n) - 1) - IntKind.wrap .i64 (Int.ofNat x - Int.ofNat u))), .func (.func C) #[] #[]] g7 = some (.tuple #[J j, .bool r], g5) := by rw [hX2]; exact e5
          have S := S.trans (S5.mono hu hvb)
          have E := E.sw S5 hu hvb
          have hV5 := S.every hb hV
          have t18 : IntKind.wrap .i64 (Int.ofNat j - Int.ofNat u) = Int.ofNat (j - u) := wrap_sub (by omega) (by omega)
          have t19 : IntKind.wrap .i64 (Int.ofNat (u + n) - Int.ofNat j) = Int.ofNat (u + n - j) := wrap_sub (by omega) (by omega)
          refine ok_go 14 ?_
          refine sy_call 0 (by kernel_rfl) e5 ?_
          refine ok_go 6 ?_
          refine sy_test 0 (decide (IntKind.wrap .i64 (Int.ofNat j - Int.ofNat u) < IntKind.wrap .i64 (Int.ofNat (u + n) - Int.ofNat j))) (by kernel_rfl) ?_ ?_
          · intro hl
            have hl : j - u < u + n - j := by rw [t18, t19] at hl; exact ok_nat hl
            have hlo : u = 0 ∨ ∀ k, u ≤ k → k < j → ¬ lt (f5 k) (f5 (u - 1)) := (E.low (S.low hlow) hu hvb).imp id fun h k k1 k2 => h k k1 (by omega)
            obtain ⟨_, g6, e6, f6, W, S6, Z6⟩ := ihk u j (IntKind.wrap .i64 (z - 1)) f5 hV5 (by omega) (by omega) (by omega) hlo g5 W
            have E := E.left (K 0).ord S6 j1 j2 hvb hu p1 p2 Z6
            have S := S.trans (S6.mono hu (by omega))
            have hwj : IntKind.wrap .i64 (Int.ofNat (j + 1)) = Int.ofNat (j + 1) := wrap_nat (by omega)
            refine ok_go 1 ?_
            refine sy_call 0 (by kernel_rfl) e6 ?_
            refine ok_go 1 ?_
            exact sy_next 0 _ g6 (by kernel_rfl) (by kernel_rfl) (ih (j + 1, u + n, IntKind.wrap .i64 (z - 1), decide (IntKind.wrap .i64 (Int.ofNat j - Int.ofNat u) ≥ IntKind.wrap .i64 ((IntKind.wrap .i64 (Int.ofNat (u + n) - Int.ofNat u)).tdiv 8)), r, f6) _ g6 ⟨by dsimp only; omega, by dsimp only; omega, by dsimp only; omega, W, S, E⟩ (by dsimp only; omega) ⟨by kernel_rfl, (by kernel_rfl : _ = Value.int .i64 (IntKind.wrap .i64 (Int.ofNat (j + 1)))).trans (by rw [hwj]), by kernel_rfl, by kernel_rfl, by kernel_rfl, by kernel_rfl, by kernel_rfl, trivial⟩)
          · intro hl
            have hl : u + n - j ≤ j - u := by rw [t18, t19] at hl; exact no_nat hl
            have hwj : IntKind.wrap .i64 (Int.ofNat (j + 1)) = Int.ofNat (j + 1) := wrap_nat (by omega)
            have hlo : j + 1 = 0 ∨ ∀ k, j + 1 ≤ k → k < u + n → ¬ lt (f5 k) (f5 (j + 1 - 1)) := .inr fun k k1 k2 => p2 k (by omega) k2
            obtain ⟨v6, g6, e6, f6, W, S6, Z6⟩ := ihk (j + 1) (u + n) (IntKind.wrap .i64 (z - 1)) f5 hV5 (by omega) (by omega) (by omega) hlo g5 W
            have e6 : Ev lf (m + k + 6) 90 [SL, I (IntKind.wrap .i64 (Int.ofNat (j + 1))), J (u + n), I (IntKind.wrap .i64 (z - 1)), .func (.func C) #[] #[]] g5 = some (v6, g6) := by rw [hwj]; exact e6
            have E := E.right (K 0).ord S6 j1 j2 hvb hu p1 p2 Z6
            have S := S.trans (S6.mono (by omega) hvb)
            refine ok_go 2 ?_
            refine sy_call 0 (by kernel_rfl) e6 ?_
            refine ok_go 0 ?_
            exact sy_next 0 _ g6 (by kernel_rfl) (by kernel_rfl) (ih (u, j, IntKind.wrap .i64 (z - 1), decide (IntKind.wrap .i64 (Int.ofNat (u + n) - Int.ofNat j) ≥ IntKind.wrap .i64 ((IntKind.wrap .i64 (Int.ofNat (u + n) - Int.ofNat u)).tdiv 8)), r, f6) _ g6 ⟨by dsimp only; omega, by dsimp only; omega, by dsimp only; omega, W, S, E⟩ (by dsimp only; omega) ⟨by kernel_rfl, by kernel_rfl, by kernel_rfl, by kernel_rfl, by kernel_rfl, by kernel_rfl, by kernel_rfl, trivial⟩)
    | true =>
      obtain ⟨_, g3, e3, x, t, rfl, ht, ⟨x1, x2⟩, W⟩ := pivot_of (K (k + 2)) (K (k + 3)) hN c f1 hVC u n hn (by omega) g W
      refine ok_go 2 ?_
      refine sy_call 0 (by kernel_rfl) e3 ?_
      have hX1 : Int.ofNat x = Int.ofNat x := rfl
      obtain rfl | rfl | rfl : t = 0 ∨ t = 1 ∨ t = 2 := by omega
      · clear e3
        cases wp with
        | true =>
          refine ok_go 12 ?_
          refine sy_test 0 (decide (Int.ofNat u > 0)) (by kernel_rfl) ?_ ?_
          · intro h0
            have h0 : 0 < u := ok_nat (a := 0) h0
            have hwu : IntKind.wrap .i64 (Int.ofNat u - 1) = Int.ofNat (u - 1) := wrap_sub (b := 1) (by omega) (by omega)
            obtain ⟨z4, ec4, hz4⟩ := (K (k + 6)).cmp f1 g3 _ _ W (hVC (u - 1) (by omega)) (hVC (x) (by omega))
            refine ok_go 5 ?_
            refine sy_load 0 (r := indexAddrOp Tryz.prog 22 SL (I (IntKind.wrap .i64 (Int.ofNat u - 1)))) (h' := g3) (v := ptr q (u - 1)) (by kernel_rfl) (by rw [hwu]; exact idxS0 (e := 28) (by kernel_rfl) (by kernel_rfl) (by omega)) ?_
            refine ok_go 1 ?_
            refine ow_loadF (P := Tryz.prog) (T := 28) (off := u - 1) 0 0 W rfl (by omega) (by kernel_rfl) (by kernel_rfl) ?_
            refine ok_go 3 ?_
            refine sy_load 0 (r := indexAddrOp Tryz.prog 22 SL (I (Int.ofNat x))) (h' := g3) (v := ptr q (x)) (by kernel_rfl) (by rw [hX1]; exact idxS0 (e := 28) (by kernel_rfl) (by kernel_rfl) (by omega)) ?_
            refine ok_go 1 ?_
            refine ow_loadF (P := Tryz.prog) (T := 28) (off := x) 0 0 W rfl (by omega) (by kernel_rfl) (by kernel_rfl) ?_
            refine ok_go 1 ?_
            refine sy_call 0 (by kernel_rfl) ec4 ?_
            refine ok_go 5 ?_
            refine sy_test 0 (!decide (z4 < 0)) (by kernel_rfl) ?_ ?_
            · intro ht
              have hnl : ¬ lt (f1 (u - 1)) (f1 (x)) := fun h => by rw [decide_eq_true (hz4.2 h)] at ht; cases ht
              obtain ⟨_, g5, e5, f5, i, rfl, W, S5, i1, i2, _, p1, p2⟩ := peq_of hlf (K (k + 5)) hN c f1 hVC u (u + n) (x) (by omega) (by omega) (by omega) (by omega) g3 W
              have e5 : Ev lf (m + k + 6) 123 [SL, J u, J (u + n), I (Int.ofNat x), .func (.func C) #[] #[]] g3 = some (J i, g5) := by rw [hX1]; exact e5
              have S := S.trans (S5.mono hu hvb)
              have E := E.sw S5 hu hvb
              have hlo := (E.low (S.low hlow) hu hvb).resolve_left (by omega)
              have E := E.equal (K 0).ord hvb hu hlo (by rw [S5.out (x := u - 1) (.inl (by omega))]; exact hnl) p1 p2
              refine ok_go 0 ?_
              refine sy_call 0 (by kernel_rfl) e5 ?_
              refine ok_go 0 ?_
              exact sy_next 0 _ g5 (by kernel_rfl) (by kernel_rfl) (ih (i, u + n, z, true, true, f5) _ g5 ⟨by dsimp only; omega, by dsimp only; omega, by dsimp only; omega, W, S, E⟩ (by dsimp only; omega) ⟨by kernel_rfl, by kernel_rfl, by kernel_rfl, by kernel_rfl, by kernel_rfl, by kernel_rfl, by kernel_rfl, trivial⟩)
            · intro ht
              clear ec4 hz4 ht
              obtain ⟨_, g5, e5, f5, j, r, rfl, W, S5, j1, j2, hjP, p1, p2⟩ := part_of hlf (K (k + 5)) hN c f1 hVC u (u + n) (x) (by omega) (by omega) (by omega) (by omega) g3 W
              rw [← hjP] at p1 p2
              have e5 : Ev lf (m + k + 6) 124 [SL, J u, J (u + n), I (Int.ofNat x), .func (.func C) #[] #[]] g3 = some (.tuple #[J j, .bool r], g5) := by rw [hX1]; exact e5
              have S := S.trans (S5.mono hu hvb)
              have E := E.sw S5 hu hvb
              have hV5 := S.every hb hV
              have t18 : IntKind.wrap .i64 (Int.ofNat j - Int.ofNat u) = Int.ofNat (j - u) := wrap_sub (by omega) (by omega)
              have t19 : IntKind.wrap .i64 (Int.ofNat (u + n) - Int.ofNat j) = Int.ofNat (u + n - j) := wrap_sub (by omega) (by omega)
              refine ok_go 0 ?_
              refine sy_call 0 (by kernel_rfl) e5 ?_
              refine ok_go 6 ?_
              refine sy_test 0 (decide (IntKind.wrap .i64 (Int.ofNat j - Int.ofNat u) < IntKind.wrap .i64 (Int.ofNat (u + n) - Int.ofNat j))) (by kernel_rfl) ?_ ?_
              · intro hl
                have hl : j - u < u + n - j := by rw [t18, t19] at hl; exact ok_nat hl
                have hlo : u = 0 ∨ ∀ k, u ≤ k → k < j → ¬ lt (f5 k) (f5 (u - 1)) := (E.low (S.low hlow) hu hvb).imp id fun h k k1 k2 => h k k1 (by omega)
                obtain ⟨_, g6, e6, f6, W, S6, Z6⟩ := ihk u j (z) f5 hV5 (by omega) (by omega) (by omega) hlo g5 W
                have E := E.left (K 0).ord S6 j1 j2 hvb hu p1 p2 Z6
                have S := S.trans (S6.mono hu (by omega))
                have hwj : IntKind.wrap .i64 (Int.ofNat (j + 1)) = Int.ofNat (j + 1) := wrap_nat (by omega)
                refine ok_go 1 ?_
                refine sy_call 0 (by kernel_rfl) e6 ?_
                refine ok_go 1 ?_
                exact sy_next 0 _ g6 (by kernel_rfl) (by kernel_rfl) (ih (j + 1, u + n, z, decide (IntKind.wrap .i64 (Int.ofNat j - Int.ofNat u) ≥ IntKind.wrap .i64 ((IntKind.wrap .i64 (Int.ofNat (u + n) - Int.ofNat u)).tdiv 8)), r, f6) _ g6 ⟨by dsimp only; omega, by dsimp only; omega, by dsimp only; omega, W, S, E⟩ (by dsimp only; omega) ⟨by kernel_rfl, (by kernel_rfl : _ = Value.int .i64 (IntKind.wrap .i64 (Int.ofNat (j + 1)))).trans (by rw [hwj]), by kernel_rfl, by kernel_rfl, by kernel_rfl, by kernel_rfl, by kernel_rfl, trivial⟩)
              · intro hl
                have hl : u + n - j ≤ j - u := by rw [t18, t19] at hl; exact no_nat hl
                have hwj : IntKind.wrap .i64 (Int.ofNat (j + 1)) = Int.ofNat (j + 1) := wrap_nat (by omega)
                have hlo : j + 1 = 0 ∨ ∀ k, j + 1 ≤ k → k < u + n → ¬ lt (f5 k) (f5 (j + 1 - 1)) := .inr fun k k1 k2 => p2 k (by omega) k2
                obtain ⟨v6, g6, e6, f6, W, S6, Z6⟩ := ihk (j + 1) (u + n) (z) f5 hV5 (by omega) (by omega) (by omega) hlo g5 W
                have e6 : Ev lf (m + k + 6) 90 [SL, I (IntKind.wrap .i64 (Int.ofNat (j + 1))), J (u + n), I (z), .func (.func C) #[] #[]] g5 = some (v6, g6) := by rw [hwj]; exact e6
                have E := E.right (K 0).ord S6 j1 j2 hvb hu p1 p2 Z6
                have S := S.trans (S6.mono (by omega) hvb)
                refine ok_go 2 ?_
                refine sy_call 0 (by kernel_rfl) e6 ?_
                refine ok_go 0 ?_
                exact sy_next 0 _ g6 (by kernel_rfl) (by kernel_rfl) (ih (u, j, z, decide (IntKind.wrap .i64 (Int.ofNat (u + n) - Int.ofNat j) ≥ IntKind.wrap .i64 ((IntKind.wrap .i64 (Int.ofNat (u + n) - Int.ofNat u)).tdiv 8)), r, f6) _ g6 ⟨by dsimp only; omega, by dsimp only; omega, by dsimp only; omega, W, S, E⟩ (by dsimp only; omega) ⟨by kernel_rfl, by kernel_rfl, by kernel_rfl, by kernel_rfl, by kernel_rfl, by kernel_rfl, by kernel_rfl, trivial⟩)
          · intro h0
            obtain ⟨_, g5, e5, f5, j, r, rfl, W, S5, j1, j2, hjP, p1, p2⟩ := part_of hlf (K (k + 5)) hN c f1 hVC u (u + n) (x) (by omega) (by omega) (by omega) (by omega) g3 W
            rw [← hjP] at p1 p2
            have e5 : Ev lf (m + k + 6) 124 [SL, J u, J (u + n), I (Int.ofNat x), .func (.func C) #[] #[]] g3 = some (.tuple #[J j, .bool r], g5) := by rw [hX1]; exact e5
            have S := S.trans (S5.mono hu hvb)
            have E := E.sw S5 hu hvb
            have hV5 := S.every hb hV
            have t18 : IntKind.wrap .i64 (Int.ofNat j - Int.ofNat u) = Int.ofNat (j - u) := wrap_sub (by omega) (by omega)
            have t19 : IntKind.wrap .i64 (Int.ofNat (u + n) - Int.ofNat j) = Int.ofNat (u + n - j) := wrap_sub (by omega) (by omega)
            refine ok_go 14 ?_
            refine sy_call 0 (by kernel_rfl) e5 ?_
            refine ok_go 6 ?_
            refine sy_test 0 (decide (IntKind.wrap .i64 (Int.ofNat j - Int.ofNat u) < IntKind.wrap .i64 (Int.ofNat (u + n) - Int.ofNat j))) (by kernel_rfl) ?_ ?_
            · intro hl
              have hl : j - u < u + n - j := by rw [t18, t19] at hl; exact ok_nat hl
              have hlo : u = 0 ∨ ∀ k, u ≤ k → k < j → ¬ lt (f5 k) (f5 (u - 1)) := (E.low (S.low hlow) hu hvb).imp id fun h k k1 k2 => h k k1 (by omega)
              obtain ⟨_, g6, e6, f6, W, S6, Z6⟩ := ihk u j (z) f5 hV5 (by omega) (by omega) (by omega) hlo g5 W
              have E := E.left (K 0).ord S6 j1 j2 hvb hu p1 p2 Z6
              have S := S.trans (S6.mono hu (by omega))
              have hwj : IntKind.wrap .i64 (Int.ofNat (j + 1)) = Int.ofNat (j + 1) := wrap_nat (by omega)
              refine ok_go 1 ?_
              refine sy_call 0 (by kernel_rfl) e6 ?_
              refine ok_go 1 ?_
              exact sy_next 0 _ g6 (by kernel_rfl) (by kernel_rfl) (ih (j + 1, u + n, z, decide (IntKind.wrap .i64 (Int.ofNat j - Int.ofNat u) ≥ IntKind.wrap .i64 ((IntKind.wrap .i64 (Int.ofNat (u + n) - Int.ofNat u)).tdiv 8)), r, f6) _ g6 ⟨by dsimp only; omega, by dsimp only; omega, by dsimp only; omega, W, S, E⟩ (by dsimp only; omega) ⟨by kernel_rfl, (by kernel_rfl : _ = Value.int .i64 (IntKind.wrap .i64 (Int.ofNat (j + 1)))).trans (by rw [hwj]), by kernel_rfl, by kernel_rfl, by kernel_rfl, by kernel_rfl, by kernel_rfl, trivial⟩)
            · intro hl
              have hl : u + n - j ≤ j - u := by rw [t18, t19] at hl; exact no_nat hl
              have hwj : IntKind.wrap .i64 (Int.ofNat (j + 1)) = Int.ofNat (j + 1) := wrap_nat (by omega)
              have hlo : j + 1 = 0 ∨ ∀ k, j + 1 ≤ k → k < u + n → ¬ lt (f5 k) (f5 (j + 1 - 1)) := .inr fun k k1 k2 => p2 k (by omega) k2
              obtain ⟨v6, g6, e6, f6, W, S6, Z6⟩ := ihk (j + 1) (u + n) (z) f5 hV5 (by omega) (by omega) (by omega) hlo g5 W
              have e6 : Ev lf (m + k + 6) 90 [SL, I (IntKind.wrap .i64 (Int.ofNat (j + 1))), J (u + n), I (z), .func (.func C) #[] #[]] g5 = some (v6, g6) := by rw [hwj]; exact e6
              have E := E.right (K 0).ord S6 j1 j2 hvb hu p1 p2 Z6
              have S := S.trans (S6.mono (by omega) hvb)
              refine ok_go 2 ?_
              refine sy_call 0 (by kernel_rfl) e6 ?_
              refine ok_go 0 ?_
              exact sy_next 0 _ g6 (by kernel_rfl) (by kernel_rfl) (ih (u, j, z, decide (IntKind.wrap .i64 (Int.ofNat (u + n) - Int.ofNat j) ≥ IntKind.wrap .i64 ((IntKind.wrap .i64 (Int.ofNat (u + n) - Int.ofNat u)).tdiv 8)), r, f6) _ g6 ⟨by dsimp only; omega, by dsimp only; omega, by dsimp only; omega, W, S, E⟩ (by dsimp only; omega) ⟨by kernel_rfl, by kernel_rfl, by kernel_rfl, by kernel_rfl, by kernel_rfl, by kernel_rfl, by kernel_rfl, trivial⟩)
        | false =>
          refine ok_go 11 ?_
          refine sy_test 0 (decide (Int.ofNat u > 0)) (by kernel_rfl) ?_ ?_
          · intro h0
            have h0 : 0 < u := ok_nat (a := 0) h0
            have hwu : IntKind.wrap .i64 (Int.ofNat u - 1) = Int.ofNat (u - 1) := wrap_sub (b := 1) (by omega) (by omega)
            obtain ⟨z4, ec4, hz4⟩ := (K (k + 6)).cmp f1 g3 _ _ W (hVC (u - 1) (by omega)) (hVC (x) (by omega))
            refine ok_go 5 ?_
            refine sy_load 0 (r := indexAddrOp Tryz.prog 22 SL (I (IntKind.wrap .i64 (Int.ofNat u - 1)))) (h' := g3) (v := ptr q (u - 1)) (by kernel_rfl) (by rw [hwu]; exact idxS0 (e := 28) (by kernel_rfl) (by kernel_rfl) (by omega)) ?_
            refine ok_go 1 ?_
            refine ow_loadF (P := Tryz.prog) (T := 28) (off := u - 1) 0 0 W rfl (by omega) (by kernel_rfl) (by kernel_rfl) ?_
            refine ok_go 3 ?_
            refine sy_load 0 (r := indexAddrOp Tryz.prog 22 SL (I (Int.ofNat x))) (h' := g3) (v := ptr q (x)) (by kernel_rfl) (by rw [hX1]; exact idxS0 (e := 28) (by kernel_rfl) (by kernel_rfl) (by omega)) ?_
            refine ok_go 1 ?_
            refine ow_loadF (P := Tryz.prog) (T := 28) (off := x) 0 0 W rfl (by omega) (by kernel_rfl) (by kernel_rfl) ?_
            refine ok_go 1 ?_
            refine sy_call 0 (by kernel_rfl) ec4 ?_
            refine ok_go 5 ?_
            refine sy_test 0 (!decide (z4 < 0)) (by kernel_rfl) ?_ ?_
            · intro ht
              have hnl : ¬ lt (f1 (u - 1)) (f1 (x)) := fun h => by rw [decide_eq_true (hz4.2 h)] at ht; cases ht
              obtain ⟨_, g5, e5, f5, i, rfl, W, S5, i1, i2, _, p1, p2⟩ := peq_of hlf (K (k + 5)) hN c f1 hVC u (u + n) (x) (by omega) (by omega) (by omega) (by omega) g3 W
              have e5 : Ev lf (m + k + 6) 123 [SL, J u, J (u + n), I (Int.ofNat x), .func (.func C) #[] #[]] g3 = some (J i, g5) := by rw [hX1]; exact e5
              have S := S.trans (S5.mono hu hvb)
              have E := E.sw S5 hu hvb
              have hlo := (E.low (S.low hlow) hu hvb).resolve_left (by omega)
              have E := E.equal (K 0).ord hvb hu hlo (by rw [S5.out (x := u - 1) (.inl (by omega))]; exact hnl) p1 p2
              refine ok_go 0 ?_
              refine sy_call 0 (by kernel_rfl) e5 ?_
              refine ok_go 0 ?_
              exact sy_next 0 _ g5 (by kernel_rfl) (by kernel_rfl) (ih (i, u + n, z, true, false, f5) _ g5 ⟨by dsimp only; omega, by dsimp only; omega, by dsimp only; omega, W, S, E⟩ (by dsimp only; omega) ⟨by kernel_rfl, by kernel_rfl, by kernel_rfl, by kernel_rfl, by kernel_rfl, by kernel_rfl, by kernel_rfl, trivial⟩)
            · intro ht
              clear ec4 hz4 ht
              obtain ⟨_, g5, e5, f5, j, r, rfl, W, S5, j1, j2, hjP, p1, p2⟩ := part_of hlf (K (k + 5)) hN c f1 hVC u (u + n) (x) (by omega) (by omega) (by omega) (by omega) g3 W
              rw [← hjP] at p1 p2
              have e5 : Ev lf (m + k + 6) 124 [SL, J u, J (u + n), I (Int.ofNat x), .func (.func C) #[] #[]] g3 = some (.tuple #[J j, .bool r], g5) := by rw [hX1]; exact e5
              have S := S.trans (S5.mono hu hvb)
              have E := E.sw S5 hu hvb
              have hV5 := S.every hb hV
              have t18 : IntKind.wrap .i64 (Int.ofNat j - Int.ofNat u) = Int.ofNat (j - u) := wrap_sub (by omega) (by omega)
              have t19 : IntKind.wrap .i64 (Int.ofNat (u + n) - Int.ofNat j) = Int.ofNat (u + n - j) := wrap_sub (by omega) (by omega)
              refine ok_go 0 ?_
              refine sy_call 0 (by kernel_rfl) e5 ?_
              refine ok_go 6 ?_
              refine sy_test 0 (decide (IntKind.wrap .i64 (Int.ofNat j - Int.ofNat u) < IntKind.wrap .i64 (Int.ofNat (u + n) - Int.ofNat j))) (by kernel_rfl) ?_ ?_
              · intro hl
                have hl : j - u < u + n - j := by rw [t18, t19] at hl; exact ok_nat hl
                have hlo : u = 0 ∨ ∀ k, u ≤ k → k < j → ¬ lt (f5 k) (f5 (u - 1)) := (E.low (S.low hlow) hu hvb).imp id fun h k k1 k2 => h k k1 (by omega)
                obtain ⟨_, g6, e6, f6, W, S6, Z6⟩ := ihk u j (z) f5 hV5 (by omega) (by omega) (by omega) hlo g5 W
                have E := E.left (K 0).ord S6 j1 j2 hvb hu p1 p2 Z6
                have S := S.trans (S6.mono hu (by omega))
                have hwj : IntKind.wrap .i64 (Int.ofNat (j + 1)) = Int.ofNat (j + 1) := wrap_nat (by omega)
                refine ok_go 1 ?_
                refine sy_call 0 (by kernel_rfl) e6 ?_
                refine ok_go 1 ?_
                exact sy_next 0 _ g6 (by kernel_rfl) (by kernel_rfl) (ih (j + 1, u + n, z, decide (IntKind.wrap .i64 (Int.ofNat j - Int.ofNat u) ≥ IntKind.wrap .i64 ((IntKind.wrap .i64 (Int.ofNat (u + n) - Int.ofNat u)).tdiv 8)), r, f6) _ g6 ⟨by dsimp only; omega, by dsimp only; omega, by dsimp only; omega, W, S, E⟩ (by dsimp only; omega) ⟨by kernel_rfl, (by kernel_rfl : _ = Value.int .i64 (IntKind.wrap .i64 (Int.ofNat (j + 1)))).trans (by rw [hwj]), by kernel_rfl, by kernel_rfl, by kernel_rfl, by kernel_rfl, by kernel_rfl, trivial⟩)
              · intro hl
                have hl : u + n - j ≤ j - u := by rw [t18, t19] at hl; exact no_nat hl
                have hwj : IntKind.wrap .i64 (Int.ofNat (j + 1)) = Int.ofNat (j + 1) := wrap_nat (by omega)
                have hlo : j + 1 = 0 ∨ ∀ k, j + 1 ≤ k → k < u + n → ¬ lt (f5 k) (f5 (j + 1 - 1)) := .inr fun k k1 k2 => p2 k (by omega) k2
                obtain ⟨v6, g6, e6, f6, W, S6, Z6⟩ := ihk (j + 1) (u + n) (z) f5 hV5 (by omega) (by omega) (by omega) hlo g5 W
                have e6 : Ev lf (m + k + 6) 90 [SL, I (IntKind.wrap .i64 (Int.ofNat (j + 1))), J (u + n), I (z), .func (.func C) #[] #[]] g5 = some (v6, g6) := by rw [hwj]; exact e6
                have E := E.right (K 0).ord S6 j1 j2 hvb hu p1 p2 Z6
                have S := S.trans (S6.mono (by omega) hvb)
                refine ok_go 2 ?_
                refine sy_call 0 (by kernel_rfl) e6 ?_
                refine ok_go 0 ?_
                exact sy_next 0 _ g6 (by kernel_rfl) (by kernel_rfl) (ih (u, j, z, decide (IntKind.wrap .i64 (Int.ofNat (u + n) - Int.ofNat j) ≥ IntKind.wrap .i64 ((IntKind.wrap .i64 (Int.ofNat (u + n) - Int.ofNat u)).tdiv 8)), r, f6) _ g6 ⟨by dsimp only; omega, by dsimp only; omega, by dsimp only; omega, W, S, E⟩ (by dsimp only; omega) ⟨by kernel_rfl, by kernel_rfl, by kernel_rfl, by kernel_rfl, by kernel_rfl, by kernel_rfl, by kernel_rfl, trivial⟩)
          · intro h0
            obtain ⟨_, g5, e5, f5, j, r, rfl, W, S5, j1, j2, hjP, p1, p2⟩ := part_of hlf (K (k + 5)) hN c f1 hVC u (u + n) (x) (by omega) (by omega) (by omega) (by omega) g3 W
            rw [← hjP] at p1 p2
            have e5 : Ev lf (m + k + 6) 124 [SL, J u, J (u + n), I (Int.ofNat x), .func (.func C) #[] #[]] g3 = some (.tuple #[J j, .bool r], g5) := by rw [hX1]; exact e5
            have S := S.trans (S5.mono hu hvb)
            have E := E.sw S5 hu hvb
            have hV5 := S.every hb hV
            have t18 : IntKind.wrap .i64 (Int.ofNat j - Int.ofNat u) = Int.ofNat (j - u) := wrap_sub (by omega) (by omega)
            have t19 : IntKind.wrap .i64 (Int.ofNat (u + n) - Int.ofNat j) = Int.ofNat (u + n - j) := wrap_sub (by omega) (by omega)
            refine ok_go 14 ?_
            refine sy_call 0 (by kernel_rfl) e5 ?_
            refine ok_go 6 ?_
            refine sy_test 0 (decide (IntKind.wrap .i64 (Int.ofNat j - Int.ofNat u) < IntKind.wrap .i64 (Int.ofNat (u + n) - Int.ofNat j))) (by kernel_rfl) ?_ ?_
            · intro hl
              have hl : j - u < u + n - j := by rw [t18, t19] at hl; exact ok_nat hl
              have hlo : u = 0 ∨ ∀ k, u ≤ k → k < j → ¬ lt (f5 k) (f5 (u - 1)) := (E.low (S.low hlow) hu hvb).imp id fun h k k1 k2 => h k k1 (by omega)
              obtain ⟨_, g6, e6, f6, W, S6, Z6⟩ := ihk u j (z) f5 hV5 (by omega) (by omega) (by omega) hlo g5 W
              have E := E.left (K 0).ord S6 j1 j2 hvb hu p1 p2 Z6
              have S := S.trans (S6.mono hu (by omega))
              have hwj : IntKind.wrap .i64 (Int.ofNat (j + 1)) = Int.ofNat (j + 1) := wrap_nat (by omega)
              refine ok_go 1 ?_
              refine sy_call 0 (by kernel_rfl) e6 ?_
              refine ok_go 1 ?_
              exact sy_next 0 _ g6 (by kernel_rfl) (by kernel_rfl) (ih (j + 1, u + n, z, decide (IntKind.wrap .i64 (Int.ofNat j - Int.ofNat u) ≥ IntKind.wrap .i64 ((IntKind.wrap .i64 (Int.ofNat (u + n) - Int.ofNat u)).tdiv 8)), r, f6) _ g6 ⟨by dsimp only; omega, by dsimp only; omega, by dsimp only; omega, W, S, E⟩ (by dsimp only; omega) ⟨by kernel_rfl, (by kernel_rfl : _ = Value.int .i64 (IntKind.wrap .i64 (Int.ofNat (j + 1)))).trans (by rw [hwj]), by kernel_rfl, by kernel_rfl, by kernel_rfl, by kernel_rfl, by kernel_rfl, trivial⟩)
            · intro hl
              have hl : u + n - j ≤ j - u := by rw [t18, t19] at hl; exact no_nat hl
              have hwj : IntKind.wrap .i64 (Int.ofNat (j + 1)) = Int.ofNat (j + 1) := wrap_nat (by omega)
              have hlo : j + 1 = 0 ∨ ∀ k, j + 1 ≤ k → k < u + n → ¬ lt (f5 k) (f5 (j + 1 - 1)) := .inr fun k k1 k2 => p2 k (by omega) k2
              obtain ⟨v6, g6, e6, f6, W, S6, Z6⟩ := ihk (j + 1) (u + n) (z) f5 hV5 (by omega) (by omega) (by omega) hlo g5 W
              have e6 : Ev lf (m + k + 6) 90 [SL, I (IntKind.wrap .i64 (Int.ofNat (j + 1))), J (u + n), I (z), .func (.func C) #[] #[]] g5 = some (v6, g6) := by rw [hwj]; exact e6
              have E := E.right (K 0).ord S6 j1 j2 hvb hu p1 p2 Z6
              have S := S.trans (S6.mono (by omega) hvb)
              refine ok_go 2 ?_
              refine sy_call 0 (by kernel_rfl) e6 ?_
              refine ok_go 0 ?_
              exact sy_next 0 _ g6 (by kernel_rfl) (by kernel_rfl) (ih (u, j, z, decide (IntKind.wrap .i64 (Int.ofNat (u + n) - Int.ofNat j) ≥ IntKind.wrap .i64 ((IntKind.wrap .i64 (Int.ofNat (u + n) - Int.ofNat u)).tdiv 8)), r, f6) _ g6 ⟨by dsimp only; omega, by dsimp only; omega, by dsimp only; omega, W, S, E⟩ (by dsimp only; omega) ⟨by kernel_rfl, by kernel_rfl, by kernel_rfl, by kernel_rfl, by kernel_rfl, by kernel_rfl, by kernel_rfl, trivial⟩)
      · clear e3
        cases wp with
        | true =>
          obtain ⟨_, g4, e4, f4, r, rfl, W, S4, Z4⟩ := pins_of hlf (K (k + 5)) hN c f1 hVC u (u + n) (by omega) (by omega) (E.low (S.low hlow) hu hvb) g3 W
          have S := S.trans (S4.mono hu hvb)
          have E := E.sw S4 hu hvb
          refine ok_go 11 ?_
          refine sy_call 0 (by kernel_rfl) e4 ?_
          cases r with
          | true =>
            refine sy_done 1 (v := Value.tuple { toList := [] }) (h := g4) (by kernel_rfl) ?_
            exact ⟨f4, W, S, E.fin (Z4 rfl)⟩
          | false =>
            have hVC := S.every hb hV
            clear Z4 e4
            refine ok_go 2 ?_
            refine sy_test 0 (decide (Int.ofNat u > 0)) (by kernel_rfl) ?_ ?_
            · intro h0
              have h0 : 0 < u := ok_nat (a := 0) h0
              have hwu : IntKind.wrap .i64 (Int.ofNat u - 1) = Int.ofNat (u - 1) := wrap_sub (b := 1) (by omega) (by omega)
              obtain ⟨z4, ec4, hz4⟩ := (K (k + 6)).cmp f4 g4 _ _ W (hVC (u - 1) (by omega)) (hVC (x) (by omega))
              refine ok_go 5 ?_
              refine sy_load 0 (r := indexAddrOp Tryz.prog 22 SL (I (IntKind.wrap .i64 (Int.ofNat u - 1)))) (h' := g4) (v := ptr q (u - 1)) (by kernel_rfl) (by rw [hwu]; exact idxS0 (e := 28) (by kernel_rfl) (by kernel_rfl) (by omega)) ?_
              refine ok_go 1 ?_
              refine ow_loadF (P := Tryz.prog) (T := 28) (off := u - 1) 0 0 W rfl (by omega) (by kernel_rfl) (by kernel_rfl) ?_
              refine ok_go 3 ?_
              refine sy_load 0 (r := indexAddrOp Tryz.prog 22 SL (I (Int.ofNat x))) (h' := g4) (v := ptr q (x)) (by kernel_rfl) (by rw [hX1]; exact idxS0 (e := 28) (by kernel_rfl) (by kernel_rfl) (by omega)) ?_
              refine ok_go 1 ?_
              refine ow_loadF (P := Tryz.prog) (T := 28) (off := x) 0 0 W rfl (by omega) (by kernel_rfl) (by kernel_rfl) ?_
              refine ok_go 1 ?_
              refine sy_call 0 (by kernel_rfl) ec4 ?_
              refine ok_go 5 ?_
              refine sy_test 0 (!decide (z4 < 0)) (by kernel_rfl) ?_ ?_
              · intro ht
                have hnl : ¬ lt (f4 (u - 1)) (f4 (x)) := fun h => by rw [decide_eq_true (hz4.2 h)] at ht; cases ht
                obtain ⟨_, g5, e5, f5, i, rfl, W, S5, i1, i2, _, p1, p2⟩ := peq_of hlf (K (k + 5)) hN c f4 hVC u (u + n) (x) (by omega) (by omega) (by omega) (by omega) g4 W
                have e5 : Ev lf (m + k + 6) 123 [SL, J u, J (u + n), I (Int.ofNat x), .func (.func C) #[] #[]] g4 = some (J i, g5) := by rw [hX1]; exact e5
                have S := S.trans (S5.mono hu hvb)
                have E := E.sw S5 hu hvb
                have hlo := (E.low (S.low hlow) hu hvb).resolve_left (by omega)
                have E := E.equal (K 0).ord hvb hu hlo (by rw [S5.out (x := u - 1) (.inl (by omega))]; exact hnl) p1 p2
                refine ok_go 0 ?_
                refine sy_call 0 (by kernel_rfl) e5 ?_
                refine ok_go 0 ?_
                exact sy_next 0 _ g5 (by kernel_rfl) (by kernel_rfl) (ih (i, u + n, z, true, true, f5) _ g5 ⟨by dsimp only; omega, by dsimp only; omega, by dsimp only; omega, W, S, E⟩ (by dsimp only; omega) ⟨by kernel_rfl, by kernel_rfl, by kernel_rfl, by kernel_rfl, by kernel_rfl, by kernel_rfl, by kernel_rfl, trivial⟩)
              · intro ht
                clear ec4 hz4 ht
                obtain ⟨_, g5, e5, f5, j, r, rfl, W, S5, j1, j2, hjP, p1, p2⟩ := part_of hlf (K (k + 5)) hN c f4 hVC u (u + n) (x) (by omega) (by omega) (by omega) (by omega) g4 W
                rw [← hjP] at p1 p2
                have e5 : Ev lf (m + k + 6) 124 [SL, J u, J (u + n), I (Int.ofNat x), .func (.func C) #[] #[]] g4 = some (.tuple #[J j, .bool r], g5) := by rw [hX1]; exact e5
                have S := S.trans (S5.mono hu hvb)
                have E := E.sw S5 hu hvb
                have hV5 := S.every hb hV
                have t18 : IntKind.wrap .i64 (Int.ofNat j - Int.ofNat u) = Int.ofNat (j - u) := wrap_sub (by omega) (by omega)
                have t19 : IntKind.wrap .i64 (Int.ofNat (u + n) - Int.ofNat j) = Int.ofNat (u + n - j) := wrap_sub (by omega) (by omega)
                refine ok_go 0 ?_
                refine sy_call 0 (by kernel_rfl) e5 ?_
                refine ok_go 6 ?_
                refine sy_test 0 (decide (IntKind.wrap .i64 (Int.ofNat j - Int.ofNat u) < IntKind.wrap .i64 (Int.ofNat (u + n) - Int.ofNat j))) (by kernel_rfl) ?_ ?_
                · intro hl
                  have hl : j - u < u + n - j := by rw [t18, t19] at hl; exact ok_nat hl
                  have hlo : u = 0 ∨ ∀ k, u ≤ k → k < j → ¬ lt (f5 k) (f5 (u - 1)) := (E.low (S.low hlow) hu hvb).imp id fun h k k1 k2 => h k k1 (by omega)
                  obtain ⟨_, g6, e6, f6, W, S6, Z6⟩ := ihk u j (z) f5 hV5 (by omega) (by omega) (by omega) hlo g5 W
                  have E := E.left (K 0).ord S6 j1 j2 hvb hu p1 p2 Z6
                  have S := S.trans (S6.mono hu (by omega))
                  have hwj : IntKind.wrap .i64 (Int.ofNat (j + 1)) = Int.ofNat (j + 1) := wrap_nat (by omega)
                  refine ok_go 1 ?_
                  refine sy_call 0 (by kernel_rfl) e6 ?_
                  refine ok_go 1 ?_
                  exact sy_next 0 _ g6 (by kernel_rfl) (by kernel_rfl) (ih (j + 1, u + n, z, decide (IntKind.wrap .i64 (Int.ofNat j - Int.ofNat u) ≥ IntKind.wrap .i64 ((IntKind.wrap .i64 (Int.ofNat (u + n) - Int.ofNat u)).tdiv 8)), r, f6) _ g6 ⟨by dsimp only; omega, by dsimp only; omega, by dsimp only; omega, W, S, E⟩ (by dsimp only; omega) ⟨by kernel_rfl, (by kernel_rfl : _ = Value.int .i64 (IntKind.wrap .i64 (Int.ofNat (j + 1)))).trans (by rw [hwj]), by kernel_rfl, by kernel_rfl, by kernel_rfl, by kernel_rfl, by kernel_rfl, trivial⟩)
                · intro hl
                  have hl : u + n - j ≤ j - u := by rw [t18, t19] at hl; exact no_nat hl
                  have hwj : IntKind.wrap .i64 (Int.ofNat (j + 1)) = Int.ofNat (j + 1) := wrap_nat (by omega)
                  have hlo : j + 1 = 0 ∨ ∀ k, j + 1 ≤ k → k < u + n → ¬ lt (f5 k) (f5 (j + 1 - 1)) := .inr fun k k1 k2 => p2 k (by omega) k2
                  obtain ⟨v6, g6, e6, f6, W, S6, Z6⟩ := ihk (j + 1) (u + n) (z) f5 hV5 (by omega) (by omega) (by omega) hlo g5 W
                  have e6 : Ev lf (m + k + 6) 90 [SL, I (IntKind.wrap .i64 (Int.ofNat (j + 1))), J (u + n), I (z), .func (.func C) #[] #[]] g5 = some (v6, g6) := by rw [hwj]; exact e6
                  have E := E.right (K 0).ord S6 j1 j2 hvb hu p1 p2 Z6
                  have S := S.trans (S6.mono (by omega) hvb)
                  refine ok_go 2 ?_
                  refine sy_call 0 (by kernel_rfl) e6 ?_
                  refine ok_go 0 ?_
                  exact sy_next 0 _ g6 (by kernel_rfl) (by kernel_rfl) (ih (u, j, z, decide (IntKind.wrap .i64 (Int.ofNat (u + n) - Int.ofNat j) ≥ IntKind.wrap .i64 ((IntKind.wrap .i64 (Int.ofNat (u + n) - Int.ofNat u)).tdiv 8)), r, f6) _ g6 ⟨by dsimp only; omega, by dsimp only; omega, by dsimp only; omega, W, S, E⟩ (by dsimp only; omega) ⟨by kernel_rfl, by kernel_rfl, by kernel_rfl, by kernel_rfl, by kernel_rfl, by kernel_rfl, by kernel_rfl, trivial⟩)
            · intro h0
              obtain ⟨_, g5, e5, f5, j, r, rfl, W, S5, j1, j2, hjP, p1, p2⟩ := part_of hlf (K (k + 5)) hN c f4 hVC u (u + n) (x) (by omega) (by omega) (by omega) (by omega) g4 W
              rw [← hjP] at p1 p2
              have e5 : Ev lf (m + k + 6) 124 [SL, J u, J (u + n), I (Int.ofNat x), .func (.func C) #[] #[]] g4 = some (.tuple #[J j, .bool r], g5) := by rw [hX1]; exact e5
              have S := S.trans (S5.mono hu hvb)
              have E := E.sw S5 hu hvb
              have hV5 := S.every hb hV
              have t18 : IntKind.wrap .i64 (Int.ofNat j - Int.ofNat u) = Int.ofNat (j - u) := wrap_sub (by omega) (by omega)
              have t19 : IntKind.wrap .i64 (Int.ofNat (u + n) - Int.ofNat j) = Int.ofNat (u + n - j) := wrap_sub (by omega) (by omega)
              refine ok_go 14 ?_
              refine sy_call 0 (by kernel_rfl) e5 ?_
              refine ok_go 6 ?_
              refine sy_test 0 (decide (IntKind.wrap .i64 (Int.ofNat j - Int.ofNat u) < IntKind.wrap .i64 (Int.ofNat (u + n) - Int.ofNat j))) (by kernel_rfl) ?_ ?_
              · intro hl
                have hl : j - u < u + n - j := by rw [t18, t19] at hl; exact ok_nat hl
                have hlo : u = 0 ∨ ∀ k, u ≤ k → k < j → ¬ lt (f5 k) (f5 (u - 1)) := (E.low (S.low hlow) hu hvb).imp id fun h k k1 k2 => h k k1 (by omega)
                obtain ⟨_, g6, e6, f6, W, S6, Z6⟩ := ihk u j (z) f5 hV5 (by omega) (by omega) (by omega) hlo g5 W
                have E := E.left (K 0).ord S6 j1 j2 hvb hu p1 p2 Z6
                have S := S.trans (S6.mono hu (by omega))
                have hwj : IntKind.wrap .i64 (Int.ofNat (j + 1)) = Int.ofNat (j + 1) := wrap_nat (by omega)
                refine ok_go 1 ?_
                refine sy_call 0 (by kernel_rfl) e6 ?_
                refine ok_go 1 ?_
                exact sy_next 0 _ g6 (by kernel_rfl) (by kernel_rfl) (ih (j + 1, u + n, z, decide (IntKind.wrap .i64 (Int.ofNat j - Int.ofNat u) ≥ IntKind.wrap .i64 ((IntKind.wrap .i64 (Int.ofNat (u + n) - Int.ofNat u)).tdiv 8)), r, f6) _ g6 ⟨by dsimp only; omega, by dsimp only; omega, by dsimp only; omega, W, S, E⟩ (by dsimp only; omega) ⟨by kernel_rfl, (by kernel_rfl : _ = Value.int .i64 (IntKind.wrap .i64 (Int.ofNat (j + 1)))).trans (by rw [hwj]), by kernel_rfl, by kernel_rfl, by kernel_rfl, by kernel_rfl, by kernel_rfl, trivial⟩)
              · intro hl
                have hl : u + n - j ≤ j - u := by rw [t18, t19] at hl; exact no_nat hl
                have hwj : IntKind.wrap .i64 (Int.ofNat (j + 1)) = Int.ofNat (j + 1) := wrap_nat (by omega)
                have hlo : j + 1 = 0 ∨ ∀ k, j + 1 ≤ k → k < u + n → ¬ lt (f5 k) (f5 (j + 1 - 1)) := .inr fun k k1 k2 => p2 k (by omega) k2
                obtain ⟨v6, g6, e6, f6, W, S6, Z6⟩ := ihk (j + 1) (u + n) (z) f5 hV5 (by omega) (by omega) (by omega) hlo g5 W
                have e6 : Ev lf (m + k + 6) 90 [SL, I (IntKind.wrap .i64 (Int.ofNat (j + 1))), J (u + n), I (z), .func (.func C) #[] #[]] g5 = some (v6, g6) := by rw [hwj]; exact e6
                have E := E.right (K 0).ord S6 j1 j2 hvb hu p1 p2 Z6
                have S := S.trans (S6.mono (by omega) hvb)
                refine ok_go 2 ?_
                refine sy_call 0 (by kernel_rfl) e6 ?_
                refine ok_go 0 ?_
                exact sy_next 0 _ g6 (by kernel_rfl) (by kernel_rfl) (ih (u, j, z, decide (IntKind.wrap .i64 (Int.ofNat (u + n) - Int.ofNat j) ≥ IntKind.wrap .i64 ((IntKind.wrap .i64 (Int.ofNat (u + n) - Int.ofNat u)).tdiv 8)), r, f6) _ g6 ⟨by dsimp only; omega, by dsimp only; omega, by dsimp only; omega, W, S, E⟩ (by dsimp only; omega) ⟨by kernel_rfl, by kernel_rfl, by kernel_rfl, by kernel_rfl, by kernel_rfl, by kernel_rfl, by kernel_rfl, trivial⟩)
        | false =>
          refine ok_go 11 ?_
          refine sy_test 0 (decide (Int.ofNat u > 0)) (by kernel_rfl) ?_ ?_
          · intro h0
            have h0 : 0 < u := ok_nat (a := 0) h0
            have hwu : IntKind.wrap .i64 (Int.ofNat u - 1) = Int.ofNat (u - 1) := wrap_sub (b := 1) (by omega) (by omega)
            obtain ⟨z4, ec4, hz4⟩ := (K (k + 6)).cmp f1 g3 _ _ W (hVC (u - 1) (by omega)) (hVC (x) (by omega))
            refine ok_go 5 ?_
            refine sy_load 0 (r := indexAddrOp Tryz.prog 22 SL (I (IntKind.wrap .i64 (Int.ofNat u - 1)))) (h' := g3) (v := ptr q (u - 1)) (by kernel_rfl) (by rw [hwu]; exact idxS0 (e := 28) (by kernel_rfl) (by kernel_rfl) (by omega)) ?_
            refine ok_go 1 ?_
            refine ow_loadF (P := Tryz.prog) (T := 28) (off := u - 1) 0 0 W rfl (by omega) (by kernel_rfl) (by kernel_rfl) ?_
            refine ok_go 3 ?_
            refine sy_load 0 (r := indexAddrOp Tryz.prog 22 SL (I (Int.ofNat x))) (h' := g3) (v := ptr q (x)) (by kernel_rfl) (by rw [hX1]; exact idxS0 (e := 28) (by kernel_rfl) (by kernel_rfl) (by omega)) ?_
            refine ok_go 1 ?_
            refine ow_loadF (P := Tryz.prog) (T := 28) (off := x) 0 0 W rfl (by omega) (by kernel_rfl) (by kernel_rfl) ?_
            refine ok_go 1 ?_
            refine sy_call 0 (by kernel_rfl) ec4 ?_
            refine ok_go 5 ?_
            refine sy_test 0 (!decide (z4 < 0)) (by kernel_rfl) ?_ ?_
            · intro ht
              have hnl : ¬ lt (f1 (u - 1)) (f1 (x)) := fun h => by rw [decide_eq_true (hz4.2 h)] at ht; cases ht
              obtain ⟨_, g5, e5, f5, i, rfl, W, S5, i1, i2, _, p1, p2⟩ := peq_of hlf (K (k + 5)) hN c f1 hVC u (u + n) (x) (by omega) (by omega) (by omega) (by omega) g3 W
              have e5 : Ev lf (m + k + 6) 123 [SL, J u, J (u + n), I (Int.ofNat x), .func (.func C) #[] #[]] g3 = some (J i, g5) := by rw [hX1]; exact e5
              have S := S.trans (S5.mono hu hvb)
              have E := E.sw S5 hu hvb
              have hlo := (E.low (S.low hlow) hu hvb).resolve_left (by omega)
              have E := E.equal (K 0).ord hvb hu hlo (by rw [S5.out (x := u - 1) (.inl (by omega))]; exact hnl) p1 p2
              refine ok_go 0 ?_
              refine sy_call 0 (by kernel_rfl) e5 ?_
              refine ok_go 0 ?_
              exact sy_next 0 _ g5 (by kernel_rfl) (by kernel_rfl) (ih (i, u + n, z, true, false, f5) _ g5 ⟨by dsimp only; omega, by dsimp only; omega, by dsimp only; omega, W, S, E⟩ (by dsimp only; omega) ⟨by kernel_rfl, by kernel_rfl, by kernel_rfl, by kernel_rfl, by kernel_rfl, by kernel_rfl, by kernel_rfl, trivial⟩)
            · intro ht
              clear ec4 hz4 ht
              obtain ⟨_, g5, e5, f5, j, r, rfl, W, S5, j1, j2, hjP, p1, p2⟩ := part_of hlf (K (k + 5)) hN c f1 hVC u (u + n) (x) (by omega) (by omega) (by omega) (by omega) g3 W
              rw [← hjP] at p1 p2
              have e5 : Ev lf (m + k + 6) 124 [SL, J u, J (u + n), I (Int.ofNat x), .func (.func C) #[] #[]] g3 = some (.tuple #[J j, .bool r], g5) := by rw [hX1]; exact e5
              have S := S.trans (S5.mono hu hvb)
              have E := E.sw S5 hu hvb
              have hV5 := S.every hb hV
              have t18 : IntKind.wrap .i64 (Int.ofNat j - Int.ofNat u) = Int.ofNat (j - u) := wrap_sub (by omega) (by omega)
              have t19 : IntKind.wrap .i64 (Int.ofNat (u + n) - Int.ofNat j) = Int.ofNat (u + n - j) := wrap_sub (by omega) (by omega)
              refine ok_go 0 ?_
              refine sy_call 0 (by kernel_rfl) e5 ?_
              refine ok_go 6 ?_
              refine sy_test 0 (decide (IntKind.wrap .i64 (Int.ofNat j - Int.ofNat u) < IntKind.wrap .i64 (Int.ofNat (u + n) - Int.ofNat j))) (by kernel_rfl) ?_ ?_
              · intro hl
                have hl : j - u < u + n - j := by rw [t18, t19] at hl; exact ok_nat hl
                have hlo : u = 0 ∨ ∀ k, u ≤ k → k < j → ¬ lt (f5 k) (f5 (u - 1)) := (E.low (S.low hlow) hu hvb).imp id fun h k k1 k2 => h k k1 (by omega)
                obtain ⟨_, g6, e6, f6, W, S6, Z6⟩ := ihk u j (z) f5 hV5 (by omega) (by omega) (by omega) hlo g5 W
                have E := E.left (K 0).ord S6 j1 j2 hvb hu p1 p2 Z6
                have S := S.trans (S6.mono hu (by omega))
                have hwj : IntKind.wrap .i64 (Int.ofNat (j + 1)) = Int.ofNat (j + 1) := wrap_nat (by omega)
                refine ok_go 1 ?_
                refine sy_call 0 (by kernel_rfl) e6 ?_
                refine ok_go 1 ?_
                exact sy_next 0 _ g6 (by kernel_rfl) (by kernel_rfl) (ih (j + 1, u + n, z, decide (IntKind.wrap .i64 (Int.ofNat j - Int.ofNat u) ≥ IntKind.wrap .i64 ((IntKind.wrap .i64 (Int.ofNat (u + n) - Int.ofNat u)).tdiv 8)), r, f6) _ g6 ⟨by dsimp only; omega, by dsimp only; omega, by dsimp only; omega, W, S, E⟩ (by dsimp only; omega) ⟨by kernel_rfl, (by kernel_rfl : _ = Value.int .i64 (IntKind.wrap .i64 (Int.ofNat (j + 1)))).trans (by rw [hwj]), by kernel_rfl, by kernel_rfl, by kernel_rfl, by kernel_rfl, by kernel_rfl, trivial⟩)
              · intro hl
                have hl : u + n - j ≤ j - u := by rw [t18, t19] at hl; exact no_nat hl
                have hwj : IntKind.wrap .i64 (Int.ofNat (j + 1)) = Int.ofNat (j + 1) := wrap_nat (by omega)
                have hlo : j + 1 = 0 ∨ ∀ k, j + 1 ≤ k → k < u + n → ¬ lt (f5 k) (f5 (j + 1 - 1)) := .inr fun k k1 k2 => p2 k (by omega) k2
                obtain ⟨v6, g6, e6, f6, W, S6, Z6⟩ := ihk (j + 1) (u + n) (z) f5 hV5 (by omega) (by omega) (by omega) hlo g5 W
                have e6 : Ev lf (m + k + 6) 90 [SL, I (IntKind.wrap .i64 (Int.ofNat (j + 1))), J (u + n), I (z), .func (.func C) #[] #[]] g5 = some (v6, g6) := by rw [hwj]; exact e6
                have E := E.right (K 0).ord S6 j1 j2 hvb hu p1 p2 Z6
                have S := S.trans (S6.mono (by omega) hvb)
                refine ok_go 2 ?_
                refine sy_call 0 (by kernel_rfl) e6 ?_
                refine ok_go 0 ?_
                exact sy_next 0 _ g6 (by kernel_rfl) (by kernel_rfl) (ih (u, j, z, decide (IntKind.wrap .i64 (Int.ofNat (u + n) - Int.ofNat j) ≥ IntKind.wrap .i64 ((IntKind.wrap .i64 (Int.ofNat (u + n) - Int.ofNat u)).tdiv 8)), r, f6) _ g6 ⟨by dsimp only; omega, by dsimp only; omega, by dsimp only; omega, W, S, E⟩ (by dsimp only; omega) ⟨by kernel_rfl, by kernel_rfl, by kernel_rfl, by kernel_rfl, by kernel_rfl, by kernel_rfl, by kernel_rfl, trivial⟩)
          · intro h0
            obtain ⟨_, g5, e5, f5, j, r, rfl, W, S5, j1, j2, hjP, p1, p2⟩ := part_of hlf (K (k + 5)) hN c f1 hVC u (u + n) (x) (by omega) (by omega) (by omega) (by omega) g3 W
            rw [← hjP] at p1 p2
            have e5 : Ev lf (m + k + 6) 124 [SL, J u, J (u + n), I (Int.ofNat x), .func (.func C) #[] #[]] g3 = some (.tuple #[J j, .bool r], g5) := by rw [hX1]; exact e5
            have S := S.trans (S5.mono hu hvb)
            have E := E.sw S5 hu hvb
            have hV5 := S.every hb hV
            have t18 : IntKind.wrap .i64 (Int.ofNat j - Int.ofNat u) = Int.ofNat (j - u) := wrap_sub (by omega) (by omega)
            have t19 : IntKind.wrap .i64 (Int.ofNat (u + n) - Int.ofNat j) = Int.ofNat (u + n - j) := wrap_sub (by omega) (by omega)
            refine ok_go 14 ?_
            refine sy_call 0 (by kernel_rfl) e5 ?_
            refine ok_go 6 ?_
            refine sy_test 0 (decide (IntKind.wrap .i64 (Int.ofNat j - Int.ofNat u) < IntKind.wrap .i64 (Int.ofNat (u + n) - Int.ofNat j))) (by kernel_rfl) ?_ ?_
            · intro hl
              have hl : j - u < u + n - j := by rw [t18, t19] at hl; exact ok_nat hl
              have hlo : u = 0 ∨ ∀ k, u ≤ k → k < j → ¬ lt (f5 k) (f5 (u - 1)) := (E.low (S.low hlow) hu hvb).imp id fun h k k1 k2 => h k k1 (by omega)
              obtain ⟨_, g6, e6, f6, W, S6, Z6⟩ := ihk u j (z) f5 hV5 (by omega) (by omega) (by omega) hlo g5 W
              have E := E.left (K 0).ord S6 j1 j2 hvb hu p1 p2 Z6
              have S := S.trans (S6.mono hu (by omega))
              have hwj : IntKind.wrap .i64 (Int.ofNat (j + 1)) = Int.ofNat (j + 1) := wrap_nat (by omega)
              refine ok_go 1 ?_
              refine sy_call 0 (by kernel_rfl) e6 ?_
              refine ok_go 1 ?_
              exact sy_next 0 _ g6 (by kernel_rfl) (by kernel_rfl) (ih (j + 1, u + n, z, decide (IntKind.wrap .i64 (Int.ofNat j - Int.ofNat u) ≥ IntKind.wrap .i64 ((IntKind.wrap .i64 (Int.ofNat (u + n) - Int.ofNat u)).tdiv 8)), r, f6) _ g6 ⟨by dsimp only; omega, by dsimp only; omega, by dsimp only; omega, W, S, E⟩ (by dsimp only; omega) ⟨by kernel_rfl, (by kernel_rfl : _ = Value.int .i64 (IntKind.wrap .i64 (Int.ofNat (j + 1)))).trans (by rw [hwj]), by kernel_rfl, by kernel_rfl, by kernel_rfl, by kernel_rfl, by kernel_rfl, trivial⟩)
            · intro hl
              have hl : u + n - j ≤ j - u := by rw [t18, t19] at hl; exact no_nat hl
              have hwj : IntKind.wrap .i64 (Int.ofNat (j + 1)) = Int.ofNat (j + 1) := wrap_nat (by omega)
              have hlo : j + 1 = 0 ∨ ∀ k, j + 1 ≤ k → k < u + n → ¬ lt (f5 k) (f5 (j + 1 - 1)) := .inr fun k k1 k2 => p2 k (by omega) k2
              obtain ⟨v6, g6, e6, f6, W, S6, Z6⟩ := ihk (j + 1) (u + n) (z) f5 hV5 (by omega) (by omega) (by omega) hlo g5 W
              have e6 : Ev lf (m + k + 6) 90 [SL, I (IntKind.wrap .i64 (Int.ofNat (j + 1))), J (u + n), I (z), .func (.func C) #[] #[]] g5 = some (v6, g6) := by rw [hwj]; exact e6
              have E := E.right (K 0).ord S6 j1 j2 hvb hu p1 p2 Z6
              have S := S.trans (S6.mono (by omega) hvb)
              refine ok_go 2 ?_
              refine sy_call 0 (by kernel_rfl) e6 ?_
              refine ok_go 0 ?_
              exact sy_next 0 _ g6 (by kernel_rfl) (by kernel_rfl) (ih (u, j, z, decide (IntKind.wrap .i64 (Int.ofNat (u + n) - Int.ofNat j) ≥ IntKind.wrap .i64 ((IntKind.wrap .i64 (Int.ofNat (u + n) - Int.ofNat u)).tdiv 8)), r, f6) _ g6 ⟨by dsimp only; omega, by dsimp only; omega, by dsimp only; omega, W, S, E⟩ (by dsimp only; omega) ⟨by kernel_rfl, by kernel_rfl, by kernel_rfl, by kernel_rfl, by kernel_rfl, by kernel_rfl, by kernel_rfl, trivial⟩)
      · have hX2 : IntKind.wrap .i64 (IntKind.wrap .i64 (Int.ofNat (u + n) - 1) - IntKind.wrap .i64 (Int.ofNat x - Int.ofNat u)) = Int.ofNat (u + n - 1 - (x - u)) := by
          rw [show IntKind.wrap .i64 (Int.ofNat (u + n) - 1) = Int.ofNat (u + n - 1) from wrap_sub (b := 1) (by omega) (by omega), show IntKind.wrap .i64 (Int.ofNat x - Int.ofNat u) = Int.ofNat (x - u) from wrap_sub (by omega) (by omega)]
          exact wrap_sub (by omega) (by omega)
        obtain ⟨_, g7, e7, f7, W, S7⟩ := rev_of hlf (K (k + 5)) hN c f1 hVC u n (by omega) (by omega) g3 W
        have S := S.trans (S7.mono hu hvb)
        have E := E.sw S7 hu hvb
        have hVC := S.every hb hV
        clear e3
        refine ok_go 4 ?_
        refine sy_call 0 (by kernel_rfl) e7 ?_
        clear e7 S7
        cases wp with
        | true =>
          obtain ⟨_, g4, e4, f4, r, rfl, W, S4, Z4⟩ := pins_of hlf (K (k + 5)) hN c f7 hVC u (u + n) (by omega) (by omega) (E.low (S.low hlow) hu hvb) g7 W
          have S := S.trans (S4.mono hu hvb)
          have E := E.sw S4 hu hvb
          refine ok_go 10 ?_
          refine sy_call 0 (by kernel_rfl) e4 ?_
          cases r with
          | true =>
            refine sy_done 1 (v := Value.tuple { toList := [] }) (h := g4) (by kernel_rfl) ?_
            exact ⟨f4, W, S, E.fin (Z4 rfl)⟩
          | false =>
            have hVC := S.every hb hV
            clear Z4 e4
            refine ok_go 2 ?_
            refine sy_test 0 (decide (Int.ofNat u > 0)) (by kernel_rfl) ?_ ?_
            · intro h0
              have h0 : 0 < u := ok_nat (a := 0) h0
              have hwu : IntKind.wrap .i64 (Int.ofNat u - 1) = Int.ofNat (u - 1) := wrap_sub (b := 1) (by omega) (by omega)
              obtain ⟨z4, ec4, hz4⟩ := (K (k + 6)).cmp f4 g4 _ _ W (hVC (u - 1) (by omega)) (hVC (u + n - 1 - (x - u)) (by omega))
              refine ok_go 5 ?_
              refine sy_load 0 (r := indexAddrOp Tryz.prog 22 SL (I (IntKind.wrap .i64 (Int.ofNat u - 1)))) (h' := g4) (v := ptr q (u - 1)) (by kernel_rfl) (by rw [hwu]; exact idxS0 (e := 28) (by kernel_rfl) (by kernel_rfl) (by omega)) ?_
              refine ok_go 1 ?_
              refine ow_loadF (P := Tryz.prog) (T := 28) (off := u - 1) 0 0 W rfl (by omega) (by kernel_rfl) (by kernel_rfl) ?_
              refine ok_go 3 ?_
              refine sy_load 0 (r := indexAddrOp Tryz.prog 22 SL (I (IntKind.wrap .i64 (IntKind.wrap .i64 (Int.ofNat (u + n) - 1) - IntKind.wrap .i64 (Int.ofNat x - Int.ofNat u))))) (h' := g4) (v := ptr q (u + n - 1 - (x - u))) (by kernel_rfl) (by rw [hX2]; exact idxS0 (e := 28) (by kernel_rfl) (by kernel_rfl) (by omega)) ?_
              refine ok_go 1 ?_
              refine ow_loadF (P := Tryz.prog) (T := 28) (off := u + n - 1 - (x - u)) 0 0 W rfl (by omega) (by kernel_rfl) (by kernel_rfl) ?_
              refine ok_go 1 ?_
              refine sy_call 0 (by kernel_rfl) ec4 ?_
              refine ok_go 5 ?_
              refine sy_test 0 (!decide (z4 < 0)) (by kernel_rfl) ?_ ?_
              · intro ht
                have hnl : ¬ lt (f4 (u - 1)) (f4 (u + n - 1 - (x - u))) := fun h => by rw [decide_eq_true (hz4.2 h)] at ht; cases ht
                obtain ⟨_, g5, e5, f5, i, rfl, W, S5, i1, i2, _, p1, p2⟩ := peq_of hlf (K (k + 5)) hN c f4 hVC u (u + n) (u + n - 1 - (x - u)) (by omega) (by omega) (by omega) (by omega) g4 W
                have e5 : Ev lf (m + k + 6) 123 [SL, J u, J (u + n), I (IntKind.wrap .i64 (IntKind.wrap .i64 (Int.ofNat (u + n) - 1) - IntKind.wrap .i64 (Int.ofNat x - Int.ofNat u))), .func (.func C) #[] #[]] g4 = some (J i, g5) := by rw [hX2]; exact e5
                have S := S.trans (S5.mono hu hvb)
                have E := E.sw S5 hu hvb
                have hlo := (E.low (S.low hlow) hu hvb).resolve_left (by omega)
                have E := E.equal (K 0).ord hvb hu hlo (by rw [S5.out (x := u - 1) (.inl (by omega))]; exact hnl) p1 p2
                refine ok_go 0 ?_
                refine sy_call 0 (by kernel_rfl) e5 ?_
                refine ok_go 0 ?_
                exact sy_next 0 _ g5 (by kernel_rfl) (by kernel_rfl) (ih (i, u + n, z, true, true, f5) _ g5 ⟨by dsimp only; omega, by dsimp only; omega, by dsimp only; omega, W, S, E⟩ (by dsimp only; omega) ⟨by kernel_rfl, by kernel_rfl, by kernel_rfl, by kernel_rfl, by kernel_rfl, by kernel_rfl, by kernel_rfl, trivial⟩)
              · intro ht
                clear ec4 hz4 ht
                obtain ⟨_, g5, e5, f5, j, r, rfl, W, S5, j1, j2, hjP, p1, p2⟩ := part_of hlf (K (k + 5)) hN c f4 hVC u (u + n) (u + n - 1 - (x - u)) (by omega) (by omega) (by omega) (by omega) g4 W
                rw [← hjP] at p1 p2
                have e5 : Ev lf (m + k + 6) 124 [SL, J u, J (u + n), I (IntKind.wrap .i64 (IntKind.wrap .i64 (Int.ofNat (u + n) - 1) - IntKind.wrap .i64 (Int.ofNat x - Int.ofNat u))), .func (.func C) #[] #[]] g4 = some (.tuple #[J j, .bool r], g5) := by rw [hX2]; exact e5
                have S := S.trans (S5.mono hu hvb)
                have E := E.sw S5 hu hvb
                have hV5 := S.every hb hV
                have t18 : IntKind.wrap .i64 (Int.ofNat j - Int.ofNat u) = Int.ofNat (j - u) := wrap_sub (by omega) (by omega)
                have t19 : IntKind.wrap .i64 (Int.ofNat (u + n) - Int.ofNat j) = Int.ofNat (u + n - j) := wrap_sub (by omega) (by omega)
                refine ok_go 0 ?_
                refine sy_call 0 (by kernel_rfl) e5 ?_
                refine ok_go 6 ?_
                refine sy_test 0 (decide (IntKind.wrap .i64 (Int.ofNat j - Int.ofNat u) < IntKind.wrap .i64 (Int.ofNat (u + n) - Int.ofNat j))) (by kernel_rfl) ?_ ?_
                · intro hl
                  have hl : j - u < u + n - j := by rw [t18, t19] at hl; exact ok_nat hl
                  have hlo : u = 0 ∨ ∀ k, u ≤ k → k < j → ¬ lt (f5 k) (f5 (u - 1)) := (E.low (S.low hlow) hu hvb).imp id fun h k k1 k2 => h k k1 (by omega)
                  obtain ⟨_, g6, e6, f6, W, S6, Z6⟩ := ihk u j (z) f5 hV5 (by omega) (by omega) (by omega) hlo g5 W
                  have E := E.left (K 0).ord S6 j1 j2 hvb hu p1 p2 Z6
                  have S := S.trans (S6.mono hu (by omega))
                  have hwj : IntKind.wrap .i64 (Int.ofNat (j + 1)) = Int.ofNat (j + 1) := wrap_nat (by omega)
                  refine ok_go 1 ?_
                  refine sy_call 0 (by kernel_rfl) e6 ?_
                  refine ok_go 1 ?_
                  exact sy_next 0 _ g6 (by kernel_rfl) (by kernel_rfl) (ih (j + 1, u + n, z, decide (IntKind.wrap .i64 (Int.ofNat j - Int.ofNat u) ≥ IntKind.wrap .i64 ((IntKind.wrap .i64 (Int.ofNat (u + n) - Int.ofNat u)).tdiv 8)), r, f6) _ g6 ⟨by dsimp only; omega, by dsimp only; omega, by dsimp only; omega, W, S, E⟩ (by dsimp only; omega) ⟨by kernel_rfl, (by kernel_rfl : _ = Value.int .i64 (IntKind.wrap .i64 (Int.ofNat (j + 1)))).trans (by rw [hwj]), by kernel_rfl, by kernel_rfl, by kernel_rfl, by kernel_rfl, by kernel_rfl, trivial⟩)
                · intro hl
                  have hl : u + n - j ≤ j - u := by rw [t18, t19] at hl; exact no_nat hl
                  have hwj : IntKind.wrap .i64 (Int.ofNat (j + 1)) = Int.ofNat (j + 1) := wrap_nat (by omega)
                  have hlo : j + 1 = 0 ∨ ∀ k, j + 1 ≤ k → k < u + n → ¬ lt (f5 k) (f5 (j + 1 - 1)) := .inr fun k k1 k2 => p2 k (by omega) k2
                  obtain ⟨v6, g6, e6, f6, W, S6, Z6⟩ := ihk (j + 1) (u + n) (z) f5 hV5 (by omega) (by omega) (by omega) hlo g5 W
                  have e6 : Ev lf (m + k + 6) 90 [SL, I (IntKind.wrap .i64 (Int.ofNat (j + 1))), J (u + n), I (z), .func (.func C) #[] #[]] g5 = some (v6, g6) := by rw [hwj]; exact e6
                  have E := E.right (K 0).ord S6 j1 j2 hvb hu p1 p2 Z6
                  have S := S.trans (S6.mono (by omega) hvb)
                  refine ok_go 2 ?_
                  refine sy_call 0 (by kernel_rfl) e6 ?_
                  refine ok_go 0 ?_
                  exact sy_next 0 _ g6 (by kernel_rfl) (by kernel_rfl) (ih (u, j, z, decide (IntKind.wrap .i64 (Int.ofNat (u + n) - Int.ofNat j) ≥ IntKind.wrap .i64 ((IntKind.wrap .i64 (Int.ofNat (u + n) - Int.ofNat u)).tdiv 8)), r, f6) _ g6 ⟨by dsimp only; omega, by dsimp only; omega, by dsimp only; omega, W, S, E⟩ (by dsimp only; omega) ⟨by kernel_rfl, by kernel_rfl, by kernel_rfl, by kernel_rfl, by kernel_rfl, by kernel_rfl, by kernel_rfl, trivial⟩)
            · intro h0
              obtain ⟨_, g5, e5, f5, j, r, rfl, W, S5, j1, j2, hjP, p1, p2⟩ := part_of hlf (K (k + 5)) hN c f4 hVC u (u + n) (u + n - 1 - (x - u)) (by omega) (by omega) (by omega) (by omega) g4 W
              rw [← hjP] at p1 p2
              have e5 : Ev lf (m + k + 6) 124 [SL, J u, J (u + n), I (IntKind.wrap .i64 (IntKind.wrap .i64 (Int.ofNat (u + n) - 1) - IntKind.wrap .i64 (Int.ofNat x - Int.ofNat u))), .func (.func C) #[] #[]] g4 = some (.tuple #[J j, .bool r], g5) := by rw [hX2]; exact e5
              have S := S.trans (S5.mono hu hvb)
              have E := E.sw S5 hu hvb
              have hV5 := S.every hb hV
              have t18 : IntKind.wrap .i64 (Int.ofNat j - Int.ofNat u) = Int.ofNat (j - u) := wrap_sub (by omega) (by omega)
              have t19 : IntKind.wrap .i64 (Int.ofNat (u + n) - Int.ofNat j) = Int.ofNat (u + n - j) := wrap_sub (by omega) (by omega)
              refine ok_go 14 ?_
              refine sy_call 0 (by kernel_rfl) e5 ?_
              refine ok_go 6 ?_
              refine sy_test 0 (decide (IntKind.wrap .i64 (Int.ofNat j - Int.ofNat u) < IntKind.wrap .i64 (Int.ofNat (u + n) - Int.ofNat j))) (by kernel_rfl) ?_ ?_
              · intro hl
                have hl : j - u < u + n - j := by rw [t18, t19] at hl; exact ok_nat hl
                have hlo : u = 0 ∨ ∀ k, u ≤ k → k < j → ¬ lt (f5 k) (f5 (u - 1)) := (E.low (S.low hlow) hu hvb).imp id fun h k k1 k2 => h k k1 (by omega)
                obtain ⟨_, g6, e6, f6, W, S6, Z6⟩ := ihk u j (z) f5 hV5 (by omega) (by omega) (by omega) hlo g5 W
                have E := E.left (K 0).ord S6 j1 j2 hvb hu p1 p2 Z6
                have S := S.trans (S6.mono hu (by omega))
                have hwj : IntKind.wrap .i64 (Int.ofNat (j + 1)) = Int.ofNat (j + 1) := wrap_nat (by omega)
                refine ok_go 1 ?_
                refine sy_call 0 (by kernel_rfl) e6 ?_
                refine ok_go 1 ?_
                exact sy_next 0 _ g6 (by kernel_rfl) (by kernel_rfl) (ih (j + 1, u + n, z, decide (IntKind.wrap .i64 (Int.ofNat j - Int.ofNat u) ≥ IntKind.wrap .i64 ((IntKind.wrap .i64 (Int.ofNat (u + n) - Int.ofNat u)).tdiv 8)), r, f6) _ g6 ⟨by dsimp only; omega, by dsimp only; omega, by dsimp only; omega, W, S, E⟩ (by dsimp only; omega) ⟨by kernel_rfl, (by kernel_rfl : _ = Value.int .i64 (IntKind.wrap .i64 (Int.ofNat (j + 1)))).trans (by rw [hwj]), by kernel_rfl, by kernel_rfl, by kernel_rfl, by kernel_rfl, by kernel_rfl, trivial⟩)
              · intro hl
                have hl : u + n - j ≤ j - u := by rw [t18, t19] at hl; exact no_nat hl
                have hwj : IntKind.wrap .i64 (Int.ofNat (j + 1)) = Int.ofNat (j + 1) := wrap_nat (by omega)
                have hlo : j + 1 = 0 ∨ ∀ k, j + 1 ≤ k → k < u + n → ¬ lt (f5 k) (f5 (j + 1 - 1)) := .inr fun k k1 k2 => p2 k (by omega) k2
                obtain ⟨v6, g6, e6, f6, W, S6, Z6⟩ := ihk (j + 1) (u + n) (z) f5 hV5 (by omega) (by omega) (by omega) hlo g5 W
                have e6 : Ev lf (m + k + 6) 90 [SL, I (IntKind.wrap .i64 (Int.ofNat (j + 1))), J (u + n), I (z), .func (.func C) #[] #[]] g5 = some (v6, g6) := by rw [hwj]; exact e6
                have E := E.right (K 0).ord S6 j1 j2 hvb hu p1 p2 Z6
                have S := S.trans (S6.mono (by omega) hvb)
                refine ok_go 2 ?_
                refine sy_call 0 (by kernel_rfl) e6 ?_
                refine ok_go 0 ?_
                exact sy_next 0 _ g6 (by kernel_rfl) (by kernel_rfl) (ih (u, j, z, decide (IntKind.wrap .i64 (Int.ofNat (u + n) - Int.ofNat j) ≥ IntKind.wrap .i64 ((IntKind.wrap .i64 (Int.ofNat (u + n) - Int.ofNat u)).tdiv 8)), r, f6) _ g6 ⟨by dsimp only; omega, by dsimp only; omega, by dsimp only; omega, W, S, E⟩ (by dsimp only; omega) ⟨by kernel_rfl, by kernel_rfl, by kernel_rfl, by kernel_rfl, by kernel_rfl, by kernel_rfl, by kernel_rfl, trivial⟩)
        | false =>
          refine ok_go 10 ?_
          refine sy_test 0 (decide (Int.ofNat u > 0)) (by kernel_rfl) ?_ ?_
          · intro h0
            have h0 : 0 < u := ok_nat (a := 0) h0
            have hwu : IntKind.wrap .i64 (Int.ofNat u - 1) = Int.ofNat (u - 1) := wrap_sub (b := 1) (by omega) (by omega)
            obtain ⟨z4, ec4, hz4⟩ := (K (k + 6)).cmp f7 g7 _ _ W (hVC (u - 1) (by omega)) (hVC (u + n - 1 - (x - u)) (by omega))
            refine ok_go 5 ?_
            refine sy_load 0 (r := indexAddrOp Tryz.prog 22 SL (I (IntKind.wrap .i64 (Int.ofNat u - 1)))) (h' := g7) (v := ptr q (u - 1)) (by kernel_rfl) (by rw [hwu]; exact idxS0 (e := 28) (by kernel_rfl) (by kernel_rfl) (by omega)) ?_
            refine ok_go 1 ?_
            refine ow_loadF (P := Tryz.prog) (T := 28) (off := u - 1) 0 0 W rfl (by omega) (by kernel_rfl) (by kernel_rfl) ?_
            refine ok_go 3 ?_
            refine sy_load 0 (r := indexAddrOp Tryz.prog 22 SL (I (IntKind.wrap .i64 (IntKind.wrap .i64 (Int.ofNat (u + n) - 1) - IntKind.wrap .i64 (Int.ofNat x - Int.ofNat u))))) (h' := g7) (v := ptr q (u + n - 1 - (x - u))) (by kernel_rfl) (by rw [hX2]; exact idxS0 (e := 28) (by kernel_rfl) (by kernel_rfl) (by omega)) ?_
            refine ok_go 1 ?_
            refine ow_loadF (P := Tryz.prog) (T := 28) (off := u + n - 1 - (x - u)) 0 0 W rfl (by omega) (by kernel_rfl) (by kernel_rfl) ?_
            refine ok_go 1 ?_
            refine sy_call 0 (by kernel_rfl) ec4 ?_
            refine ok_go 5 ?_
            refine sy_test 0 (!decide (z4 < 0)) (by kernel_rfl) ?_ ?_
            · intro ht
              have hnl : ¬ lt (f7 (u - 1)) (f7 (u + n - 1 - (x - u))) := fun h => by rw [decide_eq_true (hz4.2 h)] at ht; cases ht
              obtain ⟨_, g5, e5, f5, i, rfl, W, S5, i1, i2, _, p1, p2⟩ := peq_of hlf (K (k + 5)) hN c f7 hVC u (u + n) (u + n - 1 - (x - u)) (by omega) (by omega) (by omega) (by omega) g7 W
              have e5 : Ev lf (m + k + 6) 123 [SL, J u, J (u + n), I (IntKind.wrap .i64 (IntKind.wrap .i64 (Int.ofNat (u + n) - 1) - IntKind.wrap .i64 (Int.ofNat x - Int.ofNat u))), .func (.func C) #[] #[]] g7 = some (J i, g5) := by rw [hX2]; exact e5
              have S := S.trans (S5.mono hu hvb)
              have E := E.sw S5 hu hvb
              have hlo := (E.low (S.low hlow) hu hvb).resolve_left (by omega)
              have E := E.equal (K 0).ord hvb hu hlo (by rw [S5.out (x := u - 1) (.inl (by omega))]; exact hnl) p1 p2
              refine ok_go 0 ?_
              refine sy_call 0 (by kernel_rfl) e5 ?_
              refine ok_go 0 ?_
              exact sy_next 0 _ g5 (by kernel_rfl) (by kernel_rfl) (ih (i, u + n, z, true, false, f5) _ g5 ⟨by dsimp only; omega, by dsimp only; omega, by dsimp only; omega, W, S, E⟩ (by dsimp only; omega) ⟨by kernel_rfl, by kernel_rfl, by kernel_rfl, by kernel_rfl, by kernel_rfl, by kernel_rfl, by kernel_rfl, trivial⟩)
            · intro ht
              clear ec4 hz4 ht
              obtain ⟨_, g5, e5, f5, j, r, rfl, W, S5, j1, j2, hjP, p1, p2⟩ := part_of hlf (K (k + 5)) hN c f7 hVC u (u + n) (u + n - 1 - (x - u)) (by omega) (by omega) (by omega) (by omega) g7 W
              rw [← hjP] at p1 p2
              have e5 : Ev lf (m + k + 6) 124 [SL, J u, J (u + n), I (IntKind.wrap .i64 (IntKind.wrap .i64 (Int.ofNat (u + n) - 1) - IntKind.wrap .i64 (Int.ofNat x - Int.ofNat u))), .func (.func C) #[] #[]] g7 = some (.tuple #[J j, .bool r], g5) := by rw [hX2]; exact e5
              have S := S.trans (S5.mono hu hvb)
              have E := E.sw S5 hu hvb
              have hV5 := S.every hb hV
              have t18 : IntKind.wrap .i64 (Int.ofNat j - Int.ofNat u) = Int.ofNat (j - u) := wrap_sub (by omega) (by omega)
              have t19 : IntKind.wrap .i64 (Int.ofNat (u + n) - Int.ofNat j) = Int.ofNat (u + n - j) := wrap_sub (by omega) (by omega)
              refine ok_go 0 ?_
              refine sy_call 0 (by kernel_rfl) e5 ?_
              refine ok_go 6 ?_
              refine sy_test 0 (decide (IntKind.wrap .i64 (Int.ofNat j - Int.ofNat u) < IntKind.wrap .i64 (Int.ofNat (u + n) - Int.ofNat j))) (by kernel_rfl) ?_ ?_
              · intro hl
                have hl : j - u < u + n - j := by rw [t18, t19] at hl; exact ok_nat hl
                have hlo : u = 0 ∨ ∀ k, u ≤ k → k < j → ¬ lt (f5 k) (f5 (u - 1)) := (E.low (S.low hlow) hu hvb).imp id fun h k k1 k2 => h k k1 (by omega)
                obtain ⟨_, g6, e6, f6, W, S6, Z6⟩ := ihk u j (z) f5 hV5 (by omega) (by omega) (by omega) hlo g5 W
                have E := E.left (K 0).ord S6 j1 j2 hvb hu p1 p2 Z6
                have S := S.trans (S6.mono hu (by omega))
                have hwj : IntKind.wrap .i64 (Int.ofNat (j + 1)) = Int.ofNat (j + 1) := wrap_nat (by omega)
                refine ok_go 1 ?_
                refine sy_call 0 (by kernel_rfl) e6 ?_
                refine ok_go 1 ?_
                exact sy_next 0 _ g6 (by kernel_rfl) (by kernel_rfl) (ih (j + 1, u + n, z, decide (IntKind.wrap .i64 (Int.ofNat j - Int.ofNat u) ≥ IntKind.wrap .i64 ((IntKind.wrap .i64 (Int.ofNat (u + n) - Int.ofNat u)).tdiv 8)), r, f6) _ g6 ⟨by dsimp only; omega, by dsimp only; omega, by dsimp only; omega, W, S, E⟩ (by dsimp only; omega) ⟨by kernel_rfl, (by kernel_rfl : _ = Value.int .i64 (IntKind.wrap .i64 (Int.ofNat (j + 1)))).trans (by rw [hwj]), by kernel_rfl, by kernel_rfl, by kernel_rfl, by kernel_rfl, by kernel_rfl, trivial⟩)
              · intro hl
                have hl : u + n - j ≤ j - u := by rw [t18, t19] at hl; exact no_nat hl
                have hwj : IntKind.wrap .i64 (Int.ofNat (j + 1)) = Int.ofNat (j + 1) := wrap_nat (by omega)
                have hlo : j + 1 = 0 ∨ ∀ k, j + 1 ≤ k → k < u + n → ¬ lt (f5 k) (f5 (j + 1 - 1)) := .inr fun k k1 k2 => p2 k (by omega) k2
                obtain ⟨v6, g6, e6, f6, W, S6, Z6⟩ := ihk (j + 1) (u + n) (z) f5 hV5 (by omega) (by omega) (by omega) hlo g5 W
                have e6 : Ev lf (m + k + 6) 90 [SL, I (IntKind.wrap .i64 (Int.ofNat (j + 1))), J (u + n), I (z), .func (.func C) #[] #[]] g5 = some (v6, g6) := by rw [hwj]; exact e6
                have E := E.right (K 0).ord S6 j1 j2 hvb hu p1 p2 Z6
                have S := S.trans (S6.mono (by omega) hvb)
                refine ok_go 2 ?_
                refine sy_call 0 (by kernel_rfl) e6 ?_
                refine ok_go 0 ?_
                exact sy_next 0 _ g6 (by kernel_rfl) (by kernel_rfl) (ih (u, j, z, decide (IntKind.wrap .i64 (Int.ofNat (u + n) - Int.ofNat j) ≥ IntKind.wrap .i64 ((IntKind.wrap .i64 (Int.ofNat (u + n) - Int.ofNat u)).tdiv 8)), r, f6) _ g6 ⟨by dsimp only; omega, by dsimp only; omega, by dsimp only; omega, W, S, E⟩ (by dsimp only; omega) ⟨by kernel_rfl, by kernel_rfl, by kernel_rfl, by kernel_rfl, by kernel_rfl, by kernel_rfl, by kernel_rfl, trivial⟩)
          · intro h0
            obtain ⟨_, g5, e5, f5, j, r, rfl, W, S5, j1, j2, hjP, p1, p2⟩ := part_of hlf (K (k + 5)) hN c f7 hVC u (u + n) (u + n - 1 - (x - u)) (by omega) (by omega) (by omega) (by omega) g7 W
            rw [← hjP] at p1 p2
            have e5 : Ev lf (m + k + 6) 124 [SL, J u, J (u + n), I (IntKind.wrap .i64 (IntKind.wrap .i64 (Int.ofNat (u + n) - 1) - IntKind.wrap .i64 (Int.ofNat x - Int.ofNat u))), .func (.func C) #[] #[]] g7 = some (.tuple #[J j, .bool r], g5) := by rw [hX2]; exact e5
            have S := S.trans (S5.mono hu hvb)
            have E := E.sw S5 hu hvb
            have hV5 := S.every hb hV
            have t18 : IntKind.wrap .i64 (Int.ofNat j - Int.ofNat u) = Int.ofNat (j - u) := wrap_sub (by omega) (by omega)
            have t19 : IntKind.wrap .i64 (Int.ofNat (u + n) - Int.ofNat j) = Int.ofNat (u + n - j) := wrap_sub (by omega) (by omega)
            refine ok_go 14 ?_
            refine sy_call 0 (by kernel_rfl) e5 ?_
            refine ok_go 6 ?_
            refine sy_test 0 (decide (IntKind.wrap .i64 (Int.ofNat j - Int.ofNat u) < IntKind.wrap .i64 (Int.ofNat (u + n) - Int.ofNat j))) (by kernel_rfl) ?_ ?_
            · intro hl
              have hl : j - u < u + n - j := by rw [t18, t19] at hl; exact ok_nat hl
              have hlo : u = 0 ∨ ∀ k, u ≤ k → k < j → ¬ lt (f5 k) (f5 (u - 1)) := (E.low (S.low hlow) hu hvb).imp id fun h k k1 k2 => h k k1 (by omega)
              obtain ⟨_, g6, e6, f6, W, S6, Z6⟩ := ihk u j (z) f5 hV5 (by omega) (by omega) (by omega) hlo g5 W
              have E := E.left (K 0).ord S6 j1 j2 hvb hu p1 p2 Z6
              have S := S.trans (S6.mono hu (by omega))
              have hwj : IntKind.wrap .i64 (Int.ofNat (j + 1)) = Int.ofNat (j + 1) := wrap_nat (by omega)
              refine ok_go 1 ?_
              refine sy_call 0 (by kernel_rfl) e6 ?_
              refine ok_go 1 ?_
              exact sy_next 0 _ g6 (by kernel_rfl) (by kernel_rfl) (ih (j + 1, u + n, z, decide (IntKind.wrap .i64 (Int.ofNat j - Int.ofNat u) ≥ IntKind.wrap .i64 ((IntKind.wrap .i64 (Int.ofNat (u + n) - Int.ofNat u)).tdiv 8)), r, f6) _ g6 ⟨by dsimp only; omega, by dsimp only; omega, by dsimp only; omega, W, S, E⟩ (by dsimp only; omega) ⟨by kernel_rfl, (by kernel_rfl : _ = Value.int .i64 (IntKind.wrap .i64 (Int.ofNat (j + 1)))).trans (by rw [hwj]), by kernel_rfl, by kernel_rfl, by kernel_rfl, by kernel_rfl, by kernel_rfl, trivial⟩)
            · intro hl
              have hl : u + n - j ≤ j - u := by rw [t18, t19] at hl; exact no_nat hl
              have hwj : IntKind.wrap .i64 (Int.ofNat (j + 1)) = Int.ofNat (j + 1) := wrap_nat (by omega)
              have hlo : j + 1 = 0 ∨ ∀ k, j + 1 ≤ k → k < u + n → ¬ lt (f5 k) (f5 (j + 1 - 1)) := .inr fun k k1 k2 => p2 k (by omega) k2
              obtain ⟨v6, g6, e6, f6, W, S6, Z6⟩ := ihk (j + 1) (u + n) (z) f5 hV5 (by omega) (by omega) (by omega) hlo g5 W
              have e6 : Ev lf (m + k + 6) 90 [SL, I (IntKind.wrap .i64 (Int.ofNat (j + 1))), J (u + n), I (z), .func (.func C) #[] #[]] g5 = some (v6, g6) := by rw [hwj]; exact e6
              have E := E.right (K 0).ord S6 j1 j2 hvb hu p1 p2 Z6
              have S := S.trans (S6.mono (by omega) hvb)
              refine ok_go 2 ?_
              refine sy_call 0 (by kernel_rfl) e6 ?_
              refine ok_go 0 ?_
              exact sy_next 0 _ g6 (by kernel_rfl) (by kernel_rfl) (ih (u, j, z, decide (IntKind.wrap .i64 (Int.ofNat (u + n) - Int.ofNat j) ≥ IntKind.wrap .i64 ((IntKind.wrap .i64 (Int.ofNat (u + n) - Int.ofNat u)).tdiv 8)), r, f6) _ g6 ⟨by dsimp only; omega, by dsimp only; omega, by dsimp only; omega, W, S, E⟩ (by dsimp only; omega) ⟨by kernel_rfl, by kernel_rfl, by kernel_rfl, by kernel_rfl, by kernel_rfl, by kernel_rfl, by kernel_rfl, trivial⟩)
end
end Go.Proofs.YtkfbfgcflnkllaaGreatDoor.Ch
namespace Go.Proofs.YtkfbfgcflnkllaaGreatDoor.Ch
open Go Go.Eng Nim Oct
set_option maxRecDepth 100000
set_option maxHeartbeats 8000000
section
variable {lf m C q N : Nat} {h : Hp} {l : List (Nat × AObj)} {o : Bool} {V : Value → Prop} {lt : Value → Value → Prop}
theorem sortf_of (hlf : 20000 ≤ lf) (K : ∀ j, Cmp lf (m + j) C h l q N o V lt) (hN : N ≤ 10000) (c : Nat) (f : Nat → Value) (hV : ∀ k, k < N → V (f k)) (g : Hp) (W : Dat h l q N o f g) :
    ∃ v g', Ev lf (m + 21) 59 [.slice (some ⟨q, 0, none⟩) N c, .func (.func C) #[] #[]] g = some (v, g') ∧ ∃ f', Dat h l q N o f' g' ∧ Sw 0 N f f' ∧ Srt lt f' 0 N := by
  refine fnS_ok (Q := fun v g' => ∃ f', Dat h l q N o f' g' ∧ Sw 0 N f f' ∧ Srt lt f' 0 N) ?_
  obtain ⟨_, g1, e1, hg1, k, rfl, _, _⟩ := len_of lf (m + 18) N hN g
  have e1 : Ev lf (m + 20) 91 [.int .u64 (IntKind.wrap .u64 (Int.ofNat N))] g = some (J k, g) := by rw [wrap_u64 (by omega)]; rw [hg1] at e1; exact e1
  obtain ⟨_, g2, e2, f2, W2, S2, Z2⟩ := pdq_of hlf K hN c 14 0 N (Int.ofNat k) f hV (Nat.zero_le _) (Nat.le_refl _) (by rw [show 2 ^ 14 = 16384 from rfl]; omega) (.inl rfl) g W
  refine ok_go 2 ?_
  refine sy_call 0 (by kernel_rfl) e1 ?_
  refine ok_go 0 ?_
  refine sy_call 0 (by kernel_rfl) e2 ?_
  refine sy_done 0 (v := Value.tuple { toList := [] }) (h := g2) (by kernel_rfl) ?_
  exact ⟨f2, W2, S2, Z2⟩
end
end Go.Proofs.YtkfbfgcflnkllaaGreatDoor.Ch
namespace Go.Proofs.YtkfbfgcflnkllaaGreatDoor.Oct
section
variable {α : Type} {f g : Nat → α}
theorem swp_perm (f : Nat → α) {i j N : Nat} (hi : i < N) (hj : j < N) : ((List.range N).map (swp f i j)).Perm ((List.range N).map f) := by
  have h1 : ((List.range N).map (swp f i j)) = (((List.range N).map f).set i (f j)).set j (f i) := by
    apply List.ext_getElem
    · simp
    · intro k h1 h2
      simp only [List.getElem_map, List.getElem_range, List.getElem_set]
      unfold swp
      by_cases e1 : k = i
      · subst e1
        by_cases e2 : j = k
        · subst e2; simp
        · rw [if_pos rfl, if_neg e2, if_pos rfl]
      · by_cases e2 : k = j
        · subst e2; rw [if_neg e1, if_pos rfl, if_pos rfl]
        · rw [if_neg e1, if_neg e2, if_neg (fun h => e2 h.symm), if_neg (fun h => e1 h.symm)]
  rw [h1]
  have hl : ((List.range N).map f).length = N := by simp
  have := List.set_set_perm (show i < ((List.range N).map f).length by omega) (show j < ((List.range N).map f).length by omega)
  simpa using this
theorem Sw.perm {N : Nat} (S : Sw 0 N f g) : ((List.range N).map g).Perm ((List.range N).map f) := by
  induction S with
  | refl => exact List.Perm.refl _
  | step _ _ h2 _ h4 ih => exact (swp_perm _ h2 h4).trans ih
theorem Srt.pair {lt : α → α → Prop} {N : Nat} (Z : Srt lt f 0 N) : ((List.range N).map f).Pairwise fun x y => ¬ lt y x := by
  rw [List.pairwise_map]
  refine List.Pairwise.imp_of_mem ?_ (List.pairwise_lt_range (n := N))
  intro i j hi hj hij
  exact Z i j (Nat.zero_le _) hij (List.mem_range.1 hj)
end
end Go.Proofs.YtkfbfgcflnkllaaGreatDoor.Oct
namespace Go.Proofs.YtkfbfgcflnkllaaGreatDoor.Oct
def lexC : List Nat → List Nat → Int
  | [], [] => 0
  | [], _ :: _ => -1
  | _ :: _, [] => 1
  | a :: r, b :: s => if a < b then -1 else if b < a then 1 else lexC r s
theorem lexC_neg : ∀ xs ys, lexC ys xs = - lexC xs ys
  | [], [] => rfl
  | [], _ :: _ => rfl
  | _ :: _, [] => rfl
  | a :: r, b :: s => by
    unfold lexC
    by_cases h1 : a < b
    · rw [if_neg (by omega), if_pos h1, if_pos h1]; rfl
    · by_cases h2 : b < a
      · rw [if_pos h2, if_neg h1, if_pos h2]
      · rw [if_neg h2, if_neg h1, if_neg h1, if_neg h2]; exact lexC_neg r s
theorem lexC_eq : ∀ {xs ys}, lexC xs ys = 0 → xs = ys
  | [], [], _ => rfl
  | [], _ :: _, h => by cases h
  | _ :: _, [], h => by cases h
  | a :: r, b :: s, h => by
    unfold lexC at h
    by_cases h1 : a < b
    · rw [if_pos h1] at h; cases h
    · by_cases h2 : b < a
      · rw [if_neg h1, if_pos h2] at h; cases h
      · rw [if_neg h1, if_neg h2] at h
        rw [lexC_eq h, show a = b by omega]
theorem lexC_self (xs : List Nat) : lexC xs xs = 0 := by
  have := lexC_neg xs xs
  omega
theorem lexC_tr : ∀ {xs ys zs}, lexC xs ys ≤ 0 → lexC ys zs ≤ 0 → lexC xs zs ≤ 0
  | [], [], [], _, _ => by decide
  | [], [], _ :: _, _, _ => by show (-1 : Int) ≤ 0; decide
  | [], _ :: _, [], _, h => by exact absurd h (by show ¬ (1 : Int) ≤ 0; decide)
  | [], _ :: _, _ :: _, _, _ => by show (-1 : Int) ≤ 0; decide
  | _ :: _, [], _, h, _ => by exact absurd h (by show ¬ (1 : Int) ≤ 0; decide)
  | _ :: _, _ :: _, [], _, h => by exact absurd h (by show ¬ (1 : Int) ≤ 0; decide)
  | a :: r, b :: s, c :: t, h1, h2 => by
    unfold lexC at h1 h2 ⊢
    by_cases e1 : a < c
    · rw [if_pos e1]; decide
    · rw [if_neg e1]
      by_cases e2 : a < b
      · by_cases e3 : b < c
        · omega
        · rw [if_neg e3] at h2
          by_cases e4 : c < b
          · rw [if_pos e4] at h2; exact absurd h2 (by decide)
          · omega
      · rw [if_neg e2] at h1
        by_cases e3 : b < a
        · rw [if_pos e3] at h1; exact absurd h1 (by decide)
        · rw [if_neg e3] at h1
          by_cases e4 : b < c
          · omega
          · rw [if_neg e4] at h2
            by_cases e5 : c < b
            · rw [if_pos e5] at h2; exact absurd h2 (by decide)
            · rw [if_neg e5] at h2
              rw [if_neg (by omega)]
              exact lexC_tr h1 h2
theorem lex_ord {α : Type} (key : α → List Nat) : Ord fun x y => lexC (key x) (key y) < 0 :=
  ⟨fun {x y} h => by have := lexC_neg (key x) (key y); omega, fun {x y z} h1 h2 => by
    have a1 := lexC_neg (key x) (key y)
    have a2 := lexC_neg (key y) (key z)
    have a3 := lexC_neg (key x) (key z)
    have := lexC_tr (xs := key x) (ys := key y) (zs := key z) (by omega) (by omega)
    omega⟩
theorem lexC_drop : ∀ (i : Nat) (xs ys : List Nat), i ≤ xs.length → i ≤ ys.length → xs.take i = ys.take i → lexC xs ys = lexC (xs.drop i) (ys.drop i)
  | 0, _, _, _, _, _ => rfl
  | _ + 1, [], _, h, _, _ => by simp at h
  | _ + 1, _ :: _, [], _, h, _ => by simp at h
  | i + 1, a :: r, b :: s, h1, h2, h => by
    simp only [List.take_succ_cons, List.cons.injEq] at h
    obtain ⟨rfl, h⟩ := h
    show lexC (a :: r) (a :: s) = lexC (r.drop i) (s.drop i)
    rw [← lexC_drop i r s (by simpa using h1) (by simpa using h2) h]
    show (if a < a then -1 else if a < a then 1 else lexC r s) = _
    rw [if_neg (Nat.lt_irrefl a), if_neg (Nat.lt_irrefl a)]
section
variable {α : Type} [DecidableEq α]
end
end Go.Proofs.YtkfbfgcflnkllaaGreatDoor.Oct
namespace Go.Proofs.YtkfbfgcflnkllaaGreatDoor.Ch
open Go Go.Eng Nim Oct
set_option maxRecDepth 100000
set_option maxHeartbeats 8000000
theorem rdN {h : Hp} {rv : Value} {r : List Nat} (hr : Rds h rv (r.map J)) {k : Nat} (hk : k < r.length) : ∃ p, indexAddrOp Tryz.prog 28 rv (J k) = some p ∧ loadT Tryz.prog h 3 p = some (J r[k]) :=
  hr.read (e := 3) (by kernel_rfl) (by kernel_rfl) (by kernel_rfl) (by rw [List.getElem?_map, List.getElem?_eq_getElem hk]; rfl)
def cN (a b : Nat) : Int := if a < b then -1 else if b < a then 1 else 0
theorem ccmp_of (lf m : Nat) (a b : Nat) (g : Hp) : Ev lf (m + 2) 92 [J a, J b] g = some (I (cN a b), g) := by
  refine fn_eq ?_
  refine ok_go 2 ?_
  refine sy_no 0 (b := Int.ofNat a != Int.ofNat a) (by kernel_rfl) (bne_self_eq_false _) ?_
  refine ok_go 0 ?_
  refine sy_no 0 (b := Int.ofNat b != Int.ofNat b) (by kernel_rfl) (bne_self_eq_false _) ?_
  refine ok_go 1 ?_
  refine sy_test 0 (decide (Int.ofNat a < Int.ofNat b)) (by kernel_rfl) ?_ ?_
  · intro h1
    refine sy_done 0 (v := Value.int IntKind.i64 (Int.negSucc 0)) (h := g) (by kernel_rfl) ?_
    exact ⟨by rw [cN, if_pos (ok_nat h1)]; rfl, rfl⟩
  intro h1
  have h1 := no_nat h1
  refine ok_go 1 ?_
  refine sy_test 0 (decide (Int.ofNat a > Int.ofNat b)) (by kernel_rfl) ?_ ?_
  · intro h2
    refine sy_done 0 (v := Value.int IntKind.i64 (Int.ofNat 1)) (h := g) (by kernel_rfl) ?_
    exact ⟨by rw [cN, if_neg (by omega), if_pos (ok_nat h2)]; rfl, rfl⟩
  · intro h2
    refine sy_done 0 (v := Value.int IntKind.i64 (Int.ofNat 0)) (h := g) (by kernel_rfl) ?_
    exact ⟨by rw [cN, if_neg (by omega), if_neg (by have := no_nat h2; omega)]; rfl, rfl⟩
theorem comp_of (lf m : Nat) (hlf : 20000 ≤ lf) (xs ys : List Nat) (hx1 : xs.length ≤ 2000) (x y : Value) (g : Hp) (hx : Rds g x (xs.map J)) (hy : Rds g y (ys.map J)) : Ev lf (m + 3) 60 [x, y] g = some (I (lexC xs ys), g) := by
  refine fn_eq ?_
  obtain ⟨xa, xc, hxs⟩ := hx.shape
  obtain ⟨ya, yc, hys⟩ := hy.shape
  rw [List.length_map] at hxs hys
  subst hxs hys
  refine ok_go 1 ?_
  refine sy_loop 0 lf g (α := Nat) (fun i => [(0, .slice xa xs.length xc), (1, .slice ya ys.length yc), (9, .slice xa xs.length xc), (10, J xs.length), (11, J i)]) (fun i g' => i ≤ xs.length ∧ g' = g ∧ i ≤ ys.length ∧ xs.take i = ys.take i) (fun i _ => xs.length - i) 0 (by kernel_rfl) (by kernel_rfl)
    ⟨by kernel_rfl, by kernel_rfl, by kernel_rfl, by kernel_rfl, by kernel_rfl, trivial⟩ (show xs.length - 0 < lf by omega) ⟨Nat.zero_le _, rfl, Nat.zero_le _, rfl⟩ ?_
  rintro m1 i F1 g ⟨hi, rfl, hiy, ht⟩ ih
  have hw : IntKind.wrap .i64 (Int.ofNat (i + 1)) = Int.ofNat (i + 1) := wrap_nat (by omega)
  have hd := lexC_drop i xs ys hi hiy ht
  refine ok_go 1 ?_
  refine sy_test 0 (decide (Int.ofNat i < Int.ofNat xs.length)) (by kernel_rfl) ?_ ?_
  · intro hlt
    have hlt : i < xs.length := ok_nat hlt
    obtain ⟨p, hp1, hp2⟩ := rdN hx hlt
    rw [List.drop_eq_getElem_cons hlt] at hd
    refine ok_go 0 ?_
    refine sy_load 0 (r := indexAddrOp Tryz.prog 28 (.slice xa xs.length xc) (J i)) (h' := g) (by kernel_rfl) hp1 ?_
    refine ok_go 0 ?_
    refine sy_load 0 (r := loadT Tryz.prog g 3 p) (h' := g) (by kernel_rfl) hp2 ?_
    refine ok_go 2 ?_
    refine sy_test 0 (decide (Int.ofNat i ≥ Int.ofNat ys.length)) (by kernel_rfl) ?_ ?_
    · intro hge
      have hge : ys.length ≤ i := Int.ofNat_le.1 (of_decide_eq_true hge)
      rw [List.drop_eq_nil_of_le hge] at hd
      refine sy_done 0 (v := Value.int IntKind.i64 (Int.ofNat 1)) (h := g) (by kernel_rfl) ?_
      exact ⟨by rw [hd]; rfl, rfl⟩
    intro hge
    have hlt2 : i < ys.length := Nat.lt_of_not_le fun h => (of_decide_eq_false hge) (Int.ofNat_le.2 h)
    obtain ⟨q, hq1, hq2⟩ := rdN hy hlt2
    rw [List.drop_eq_getElem_cons hlt2] at hd
    have tx := List.take_succ_eq_append_getElem hlt
    have ty := List.take_succ_eq_append_getElem hlt2
    generalize xs[i] = a at *
    generalize ys[i] = b at *
    have ec := ccmp_of lf m a b g
    have hd : lexC xs ys = if a < b then -1 else if b < a then 1 else lexC (xs.drop (i + 1)) (ys.drop (i + 1)) := hd
    refine ok_go 0 ?_
    refine sy_load 0 (r := indexAddrOp Tryz.prog 28 (.slice ya ys.length yc) (J i)) (h' := g) (by kernel_rfl) hq1 ?_
    refine ok_go 0 ?_
    refine sy_load 0 (r := loadT Tryz.prog g 3 q) (h' := g) (by kernel_rfl) hq2 ?_
    refine ok_go 0 ?_
    refine sy_call 0 (by kernel_rfl) ec ?_
    refine ok_go 1 ?_
    refine sy_test 0 (cN a b != 0) (by kernel_rfl) ?_ ?_
    · intro hne
      refine sy_done 0 (v := Value.int IntKind.i64 (cN a b)) (h := g) (by kernel_rfl) ?_
      refine ⟨?_, rfl⟩
      rw [hd]
      unfold cN at hne ⊢
      by_cases h1 : a < b
      · rw [if_pos h1, if_pos h1]
      · by_cases h2 : b < a
        · rw [if_neg h1, if_neg h1, if_pos h2, if_pos h2]
        · rw [if_neg h1, if_neg h2] at hne; simp at hne
    · intro he
      have hab : a = b := by
        unfold cN at he
        by_cases h1 : a < b
        · rw [if_pos h1] at he; simp at he
        · by_cases h2 : b < a
          · rw [if_neg h1, if_pos h2] at he; simp at he
          · omega
      refine ok_go 1 ?_
      exact sy_next 0 _ g (by kernel_rfl) (by kernel_rfl) (ih (i + 1) _ g ⟨hlt, rfl, hlt2, by rw [tx, ty, ht, hab]⟩ (show xs.length - (i + 1) < xs.length - i by omega) ⟨by kernel_rfl, by kernel_rfl, by kernel_rfl, by kernel_rfl, (by kernel_rfl : _ = Value.int .i64 (IntKind.wrap .i64 (Int.ofNat (i + 1)))).trans (by rw [hw]), trivial⟩)
  · intro hlt
    have hlt : i = xs.length := Nat.le_antisymm hi (no_nat hlt)
    subst hlt
    rw [List.drop_eq_nil_of_le (Nat.le_refl _)] at hd
    refine ok_go 3 ?_
    refine sy_test 0 (decide (Int.ofNat xs.length < Int.ofNat ys.length)) (by kernel_rfl) ?_ ?_
    · intro hl
      have hl : xs.length < ys.length := ok_nat hl
      rw [List.drop_eq_getElem_cons hl] at hd
      refine sy_done 0 (v := Value.int IntKind.i64 (Int.negSucc 0)) (h := g) (by kernel_rfl) ?_
      exact ⟨by rw [hd]; rfl, rfl⟩
    · intro hl
      have hl : ys.length ≤ xs.length := no_nat hl
      rw [List.drop_eq_nil_of_le hl] at hd
      refine sy_done 0 (v := Value.int IntKind.i64 (Int.ofNat 0)) (h := g) (by kernel_rfl) ?_
      exact ⟨by rw [hd]; rfl, rfl⟩
end Go.Proofs.YtkfbfgcflnkllaaGreatDoor.Ch
