/- What stands around the part that is still to be sorted. -/
import Derived.Test.YtegcmgjldapnmaaDoorProg
import Derived.KernelRfl
import Derived.Test.YtegcmgjldapnmaaDoorSyF
import Derived.Test.YtegcmgjldapnmaaDoorWinQC
import Derived.Test.YtegcmgjldapnmaaDoorWinQB
namespace Go.Proofs.YtegcmgjldapnmaaDoor.Oct
section
variable {α : Type} {lt : α → α → Prop} {f g : Nat → α} {a b u v : Nat}
/-- All pairs are in order of which one is not between u and v. -/
def Env (lt : α → α → Prop) (f : Nat → α) (a b u v : Nat) : Prop := ∀ x y, a ≤ x → x < y → y < b → (x < u ∨ v ≤ y) → ¬ lt (f y) (f x)
theorem Env.start : Env lt f a b a b := fun x y h1 h2 h3 h4 => by omega
theorem Env.sw (E : Env lt f a b u v) (S : Sw u v f g) (ha : a ≤ u) (hb : v ≤ b) : Env lt g a b u v := fun x y h1 h2 h3 h4 => by
  by_cases hx : x < u
  · rw [S.out (x := x) (.inl hx)]
    by_cases hy : u ≤ y ∧ y < v
    · exact S.all (P := fun w => ¬ lt w (f x)) (fun k k1 k2 => E x k h1 (by omega) (by omega) (.inl hx)) y hy.1 hy.2
    · rw [S.out (x := y) (by omega)]; exact E x y h1 h2 h3 h4
  · have hy : v ≤ y := by omega
    rw [S.out (x := y) (.inr hy)]
    by_cases hxv : x < v
    · exact S.all (P := fun w => ¬ lt (f y) w) (fun k k1 k2 => E k y (by omega) (by omega) h3 (.inr hy)) x (by omega) hxv
    · rw [S.out (x := x) (by omega)]; exact E x y h1 h2 h3 h4
theorem Env.fin (E : Env lt f a b u v) (Z : Srt lt f u v) : Srt lt f a b := fun x y h1 h2 h3 => by
  by_cases h : x < u ∨ v ≤ y
  · exact E x y h1 h2 h3 h
  · exact Z x y (by omega) h2 (by omega)
theorem Env.low (E : Env lt f a b u v) (hl : a = 0 ∨ ∀ k, a ≤ k → k < b → ¬ lt (f k) (f (a - 1))) (ha : a ≤ u) (hb : v ≤ b) : u = 0 ∨ ∀ k, u ≤ k → k < v → ¬ lt (f k) (f (u - 1)) := by
  by_cases e : u = a
  · subst e
    rcases hl with h | h
    · exact .inl h
    · exact .inr fun k k1 k2 => h k k1 (by omega)
  · exact .inr fun k k1 k2 => E (u - 1) k (by omega) (by omega) (by omega) (.inl (by omega))
theorem Env.left (O : Ord lt) (E : Env lt f a b u v) {j : Nat} (S : Sw u j f g) (hj : u ≤ j) (hjv : j < v) (hv : v ≤ b) (hu : a ≤ u) (h1 : ∀ k, u ≤ k → k < j → lt (f k) (f j)) (h2 : ∀ k, j < k → k < v → ¬ lt (f k) (f j)) (Z : Srt lt g u j) : Env lt g a b (j + 1) v := fun x y k1 k2 k3 k4 => by
  have E' := E.sw (S.mono (Nat.le_refl _) (by omega : j ≤ v)) hu hv
  by_cases c1 : x < u ∨ v ≤ y
  · exact E' x y k1 k2 k3 c1
  have gj : g j = f j := S.out (.inr (Nat.le_refl _))
  have hl : ∀ k, u ≤ k → k < j → lt (g k) (g j) := by rw [gj]; exact S.all (P := fun w => lt w (f j)) h1
  have hr : ∀ k, j < k → k < v → ¬ lt (g k) (g j) := fun k q1 q2 => by rw [gj, S.out (x := k) (.inr (by omega))]; exact h2 k q1 q2
  by_cases c2 : y < j
  · exact Z x y (by omega) k2 c2
  · by_cases c3 : x = j
    · subst c3; exact hr y k2 (by omega)
    · have a1 := O.asym (hl x (by omega) (by omega))
      by_cases c4 : y = j
      · subst c4; exact a1
      · exact O.letr a1 (hr y (by omega) (by omega))
theorem Env.right (O : Ord lt) (E : Env lt f a b u v) {j : Nat} (S : Sw (j + 1) v f g) (hj : u ≤ j) (hjv : j < v) (hv : v ≤ b) (hu : a ≤ u) (h1 : ∀ k, u ≤ k → k < j → lt (f k) (f j)) (h2 : ∀ k, j < k → k < v → ¬ lt (f k) (f j)) (Z : Srt lt g (j + 1) v) : Env lt g a b u j := fun x y k1 k2 k3 k4 => by
  have E' := E.sw (S.mono (by omega : u ≤ j + 1) (Nat.le_refl _)) hu hv
  by_cases c1 : x < u ∨ v ≤ y
  · exact E' x y k1 k2 k3 c1
  have gj : g j = f j := S.out (.inl (by omega))
  have hl : ∀ k, u ≤ k → k < j → lt (g k) (g j) := fun k q1 q2 => by rw [gj, S.out (x := k) (.inl (by omega))]; exact h1 k q1 q2
  have hr : ∀ k, j + 1 ≤ k → k < v → ¬ lt (g k) (g j) := by rw [gj]; exact S.all (P := fun w => ¬ lt w (f j)) fun k q1 q2 => h2 k (by omega) q2
  by_cases c2 : j + 1 ≤ x
  · exact Z x y c2 k2 (by omega)
  · by_cases c3 : x = j
    · subst c3; exact hr y (by omega) (by omega)
    · have a1 := O.asym (hl x (by omega) (by omega))
      by_cases c4 : y = j
      · subst c4; exact a1
      · exact O.letr a1 (hr y (by omega) (by omega))
theorem Env.equal (O : Ord lt) (E : Env lt f a b u v) {i : Nat} {P : α} (hv : v ≤ b) (hu : a ≤ u) (hl : ∀ k, u ≤ k → k < v → ¬ lt (f k) (f (u - 1))) (hP : ¬ lt (f (u - 1)) P) (h1 : ∀ k, u ≤ k → k < i → ¬ lt P (f k)) (h2 : ∀ k, i ≤ k → k < v → lt P (f k)) : Env lt f a b i v := fun x y k1 k2 k3 k4 => by
  by_cases c1 : x < u ∨ v ≤ y
  · exact E x y k1 k2 k3 c1
  have hx := h1 x (by omega) (by omega)
  by_cases c2 : y < i
  · exact O.letr (O.letr hx hP) (hl y (by omega) (by omega))
  · exact O.letr hx (O.asym (h2 y (by omega) (by omega)))
end
end Go.Proofs.YtegcmgjldapnmaaDoor.Oct
namespace Go.Proofs.YtegcmgjldapnmaaDoor
open Go Go.Eng Nim Oct
set_option maxRecDepth 100000
set_option maxHeartbeats 8000000
section
variable {lf m C q N : Nat} {h : Hp} {l : List (Nat × AObj)} {o : Bool} {V : Value → Prop} {lt : Value → Value → Prop}
theorem pdq_of (hlf : 20000 ≤ lf) (K : ∀ j, Cmp lf (m + j) C h l q N o V lt) (hN : N ≤ 10000) (c : Nat) : ∀ (k a b : Nat) (z : Int) (f : Nat → Value) (_ : ∀ k, k < N → V (f k)) (_ : a ≤ b) (_ : b ≤ N) (_ : b - a < 2 ^ k) (_ : a = 0 ∨ ∀ k, a ≤ k → k < b → ¬ lt (f k) (f (a - 1))) (g : Hp) (_ : Dat h l q N o f g),
    ∃ v g', Ev lf (m + k + 6) 68 [.slice (some ⟨q, 0, none⟩) N c, J a, J b, I z, .func (.func C) #[] #[]] g = some (v, g') ∧ ∃ f', Dat h l q N o f' g' ∧ Sw a b f f' ∧ Srt lt f' a b := by
  intro k
  induction k with
  | zero =>
    intro a b z f hV hab hb hk hlow g W
    refine fnS_ok (Q := fun v g' => ∃ f', Dat h l q N o f' g' ∧ Sw a b f f' ∧ Srt lt f' a b) ?_
    obtain rfl : b = a := by simp at hk; omega
    obtain ⟨_, g2, e2, f2, W2, S2, Z2⟩ := isort_of (K 4) hlf hN c f hV b b (Nat.le_refl _) hb g W
    refine ok_go 1 ?_
    refine sy_loop 0 lf g (α := Unit) (fun _ => [(0, .slice (some ⟨q, 0, none⟩) N c), (1, J b), (2, J b), (4, .func (.func C) #[] #[])]) (fun _ g' => g' = g) (fun _ _ => 0) () (by kernel_rfl) (by kernel_rfl)
      ⟨by kernel_rfl, by kernel_rfl, by kernel_rfl, by kernel_rfl, trivial⟩ (show 0 < lf by omega) rfl ?_
    rintro m1 ⟨⟩ F1 g rfl ih
    refine ok_go 2 ?_
    refine sy_yes 0 (b := decide (IntKind.wrap .i64 (Int.ofNat b - Int.ofNat b) ≤ 12)) (by kernel_rfl) (decide_eq_true (by rw [wrap_sub (Nat.le_refl _) (by omega), Nat.sub_self]; decide)) ?_
    refine ok_go 0 ?_
    refine sy_call 0 (by kernel_rfl) e2 ?_
    refine sy_done 0 (v := Value.tuple { toList := [] }) (h := g2) (by kernel_rfl) ?_
    exact ⟨f2, W2, S2, Z2⟩
  | succ k ihk =>
    intro a b z f hV hab hb hk hlow g W
    refine fnS_ok (Q := fun v g' => ∃ f', Dat h l q N o f' g' ∧ Sw a b f f' ∧ Srt lt f' a b) ?_
    let SL : Value := .slice (some ⟨q, 0, none⟩) N c
    rw [Nat.pow_succ] at hk
    refine ok_go 0 ?_
    refine sy_loop 0 lf g (α := Nat × Nat × Int × Bool × Bool × (Nat → Value)) (fun x => [(0, SL), (1, J x.1), (2, J x.2.1), (3, I x.2.2.1), (4, .func (.func C) #[] #[]), (10, .bool x.2.2.2.1), (11, .bool x.2.2.2.2.1)]) (fun x g => a ≤ x.1 ∧ x.1 ≤ x.2.1 ∧ x.2.1 ≤ b ∧ Dat h l q N o x.2.2.2.2.2 g ∧ Sw a b f x.2.2.2.2.2 ∧ Env lt x.2.2.2.2.2 a b x.1 x.2.1) (fun x _ => x.2.1 - x.1) (a, b, z, true, true, f) (by kernel_rfl) (by kernel_rfl)
      ⟨by kernel_rfl, by kernel_rfl, by kernel_rfl, by kernel_rfl, by kernel_rfl, by kernel_rfl, by kernel_rfl, trivial⟩ (show b - a < lf by omega) ⟨Nat.le_refl _, hab, Nat.le_refl _, W, .refl f, .start⟩ ?_
    clear W
    rintro m1 ⟨u, v, z, wb, wp, f1⟩ F1 g ⟨hu, huv, hvb, W, S, E⟩ ih
    dsimp only at hu huv hvb W S E
    obtain ⟨n, rfl⟩ : ∃ n, v = u + n := ⟨v - u, by omega⟩
    have hVC := S.every hb hV
    have hwn : IntKind.wrap .i64 (Int.ofNat (u + n) - Int.ofNat u) = Int.ofNat n := by rw [wrap_sub (by omega) (by omega), Nat.add_sub_cancel_left]
    refine ok_go 2 ?_
    refine sy_test 0 (decide (IntKind.wrap .i64 (Int.ofNat (u + n) - Int.ofNat u) ≤ 12)) (by kernel_rfl) ?_ ?_
    · intro h12
      obtain ⟨_, g2, e2, f2, W2, S2, Z2⟩ := isort_of (K (k + 5)) hlf hN c f1 hVC u (u + n) (by omega) (by omega) g W
      refine ok_go 0 ?_
      refine sy_call 0 (by kernel_rfl) e2 ?_
      refine sy_done 0 (v := Value.tuple { toList := [] }) (h := g2) (by kernel_rfl) ?_
      exact ⟨f2, W2, S.trans (S2.mono hu hvb), (E.sw S2 hu hvb).fin Z2⟩
    intro h12
    have hn : 13 ≤ n := by
      rw [hwn] at h12
      have : ¬ n ≤ 12 := fun h => (of_decide_eq_false h12) (Int.ofNat_le.2 h)
      omega
    refine ok_go 1 ?_
    refine sy_test 0 (z == 0) (by kernel_rfl) ?_ ?_
    · intro _
      obtain ⟨_, g2, e2, f2, W2, S2, Z2⟩ := hsort_of hlf (K (k + 4)) hN c f1 hVC u (u + n) (by omega) (by omega) g W
      refine ok_go 0 ?_
      refine sy_call 0 (by kernel_rfl) e2 ?_
      refine sy_done 0 (v := Value.tuple { toList := [] }) (h := g2) (by kernel_rfl) ?_
      exact ⟨f2, W2, S.trans (S2.mono hu hvb), (E.sw S2 hu hvb).fin Z2⟩
    intro _
    cases wb with
    | false =>
      obtain ⟨_, g2, e2, f2, W, S2⟩ := break_of hlf (K (k + 2)) hN c f1 hVC u n hn (by omega) g W
      have S := S.trans (S2.mono hu hvb)
      have E := E.sw S2 hu hvb
      have hVC := S.every hb hV
      refine ok_go 2 ?_
      refine sy_call 0 (by kernel_rfl) e2 ?_
      clear e2 S2
      obtain ⟨_, g3, e3, x, t, rfl, ht, ⟨x1, x2⟩, W⟩ := pivot_of (K (k + 2)) (K (k + 3)) hN c f2 hVC u n hn (by omega) g2 W
      refine ok_go 1 ?_
      refine sy_call 0 (by kernel_rfl) e3 ?_
      have hX1 : Int.ofNat x = Int.ofNat x := rfl
      obtain rfl | rfl | rfl : t = 0 ∨ t = 1 ∨ t = 2 := by omega
      · clear e3
        refine ok_go 11 ?_
        refine sy_test 0 (decide (Int.ofNat u > 0)) (by kernel_rfl) ?_ ?_
        · intro h0
          have h0 : 0 < u := ok_nat (a := 0) h0
          have hwu : IntKind.wrap .i64 (Int.ofNat u - 1) = Int.ofNat (u - 1) := wrap_sub (b := 1) (by omega) (by omega)
          obtain ⟨z4, ec4, hz4⟩ := (K (k + 6)).cmp f2 g3 _ _ W (hVC (u - 1) (by omega)) (hVC (x) (by omega))
          refine ok_go 5 ?_
          refine sy_load 0 (r := indexAddrOp Tryd.prog 31 SL (I (IntKind.wrap .i64 (Int.ofNat u - 1)))) (h' := g3) (v := ptr q (u - 1)) (by kernel_rfl) (by rw [hwu]; exact idxS0 (e := 32) (by kernel_rfl) (by kernel_rfl) (by omega)) ?_
          refine ok_go 1 ?_
          refine ow_loadF (P := Tryd.prog) (T := 32) (off := u - 1) 0 0 W rfl (by omega) (by kernel_rfl) (by kernel_rfl) ?_
          refine ok_go 3 ?_
          refine sy_load 0 (r := indexAddrOp Tryd.prog 31 SL (I (Int.ofNat x))) (h' := g3) (v := ptr q (x)) (by kernel_rfl) (by rw [hX1]; exact idxS0 (e := 32) (by kernel_rfl) (by kernel_rfl) (by omega)) ?_
          refine ok_go 1 ?_
          refine ow_loadF (P := Tryd.prog) (T := 32) (off := x) 0 0 W rfl (by omega) (by kernel_rfl) (by kernel_rfl) ?_
          refine ok_go 1 ?_
          refine sy_call 0 (by kernel_rfl) ec4 ?_
          refine ok_go 5 ?_
          refine sy_test 0 (!decide (z4 < 0)) (by kernel_rfl) ?_ ?_
          · intro ht
            have hnl : ¬ lt (f2 (u - 1)) (f2 (x)) := fun h => by rw [decide_eq_true (hz4.2 h)] at ht; cases ht
            obtain ⟨_, g5, e5, f5, i, rfl, W, S5, i1, i2, _, p1, p2⟩ := peq_of hlf (K (k + 5)) hN c f2 hVC u (u + n) (x) (by omega) (by omega) (by omega) (by omega) g3 W
            have e5 : Ev lf (m + k + 6) 97 [SL, J u, J (u + n), I (Int.ofNat x), .func (.func C) #[] #[]] g3 = some (J i, g5) := by rw [hX1]; exact e5
            have S := S.trans (S5.mono hu hvb)
            have E := E.sw S5 hu hvb
            have hlo := (E.low (S.low hlow) hu hvb).resolve_left (by omega)
            have E := E.equal (K 0).ord hvb hu hlo (by rw [S5.out (x := u - 1) (.inl (by omega))]; exact hnl) p1 p2
            refine ok_go 0 ?_
            refine sy_call 0 (by kernel_rfl) e5 ?_
            refine ok_go 0 ?_
            exact sy_next 0 _ g5 (by kernel_rfl) (by kernel_rfl) (ih (i, u + n, IntKind.wrap .i64 (z - 1), false, wp, f5) _ g5 ⟨by dsimp only; omega, by dsimp only; omega, by dsimp only; omega, W, S, E⟩ (by dsimp only; omega) ⟨by kernel_rfl, by kernel_rfl, by kernel_rfl, by kernel_rfl, by kernel_rfl, by kernel_rfl, by kernel_rfl, trivial⟩)
          · intro ht
            clear ec4 hz4 ht
            obtain ⟨_, g5, e5, f5, j, r, rfl, W, S5, j1, j2, hjP, p1, p2⟩ := part_of hlf (K (k + 5)) hN c f2 hVC u (u + n) (x) (by omega) (by omega) (by omega) (by omega) g3 W
            rw [← hjP] at p1 p2
            have e5 : Ev lf (m + k + 6) 98 [SL, J u, J (u + n), I (Int.ofNat x), .func (.func C) #[] #[]] g3 = some (.tuple #[J j, .bool r], g5) := by rw [hX1]; exact e5
            have S := S.trans (S5.mono hu hvb)
            have E := E.sw S5 hu hvb
            have hV5 := S.every hb hV
            have t18 : IntKind.wrap .i64 (Int.ofNat j - Int.ofNat u) = Int.ofNat (j - u) := wrap_sub (by omega) (by omega)
            have t19 : IntKind.wrap .i64 (Int.ofNat (u + n) - Int.ofNat j) = Int.ofNat (u + n - j) := wrap_sub (by omega) (by omega)
            refine ok_go 0 ?_
            refine sy_call 0 (by kernel_rfl) e5 ?_
            refine ok_go 6 ?_
            refine sy_test 0 (decide (IntKind.wrap .i64 (Int.ofNat j - Int.ofNat u) < IntKind.wrap .i64 (Int.ofNat (u + n) - Int.ofNat j))) (by kernel_rfl) ?_ ?_
            · intro hl
              have hl : j - u < u + n - j := by rw [t18, t19] at hl; exact ok_nat hl
              have hlo : u = 0 ∨ ∀ k, u ≤ k → k < j → ¬ lt (f5 k) (f5 (u - 1)) := (E.low (S.low hlow) hu hvb).imp id fun h k k1 k2 => h k k1 (by omega)
              obtain ⟨_, g6, e6, f6, W, S6, Z6⟩ := ihk u j (IntKind.wrap .i64 (z - 1)) f5 hV5 (by omega) (by omega) (by omega) hlo g5 W
              have E := E.left (K 0).ord S6 j1 j2 hvb hu p1 p2 Z6
              have S := S.trans (S6.mono hu (by omega))
              have hwj : IntKind.wrap .i64 (Int.ofNat (j + 1)) = Int.ofNat (j + 1) := wrap_nat (by omega)
              refine ok_go 1 ?_
              refine sy_call 0 (by kernel_rfl) e6 ?_
              refine ok_go 1 ?_
              exact sy_next 0 _ g6 (by kernel_rfl) (by kernel_rfl) (ih (j + 1, u + n, IntKind.wrap .i64 (z - 1), decide (IntKind.wrap .i64 (Int.ofNat j - Int.ofNat u) ≥ IntKind.wrap .i64 ((IntKind.wrap .i64 (Int.ofNat (u + n) - Int.ofNat u)).tdiv 8)), r, f6) _ g6 ⟨by dsimp only; omega, by dsimp only; omega, by dsimp only; omega, W, S, E⟩ (by dsimp only; omega) ⟨by kernel_rfl, (by kernel_rfl : _ = Value.int .i64 (IntKind.wrap .i64 (Int.ofNat (j + 1)))).trans (by rw [hwj]), by kernel_rfl, by kernel_rfl, by kernel_rfl, by kernel_rfl, by kernel_rfl, trivial⟩)
            · intro hl
              have hl : u + n - j ≤ j - u := by rw [t18, t19] at hl; exact no_nat hl
              have hwj : IntKind.wrap .i64 (Int.ofNat (j + 1)) = Int.ofNat (j + 1) := wrap_nat (by omega)
              have hlo : j + 1 = 0 ∨ ∀ k, j + 1 ≤ k → k < u + n → ¬ lt (f5 k) (f5 (j + 1 - 1)) := .inr fun k k1 k2 => p2 k (by omega) k2
              obtain ⟨v6, g6, e6, f6, W, S6, Z6⟩ := ihk (j + 1) (u + n) (IntKind.wrap .i64 (z - 1)) f5 hV5 (by omega) (by omega) (by omega) hlo g5 W
              have e6 : Ev lf (m + k + 6) 68 [SL, I (IntKind.wrap .i64 (Int.ofNat (j + 1))), J (u + n), I (IntKind.wrap .i64 (z - 1)), .func (.func C) #[] #[]] g5 = some (v6, g6) := by rw [hwj]; exact e6
              have E := E.right (K 0).ord S6 j1 j2 hvb hu p1 p2 Z6
              have S := S.trans (S6.mono (by omega) hvb)
              refine ok_go 2 ?_
              refine sy_call 0 (by kernel_rfl) e6 ?_
              refine ok_go 0 ?_
              exact sy_next 0 _ g6 (by kernel_rfl) (by kernel_rfl) (ih (u, j, IntKind.wrap .i64 (z - 1), decide (IntKind.wrap .i64 (Int.ofNat (u + n) - Int.ofNat j) ≥ IntKind.wrap .i64 ((IntKind.wrap .i64 (Int.ofNat (u + n) - Int.ofNat u)).tdiv 8)), r, f6) _ g6 ⟨by dsimp only; omega, by dsimp only; omega, by dsimp only; omega, W, S, E⟩ (by dsimp only; omega) ⟨by kernel_rfl, by kernel_rfl, by kernel_rfl, by kernel_rfl, by kernel_rfl, by kernel_rfl, by kernel_rfl, trivial⟩)
        · intro h0
          obtain ⟨_, g5, e5, f5, j, r, rfl, W, S5, j1, j2, hjP, p1, p2⟩ := part_of hlf (K (k + 5)) hN c f2 hVC u (u + n) (x) (by omega) (by omega) (by omega) (by omega) g3 W
          rw [← hjP] at p1 p2
          have e5 : Ev lf (m + k + 6) 98 [SL, J u, J (u + n), I (Int.ofNat x), .func (.func C) #[] #[]] g3 = some (.tuple #[J j, .bool r], g5) := by rw [hX1]; exact e5
          have S := S.trans (S5.mono hu hvb)
          have E := E.sw S5 hu hvb
          have hV5 := S.every hb hV
          have t18 : IntKind.wrap .i64 (Int.ofNat j - Int.ofNat u) = Int.ofNat (j - u) := wrap_sub (by omega) (by omega)
          have t19 : IntKind.wrap .i64 (Int.ofNat (u + n) - Int.ofNat j) = Int.ofNat (u + n - j) := wrap_sub (by omega) (by omega)
          refine ok_go 14 ?_
          refine sy_call 0 (by kernel_rfl) e5 ?_
          refine ok_go 6 ?_
          refine sy_test 0 (decide (IntKind.wrap .i64 (Int.ofNat j - Int.ofNat u) < IntKind.wrap .i64 (Int.ofNat (u + n) - Int.ofNat j))) (by kernel_rfl) ?_ ?_
          · intro hl
            have hl : j - u < u + n - j := by rw [t18, t19] at hl; exact ok_nat hl
            have hlo : u = 0 ∨ ∀ k, u ≤ k → k < j → ¬ lt (f5 k) (f5 (u - 1)) := (E.low (S.low hlow) hu hvb).imp id fun h k k1 k2 => h k k1 (by omega)
            obtain ⟨_, g6, e6, f6, W, S6, Z6⟩ := ihk u j (IntKind.wrap .i64 (z - 1)) f5 hV5 (by omega) (by omega) (by omega) hlo g5 W
            have E := E.left (K 0).ord S6 j1 j2 hvb hu p1 p2 Z6
            have S := S.trans (S6.mono hu (by omega))
            have hwj : IntKind.wrap .i64 (Int.ofNat (j + 1)) = Int.ofNat (j + 1) := wrap_nat (by omega)
            refine ok_go 1 ?_
            refine sy_call 0 (by kernel_rfl) e6 ?_
            refine ok_go 1 ?_
            exact sy_next 0 _ g6 (by kernel_rfl) (by kernel_rfl) (ih (j + 1, u + n, IntKind.wrap .i64 (z - 1), decide (IntKind.wrap .i64 (Int.ofNat j - Int.ofNat u) ≥ IntKind.wrap .i64 ((IntKind.wrap .i64 (Int.ofNat (u + n) - Int.ofNat u)).tdiv 8)), r, f6) _ g6 ⟨by dsimp only; omega, by dsimp only; omega, by dsimp only; omega, W, S, E⟩ (by dsimp only; omega) ⟨by kernel_rfl, (by kernel_rfl : _ = Value.int .i64 (IntKind.wrap .i64 (Int.ofNat (j + 1)))).trans (by rw [hwj]), by kernel_rfl, by kernel_rfl, by kernel_rfl, by kernel_rfl, by kernel_rfl, trivial⟩)
          · intro hl
            have hl : u + n - j ≤ j - u := by rw [t18, t19] at hl; exact no_nat hl
            have hwj : IntKind.wrap .i64 (Int.ofNat (j + 1)) = Int.ofNat (j + 1) := wrap_nat (by omega)
            have hlo : j + 1 = 0 ∨ ∀ k, j + 1 ≤ k → k < u + n → ¬ lt (f5 k) (f5 (j + 1 - 1)) := .inr fun k k1 k2 => p2 k (by omega) k2
            obtain ⟨v6, g6, e6, f6, W, S6, Z6⟩ := ihk (j + 1) (u + n) (IntKind.wrap .i64 (z - 1)) f5 hV5 (by omega) (by omega) (by omega) hlo g5 W
            have e6 : Ev lf (m + k + 6) 68 [SL, I (IntKind.wrap .i64 (Int.ofNat (j + 1))), J (u + n), I (IntKind.wrap .i64 (z - 1)), .func (.func C) #[] #[]] g5 = some (v6, g6) := by rw [hwj]; exact e6
            have E := E.right (K 0).ord S6 j1 j2 hvb hu p1 p2 Z6
            have S := S.trans (S6.mono (by omega) hvb)
            refine ok_go 2 ?_
            refine sy_call 0 (by kernel_rfl) e6 ?_
            refine ok_go 0 ?_
            exact sy_next 0 _ g6 (by kernel_rfl) (by kernel_rfl) (ih (u, j, IntKind.wrap .i64 (z - 1), decide (IntKind.wrap .i64 (Int.ofNat (u + n) - Int.ofNat j) ≥ IntKind.wrap .i64 ((IntKind.wrap .i64 (Int.ofNat (u + n) - Int.ofNat u)).tdiv 8)), r, f6) _ g6 ⟨by dsimp only; omega, by dsimp only; omega, by dsimp only; omega, W, S, E⟩ (by dsimp only; omega) ⟨by kernel_rfl, by kernel_rfl, by kernel_rfl, by kernel_rfl, by kernel_rfl, by kernel_rfl, by kernel_rfl, trivial⟩)
      · clear e3
        refine ok_go 11 ?_
        refine sy_test 0 (decide (Int.ofNat u > 0)) (by kernel_rfl) ?_ ?_
        · intro h0
          have h0 : 0 < u := ok_nat (a := 0) h0
          have hwu : IntKind.wrap .i64 (Int.ofNat u - 1) = Int.ofNat (u - 1) := wrap_sub (b := 1) (by omega) (by omega)
          obtain ⟨z4, ec4, hz4⟩ := (K (k + 6)).cmp f2 g3 _ _ W (hVC (u - 1) (by omega)) (hVC (x) (by omega))
          refine ok_go 5 ?_
          refine sy_load 0 (r := indexAddrOp Tryd.prog 31 SL (I (IntKind.wrap .i64 (Int.ofNat u - 1)))) (h' := g3) (v := ptr q (u - 1)) (by kernel_rfl) (by rw [hwu]; exact idxS0 (e := 32) (by kernel_rfl) (by kernel_rfl) (by omega)) ?_
          refine ok_go 1 ?_
          refine ow_loadF (P := Tryd.prog) (T := 32) (off := u - 1) 0 0 W rfl (by omega) (by kernel_rfl) (by kernel_rfl) ?_
          refine ok_go 3 ?_
          refine sy_load 0 (r := indexAddrOp Tryd.prog 31 SL (I (Int.ofNat x))) (h' := g3) (v := ptr q (x)) (by kernel_rfl) (by rw [hX1]; exact idxS0 (e := 32) (by kernel_rfl) (by kernel_rfl) (by omega)) ?_
          refine ok_go 1 ?_
          refine ow_loadF (P := Tryd.prog) (T := 32) (off := x) 0 0 W rfl (by omega) (by kernel_rfl) (by kernel_rfl) ?_
          refine ok_go 1 ?_
          refine sy_call 0 (by kernel_rfl) ec4 ?_
          refine ok_go 5 ?_
          refine sy_test 0 (!decide (z4 < 0)) (by kernel_rfl) ?_ ?_
          · intro ht
            have hnl : ¬ lt (f2 (u - 1)) (f2 (x)) := fun h => by rw [decide_eq_true (hz4.2 h)] at ht; cases ht
            obtain ⟨_, g5, e5, f5, i, rfl, W, S5, i1, i2, _, p1, p2⟩ := peq_of hlf (K (k + 5)) hN c f2 hVC u (u + n) (x) (by omega) (by omega) (by omega) (by omega) g3 W
            have e5 : Ev lf (m + k + 6) 97 [SL, J u, J (u + n), I (Int.ofNat x), .func (.func C) #[] #[]] g3 = some (J i, g5) := by rw [hX1]; exact e5
            have S := S.trans (S5.mono hu hvb)
            have E := E.sw S5 hu hvb
            have hlo := (E.low (S.low hlow) hu hvb).resolve_left (by omega)
            have E := E.equal (K 0).ord hvb hu hlo (by rw [S5.out (x := u - 1) (.inl (by omega))]; exact hnl) p1 p2
            refine ok_go 0 ?_
            refine sy_call 0 (by kernel_rfl) e5 ?_
            refine ok_go 0 ?_
            exact sy_next 0 _ g5 (by kernel_rfl) (by kernel_rfl) (ih (i, u + n, IntKind.wrap .i64 (z - 1), false, wp, f5) _ g5 ⟨by dsimp only; omega, by dsimp only; omega, by dsimp only; omega, W, S, E⟩ (by dsimp only; omega) ⟨by kernel_rfl, by kernel_rfl, by kernel_rfl, by kernel_rfl, by kernel_rfl, by kernel_rfl, by kernel_rfl, trivial⟩)
          · intro ht
            clear ec4 hz4 ht
            obtain ⟨_, g5, e5, f5, j, r, rfl, W, S5, j1, j2, hjP, p1, p2⟩ := part_of hlf (K (k + 5)) hN c f2 hVC u (u + n) (x) (by omega) (by omega) (by omega) (by omega) g3 W
            rw [← hjP] at p1 p2
            have e5 : Ev lf (m + k + 6) 98 [SL, J u, J (u + n), I (Int.ofNat x), .func (.func C) #[] #[]] g3 = some (.tuple #[J j, .bool r], g5) := by rw [hX1]; exact e5
            have S := S.trans (S5.mono hu hvb)
            have E := E.sw S5 hu hvb
            have hV5 := S.every hb hV
            have t18 : IntKind.wrap .i64 (Int.ofNat j - Int.ofNat u) = Int.ofNat (j - u) := wrap_sub (by omega) (by omega)
            have t19 : IntKind.wrap .i64 (Int.ofNat (u + n) - Int.ofNat j) = Int.ofNat (u + n - j) := wrap_sub (by omega) (by omega)
            refine ok_go 0 ?_
            refine sy_call 0 (by kernel_rfl) e5 ?_
            refine ok_go 6 ?_
            refine sy_test 0 (decide (IntKind.wrap .i64 (Int.ofNat j - Int.ofNat u) < IntKind.wrap .i64 (Int.ofNat (u + n) - Int.ofNat j))) (by kernel_rfl) ?_ ?_
            · intro hl
              have hl : j - u < u + n - j := by rw [t18, t19] at hl; exact ok_nat hl
              have hlo : u = 0 ∨ ∀ k, u ≤ k → k < j → ¬ lt (f5 k) (f5 (u - 1)) := (E.low (S.low hlow) hu hvb).imp id fun h k k1 k2 => h k k1 (by omega)
              obtain ⟨_, g6, e6, f6, W, S6, Z6⟩ := ihk u j (IntKind.wrap .i64 (z - 1)) f5 hV5 (by omega) (by omega) (by omega) hlo g5 W
              have E := E.left (K 0).ord S6 j1 j2 hvb hu p1 p2 Z6
              have S := S.trans (S6.mono hu (by omega))
              have hwj : IntKind.wrap .i64 (Int.ofNat (j + 1)) = Int.ofNat (j + 1) := wrap_nat (by omega)
              refine ok_go 1 ?_
              refine sy_call 0 (by kernel_rfl) e6 ?_
              refine ok_go 1 ?_
              exact sy_next 0 _ g6 (by kernel_rfl) (by kernel_rfl) (ih (j + 1, u + n, IntKind.wrap .i64 (z - 1), decide (IntKind.wrap .i64 (Int.ofNat j - Int.ofNat u) ≥ IntKind.wrap .i64 ((IntKind.wrap .i64 (Int.ofNat (u + n) - Int.ofNat u)).tdiv 8)), r, f6) _ g6 ⟨by dsimp only; omega, by dsimp only; omega, by dsimp only; omega, W, S, E⟩ (by dsimp only; omega) ⟨by kernel_rfl, (by kernel_rfl : _ = Value.int .i64 (IntKind.wrap .i64 (Int.ofNat (j + 1)))).trans (by rw [hwj]), by kernel_rfl, by kernel_rfl, by kernel_rfl, by kernel_rfl, by kernel_rfl, trivial⟩)
            · intro hl
              have hl : u + n - j ≤ j - u := by rw [t18, t19] at hl; exact no_nat hl
              have hwj : IntKind.wrap .i64 (Int.ofNat (j + 1)) = Int.ofNat (j + 1) := wrap_nat (by omega)
              have hlo : j + 1 = 0 ∨ ∀ k, j + 1 ≤ k → k < u + n → ¬ lt (f5 k) (f5 (j + 1 - 1)) := .inr fun k k1 k2 => p2 k (by omega) k2
              obtain ⟨v6, g6, e6, f6, W, S6, Z6⟩ := ihk (j + 1) (u + n) (IntKind.wrap .i64 (z - 1)) f5 hV5 (by omega) (by omega) (by omega) hlo g5 W
              have e6 : Ev lf (m + k + 6) 68 [SL, I (IntKind.wrap .i64 (Int.ofNat (j + 1))), J (u + n), I (IntKind.wrap .i64 (z - 1)), .func (.func C) #[] #[]] g5 = some (v6, g6) := by rw [hwj]; exact e6
              have E := E.right (K 0).ord S6 j1 j2 hvb hu p1 p2 Z6
              have S := S.trans (S6.mono (by omega) hvb)
              refine ok_go 2 ?_
              refine sy_call 0 (by kernel_rfl) e6 ?_
              refine ok_go 0 ?_
              exact sy_next 0 _ g6 (by kernel_rfl) (by kernel_rfl) (ih (u, j, IntKind.wrap .i64 (z - 1), decide (IntKind.wrap .i64 (Int.ofNat (u + n) - Int.ofNat j) ≥ IntKind.wrap .i64 ((IntKind.wrap .i64 (Int.ofNat (u + n) - Int.ofNat u)).tdiv 8)), r, f6) _ g6 ⟨by dsimp only; omega, by dsimp only; omega, by dsimp only; omega, W, S, E⟩ (by dsimp only; omega) ⟨by kernel_rfl, by kernel_rfl, by kernel_rfl, by kernel_rfl, by kernel_rfl, by kernel_rfl, by kernel_rfl, trivial⟩)
        · intro h0
          obtain ⟨_, g5, e5, f5, j, r, rfl, W, S5, j1, j2, hjP, p1, p2⟩ := part_of hlf (K (k + 5)) hN c f2 hVC u (u + n) (x) (by omega) (by omega) (by omega) (by omega) g3 W
          rw [← hjP] at p1 p2
          have e5 : Ev lf (m + k + 6) 98 [SL, J u, J (u + n), I (Int.ofNat x), .func (.func C) #[] #[]] g3 = some (.tuple #[J j, .bool r], g5) := by rw [hX1]; exact e5
          have S := S.trans (S5.mono hu hvb)
          have E := E.sw S5 hu hvb
          have hV5 := S.every hb hV
          have t18 : IntKind.wrap .i64 (Int.ofNat j - Int.ofNat u) = Int.ofNat (j - u) := wrap_sub (by omega) (by omega)
          have t19 : IntKind.wrap .i64 (Int.ofNat (u + n) - Int.ofNat j) = Int.ofNat (u + n - j) := wrap_sub (by omega) (by omega)
          refine ok_go 14 ?_
          refine sy_call 0 (by kernel_rfl) e5 ?_
          refine ok_go 6 ?_
          refine sy_test 0 (decide (IntKind.wrap .i64 (Int.ofNat j - Int.ofNat u) < IntKind.wrap .i64 (Int.ofNat (u + n) - Int.ofNat j))) (by kernel_rfl) ?_ ?_
          · intro hl
            have hl : j - u < u + n - j := by rw [t18, t19] at hl; exact ok_nat hl
            have hlo : u = 0 ∨ ∀ k, u ≤ k → k < j → ¬ lt (f5 k) (f5 (u - 1)) := (E.low (S.low hlow) hu hvb).imp id fun h k k1 k2 => h k k1 (by omega)
            obtain ⟨_, g6, e6, f6, W, S6, Z6⟩ := ihk u j (IntKind.wrap .i64 (z - 1)) f5 hV5 (by omega) (by omega) (by omega) hlo g5 W
            have E := E.left (K 0).ord S6 j1 j2 hvb hu p1 p2 Z6
            have S := S.trans (S6.mono hu (by omega))
            have hwj : IntKind.wrap .i64 (Int.ofNat (j + 1)) = Int.ofNat (j + 1) := wrap_nat (by omega)
            refine ok_go 1 ?_
            refine sy_call 0 (by kernel_rfl) e6 ?_
            refine ok_go 1 ?_
            exact sy_next 0 _ g6 (by kernel_rfl) (by kernel_rfl) (ih (j + 1, u + n, IntKind.wrap .i64 (z - 1), decide (IntKind.wrap .i64 (Int.ofNat j - Int.ofNat u) ≥ IntKind.wrap .i64 ((IntKind.wrap .i64 (Int.ofNat (u + n) - Int.ofNat u)).tdiv 8)), r, f6) _ g6 ⟨by dsimp only; omega, by dsimp only; omega, by dsimp only; omega, W, S, E⟩ (by dsimp only; omega) ⟨by kernel_rfl, (by kernel_rfl : _ = Value.int .i64 (IntKind.wrap .i64 (Int.ofNat (j + 1)))).trans (by rw [hwj]), by kernel_rfl, by kernel_rfl, by kernel_rfl, by kernel_rfl, by kernel_rfl, trivial⟩)
          · intro hl
            have hl : u + n - j ≤ j - u := by rw [t18, t19] at hl; exact no_nat hl
            have hwj : IntKind.wrap .i64 (Int.ofNat (j + 1)) = Int.ofNat (j + 1) := wrap_nat (by omega)
            have hlo : j + 1 = 0 ∨ ∀ k, j + 1 ≤ k → k < u + n → ¬ lt (f5 k) (f5 (j + 1 - 1)) := .inr fun k k1 k2 => p2 k (by omega) k2
            obtain ⟨v6, g6, e6, f6, W, S6, Z6⟩ := ihk (j + 1) (u + n) (IntKind.wrap .i64 (z - 1)) f5 hV5 (by omega) (by omega) (by omega) hlo g5 W
            have e6 : Ev lf (m + k + 6) 68 [SL, I (IntKind.wrap .i64 (Int.ofNat (j + 1))), J (u + n), I (IntKind.wrap .i64 (z - 1)), .func (.func C) #[] #[]] g5 = some (v6, g6) := by rw [hwj]; exact e6
            have E := E.right (K 0).ord S6 j1 j2 hvb hu p1 p2 Z6
            have S := S.trans (S6.mono (by omega) hvb)
            refine ok_go 2 ?_
            refine sy_call 0 (by kernel_rfl) e6 ?_
            refine ok_go 0 ?_
            exact sy_next 0 _ g6 (by kernel_rfl) (by kernel_rfl) (ih (u, j, IntKind.wrap .i64 (z - 1), decide (IntKind.wrap .i64 (Int.ofNat (u + n) - Int.ofNat j) ≥ IntKind.wrap .i64 ((IntKind.wrap .i64 (Int.ofNat (u + n) - Int.ofNat u)).tdiv 8)), r, f6) _ g6 ⟨by dsimp only; omega, by dsimp only; omega, by dsimp only; omega, W, S, E⟩ (by dsimp only; omega) ⟨by kernel_rfl, by kernel_rfl, by kernel_rfl, by kernel_rfl, by kernel_rfl, by kernel_rfl, by kernel_rfl, trivial⟩)
      · have hX2 : IntKind.wrap .i64 (IntKind.wrap .i64 (Int.ofNat (u + n) - 1) - IntKind.wrap .i64 (Int.ofNat x - Int.ofNat u)) = Int.ofNat (u + n - 1 - (x - u)) := by
          rw [show IntKind.wrap .i64 (Int.ofNat (u + n) - 1) = Int.ofNat (u + n - 1) from wrap_sub (b := 1) (by omega) (by omega), show IntKind.wrap .i64 (Int.ofNat x - Int.ofNat u) = Int.ofNat (x - u) from wrap_sub (by omega) (by omega)]
          exact wrap_sub (by omega) (by omega)
        obtain ⟨_, g7, e7, f7, W, S7⟩ := rev_of hlf (K (k + 5)) hN c f2 hVC u n (by omega) (by omega) g3 W
        have S := S.trans (S7.mono hu hvb)
        have E := E.sw S7 hu hvb
        have hVC := S.every hb hV
        clear e3
        refine ok_go 4 ?_
        refine sy_call 0 (by kernel_rfl) e7 ?_
        clear e7 S7
        refine ok_go 10 ?_
        refine sy_test 0 (decide (Int.ofNat u > 0)) (by kernel_rfl) ?_ ?_
        · intro h0
          have h0 : 0 < u := ok_nat (a := 0) h0
          have hwu : IntKind.wrap .i64 (Int.ofNat u - 1) = Int.ofNat (u - 1) := wrap_sub (b := 1) (by omega) (by omega)
          obtain ⟨z4, ec4, hz4⟩ := (K (k + 6)).cmp f7 g7 _ _ W (hVC (u - 1) (by omega)) (hVC (u + n - 1 - (x - u)) (by omega))
          refine ok_go 5 ?_
          refine sy_load 0 (r := indexAddrOp Tryd.prog 31 SL (I (IntKind.wrap .i64 (Int.ofNat u - 1)))) (h' := g7) (v := ptr q (u - 1)) (by kernel_rfl) (by rw [hwu]; exact idxS0 (e := 32) (by kernel_rfl) (by kernel_rfl) (by omega)) ?_
          refine ok_go 1 ?_
          refine ow_loadF (P := Tryd.prog) (T := 32) (off := u - 1) 0 0 W rfl (by omega) (by kernel_rfl) (by kernel_rfl) ?_
          refine ok_go 3 ?_
          refine sy_load 0 (r := indexAddrOp Tryd.prog 31 SL (I (IntKind.wrap .i64 (IntKind.wrap .i64 (Int.ofNat (u + n) - 1) - IntKind.wrap .i64 (Int.ofNat x - Int.ofNat u))))) (h' := g7) (v := ptr q (u + n - 1 - (x - u))) (by kernel_rfl) (by rw [hX2]; exact idxS0 (e := 32) (by kernel_rfl) (by kernel_rfl) (by omega)) ?_
          refine ok_go 1 ?_
          refine ow_loadF (P := Tryd.prog) (T := 32) (off := u + n - 1 - (x - u)) 0 0 W rfl (by omega) (by kernel_rfl) (by kernel_rfl) ?_
          refine ok_go 1 ?_
          refine sy_call 0 (by kernel_rfl) ec4 ?_
          refine ok_go 5 ?_
          refine sy_test 0 (!decide (z4 < 0)) (by kernel_rfl) ?_ ?_
          · intro ht
            have hnl : ¬ lt (f7 (u - 1)) (f7 (u + n - 1 - (x - u))) := fun h => by rw [decide_eq_true (hz4.2 h)] at ht; cases ht
            obtain ⟨_, g5, e5, f5, i, rfl, W, S5, i1, i2, _, p1, p2⟩ := peq_of hlf (K (k + 5)) hN c f7 hVC u (u + n) (u + n - 1 - (x - u)) (by omega) (by omega) (by omega) (by omega) g7 W
            have e5 : Ev lf (m + k + 6) 97 [SL, J u, J (u + n), I (IntKind.wrap .i64 (IntKind.wrap .i64 (Int.ofNat (u + n) - 1) - IntKind.wrap .i64 (Int.ofNat x - Int.ofNat u))), .func (.func C) #[] #[]] g7 = some (J i, g5) := by rw [hX2]; exact e5
            have S := S.trans (S5.mono hu hvb)
            have E := E.sw S5 hu hvb
            have hlo := (E.low (S.low hlow) hu hvb).resolve_left (by omega)
            have E := E.equal (K 0).ord hvb hu hlo (by rw [S5.out (x := u - 1) (.inl (by omega))]; exact hnl) p1 p2
            refine ok_go 0 ?_
            refine sy_call 0 (by kernel_rfl) e5 ?_
            refine ok_go 0 ?_
            exact sy_next 0 _ g5 (by kernel_rfl) (by kernel_rfl) (ih (i, u + n, IntKind.wrap .i64 (z - 1), false, wp, f5) _ g5 ⟨by dsimp only; omega, by dsimp only; omega, by dsimp only; omega, W, S, E⟩ (by dsimp only; omega) ⟨by kernel_rfl, by kernel_rfl, by kernel_rfl, by kernel_rfl, by kernel_rfl, by kernel_rfl, by kernel_rfl, trivial⟩)
          · intro ht
            clear ec4 hz4 ht
            obtain ⟨_, g5, e5, f5, j, r, rfl, W, S5, j1, j2, hjP, p1, p2⟩ := part_of hlf (K (k + 5)) hN c f7 hVC u (u + n) (u + n - 1 - (x - u)) (by omega) (by omega) (by omega) (by omega) g7 W
            rw [← hjP] at p1 p2
            have e5 : Ev lf (m + k + 6) 98 [SL, J u, J (u + n), I (IntKind.wrap .i64 (IntKind.wrap .i64 (Int.ofNat (u + n) - 1) - IntKind.wrap .i64 (Int.ofNat x - Int.ofNat u))), .func (.func C) #[] #[]] g7 = some (.tuple #[J j, .bool r], g5) := by rw [hX2]; exact e5
            have S := S.trans (S5.mono hu hvb)
            have E := E.sw S5 hu hvb
            have hV5 := S.every hb hV
            have t18 : IntKind.wrap .i64 (Int.ofNat j - Int.ofNat u) = Int.ofNat (j - u) := wrap_sub (by omega) (by omega)
            have t19 : IntKind.wrap .i64 (Int.ofNat (u + n) - Int.ofNat j) = Int.ofNat (u + n - j) := wrap_sub (by omega) (by omega)
            refine ok_go 0 ?_
            refine sy_call 0 (by kernel_rfl) e5 ?_
            refine ok_go 6 ?_
            refine sy_test 0 (decide (IntKind.wrap .i64 (Int.ofNat j - Int.ofNat u) < IntKind.wrap .i64 (Int.ofNat (u + n) - Int.ofNat j))) (by kernel_rfl) ?_ ?_
            · intro hl
              have hl : j - u < u + n - j := by rw [t18, t19] at hl; exact ok_nat hl
              have hlo : u = 0 ∨ ∀ k, u ≤ k → k < j → ¬ lt (f5 k) (f5 (u - 1)) := (E.low (S.low hlow) hu hvb).imp id fun h k k1 k2 => h k k1 (by omega)
              obtain ⟨_, g6, e6, f6, W, S6, Z6⟩ := ihk u j (IntKind.wrap .i64 (z - 1)) f5 hV5 (by omega) (by omega) (by omega) hlo g5 W
              have E := E.left (K 0).ord S6 j1 j2 hvb hu p1 p2 Z6
              have S := S.trans (S6.mono hu (by omega))
              have hwj : IntKind.wrap .i64 (Int.ofNat (j + 1)) = Int.ofNat (j + 1) := wrap_nat (by omega)
              refine ok_go 1 ?_
              refine sy_call 0 (by kernel_rfl) e6 ?_
              refine ok_go 1 ?_
              exact sy_next 0 _ g6 (by kernel_rfl) (by kernel_rfl) (ih (j + 1, u + n, IntKind.wrap .i64 (z - 1), decide (IntKind.wrap .i64 (Int.ofNat j - Int.ofNat u) ≥ IntKind.wrap .i64 ((IntKind.wrap .i64 (Int.ofNat (u + n) - Int.ofNat u)).tdiv 8)), r, f6) _ g6 ⟨by dsimp only; omega, by dsimp only; omega, by dsimp only; omega, W, S, E⟩ (by dsimp only; omega) ⟨by kernel_rfl, (by kernel_rfl : _ = Value.int .i64 (IntKind.wrap .i64 (Int.ofNat (j + 1)))).trans (by rw [hwj]), by kernel_rfl, by kernel_rfl, by kernel_rfl, by kernel_rfl, by kernel_rfl, trivial⟩)
            · intro hl
              have hl : u + n - j ≤ j - u := by rw [t18, t19] at hl; exact no_nat hl
              have hwj : IntKind.wrap .i64 (Int.ofNat (j + 1)) = Int.ofNat (j + 1) := wrap_nat (by omega)
              have hlo : j + 1 = 0 ∨ ∀ k, j + 1 ≤ k → k < u + n → ¬ lt (f5 k) (f5 (j + 1 - 1)) := .inr fun k k1 k2 => p2 k (by omega) k2
              obtain ⟨v6, g6, e6, f6, W, S6, Z6⟩ := ihk (j + 1) (u + n) (IntKind.wrap .i64 (z - 1)) f5 hV5 (by omega) (by omega) (by omega) hlo g5 W
              have e6 : Ev lf (m + k + 6) 68 [SL, I (IntKind.wrap .i64 (Int.ofNat (j + 1))), J (u + n), I (IntKind.wrap .i64 (z - 1)), .func (.func C) #[] #[]] g5 = some (v6, g6) := by rw [hwj]; exact e6
              have E := E.right (K 0).ord S6 j1 j2 hvb hu p1 p2 Z6
              have S := S.trans (S6.mono (by omega) hvb)
              refine ok_go 2 ?_
              refine sy_call 0 (by kernel_rfl) e6 ?_
              refine ok_go 0 ?_
              exact sy_next 0 _ g6 (by kernel_rfl) (by kernel_rfl) (ih (u, j, IntKind.wrap .i64 (z - 1), decide (IntKind.wrap .i64 (Int.ofNat (u + n) - Int.ofNat j) ≥ IntKind.wrap .i64 ((IntKind.wrap .i64 (Int.ofNat (u + n) - Int.ofNat u)).tdiv 8)), r, f6) _ g6 ⟨by dsimp only; omega, by dsimp only; omega, by dsimp only; omega, W, S, E⟩ (by dsimp only; omega) ⟨by kernel_rfl, by kernel_rfl, by kernel_rfl, by kernel_rfl, by kernel_rfl, by kernel_rfl, by kernel_rfl, trivial⟩)
        · intro h0
          obtain ⟨_, g5, e5, f5, j, r, rfl, W, S5, j1, j2, hjP, p1, p2⟩ := part_of hlf (K (k + 5)) hN c f7 hVC u (u + n) (u + n - 1 - (x - u)) (by omega) (by omega) (by omega) (by omega) g7 W
          rw [← hjP] at p1 p2
          have e5 : Ev lf (m + k + 6) 98 [SL, J u, J (u + n), I (IntKind.wrap .i64 (IntKind.wrap .i64 (Int.ofNat (u + n) - 1) - IntKind.wrap .i64 (Int.ofNat x - Int.ofNat u))), .func (.func C) #[] #[]] g7 = some (.tuple #[J j, .bool r], g5) := by rw [hX2]; exact e5
          have S := S.trans (S5.mono hu hvb)
          have E := E.sw S5 hu hvb
          have hV5 := S.every hb hV
          have t18 : IntKind.wrap .i64 (Int.ofNat j - Int.ofNat u) = Int.ofNat (j - u) := wrap_sub (by omega) (by omega)
          have t19 : IntKind.wrap .i64 (Int.ofNat (u + n) - Int.ofNat j) = Int.ofNat (u + n - j) := wrap_sub (by omega) (by omega)
          refine ok_go 14 ?_
          refine sy_call 0 (by kernel_rfl) e5 ?_
          refine ok_go 6 ?_
          refine sy_test 0 (decide (IntKind.wrap .i64 (Int.ofNat j - Int.ofNat u) < IntKind.wrap .i64 (Int.ofNat (u + n) - Int.ofNat j))) (by kernel_rfl) ?_ ?_
          · intro hl
            have hl : j - u < u + n - j := by rw [t18, t19] at hl; exact ok_nat hl
            have hlo : u = 0 ∨ ∀ k, u ≤ k → k < j → ¬ lt (f5 k) (f5 (u - 1)) := (E.low (S.low hlow) hu hvb).imp id fun h k k1 k2 => h k k1 (by omega)
            obtain ⟨_, g6, e6, f6, W, S6, Z6⟩ := ihk u j (IntKind.wrap .i64 (z - 1)) f5 hV5 (by omega) (by omega) (by omega) hlo g5 W
            have E := E.left (K 0).ord S6 j1 j2 hvb hu p1 p2 Z6
            have S := S.trans (S6.mono hu (by omega))
            have hwj : IntKind.wrap .i64 (Int.ofNat (j + 1)) = Int.ofNat (j + 1) := wrap_nat (by omega)
            refine ok_go 1 ?_
            refine sy_call 0 (by kernel_rfl) e6 ?_
            refine ok_go 1 ?_
            exact sy_next 0 _ g6 (by kernel_rfl) (by kernel_rfl) (ih (j + 1, u + n, IntKind.wrap .i64 (z - 1), decide (IntKind.wrap .i64 (Int.ofNat j - Int.ofNat u) ≥ IntKind.wrap .i64 ((IntKind.wrap .i64 (Int.ofNat (u + n) - Int.ofNat u)).tdiv 8)), r, f6) _ g6 ⟨by dsimp only; omega, by dsimp only; omega, by dsimp only; omega, W, S, E⟩ (by dsimp only; omega) ⟨by kernel_rfl, (by kernel_rfl : _ = Value.int .i64 (IntKind.wrap .i64 (Int.ofNat (j + 1)))).trans (by rw [hwj]), by kernel_rfl, by kernel_rfl, by kernel_rfl, by kernel_rfl, by kernel_rfl, trivial⟩)
          · intro hl
            have hl : u + n - j ≤ j - u := by rw [t18, t19] at hl; exact no_nat hl
            have hwj : IntKind.wrap .i64 (Int.ofNat (j + 1)) = Int.ofNat (j + 1) := wrap_nat (by omega)
            have hlo : j + 1 = 0 ∨ ∀ k, j + 1 ≤ k → k < u + n → ¬ lt (f5 k) (f5 (j + 1 - 1)) := .inr fun k k1 k2 => p2 k (by omega) k2
            obtain ⟨v6, g6, e6, f6, W, S6, Z6⟩ := ihk (j + 1) (u + n) (IntKind.wrap .i64 (z - 1)) f5 hV5 (by omega) (by omega) (by omega) hlo g5 W
            have e6 : Ev lf (m + k + 6) 68 [SL, I (IntKind.wrap .i64 (Int.ofNat (j + 1))), J (u + n), I (IntKind.wrap .i64 (z - 1)), .func (.func C) #[] #[]] g5 = some (v6, g6) := by rw [hwj]; exact e6
            have E := E.right (K 0).ord S6 j1 j2 hvb hu p1 p2 Z6
            have S := S.trans (S6.mono (by omega) hvb)
            refine ok_go 2 ?_
            refine sy_call 0 (by kernel_rfl) e6 ?_
            refine ok_go 0 ?_
            exact sy_next 0 _ g6 (by kernel_rfl) (by kernel_rfl) (ih (u, j, IntKind.wrap .i64 (z - 1), decide (IntKind.wrap .i64 (Int.ofNat (u + n) - Int.ofNat j) ≥ IntKind.wrap .i64 ((IntKind.wrap .i64 (Int.ofNat (u + n) - Int.ofNat u)).tdiv 8)), r, f6) _ g6 ⟨by dsimp only; omega, by dsimp only; omega, by dsimp only; omega, W, S, E⟩ (by dsimp only; omega) ⟨by kernel_rfl, by kernel_rfl, by kernel_rfl, by kernel_rfl, by kernel_rfl, by kernel_rfl, by kernel_rfl, trivial⟩)
    | true =>
      obtain ⟨_, g3, e3, x, t, rfl, ht, ⟨x1, x2⟩, W⟩ := pivot_of (K (k + 2)) (K (k + 3)) hN c f1 hVC u n hn (by omega) g W
      refine ok_go 2 ?_
      refine sy_call 0 (by kernel_rfl) e3 ?_
      have hX1 : Int.ofNat x = Int.ofNat x := rfl
      obtain rfl | rfl | rfl : t = 0 ∨ t = 1 ∨ t = 2 := by omega
      · clear e3
        cases wp with
        | true =>
          refine ok_go 12 ?_
          refine sy_test 0 (decide (Int.ofNat u > 0)) (by kernel_rfl) ?_ ?_
          · intro h0
            have h0 : 0 < u := ok_nat (a := 0) h0
            have hwu : IntKind.wrap .i64 (Int.ofNat u - 1) = Int.ofNat (u - 1) := wrap_sub (b := 1) (by omega) (by omega)
            obtain ⟨z4, ec4, hz4⟩ := (K (k + 6)).cmp f1 g3 _ _ W (hVC (u - 1) (by omega)) (hVC (x) (by omega))
            refine ok_go 5 ?_
            refine sy_load 0 (r := indexAddrOp Tryd.prog 31 SL (I (IntKind.wrap .i64 (Int.ofNat u - 1)))) (h' := g3) (v := ptr q (u - 1)) (by kernel_rfl) (by rw [hwu]; exact idxS0 (e := 32) (by kernel_rfl) (by kernel_rfl) (by omega)) ?_
            refine ok_go 1 ?_
            refine ow_loadF (P := Tryd.prog) (T := 32) (off := u - 1) 0 0 W rfl (by omega) (by kernel_rfl) (by kernel_rfl) ?_
            refine ok_go 3 ?_
            refine sy_load 0 (r := indexAddrOp Tryd.prog 31 SL (I (Int.ofNat x))) (h' := g3) (v := ptr q (x)) (by kernel_rfl) (by rw [hX1]; exact idxS0 (e := 32) (by kernel_rfl) (by kernel_rfl) (by omega)) ?_
            refine ok_go 1 ?_
            refine ow_loadF (P := Tryd.prog) (T := 32) (off := x) 0 0 W rfl (by omega) (by kernel_rfl) (by kernel_rfl) ?_
            refine ok_go 1 ?_
            refine sy_call 0 (by kernel_rfl) ec4 ?_
            refine ok_go 5 ?_
            refine sy_test 0 (!decide (z4 < 0)) (by kernel_rfl) ?_ ?_
            · intro ht
              have hnl : ¬ lt (f1 (u - 1)) (f1 (x)) := fun h => by rw [decide_eq_true (hz4.2 h)] at ht; cases ht
              obtain ⟨_, g5, e5, f5, i, rfl, W, S5, i1, i2, _, p1, p2⟩ := peq_of hlf (K (k + 5)) hN c f1 hVC u (u + n) (x) (by omega) (by omega) (by omega) (by omega) g3 W
              have e5 : Ev lf (m + k + 6) 97 [SL, J u, J (u + n), I (Int.ofNat x), .func (.func C) #[] #[]] g3 = some (J i, g5) := by rw [hX1]; exact e5
              have S := S.trans (S5.mono hu hvb)
              have E := E.sw S5 hu hvb
              have hlo := (E.low (S.low hlow) hu hvb).resolve_left (by omega)
              have E := E.equal (K 0).ord hvb hu hlo (by rw [S5.out (x := u - 1) (.inl (by omega))]; exact hnl) p1 p2
              refine ok_go 0 ?_
              refine sy_call 0 (by kernel_rfl) e5 ?_
              refine ok_go 0 ?_
              exact sy_next 0 _ g5 (by kernel_rfl) (by kernel_rfl) (ih (i, u + n, z, true, true, f5) _ g5 ⟨by dsimp only; omega, by dsimp only; omega, by dsimp only; omega, W, S, E⟩ (by dsimp only; omega) ⟨by kernel_rfl, by kernel_rfl, by kernel_rfl, by kernel_rfl, by kernel_rfl, by kernel_rfl, by kernel_rfl, trivial⟩)
            · intro ht
              clear ec4 hz4 ht
              obtain ⟨_, g5, e5, f5, j, r, rfl, W, S5, j1, j2, hjP, p1, p2⟩ := part_of hlf (K (k + 5)) hN c f1 hVC u (u + n) (x) (by omega) (by omega) (by omega) (by omega) g3 W
              rw [← hjP] at p1 p2
              have e5 : Ev lf (m + k + 6) 98 [SL, J u, J (u + n), I (Int.ofNat x), .func (.func C) #[] #[]] g3 = some (.tuple #[J j, .bool r], g5) := by rw [hX1]; exact e5
              have S := S.trans (S5.mono hu hvb)
              have E := E.sw S5 hu hvb
              have hV5 := S.every hb hV
              have t18 : IntKind.wrap .i64 (Int.ofNat j - Int.ofNat u) = Int.ofNat (j - u) := wrap_sub (by omega) (by omega)
              have t19 : IntKind.wrap .i64 (Int.ofNat (u + n) - Int.ofNat j) = Int.ofNat (u + n - j) := wrap_sub (by omega) (by omega)
              refine ok_go 0 ?_
              refine sy_call 0 (by kernel_rfl) e5 ?_
              refine ok_go 6 ?_
              refine sy_test 0 (decide (IntKind.wrap .i64 (Int.ofNat j - Int.ofNat u) < IntKind.wrap .i64 (Int.ofNat (u + n) - Int.ofNat j))) (by kernel_rfl) ?_ ?_
              · intro hl
                have hl : j - u < u + n - j := by rw [t18, t19] at hl; exact ok_nat hl
                have hlo : u = 0 ∨ ∀ k, u ≤ k → k < j → ¬ lt (f5 k) (f5 (u - 1)) := (E.low (S.low hlow) hu hvb).imp id fun h k k1 k2 => h k k1 (by omega)
                obtain ⟨_, g6, e6, f6, W, S6, Z6⟩ := ihk u j (z) f5 hV5 (by omega) (by omega) (by omega) hlo g5 W
                have E := E.left (K 0).ord S6 j1 j2 hvb hu p1 p2 Z6
                have S := S.trans (S6.mono hu (by omega))
                have hwj : IntKind.wrap .i64 (Int.ofNat (j + 1)) = Int.ofNat (j + 1) := wrap_nat (by omega)
                refine ok_go 1 ?_
                refine sy_call 0 (by kernel_rfl) e6 ?_
                refine ok_go 1 ?_
                exact sy_next 0 _ g6 (by kernel_rfl) (by kernel_rfl) (ih (j + 1, u + n, z, decide (IntKind.wrap .i64 (Int.ofNat j - Int.ofNat u) ≥ IntKind.wrap .i64 ((IntKind.wrap .i64 (Int.ofNat (u + n) - Int.ofNat u)).tdiv 8)), r, f6) _ g6 ⟨by dsimp only; omega, by dsimp only; omega, by dsimp only; omega, W, S, E⟩ (by dsimp only; omega) ⟨by kernel_rfl, (by kernel_rfl : _ = Value.int .i64 (IntKind.wrap .i64 (Int.ofNat (j + 1)))).trans (by rw [hwj]), by kernel_rfl, by kernel_rfl, by kernel_rfl, by kernel_rfl, by kernel_rfl, trivial⟩)
              · intro hl
                have hl : u + n - j ≤ j - u := by rw [t18, t19] at hl; exact no_nat hl
                have hwj : IntKind.wrap .i64 (Int.ofNat (j + 1)) = Int.ofNat (j + 1) := wrap_nat (by omega)
                have hlo : j + 1 = 0 ∨ ∀ k, j + 1 ≤ k → k < u + n → ¬ lt (f5 k) (f5 (j + 1 - 1)) := .inr fun k k1 k2 => p2 k (by omega) k2
                obtain ⟨v6, g6, e6, f6, W, S6, Z6⟩ := ihk (j + 1) (u + n) (z) f5 hV5 (by omega) (by omega) (by omega) hlo g5 W
                have e6 : Ev lf (m + k + 6) 68 [SL, I (IntKind.wrap .i64 (Int.ofNat (j + 1))), J (u + n), I (z), .func (.func C) #[] #[]] g5 = some (v6, g6) := by rw [hwj]; exact e6
                have E := E.right (K 0).ord S6 j1 j2 hvb hu p1 p2 Z6
                have S := S.trans (S6.mono (by omega) hvb)
                refine ok_go 2 ?_
                refine sy_call 0 (by kernel_rfl) e6 ?_
                refine ok_go 0 ?_
                exact sy_next 0 _ g6 (by kernel_rfl) (by kernel_rfl) (ih (u, j, z, decide (IntKind.wrap .i64 (Int.ofNat (u + n) - Int.ofNat j) ≥ IntKind.wrap .i64 ((IntKind.wrap .i64 (Int.ofNat (u + n) - Int.ofNat u)).tdiv 8)), r, f6) _ g6 ⟨by dsimp only; omega, by dsimp only; omega, by dsimp only; omega, W, S, E⟩ (by dsimp only; omega) ⟨by kernel_rfl, by kernel_rfl, by kernel_rfl, by kernel_rfl, by kernel_rfl, by kernel_rfl, by kernel_rfl, trivial⟩)
          · intro h0
            obtain ⟨_, g5, e5, f5, j, r, rfl, W, S5, j1, j2, hjP, p1, p2⟩ := part_of hlf (K (k + 5)) hN c f1 hVC u (u + n) (x) (by omega) (by omega) (by omega) (by omega) g3 W
            rw [← hjP] at p1 p2
            have e5 : Ev lf (m + k + 6) 98 [SL, J u, J (u + n), I (Int.ofNat x), .func (.func C) #[] #[]] g3 = some (.tuple #[J j, .bool r], g5) := by rw [hX1]; exact e5
            have S := S.trans (S5.mono hu hvb)
            have E := E.sw S5 hu hvb
            have hV5 := S.every hb hV
            have t18 : IntKind.wrap .i64 (Int.ofNat j - Int.ofNat u) = Int.ofNat (j - u) := wrap_sub (by omega) (by omega)
            have t19 : IntKind.wrap .i64 (Int.ofNat (u + n) - Int.ofNat j) = Int.ofNat (u + n - j) := wrap_sub (by omega) (by omega)
            refine ok_go 14 ?_
            refine sy_call 0 (by kernel_rfl) e5 ?_
            refine ok_go 6 ?_
            refine sy_test 0 (decide (IntKind.wrap .i64 (Int.ofNat j - Int.ofNat u) < IntKind.wrap .i64 (Int.ofNat (u + n) - Int.ofNat j))) (by kernel_rfl) ?_ ?_
            · intro hl
              have hl : j - u < u + n - j := by rw [t18, t19] at hl; exact ok_nat hl
              have hlo : u = 0 ∨ ∀ k, u ≤ k → k < j → ¬ lt (f5 k) (f5 (u - 1)) := (E.low (S.low hlow) hu hvb).imp id fun h k k1 k2 => h k k1 (by omega)
              obtain ⟨_, g6, e6, f6, W, S6, Z6⟩ := ihk u j (z) f5 hV5 (by omega) (by omega) (by omega) hlo g5 W
              have E := E.left (K 0).ord S6 j1 j2 hvb hu p1 p2 Z6
              have S := S.trans (S6.mono hu (by omega))
              have hwj : IntKind.wrap .i64 (Int.ofNat (j + 1)) = Int.ofNat (j + 1) := wrap_nat (by omega)
              refine ok_go 1 ?_
              refine sy_call 0 (by kernel_rfl) e6 ?_
              refine ok_go 1 ?_
              exact sy_next 0 _ g6 (by kernel_rfl) (by kernel_rfl) (ih (j + 1, u + n, z, decide (IntKind.wrap .i64 (Int.ofNat j - Int.ofNat u) ≥ IntKind.wrap .i64 ((IntKind.wrap .i64 (Int.ofNat (u + n) - Int.ofNat u)).tdiv 8)), r, f6) _ g6 ⟨by dsimp only; omega, by dsimp only; omega, by dsimp only; omega, W, S, E⟩ (by dsimp only; omega) ⟨by kernel_rfl, (by kernel_rfl : _ = Value.int .i64 (IntKind.wrap .i64 (Int.ofNat (j + 1)))).trans (by rw [hwj]), by kernel_rfl, by kernel_rfl, by kernel_rfl, by kernel_rfl, by kernel_rfl, trivial⟩)
            · intro hl
              have hl : u + n - j ≤ j - u := by rw [t18, t19] at hl; exact no_nat hl
              have hwj : IntKind.wrap .i64 (Int.ofNat (j + 1)) = Int.ofNat (j + 1) := wrap_nat (by omega)
              have hlo : j + 1 = 0 ∨ ∀ k, j + 1 ≤ k → k < u + n → ¬ lt (f5 k) (f5 (j + 1 - 1)) := .inr fun k k1 k2 => p2 k (by omega) k2
              obtain ⟨v6, g6, e6, f6, W, S6, Z6⟩ := ihk (j + 1) (u + n) (z) f5 hV5 (by omega) (by omega) (by omega) hlo g5 W
              have e6 : Ev lf (m + k + 6) 68 [SL, I (IntKind.wrap .i64 (Int.ofNat (j + 1))), J (u + n), I (z), .func (.func C) #[] #[]] g5 = some (v6, g6) := by rw [hwj]; exact e6
              have E := E.right (K 0).ord S6 j1 j2 hvb hu p1 p2 Z6
              have S := S.trans (S6.mono (by omega) hvb)
              refine ok_go 2 ?_
              refine sy_call 0 (by kernel_rfl) e6 ?_
              refine ok_go 0 ?_
              exact sy_next 0 _ g6 (by kernel_rfl) (by kernel_rfl) (ih (u, j, z, decide (IntKind.wrap .i64 (Int.ofNat (u + n) - Int.ofNat j) ≥ IntKind.wrap .i64 ((IntKind.wrap .i64 (Int.ofNat (u + n) - Int.ofNat u)).tdiv 8)), r, f6) _ g6 ⟨by dsimp only; omega, by dsimp only; omega, by dsimp only; omega, W, S, E⟩ (by dsimp only; omega) ⟨by kernel_rfl, by kernel_rfl, by kernel_rfl, by kernel_rfl, by kernel_rfl, by kernel_rfl, by kernel_rfl, trivial⟩)
        | false =>
          refine ok_go 11 ?_
          refine sy_test 0 (decide (Int.ofNat u > 0)) (by kernel_rfl) ?_ ?_
          · intro h0
            have h0 : 0 < u := ok_nat (a := 0) h0
            have hwu : IntKind.wrap .i64 (Int.ofNat u - 1) = Int.ofNat (u - 1) := wrap_sub (b := 1) (by omega) (by omega)
            obtain ⟨z4, ec4, hz4⟩ := (K (k + 6)).cmp f1 g3 _ _ W (hVC (u - 1) (by omega)) (hVC (x) (by omega))
            refine ok_go 5 ?_
            refine sy_load 0 (r := indexAddrOp Tryd.prog 31 SL (I (IntKind.wrap .i64 (Int.ofNat u - 1)))) (h' := g3) (v := ptr q (u - 1)) (by kernel_rfl) (by rw [hwu]; exact idxS0 (e := 32) (by kernel_rfl) (by kernel_rfl) (by omega)) ?_
            refine ok_go 1 ?_
            refine ow_loadF (P := Tryd.prog) (T := 32) (off := u - 1) 0 0 W rfl (by omega) (by kernel_rfl) (by kernel_rfl) ?_
            refine ok_go 3 ?_
            refine sy_load 0 (r := indexAddrOp Tryd.prog 31 SL (I (Int.ofNat x))) (h' := g3) (v := ptr q (x)) (by kernel_rfl) (by rw [hX1]; exact idxS0 (e := 32) (by kernel_rfl) (by kernel_rfl) (by omega)) ?_
            refine ok_go 1 ?_
            refine ow_loadF (P := Tryd.prog) (T := 32) (off := x) 0 0 W rfl (by omega) (by kernel_rfl) (by kernel_rfl) ?_
            refine ok_go 1 ?_
            refine sy_call 0 (by kernel_rfl) ec4 ?_
            refine ok_go 5 ?_
            refine sy_test 0 (!decide (z4 < 0)) (by kernel_rfl) ?_ ?_
            · intro ht
              have hnl : ¬ lt (f1 (u - 1)) (f1 (x)) := fun h => by rw [decide_eq_true (hz4.2 h)] at ht; cases ht
              obtain ⟨_, g5, e5, f5, i, rfl, W, S5, i1, i2, _, p1, p2⟩ := peq_of hlf (K (k + 5)) hN c f1 hVC u (u + n) (x) (by omega) (by omega) (by omega) (by omega) g3 W
              have e5 : Ev lf (m + k + 6) 97 [SL, J u, J (u + n), I (Int.ofNat x), .func (.func C) #[] #[]] g3 = some (J i, g5) := by rw [hX1]; exact e5
              have S := S.trans (S5.mono hu hvb)
              have E := E.sw S5 hu hvb
              have hlo := (E.low (S.low hlow) hu hvb).resolve_left (by omega)
              have E := E.equal (K 0).ord hvb hu hlo (by rw [S5.out (x := u - 1) (.inl (by omega))]; exact hnl) p1 p2
              refine ok_go 0 ?_
              refine sy_call 0 (by kernel_rfl) e5 ?_
              refine ok_go 0 ?_
              exact sy_next 0 _ g5 (by kernel_rfl) (by kernel_rfl) (ih (i, u + n, z, true, false, f5) _ g5 ⟨by dsimp only; omega, by dsimp only; omega, by dsimp only; omega, W, S, E⟩ (by dsimp only; omega) ⟨by kernel_rfl, by kernel_rfl, by kernel_rfl, by kernel_rfl, by kernel_rfl, by kernel_rfl, by kernel_rfl, trivial⟩)
            · intro ht
              clear ec4 hz4 ht
              obtain ⟨_, g5, e5, f5, j, r, rfl, W, S5, j1, j2, hjP, p1, p2⟩ := part_of hlf (K (k + 5)) hN c f1 hVC u (u + n) (x) (by omega) (by omega) (by omega) (by omega) g3 W
              rw [← hjP] at p1 p2
              have e5 : Ev lf (m + k + 6) 98 [SL, J u, J (u + n), I (Int.ofNat x), .func (.func C) #[] #[]] g3 = some (.tuple #[J j, .bool r], g5) := by rw [hX1]; exact e5
              have S := S.trans (S5.mono hu hvb)
              have E := E.sw S5 hu hvb
              have hV5 := S.every hb hV
              have t18 : IntKind.wrap .i64 (Int.ofNat j - Int.ofNat u) = Int.ofNat (j - u) := wrap_sub (by omega) (by omega)
              have t19 : IntKind.wrap .i64 (Int.ofNat (u + n) - Int.ofNat j) = Int.ofNat (u + n - j) := wrap_sub (by omega) (by omega)
              refine ok_go 0 ?_
              refine sy_call 0 (by kernel_rfl) e5 ?_
              refine ok_go 6 ?_
              refine sy_test 0 (decide (IntKind.wrap .i64 (Int.ofNat j - Int.ofNat u) < IntKind.wrap .i64 (Int.ofNat (u + n) - Int.ofNat j))) (by kernel_rfl) ?_ ?_
              · intro hl
                have hl : j - u < u + n - j := by rw [t18, t19] at hl; exact ok_nat hl
                have hlo : u = 0 ∨ ∀ k, u ≤ k → k < j → ¬ lt (f5 k) (f5 (u - 1)) := (E.low (S.low hlow) hu hvb).imp id fun h k k1 k2 => h k k1 (by omega)
                obtain ⟨_, g6, e6, f6, W, S6, Z6⟩ := ihk u j (z) f5 hV5 (by omega) (by omega) (by omega) hlo g5 W
                have E := E.left (K 0).ord S6 j1 j2 hvb hu p1 p2 Z6
                have S := S.trans (S6.mono hu (by omega))
                have hwj : IntKind.wrap .i64 (Int.ofNat (j + 1)) = Int.ofNat (j + 1) := wrap_nat (by omega)
                refine ok_go 1 ?_
                refine sy_call 0 (by kernel_rfl) e6 ?_
                refine ok_go 1 ?_
                exact sy_next 0 _ g6 (by kernel_rfl) (by kernel_rfl) (ih (j + 1, u + n, z, decide (IntKind.wrap .i64 (Int.ofNat j - Int.ofNat u) ≥ IntKind.wrap .i64 ((IntKind.wrap .i64 (Int.ofNat (u + n) - Int.ofNat u)).tdiv 8)), r, f6) _ g6 ⟨by dsimp only; omega, by dsimp only; omega, by dsimp only; omega, W, S, E⟩ (by dsimp only; omega) ⟨by kernel_rfl, (by kernel_rfl : _ = Value.int .i64 (IntKind.wrap .i64 (Int.ofNat (j + 1)))).trans (by rw [hwj]), by kernel_rfl, by kernel_rfl, by kernel_rfl, by kernel_rfl, by kernel_rfl, trivial⟩)
              · intro hl
                have hl : u + n - j ≤ j - u := by rw [t18, t19] at hl; exact no_nat hl
                have hwj : IntKind.wrap .i64 (Int.ofNat (j + 1)) = Int.ofNat (j + 1) := wrap_nat (by omega)
                have hlo : j + 1 = 0 ∨ ∀ k, j + 1 ≤ k → k < u + n → ¬ lt (f5 k) (f5 (j + 1 - 1)) := .inr fun k k1 k2 => p2 k (by omega) k2
                obtain ⟨v6, g6, e6, f6, W, S6, Z6⟩ := ihk (j + 1) (u + n) (z) f5 hV5 (by omega) (by omega) (by omega) hlo g5 W
                have e6 : Ev lf (m + k + 6) 68 [SL, I (IntKind.wrap .i64 (Int.ofNat (j + 1))), J (u + n), I (z), .func (.func C) #[] #[]] g5 = some (v6, g6) := by rw [hwj]; exact e6
                have E := E.right (K 0).ord S6 j1 j2 hvb hu p1 p2 Z6
                have S := S.trans (S6.mono (by omega) hvb)
                refine ok_go 2 ?_
                refine sy_call 0 (by kernel_rfl) e6 ?_
                refine ok_go 0 ?_
                exact sy_next 0 _ g6 (by kernel_rfl) (by kernel_rfl) (ih (u, j, z, decide (IntKind.wrap .i64 (Int.ofNat (u + n) - Int.ofNat j) ≥ IntKind.wrap .i64 ((IntKind.wrap .i64 (Int.ofNat (u + n) - Int.ofNat u)).tdiv 8)), r, f6) _ g6 ⟨by dsimp only; omega, by dsimp only; omega, by dsimp only; omega, W, S, E⟩ (by dsimp only; omega) ⟨by kernel_rfl, by kernel_rfl, by kernel_rfl, by kernel_rfl, by kernel_rfl, by kernel_rfl, by kernel_rfl, trivial⟩)
          · intro h0
            obtain ⟨_, g5, e5, f5, j, r, rfl, W, S5, j1, j2, hjP, p1, p2⟩ := part_of hlf (K (k + 5)) hN c f1 hVC u (u + n) (x) (by omega) (by omega) (by omega) (by omega) g3 W
            rw [← hjP] at p1 p2
            have e5 : Ev lf (m + k + 6) 98 [SL, J u, J (u + n), I (Int.ofNat x), .func (.func C) #[] #[]] g3 = some (.tuple #[J j, .bool r], g5) := by rw [hX1]; exact e5
            have S := S.trans (S5.mono hu hvb)
            have E := E.sw S5 hu hvb
            have hV5 := S.every hb hV
            have t18 : IntKind.wrap .i64 (Int.ofNat j - Int.ofNat u) = Int.ofNat (j - u) := wrap_sub (by omega) (by omega)
            have t19 : IntKind.wrap .i64 (Int.ofNat (u + n) - Int.ofNat j) = Int.ofNat (u + n - j) := wrap_sub (by omega) (by omega)
            refine ok_go 14 ?_
            refine sy_call 0 (by kernel_rfl) e5 ?_
            refine ok_go 6 ?_
            refine sy_test 0 (decide (IntKind.wrap .i64 (Int.ofNat j - Int.ofNat u) < IntKind.wrap .i64 (Int.ofNat (u + n) - Int.ofNat j))) (by kernel_rfl) ?_ ?_
            · intro hl
              have hl : j - u < u + n - j := by rw [t18, t19] at hl; exact ok_nat hl
              have hlo : u = 0 ∨ ∀ k, u ≤ k → k < j → ¬ lt (f5 k) (f5 (u - 1)) := (E.low (S.low hlow) hu hvb).imp id fun h k k1 k2 => h k k1 (by omega)
              obtain ⟨_, g6, e6, f6, W, S6, Z6⟩ := ihk u j (z) f5 hV5 (by omega) (by omega) (by omega) hlo g5 W
              have E := E.left (K 0).ord S6 j1 j2 hvb hu p1 p2 Z6
              have S := S.trans (S6.mono hu (by omega))
              have hwj : IntKind.wrap .i64 (Int.ofNat (j + 1)) = Int.ofNat (j + 1) := wrap_nat (by omega)
              refine ok_go 1 ?_
              refine sy_call 0 (by kernel_rfl) e6 ?_
              refine ok_go 1 ?_
              exact sy_next 0 _ g6 (by kernel_rfl) (by kernel_rfl) (ih (j + 1, u + n, z, decide (IntKind.wrap .i64 (Int.ofNat j - Int.ofNat u) ≥ IntKind.wrap .i64 ((IntKind.wrap .i64 (Int.ofNat (u + n) - Int.ofNat u)).tdiv 8)), r, f6) _ g6 ⟨by dsimp only; omega, by dsimp only; omega, by dsimp only; omega, W, S, E⟩ (by dsimp only; omega) ⟨by kernel_rfl, (by kernel_rfl : _ = Value.int .i64 (IntKind.wrap .i64 (Int.ofNat (j + 1)))).trans (by rw [hwj]), by kernel_rfl, by kernel_rfl, by kernel_rfl, by kernel_rfl, by kernel_rfl, trivial⟩)
            · intro hl
              have hl : u + n - j ≤ j - u := by rw [t18, t19] at hl; exact no_nat hl
              have hwj : IntKind.wrap .i64 (Int.ofNat (j + 1)) = Int.ofNat (j + 1) := wrap_nat (by omega)
              have hlo : j + 1 = 0 ∨ ∀ k, j + 1 ≤ k → k < u + n → ¬ lt (f5 k) (f5 (j + 1 - 1)) := .inr fun k k1 k2 => p2 k (by omega) k2
              obtain ⟨v6, g6, e6, f6, W, S6, Z6⟩ := ihk (j + 1) (u + n) (z) f5 hV5 (by omega) (by omega) (by omega) hlo g5 W
              have e6 : Ev lf (m + k + 6) 68 [SL, I (IntKind.wrap .i64 (Int.ofNat (j + 1))), J (u + n), I (z), .func (.func C) #[] #[]] g5 = some (v6, g6) := by rw [hwj]; exact e6
              have E := E.right (K 0).ord S6 j1 j2 hvb hu p1 p2 Z6
              have S := S.trans (S6.mono (by omega) hvb)
              refine ok_go 2 ?_
              refine sy_call 0 (by kernel_rfl) e6 ?_
              refine ok_go 0 ?_
              exact sy_next 0 _ g6 (by kernel_rfl) (by kernel_rfl) (ih (u, j, z, decide (IntKind.wrap .i64 (Int.ofNat (u + n) - Int.ofNat j) ≥ IntKind.wrap .i64 ((IntKind.wrap .i64 (Int.ofNat (u + n) - Int.ofNat u)).tdiv 8)), r, f6) _ g6 ⟨by dsimp only; omega, by dsimp only; omega, by dsimp only; omega, W, S, E⟩ (by dsimp only; omega) ⟨by kernel_rfl, by kernel_rfl, by kernel_rfl, by kernel_rfl, by kernel_rfl, by kernel_rfl, by kernel_rfl, trivial⟩)
      · clear e3
        cases wp with
        | true =>
          obtain ⟨_, g4, e4, f4, r, rfl, W, S4, Z4⟩ := pins_of hlf (K (k + 5)) hN c f1 hVC u (u + n) (by omega) (by omega) (E.low (S.low hlow) hu hvb) g3 W
          have S := S.trans (S4.mono hu hvb)
          have E := E.sw S4 hu hvb
          refine ok_go 11 ?_
          refine sy_call 0 (by kernel_rfl) e4 ?_
          cases r with
          | true =>
            refine sy_done 1 (v := Value.tuple { toList := [] }) (h := g4) (by kernel_rfl) ?_
            exact ⟨f4, W, S, E.fin (Z4 rfl)⟩
          | false =>
            have hVC := S.every hb hV
            clear Z4 e4
            refine ok_go 2 ?_
            refine sy_test 0 (decide (Int.ofNat u > 0)) (by kernel_rfl) ?_ ?_
            · intro h0
              have h0 : 0 < u := ok_nat (a := 0) h0
              have hwu : IntKind.wrap .i64 (Int.ofNat u - 1) = Int.ofNat (u - 1) := wrap_sub (b := 1) (by omega) (by omega)
              obtain ⟨z4, ec4, hz4⟩ := (K (k + 6)).cmp f4 g4 _ _ W (hVC (u - 1) (by omega)) (hVC (x) (by omega))
              refine ok_go 5 ?_
              refine sy_load 0 (r := indexAddrOp Tryd.prog 31 SL (I (IntKind.wrap .i64 (Int.ofNat u - 1)))) (h' := g4) (v := ptr q (u - 1)) (by kernel_rfl) (by rw [hwu]; exact idxS0 (e := 32) (by kernel_rfl) (by kernel_rfl) (by omega)) ?_
              refine ok_go 1 ?_
              refine ow_loadF (P := Tryd.prog) (T := 32) (off := u - 1) 0 0 W rfl (by omega) (by kernel_rfl) (by kernel_rfl) ?_
              refine ok_go 3 ?_
              refine sy_load 0 (r := indexAddrOp Tryd.prog 31 SL (I (Int.ofNat x))) (h' := g4) (v := ptr q (x)) (by kernel_rfl) (by rw [hX1]; exact idxS0 (e := 32) (by kernel_rfl) (by kernel_rfl) (by omega)) ?_
              refine ok_go 1 ?_
              refine ow_loadF (P := Tryd.prog) (T := 32) (off := x) 0 0 W rfl (by omega) (by kernel_rfl) (by kernel_rfl) ?_
              refine ok_go 1 ?_
              refine sy_call 0 (by kernel_rfl) ec4 ?_
              refine ok_go 5 ?_
              refine sy_test 0 (!decide (z4 < 0)) (by kernel_rfl) ?_ ?_
              · intro ht
                have hnl : ¬ lt (f4 (u - 1)) (f4 (x)) := fun h => by rw [decide_eq_true (hz4.2 h)] at ht; cases ht
                obtain ⟨_, g5, e5, f5, i, rfl, W, S5, i1, i2, _, p1, p2⟩ := peq_of hlf (K (k + 5)) hN c f4 hVC u (u + n) (x) (by omega) (by omega) (by omega) (by omega) g4 W
                have e5 : Ev lf (m + k + 6) 97 [SL, J u, J (u + n), I (Int.ofNat x), .func (.func C) #[] #[]] g4 = some (J i, g5) := by rw [hX1]; exact e5
                have S := S.trans (S5.mono hu hvb)
                have E := E.sw S5 hu hvb
                have hlo := (E.low (S.low hlow) hu hvb).resolve_left (by omega)
                have E := E.equal (K 0).ord hvb hu hlo (by rw [S5.out (x := u - 1) (.inl (by omega))]; exact hnl) p1 p2
                refine ok_go 0 ?_
                refine sy_call 0 (by kernel_rfl) e5 ?_
                refine ok_go 0 ?_
                exact sy_next 0 _ g5 (by kernel_rfl) (by kernel_rfl) (ih (i, u + n, z, true, true, f5) _ g5 ⟨by dsimp only; omega, by dsimp only; omega, by dsimp only; omega, W, S, E⟩ (by dsimp only; omega) ⟨by kernel_rfl, by kernel_rfl, by kernel_rfl, by kernel_rfl, by kernel_rfl, by kernel_rfl, by kernel_rfl, trivial⟩)
              · intro ht
                clear ec4 hz4 ht
                obtain ⟨_, g5, e5, f5, j, r, rfl, W, S5, j1, j2, hjP, p1, p2⟩ := part_of hlf (K (k + 5)) hN c f4 hVC u (u + n) (x) (by omega) (by omega) (by omega) (by omega) g4 W
                rw [← hjP] at p1 p2
                have e5 : Ev lf (m + k + 6) 98 [SL, J u, J (u + n), I (Int.ofNat x), .func (.func C) #[] #[]] g4 = some (.tuple #[J j, .bool r], g5) := by rw [hX1]; exact e5
                have S := S.trans (S5.mono hu hvb)
                have E := E.sw S5 hu hvb
                have hV5 := S.every hb hV
                have t18 : IntKind.wrap .i64 (Int.ofNat j - Int.ofNat u) = Int.ofNat (j - u) := wrap_sub (by omega) (by omega)
                have t19 : IntKind.wrap .i64 (Int.ofNat (u + n) - Int.ofNat j) = Int.ofNat (u + n - j) := wrap_sub (by omega) (by omega)
                refine ok_go 0 ?_
                refine sy_call 0 (by kernel_rfl) e5 ?_
                refine ok_go 6 ?_
                refine sy_test 0 (decide (IntKind.wrap .i64 (Int.ofNat j - Int.ofNat u) < IntKind.wrap .i64 (Int.ofNat (u + n) - Int.ofNat j))) (by kernel_rfl) ?_ ?_
                · intro hl
                  have hl : j - u < u + n - j := by rw [t18, t19] at hl; exact ok_nat hl
                  have hlo : u = 0 ∨ ∀ k, u ≤ k → k < j → ¬ lt (f5 k) (f5 (u - 1)) := (E.low (S.low hlow) hu hvb).imp id fun h k k1 k2 => h k k1 (by omega)
                  obtain ⟨_, g6, e6, f6, W, S6, Z6⟩ := ihk u j (z) f5 hV5 (by omega) (by omega) (by omega) hlo g5 W
                  have E := E.left (K 0).ord S6 j1 j2 hvb hu p1 p2 Z6
                  have S := S.trans (S6.mono hu (by omega))
                  have hwj : IntKind.wrap .i64 (Int.ofNat (j + 1)) = Int.ofNat (j + 1) := wrap_nat (by omega)
                  refine ok_go 1 ?_
                  refine sy_call 0 (by kernel_rfl) e6 ?_
                  refine ok_go 1 ?_
                  exact sy_next 0 _ g6 (by kernel_rfl) (by kernel_rfl) (ih (j + 1, u + n, z, decide (IntKind.wrap .i64 (Int.ofNat j - Int.ofNat u) ≥ IntKind.wrap .i64 ((IntKind.wrap .i64 (Int.ofNat (u + n) - Int.ofNat u)).tdiv 8)), r, f6) _ g6 ⟨by dsimp only; omega, by dsimp only; omega, by dsimp only; omega, W, S, E⟩ (by dsimp only; omega) ⟨by kernel_rfl, (by kernel_rfl : _ = Value.int .i64 (IntKind.wrap .i64 (Int.ofNat (j + 1)))).trans (by rw [hwj]), by kernel_rfl, by kernel_rfl, by kernel_rfl, by kernel_rfl, by kernel_rfl, trivial⟩)
                · intro hl
                  have hl : u + n - j ≤ j - u := by rw [t18, t19] at hl; exact no_nat hl
                  have hwj : IntKind.wrap .i64 (Int.ofNat (j + 1)) = Int.ofNat (j + 1) := wrap_nat (by omega)
                  have hlo : j + 1 = 0 ∨ ∀ k, j + 1 ≤ k → k < u + n → ¬ lt (f5 k) (f5 (j + 1 - 1)) := .inr fun k k1 k2 => p2 k (by omega) k2
                  obtain ⟨v6, g6, e6, f6, W, S6, Z6⟩ := ihk (j + 1) (u + n) (z) f5 hV5 (by omega) (by omega) (by omega) hlo g5 W
                  have e6 : Ev lf (m + k + 6) 68 [SL, I (IntKind.wrap .i64 (Int.ofNat (j + 1))), J (u + n), I (z), .func (.func C) #[] #[]] g5 = some (v6, g6) := by rw [hwj]; exact e6
                  have E := E.right (K 0).ord S6 j1 j2 hvb hu p1 p2 Z6
                  have S := S.trans (S6.mono (by omega) hvb)
                  refine ok_go 2 ?_
                  refine sy_call 0 (by kernel_rfl) e6 ?_
                  refine ok_go 0 ?_
                  exact sy_next 0 _ g6 (by kernel_rfl) (by kernel_rfl) (ih (u, j, z, decide (IntKind.wrap .i64 (Int.ofNat (u + n) - Int.ofNat j) ≥ IntKind.wrap .i64 ((IntKind.wrap .i64 (Int.ofNat (u + n) - Int.ofNat u)).tdiv 8)), r, f6) _ g6 ⟨by dsimp only; omega, by dsimp only; omega, by dsimp only; omega, W, S, E⟩ (by dsimp only; omega) ⟨by kernel_rfl, by kernel_rfl, by kernel_rfl, by kernel_rfl, by kernel_rfl, by kernel_rfl, by kernel_rfl, trivial⟩)
            · intro h0
              obtain ⟨_, g5, e5, f5, j, r, rfl, W, S5, j1, j2, hjP, p1, p2⟩ := part_of hlf (K (k + 5)) hN c f4 hVC u (u + n) (x) (by omega) (by omega) (by omega) (by omega) g4 W
              rw [← hjP] at p1 p2
              have e5 : Ev lf (m + k + 6) 98 [SL, J u, J (u + n), I (Int.ofNat x), .func (.func C) #[] #[]] g4 = some (.tuple #[J j, .bool r], g5) := by rw [hX1]; exact e5
              have S := S.trans (S5.mono hu hvb)
              have E := E.sw S5 hu hvb
              have hV5 := S.every hb hV
              have t18 : IntKind.wrap .i64 (Int.ofNat j - Int.ofNat u) = Int.ofNat (j - u) := wrap_sub (by omega) (by omega)
              have t19 : IntKind.wrap .i64 (Int.ofNat (u + n) - Int.ofNat j) = Int.ofNat (u + n - j) := wrap_sub (by omega) (by omega)
              refine ok_go 14 ?_
              refine sy_call 0 (by kernel_rfl) e5 ?_
              refine ok_go 6 ?_
              refine sy_test 0 (decide (IntKind.wrap .i64 (Int.ofNat j - Int.ofNat u) < IntKind.wrap .i64 (Int.ofNat (u + n) - Int.ofNat j))) (by kernel_rfl) ?_ ?_
              · intro hl
                have hl : j - u < u + n - j := by rw [t18, t19] at hl; exact ok_nat hl
                have hlo : u = 0 ∨ ∀ k, u ≤ k → k < j → ¬ lt (f5 k) (f5 (u - 1)) := (E.low (S.low hlow) hu hvb).imp id fun h k k1 k2 => h k k1 (by omega)
                obtain ⟨_, g6, e6, f6, W, S6, Z6⟩ := ihk u j (z) f5 hV5 (by omega) (by omega) (by omega) hlo g5 W
                have E := E.left (K 0).ord S6 j1 j2 hvb hu p1 p2 Z6
                have S := S.trans (S6.mono hu (by omega))
                have hwj : IntKind.wrap .i64 (Int.ofNat (j + 1)) = Int.ofNat (j + 1) := wrap_nat (by omega)
                refine ok_go 1 ?_
                refine sy_call 0 (by kernel_rfl) e6 ?_
                refine ok_go 1 ?_
                exact sy_next 0 _ g6 (by kernel_rfl) (by kernel_rfl) (ih (j + 1, u + n, z, decide (IntKind.wrap .i64 (Int.ofNat j - Int.ofNat u) ≥ IntKind.wrap .i64 ((IntKind.wrap .i64 (Int.ofNat (u + n) - Int.ofNat u)).tdiv 8)), r, f6) _ g6 ⟨by dsimp only; omega, by dsimp only; omega, by dsimp only; omega, W, S, E⟩ (by dsimp only; omega) ⟨by kernel_rfl, (by kernel_rfl : _ = Value.int .i64 (IntKind.wrap .i64 (Int.ofNat (j + 1)))).trans (by rw [hwj]), by kernel_rfl, by kernel_rfl, by kernel_rfl, by kernel_rfl, by kernel_rfl, trivial⟩)
              · intro hl
                have hl : u + n - j ≤ j - u := by rw [t18, t19] at hl; exact no_nat hl
                have hwj : IntKind.wrap .i64 (Int.ofNat (j + 1)) = Int.ofNat (j + 1) := wrap_nat (by omega)
                have hlo : j + 1 = 0 ∨ ∀ k, j + 1 ≤ k → k < u + n → ¬ lt (f5 k) (f5 (j + 1 - 1)) := .inr fun k k1 k2 => p2 k (by omega) k2
                obtain ⟨v6, g6, e6, f6, W, S6, Z6⟩ := ihk (j + 1) (u + n) (z) f5 hV5 (by omega) (by omega) (by omega) hlo g5 W
                have e6 : Ev lf (m + k + 6) 68 [SL, I (IntKind.wrap .i64 (Int.ofNat (j + 1))), J (u + n), I (z), .func (.func C) #[] #[]] g5 = some (v6, g6) := by rw [hwj]; exact e6
                have E := E.right (K 0).ord S6 j1 j2 hvb hu p1 p2 Z6
                have S := S.trans (S6.mono (by omega) hvb)
                refine ok_go 2 ?_
                refine sy_call 0 (by kernel_rfl) e6 ?_
                refine ok_go 0 ?_
                exact sy_next 0 _ g6 (by kernel_rfl) (by kernel_rfl) (ih (u, j, z, decide (IntKind.wrap .i64 (Int.ofNat (u + n) - Int.ofNat j) ≥ IntKind.wrap .i64 ((IntKind.wrap .i64 (Int.ofNat (u + n) - Int.ofNat u)).tdiv 8)), r, f6) _ g6 ⟨by dsimp only; omega, by dsimp only; omega, by dsimp only; omega, W, S, E⟩ (by dsimp only; omega) ⟨by kernel_rfl, by kernel_rfl, by kernel_rfl, by kernel_rfl, by kernel_rfl, by kernel_rfl, by kernel_rfl, trivial⟩)
        | false =>
          refine ok_go 11 ?_
          refine sy_test 0 (decide (Int.ofNat u > 0)) (by kernel_rfl) ?_ ?_
          · intro h0
            have h0 : 0 < u := ok_nat (a := 0) h0
            have hwu : IntKind.wrap .i64 (Int.ofNat u - 1) = Int.ofNat (u - 1) := wrap_sub (b := 1) (by omega) (by omega)
            obtain ⟨z4, ec4, hz4⟩ := (K (k + 6)).cmp f1 g3 _ _ W (hVC (u - 1) (by omega)) (hVC (x) (by omega))
            refine ok_go 5 ?_
            refine sy_load 0 (r := indexAddrOp Tryd.prog 31 SL (I (IntKind.wrap .i64 (Int.ofNat u - 1)))) (h' := g3) (v := ptr q (u - 1)) (by kernel_rfl) (by rw [hwu]; exact idxS0 (e := 32) (by kernel_rfl) (by kernel_rfl) (by omega)) ?_
            refine ok_go 1 ?_
            refine ow_loadF (P := Tryd.prog) (T := 32) (off := u - 1) 0 0 W rfl (by omega) (by kernel_rfl) (by kernel_rfl) ?_
            refine ok_go 3 ?_
            refine sy_load 0 (r := indexAddrOp Tryd.prog 31 SL (I (Int.ofNat x))) (h' := g3) (v := ptr q (x)) (by kernel_rfl) (by rw [hX1]; exact idxS0 (e := 32) (by kernel_rfl) (by kernel_rfl) (by omega)) ?_
            refine ok_go 1 ?_
            refine ow_loadF (P := Tryd.prog) (T := 32) (off := x) 0 0 W rfl (by omega) (by kernel_rfl) (by kernel_rfl) ?_
            refine ok_go 1 ?_
            refine sy_call 0 (by kernel_rfl) ec4 ?_
            refine ok_go 5 ?_
            refine sy_test 0 (!decide (z4 < 0)) (by kernel_rfl) ?_ ?_
            · intro ht
              have hnl : ¬ lt (f1 (u - 1)) (f1 (x)) := fun h => by rw [decide_eq_true (hz4.2 h)] at ht; cases ht
              obtain ⟨_, g5, e5, f5, i, rfl, W, S5, i1, i2, _, p1, p2⟩ := peq_of hlf (K (k + 5)) hN c f1 hVC u (u + n) (x) (by omega) (by omega) (by omega) (by omega) g3 W
              have e5 : Ev lf (m + k + 6) 97 [SL, J u, J (u + n), I (Int.ofNat x), .func (.func C) #[] #[]] g3 = some (J i, g5) := by rw [hX1]; exact e5
              have S := S.trans (S5.mono hu hvb)
              have E := E.sw S5 hu hvb
              have hlo := (E.low (S.low hlow) hu hvb).resolve_left (by omega)
              have E := E.equal (K 0).ord hvb hu hlo (by rw [S5.out (x := u - 1) (.inl (by omega))]; exact hnl) p1 p2
              refine ok_go 0 ?_
              refine sy_call 0 (by kernel_rfl) e5 ?_
              refine ok_go 0 ?_
              exact sy_next 0 _ g5 (by kernel_rfl) (by kernel_rfl) (ih (i, u + n, z, true, false, f5) _ g5 ⟨by dsimp only; omega, by dsimp only; omega, by dsimp only; omega, W, S, E⟩ (by dsimp only; omega) ⟨by kernel_rfl, by kernel_rfl, by kernel_rfl, by kernel_rfl, by kernel_rfl, by kernel_rfl, by kernel_rfl, trivial⟩)
            · intro ht
              clear ec4 hz4 ht
              obtain ⟨_, g5, e5, f5, j, r, rfl, W, S5, j1, j2, hjP, p1, p2⟩ := part_of hlf (K (k + 5)) hN c f1 hVC u (u + n) (x) (by omega) (by omega) (by omega) (by omega) g3 W
              rw [← hjP] at p1 p2
              have e5 : Ev lf (m + k + 6) 98 [SL, J u, J (u + n), I (Int.ofNat x), .func (.func C) #[] #[]] g3 = some (.tuple #[J j, .bool r], g5) := by rw [hX1]; exact e5
              have S := S.trans (S5.mono hu hvb)
              have E := E.sw S5 hu hvb
              have hV5 := S.every hb hV
              have t18 : IntKind.wrap .i64 (Int.ofNat j - Int.ofNat u) = Int.ofNat (j - u) := wrap_sub (by omega) (by omega)
              have t19 : IntKind.wrap .i64 (Int.ofNat (u + n) - Int.ofNat j) = Int.ofNat (u + n - j) := wrap_sub (by omega) (by omega)
              refine ok_go 0 ?_
              refine sy_call 0 (by kernel_rfl) e5 ?_
              refine ok_go 6 ?_
              refine sy_test 0 (decide (IntKind.wrap .i64 (Int.ofNat j - Int.ofNat u) < IntKind.wrap .i64 (Int.ofNat (u + n) - Int.ofNat j))) (by kernel_rfl) ?_ ?_
              · intro hl
                have hl : j - u < u + n - j := by rw [t18, t19] at hl; exact ok_nat hl
                have hlo : u = 0 ∨ ∀ k, u ≤ k → k < j → ¬ lt (f5 k) (f5 (u - 1)) := (E.low (S.low hlow) hu hvb).imp id fun h k k1 k2 => h k k1 (by omega)
                obtain ⟨_, g6, e6, f6, W, S6, Z6⟩ := ihk u j (z) f5 hV5 (by omega) (by omega) (by omega) hlo g5 W
                have E := E.left (K 0).ord S6 j1 j2 hvb hu p1 p2 Z6
                have S := S.trans (S6.mono hu (by omega))
                have hwj : IntKind.wrap .i64 (Int.ofNat (j + 1)) = Int.ofNat (j + 1) := wrap_nat (by omega)
                refine ok_go 1 ?_
                refine sy_call 0 (by kernel_rfl) e6 ?_
                refine ok_go 1 ?_
                exact sy_next 0 _ g6 (by kernel_rfl) (by kernel_rfl) (ih (j + 1, u + n, z, decide (IntKind.wrap .i64 (Int.ofNat j - Int.ofNat u) ≥ IntKind.wrap .i64 ((IntKind.wrap .i64 (Int.ofNat (u + n) - Int.ofNat u)).tdiv 8)), r, f6) _ g6 ⟨by dsimp only; omega, by dsimp only; omega, by dsimp only; omega, W, S, E⟩ (by dsimp only; omega) ⟨by kernel_rfl, (by kernel_rfl : _ = Value.int .i64 (IntKind.wrap .i64 (Int.ofNat (j + 1)))).trans (by rw [hwj]), by kernel_rfl, by kernel_rfl, by kernel_rfl, by kernel_rfl, by kernel_rfl, trivial⟩)
              · intro hl
                have hl : u + n - j ≤ j - u := by rw [t18, t19] at hl; exact no_nat hl
                have hwj : IntKind.wrap .i64 (Int.ofNat (j + 1)) = Int.ofNat (j + 1) := wrap_nat (by omega)
                have hlo : j + 1 = 0 ∨ ∀ k, j + 1 ≤ k → k < u + n → ¬ lt (f5 k) (f5 (j + 1 - 1)) := .inr fun k k1 k2 => p2 k (by omega) k2
                obtain ⟨v6, g6, e6, f6, W, S6, Z6⟩ := ihk (j + 1) (u + n) (z) f5 hV5 (by omega) (by omega) (by omega) hlo g5 W
                have e6 : Ev lf (m + k + 6) 68 [SL, I (IntKind.wrap .i64 (Int.ofNat (j + 1))), J (u + n), I (z), .func (.func C) #[] #[]] g5 = some (v6, g6) := by rw [hwj]; exact e6
                have E := E.right (K 0).ord S6 j1 j2 hvb hu p1 p2 Z6
                have S := S.trans (S6.mono (by omega) hvb)
                refine ok_go 2 ?_
                refine sy_call 0 (by kernel_rfl) e6 ?_
                refine ok_go 0 ?_
                exact sy_next 0 _ g6 (by kernel_rfl) (by kernel_rfl) (ih (u, j, z, decide (IntKind.wrap .i64 (Int.ofNat (u + n) - Int.ofNat j) ≥ IntKind.wrap .i64 ((IntKind.wrap .i64 (Int.ofNat (u + n) - Int.ofNat u)).tdiv 8)), r, f6) _ g6 ⟨by dsimp only; omega, by dsimp only; omega, by dsimp only; omega, W, S, E⟩ (by dsimp only; omega) ⟨by kernel_rfl, by kernel_rfl, by kernel_rfl, by kernel_rfl, by kernel_rfl, by kernel_rfl, by kernel_rfl, trivial⟩)
          · intro h0
            obtain ⟨_, g5, e5, f5, j, r, rfl, W, S5, j1, j2, hjP, p1, p2⟩ := part_of hlf (K (k + 5)) hN c f1 hVC u (u + n) (x) (by omega) (by omega) (by omega) (by omega) g3 W
            rw [← hjP] at p1 p2
            have e5 : Ev lf (m + k + 6) 98 [SL, J u, J (u + n), I (Int.ofNat x), .func (.func C) #[] #[]] g3 = some (.tuple #[J j, .bool r], g5) := by rw [hX1]; exact e5
            have S := S.trans (S5.mono hu hvb)
            have E := E.sw S5 hu hvb
            have hV5 := S.every hb hV
            have t18 : IntKind.wrap .i64 (Int.ofNat j - Int.ofNat u) = Int.ofNat (j - u) := wrap_sub (by omega) (by omega)
            have t19 : IntKind.wrap .i64 (Int.ofNat (u + n) - Int.ofNat j) = Int.ofNat (u + n - j) := wrap_sub (by omega) (by omega)
            refine ok_go 14 ?_
            refine sy_call 0 (by kernel_rfl) e5 ?_
            refine ok_go 6 ?_
            refine sy_test 0 (decide (IntKind.wrap .i64 (Int.ofNat j - Int.ofNat u) < IntKind.wrap .i64 (Int.ofNat (u + n) - Int.ofNat j))) (by kernel_rfl) ?_ ?_
            · intro hl
              have hl : j - u < u + n - j := by rw [t18, t19] at hl; exact ok_nat hl
              have hlo : u = 0 ∨ ∀ k, u ≤ k → k < j → ¬ lt (f5 k) (f5 (u - 1)) := (E.low (S.low hlow) hu hvb).imp id fun h k k1 k2 => h k k1 (by omega)
              obtain ⟨_, g6, e6, f6, W, S6, Z6⟩ := ihk u j (z) f5 hV5 (by omega) (by omega) (by omega) hlo g5 W
              have E := E.left (K 0).ord S6 j1 j2 hvb hu p1 p2 Z6
              have S := S.trans (S6.mono hu (by omega))
              have hwj : IntKind.wrap .i64 (Int.ofNat (j + 1)) = Int.ofNat (j + 1) := wrap_nat (by omega)
              refine ok_go 1 ?_
              refine sy_call 0 (by kernel_rfl) e6 ?_
              refine ok_go 1 ?_
              exact sy_next 0 _ g6 (by kernel_rfl) (by kernel_rfl) (ih (j + 1, u + n, z, decide (IntKind.wrap .i64 (Int.ofNat j - Int.ofNat u) ≥ IntKind.wrap .i64 ((IntKind.wrap .i64 (Int.ofNat (u + n) - Int.ofNat u)).tdiv 8)), r, f6) _ g6 ⟨by dsimp only; omega, by dsimp only; omega, by dsimp only; omega, W, S, E⟩ (by dsimp only; omega) ⟨by kernel_rfl, (by kernel_rfl : _ = Value.int .i64 (IntKind.wrap .i64 (Int.ofNat (j + 1)))).trans (by rw [hwj]), by kernel_rfl, by kernel_rfl, by kernel_rfl, by kernel_rfl, by kernel_rfl, trivial⟩)
            · intro hl
              have hl : u + n - j ≤ j - u := by rw [t18, t19] at hl; exact no_nat hl
              have hwj : IntKind.wrap .i64 (Int.ofNat (j + 1)) = Int.ofNat (j + 1) := wrap_nat (by omega)
              have hlo : j + 1 = 0 ∨ ∀ k, j + 1 ≤ k → k < u + n → ¬ lt (f5 k) (f5 (j + 1 - 1)) := .inr fun k k1 k2 => p2 k (by omega) k2
              obtain ⟨v6, g6, e6, f6, W, S6, Z6⟩ := ihk (j + 1) (u + n) (z) f5 hV5 (by omega) (by omega) (by omega) hlo g5 W
              have e6 : Ev lf (m + k + 6) 68 [SL, I (IntKind.wrap .i64 (Int.ofNat (j + 1))), J (u + n), I (z), .func (.func C) #[] #[]] g5 = some (v6, g6) := by rw [hwj]; exact e6
              have E := E.right (K 0).ord S6 j1 j2 hvb hu p1 p2 Z6
              have S := S.trans (S6.mono (by omega) hvb)
              refine ok_go 2 ?_
              refine sy_call 0 (by kernel_rfl) e6 ?_
              refine ok_go 0 ?_
              exact sy_next 0 _ g6 (by kernel_rfl) (by kernel_rfl) (ih (u, j, z, decide (IntKind.wrap .i64 (Int.ofNat (u + n) - Int.ofNat j) ≥ IntKind.wrap .i64 ((IntKind.wrap .i64 (Int.ofNat (u + n) - Int.ofNat u)).tdiv 8)), r, f6) _ g6 ⟨by dsimp only; omega, by dsimp only; omega, by dsimp only; omega, W, S, E⟩ (by dsimp only; omega) ⟨by kernel_rfl, by kernel_rfl, by kernel_rfl, by kernel_rfl, by kernel_rfl, by kernel_rfl, by kernel_rfl, trivial⟩)
      · have hX2 : IntKind.wrap .i64 (IntKind.wrap .i64 (Int.ofNat (u + n) - 1) - IntKind.wrap .i64 (Int.ofNat x - Int.ofNat u)) = Int.ofNat (u + n - 1 - (x - u)) := by
          rw [show IntKind.wrap .i64 (Int.ofNat (u + n) - 1) = Int.ofNat (u + n - 1) from wrap_sub (b := 1) (by omega) (by omega), show IntKind.wrap .i64 (Int.ofNat x - Int.ofNat u) = Int.ofNat (x - u) from wrap_sub (by omega) (by omega)]
          exact wrap_sub (by omega) (by omega)
        obtain ⟨_, g7, e7, f7, W, S7⟩ := rev_of hlf (K (k + 5)) hN c f1 hVC u n (by omega) (by omega) g3 W
        have S := S.trans (S7.mono hu hvb)
        have E := E.sw S7 hu hvb
        have hVC := S.every hb hV
        clear e3
        refine ok_go 4 ?_
        refine sy_call 0 (by kernel_rfl) e7 ?_
        clear e7 S7
        cases wp with
        | true =>
          obtain ⟨_, g4, e4, f4, r, rfl, W, S4, Z4⟩ := pins_of hlf (K (k + 5)) hN c f7 hVC u (u + n) (by omega) (by omega) (E.low (S.low hlow) hu hvb) g7 W
          have S := S.trans (S4.mono hu hvb)
          have E := E.sw S4 hu hvb
          refine ok_go 10 ?_
          refine sy_call 0 (by kernel_rfl) e4 ?_
          cases r with
          | true =>
            refine sy_done 1 (v := Value.tuple { toList := [] }) (h := g4) (by kernel_rfl) ?_
            exact ⟨f4, W, S, E.fin (Z4 rfl)⟩
          | false =>
            have hVC := S.every hb hV
            clear Z4 e4
            refine ok_go 2 ?_
            refine sy_test 0 (decide (Int.ofNat u > 0)) (by kernel_rfl) ?_ ?_
            · intro h0
              have h0 : 0 < u := ok_nat (a := 0) h0
              have hwu : IntKind.wrap .i64 (Int.ofNat u - 1) = Int.ofNat (u - 1) := wrap_sub (b := 1) (by omega) (by omega)
              obtain ⟨z4, ec4, hz4⟩ := (K (k + 6)).cmp f4 g4 _ _ W (hVC (u - 1) (by omega)) (hVC (u + n - 1 - (x - u)) (by omega))
              refine ok_go 5 ?_
              refine sy_load 0 (r := indexAddrOp Tryd.prog 31 SL (I (IntKind.wrap .i64 (Int.ofNat u - 1)))) (h' := g4) (v := ptr q (u - 1)) (by kernel_rfl) (by rw [hwu]; exact idxS0 (e := 32) (by kernel_rfl) (by kernel_rfl) (by omega)) ?_
              refine ok_go 1 ?_
              refine ow_loadF (P := Tryd.prog) (T := 32) (off := u - 1) 0 0 W rfl (by omega) (by kernel_rfl) (by kernel_rfl) ?_
              refine ok_go 3 ?_
              refine sy_load 0 (r := indexAddrOp Tryd.prog 31 SL (I (IntKind.wrap .i64 (IntKind.wrap .i64 (Int.ofNat (u + n) - 1) - IntKind.wrap .i64 (Int.ofNat x - Int.ofNat u))))) (h' := g4) (v := ptr q (u + n - 1 - (x - u))) (by kernel_rfl) (by rw [hX2]; exact idxS0 (e := 32) (by kernel_rfl) (by kernel_rfl) (by omega)) ?_
              refine ok_go 1 ?_
              refine ow_loadF (P := Tryd.prog) (T := 32) (off := u + n - 1 - (x - u)) 0 0 W rfl (by omega) (by kernel_rfl) (by kernel_rfl) ?_
              refine ok_go 1 ?_
              refine sy_call 0 (by kernel_rfl) ec4 ?_
              refine ok_go 5 ?_
              refine sy_test 0 (!decide (z4 < 0)) (by kernel_rfl) ?_ ?_
              · intro ht
                have hnl : ¬ lt (f4 (u - 1)) (f4 (u + n - 1 - (x - u))) := fun h => by rw [decide_eq_true (hz4.2 h)] at ht; cases ht
                obtain ⟨_, g5, e5, f5, i, rfl, W, S5, i1, i2, _, p1, p2⟩ := peq_of hlf (K (k + 5)) hN c f4 hVC u (u + n) (u + n - 1 - (x - u)) (by omega) (by omega) (by omega) (by omega) g4 W
                have e5 : Ev lf (m + k + 6) 97 [SL, J u, J (u + n), I (IntKind.wrap .i64 (IntKind.wrap .i64 (Int.ofNat (u + n) - 1) - IntKind.wrap .i64 (Int.ofNat x - Int.ofNat u))), .func (.func C) #[] #[]] g4 = some (J i, g5) := by rw [hX2]; exact e5
                have S := S.trans (S5.mono hu hvb)
                have E := E.sw S5 hu hvb
                have hlo := (E.low (S.low hlow) hu hvb).resolve_left (by omega)
                have E := E.equal (K 0).ord hvb hu hlo (by rw [S5.out (x := u - 1) (.inl (by omega))]; exact hnl) p1 p2
                refine ok_go 0 ?_
                refine sy_call 0 (by kernel_rfl) e5 ?_
                refine ok_go 0 ?_
                exact sy_next 0 _ g5 (by kernel_rfl) (by kernel_rfl) (ih (i, u + n, z, true, true, f5) _ g5 ⟨by dsimp only; omega, by dsimp only; omega, by dsimp only; omega, W, S, E⟩ (by dsimp only; omega) ⟨by kernel_rfl, by kernel_rfl, by kernel_rfl, by kernel_rfl, by kernel_rfl, by kernel_rfl, by kernel_rfl, trivial⟩)
              · intro ht
                clear ec4 hz4 ht
                obtain ⟨_, g5, e5, f5, j, r, rfl, W, S5, j1, j2, hjP, p1, p2⟩ := part_of hlf (K (k + 5)) hN c f4 hVC u (u + n) (u + n - 1 - (x - u)) (by omega) (by omega) (by omega) (by omega) g4 W
                rw [← hjP] at p1 p2
                have e5 : Ev lf (m + k + 6) 98 [SL, J u, J (u + n), I (IntKind.wrap .i64 (IntKind.wrap .i64 (Int.ofNat (u + n) - 1) - IntKind.wrap .i64 (Int.ofNat x - Int.ofNat u))), .func (.func C) #[] #[]] g4 = some (.tuple #[J j, .bool r], g5) := by rw [hX2]; exact e5
                have S := S.trans (S5.mono hu hvb)
                have E := E.sw S5 hu hvb
                have hV5 := S.every hb hV
                have t18 : IntKind.wrap .i64 (Int.ofNat j - Int.ofNat u) = Int.ofNat (j - u) := wrap_sub (by omega) (by omega)
                have t19 : IntKind.wrap .i64 (Int.ofNat (u + n) - Int.ofNat j) = Int.ofNat (u + n - j) := wrap_sub (by omega) (by omega)
                refine ok_go 0 ?_
                refine sy_call 0 (by kernel_rfl) e5 ?_
                refine ok_go 6 ?_
                refine sy_test 0 (decide (IntKind.wrap .i64 (Int.ofNat j - Int.ofNat u) < IntKind.wrap .i64 (Int.ofNat (u + n) - Int.ofNat j))) (by kernel_rfl) ?_ ?_
                · intro hl
                  have hl : j - u < u + n - j := by rw [t18, t19] at hl; exact ok_nat hl
                  have hlo : u = 0 ∨ ∀ k, u ≤ k → k < j → ¬ lt (f5 k) (f5 (u - 1)) := (E.low (S.low hlow) hu hvb).imp id fun h k k1 k2 => h k k1 (by omega)
                  obtain ⟨_, g6, e6, f6, W, S6, Z6⟩ := ihk u j (z) f5 hV5 (by omega) (by omega) (by omega) hlo g5 W
                  have E := E.left (K 0).ord S6 j1 j2 hvb hu p1 p2 Z6
                  have S := S.trans (S6.mono hu (by omega))
                  have hwj : IntKind.wrap .i64 (Int.ofNat (j + 1)) = Int.ofNat (j + 1) := wrap_nat (by omega)
                  refine ok_go 1 ?_
                  refine sy_call 0 (by kernel_rfl) e6 ?_
                  refine ok_go 1 ?_
                  exact sy_next 0 _ g6 (by kernel_rfl) (by kernel_rfl) (ih (j + 1, u + n, z, decide (IntKind.wrap .i64 (Int.ofNat j - Int.ofNat u) ≥ IntKind.wrap .i64 ((IntKind.wrap .i64 (Int.ofNat (u + n) - Int.ofNat u)).tdiv 8)), r, f6) _ g6 ⟨by dsimp only; omega, by dsimp only; omega, by dsimp only; omega, W, S, E⟩ (by dsimp only; omega) ⟨by kernel_rfl, (by kernel_rfl : _ = Value.int .i64 (IntKind.wrap .i64 (Int.ofNat (j + 1)))).trans (by rw [hwj]), by kernel_rfl, by kernel_rfl, by kernel_rfl, by kernel_rfl, by kernel_rfl, trivial⟩)
                · intro hl
                  have hl : u + n - j ≤ j - u := by rw [t18, t19] at hl; exact no_nat hl
                  have hwj : IntKind.wrap .i64 (Int.ofNat (j + 1)) = Int.ofNat (j + 1) := wrap_nat (by omega)
                  have hlo : j + 1 = 0 ∨ ∀ k, j + 1 ≤ k → k < u + n → ¬ lt (f5 k) (f5 (j + 1 - 1)) := .inr fun k k1 k2 => p2 k (by omega) k2
                  obtain ⟨v6, g6, e6, f6, W, S6, Z6⟩ := ihk (j + 1) (u + n) (z) f5 hV5 (by omega) (by omega) (by omega) hlo g5 W
                  have e6 : Ev lf (m + k + 6) 68 [SL, I (IntKind.wrap .i64 (Int.ofNat (j + 1))), J (u + n), I (z), .func (.func C) #[] #[]] g5 = some (v6, g6) := by rw [hwj]; exact e6
                  have E := E.right (K 0).ord S6 j1 j2 hvb hu p1 p2 Z6
                  have S := S.trans (S6.mono (by omega) hvb)
                  refine ok_go 2 ?_
                  refine sy_call 0 (by kernel_rfl) e6 ?_
                  refine ok_go 0 ?_
                  exact sy_next 0 _ g6 (by kernel_rfl) (by kernel_rfl) (ih (u, j, z, decide (IntKind.wrap .i64 (Int.ofNat (u + n) - Int.ofNat j) ≥ IntKind.wrap .i64 ((IntKind.wrap .i64 (Int.ofNat (u + n) - Int.ofNat u)).tdiv 8)), r, f6) _ g6 ⟨by dsimp only; omega, by dsimp only; omega, by dsimp only; omega, W, S, E⟩ (by dsimp only; omega) ⟨by kernel_rfl, by kernel_rfl, by kernel_rfl, by kernel_rfl, by kernel_rfl, by kernel_rfl, by kernel_rfl, trivial⟩)
            · intro h0
              obtain ⟨_, g5, e5, f5, j, r, rfl, W, S5, j1, j2, hjP, p1, p2⟩ := part_of hlf (K (k + 5)) hN c f4 hVC u (u + n) (u + n - 1 - (x - u)) (by omega) (by omega) (by omega) (by omega) g4 W
              rw [← hjP] at p1 p2
              have e5 : Ev lf (m + k + 6) 98 [SL, J u, J (u + n), I (IntKind.wrap .i64 (IntKind.wrap .i64 (Int.ofNat (u + n) - 1) - IntKind.wrap .i64 (Int.ofNat x - Int.ofNat u))), .func (.func C) #[] #[]] g4 = some (.tuple #[J j, .bool r], g5) := by rw [hX2]; exact e5
              have S := S.trans (S5.mono hu hvb)
              have E := E.sw S5 hu hvb
              have hV5 := S.every hb hV
              have t18 : IntKind.wrap .i64 (Int.ofNat j - Int.ofNat u) = Int.ofNat (j - u) := wrap_sub (by omega) (by omega)
              have t19 : IntKind.wrap .i64 (Int.ofNat (u + n) - Int.ofNat j) = Int.ofNat (u + n - j) := wrap_sub (by omega) (by omega)
              refine ok_go 14 ?_
              refine sy_call 0 (by kernel_rfl) e5 ?_
              refine ok_go 6 ?_
              refine sy_test 0 (decide (IntKind.wrap .i64 (Int.ofNat j - Int.ofNat u) < IntKind.wrap .i64 (Int.ofNat (u + n) - Int.ofNat j))) (by kernel_rfl) ?_ ?_
              · intro hl
                have hl : j - u < u + n - j := by rw [t18, t19] at hl; exact ok_nat hl
                have hlo : u = 0 ∨ ∀ k, u ≤ k → k < j → ¬ lt (f5 k) (f5 (u - 1)) := (E.low (S.low hlow) hu hvb).imp id fun h k k1 k2 => h k k1 (by omega)
                obtain ⟨_, g6, e6, f6, W, S6, Z6⟩ := ihk u j (z) f5 hV5 (by omega) (by omega) (by omega) hlo g5 W
                have E := E.left (K 0).ord S6 j1 j2 hvb hu p1 p2 Z6
                have S := S.trans (S6.mono hu (by omega))
                have hwj : IntKind.wrap .i64 (Int.ofNat (j + 1)) = Int.ofNat (j + 1) := wrap_nat (by omega)
                refine ok_go 1 ?_
                refine sy_call 0 (by kernel_rfl) e6 ?_
                refine ok_go 1 ?_
                exact sy_next 0 _ g6 (by kernel_rfl) (by kernel_rfl) (ih (j + 1, u + n, z, decide (IntKind.wrap .i64 (Int.ofNat j - Int.ofNat u) ≥ IntKind.wrap .i64 ((IntKind.wrap .i64 (Int.ofNat (u + n) - Int.ofNat u)).tdiv 8)), r, f6) _ g6 ⟨by dsimp only; omega, by dsimp only; omega, by dsimp only; omega, W, S, E⟩ (by dsimp only; omega) ⟨by kernel_rfl, (by kernel_rfl : _ = Value.int .i64 (IntKind.wrap .i64 (Int.ofNat (j + 1)))).trans (by rw [hwj]), by kernel_rfl, by kernel_rfl, by kernel_rfl, by kernel_rfl, by kernel_rfl, trivial⟩)
              · intro hl
                have hl : u + n - j ≤ j - u := by rw [t18, t19] at hl; exact no_nat hl
                have hwj : IntKind.wrap .i64 (Int.ofNat (j + 1)) = Int.ofNat (j + 1) := wrap_nat (by omega)
                have hlo : j + 1 = 0 ∨ ∀ k, j + 1 ≤ k → k < u + n → ¬ lt (f5 k) (f5 (j + 1 - 1)) := .inr fun k k1 k2 => p2 k (by omega) k2
                obtain ⟨v6, g6, e6, f6, W, S6, Z6⟩ := ihk (j + 1) (u + n) (z) f5 hV5 (by omega) (by omega) (by omega) hlo g5 W
                have e6 : Ev lf (m + k + 6) 68 [SL, I (IntKind.wrap .i64 (Int.ofNat (j + 1))), J (u + n), I (z), .func (.func C) #[] #[]] g5 = some (v6, g6) := by rw [hwj]; exact e6
                have E := E.right (K 0).ord S6 j1 j2 hvb hu p1 p2 Z6
                have S := S.trans (S6.mono (by omega) hvb)
                refine ok_go 2 ?_
                refine sy_call 0 (by kernel_rfl) e6 ?_
                refine ok_go 0 ?_
                exact sy_next 0 _ g6 (by kernel_rfl) (by kernel_rfl) (ih (u, j, z, decide (IntKind.wrap .i64 (Int.ofNat (u + n) - Int.ofNat j) ≥ IntKind.wrap .i64 ((IntKind.wrap .i64 (Int.ofNat (u + n) - Int.ofNat u)).tdiv 8)), r, f6) _ g6 ⟨by dsimp only; omega, by dsimp only; omega, by dsimp only; omega, W, S, E⟩ (by dsimp only; omega) ⟨by kernel_rfl, by kernel_rfl, by kernel_rfl, by kernel_rfl, by kernel_rfl, by kernel_rfl, by kernel_rfl, trivial⟩)
        | false =>
          refine ok_go 10 ?_
          refine sy_test 0 (decide (Int.ofNat u > 0)) (by kernel_rfl) ?_ ?_
          · intro h0
            have h0 : 0 < u := ok_nat (a := 0) h0
            have hwu : IntKind.wrap .i64 (Int.ofNat u - 1) = Int.ofNat (u - 1) := wrap_sub (b := 1) (by omega) (by omega)
            obtain ⟨z4, ec4, hz4⟩ := (K (k + 6)).cmp f7 g7 _ _ W (hVC (u - 1) (by omega)) (hVC (u + n - 1 - (x - u)) (by omega))
            refine ok_go 5 ?_
            refine sy_load 0 (r := indexAddrOp Tryd.prog 31 SL (I (IntKind.wrap .i64 (Int.ofNat u - 1)))) (h' := g7) (v := ptr q (u - 1)) (by kernel_rfl) (by rw [hwu]; exact idxS0 (e := 32) (by kernel_rfl) (by kernel_rfl) (by omega)) ?_
            refine ok_go 1 ?_
            refine ow_loadF (P := Tryd.prog) (T := 32) (off := u - 1) 0 0 W rfl (by omega) (by kernel_rfl) (by kernel_rfl) ?_
            refine ok_go 3 ?_
            refine sy_load 0 (r := indexAddrOp Tryd.prog 31 SL (I (IntKind.wrap .i64 (IntKind.wrap .i64 (Int.ofNat (u + n) - 1) - IntKind.wrap .i64 (Int.ofNat x - Int.ofNat u))))) (h' := g7) (v := ptr q (u + n - 1 - (x - u))) (by kernel_rfl) (by rw [hX2]; exact idxS0 (e := 32) (by kernel_rfl) (by kernel_rfl) (by omega)) ?_
            refine ok_go 1 ?_
            refine ow_loadF (P := Tryd.prog) (T := 32) (off := u + n - 1 - (x - u)) 0 0 W rfl (by omega) (by kernel_rfl) (by kernel_rfl) ?_
            refine ok_go 1 ?_
            refine sy_call 0 (by kernel_rfl) ec4 ?_
            refine ok_go 5 ?_
            refine sy_test 0 (!decide (z4 < 0)) (by kernel_rfl) ?_ ?_
            · intro ht
              have hnl : ¬ lt (f7 (u - 1)) (f7 (u + n - 1 - (x - u))) := fun h => by rw [decide_eq_true (hz4.2 h)] at ht; cases ht
              obtain ⟨_, g5, e5, f5, i, rfl, W, S5, i1, i2, _, p1, p2⟩ := peq_of hlf (K (k + 5)) hN c f7 hVC u (u + n) (u + n - 1 - (x - u)) (by omega) (by omega) (by omega) (by omega) g7 W
              have e5 : Ev lf (m + k + 6) 97 [SL, J u, J (u + n), I (IntKind.wrap .i64 (IntKind.wrap .i64 (Int.ofNat (u + n) - 1) - IntKind.wrap .i64 (Int.ofNat x - Int.ofNat u))), .func (.func C) #[] #[]] g7 = some (J i, g5) := by rw [hX2]; exact e5
              have S := S.trans (S5.mono hu hvb)
              have E := E.sw S5 hu hvb
              have hlo := (E.low (S.low hlow) hu hvb).resolve_left (by omega)
              have E := E.equal (K 0).ord hvb hu hlo (by rw [S5.out (x := u - 1) (.inl (by omega))]; exact hnl) p1 p2
              refine ok_go 0 ?_
              refine sy_call 0 (by kernel_rfl) e5 ?_
              refine ok_go 0 ?_
              exact sy_next 0 _ g5 (by kernel_rfl) (by kernel_rfl) (ih (i, u + n, z, true, false, f5) _ g5 ⟨by dsimp only; omega, by dsimp only; omega, by dsimp only; omega, W, S, E⟩ (by dsimp only; omega) ⟨by kernel_rfl, by kernel_rfl, by kernel_rfl, by kernel_rfl, by kernel_rfl, by kernel_rfl, by kernel_rfl, trivial⟩)
            · intro ht
              clear ec4 hz4 ht
              obtain ⟨_, g5, e5, f5, j, r, rfl, W, S5, j1, j2, hjP, p1, p2⟩ := part_of hlf (K (k + 5)) hN c f7 hVC u (u + n) (u + n - 1 - (x - u)) (by omega) (by omega) (by omega) (by omega) g7 W
              rw [← hjP] at p1 p2
              have e5 : Ev lf (m + k + 6) 98 [SL, J u, J (u + n), I (IntKind.wrap .i64 (IntKind.wrap .i64 (Int.ofNat (u + n) - 1) - IntKind.wrap .i64 (Int.ofNat x - Int.ofNat u))), .func (.func C) #[] #[]] g7 = some (.tuple #[J j, .bool r], g5) := by rw [hX2]; exact e5
              have S := S.trans (S5.mono hu hvb)
              have E := E.sw S5 hu hvb
              have hV5 := S.every hb hV
              have t18 : IntKind.wrap .i64 (Int.ofNat j - Int.ofNat u) = Int.ofNat (j - u) := wrap_sub (by omega) (by omega)
              have t19 : IntKind.wrap .i64 (Int.ofNat (u + n) - Int.ofNat j) = Int.ofNat (u + n - j) := wrap_sub (by omega) (by omega)
              refine ok_go 0 ?_
              refine sy_call 0 (by kernel_rfl) e5 ?_
              refine ok_go 6 ?_
              refine sy_test 0 (decide (IntKind.wrap .i64 (Int.ofNat j - Int.ofNat u) < IntKind.wrap .i64 (Int.ofNat (u + n) - Int.ofNat j))) (by kernel_rfl) ?_ ?_
              · intro hl
                have hl : j - u < u + n - j := by rw [t18, t19] at hl; exact ok_nat hl
                have hlo : u = 0 ∨ ∀ k, u ≤ k → k < j → ¬ lt (f5 k) (f5 (u - 1)) := (E.low (S.low hlow) hu hvb).imp id fun h k k1 k2 => h k k1 (by omega)
                obtain ⟨_, g6, e6, f6, W, S6, Z6⟩ := ihk u j (z) f5 hV5 (by omega) (by omega) (by omega) hlo g5 W
                have E := E.left (K 0).ord S6 j1 j2 hvb hu p1 p2 Z6
                have S := S.trans (S6.mono hu (by omega))
                have hwj : IntKind.wrap .i64 (Int.ofNat (j + 1)) = Int.ofNat (j + 1) := wrap_nat (by omega)
                refine ok_go 1 ?_
                refine sy_call 0 (by kernel_rfl) e6 ?_
                refine ok_go 1 ?_
                exact sy_next 0 _ g6 (by kernel_rfl) (by kernel_rfl) (ih (j + 1, u + n, z, decide (IntKind.wrap .i64 (Int.ofNat j - Int.ofNat u) ≥ IntKind.wrap .i64 ((IntKind.wrap .i64 (Int.ofNat (u + n) - Int.ofNat u)).tdiv 8)), r, f6) _ g6 ⟨by dsimp only; omega, by dsimp only; omega, by dsimp only; omega, W, S, E⟩ (by dsimp only; omega) ⟨by kernel_rfl, (by kernel_rfl : _ = Value.int .i64 (IntKind.wrap .i64 (Int.ofNat (j + 1)))).trans (by rw [hwj]), by kernel_rfl, by kernel_rfl, by kernel_rfl, by kernel_rfl, by kernel_rfl, trivial⟩)
              · intro hl
                have hl : u + n - j ≤ j - u := by rw [t18, t19] at hl; exact no_nat hl
                have hwj : IntKind.wrap .i64 (Int.ofNat (j + 1)) = Int.ofNat (j + 1) := wrap_nat (by omega)
                have hlo : j + 1 = 0 ∨ ∀ k, j + 1 ≤ k → k < u + n → ¬ lt (f5 k) (f5 (j + 1 - 1)) := .inr fun k k1 k2 => p2 k (by omega) k2
                obtain ⟨v6, g6, e6, f6, W, S6, Z6⟩ := ihk (j + 1) (u + n) (z) f5 hV5 (by omega) (by omega) (by omega) hlo g5 W
                have e6 : Ev lf (m + k + 6) 68 [SL, I (IntKind.wrap .i64 (Int.ofNat (j + 1))), J (u + n), I (z), .func (.func C) #[] #[]] g5 = some (v6, g6) := by rw [hwj]; exact e6
                have E := E.right (K 0).ord S6 j1 j2 hvb hu p1 p2 Z6
                have S := S.trans (S6.mono (by omega) hvb)
                refine ok_go 2 ?_
                refine sy_call 0 (by kernel_rfl) e6 ?_
                refine ok_go 0 ?_
                exact sy_next 0 _ g6 (by kernel_rfl) (by kernel_rfl) (ih (u, j, z, decide (IntKind.wrap .i64 (Int.ofNat (u + n) - Int.ofNat j) ≥ IntKind.wrap .i64 ((IntKind.wrap .i64 (Int.ofNat (u + n) - Int.ofNat u)).tdiv 8)), r, f6) _ g6 ⟨by dsimp only; omega, by dsimp only; omega, by dsimp only; omega, W, S, E⟩ (by dsimp only; omega) ⟨by kernel_rfl, by kernel_rfl, by kernel_rfl, by kernel_rfl, by kernel_rfl, by kernel_rfl, by kernel_rfl, trivial⟩)
          · intro h0
            obtain ⟨_, g5, e5, f5, j, r, rfl, W, S5, j1, j2, hjP, p1, p2⟩ := part_of hlf (K (k + 5)) hN c f7 hVC u (u + n) (u + n - 1 - (x - u)) (by omega) (by omega) (by omega) (by omega) g7 W
            rw [← hjP] at p1 p2
            have e5 : Ev lf (m + k + 6) 98 [SL, J u, J (u + n), I (IntKind.wrap .i64 (IntKind.wrap .i64 (Int.ofNat (u + n) - 1) - IntKind.wrap .i64 (Int.ofNat x - Int.ofNat u))), .func (.func C) #[] #[]] g7 = some (.tuple #[J j, .bool r], g5) := by rw [hX2]; exact e5
            have S := S.trans (S5.mono hu hvb)
            have E := E.sw S5 hu hvb
            have hV5 := S.every hb hV
            have t18 : IntKind.wrap .i64 (Int.ofNat j - Int.ofNat u) = Int.ofNat (j - u) := wrap_sub (by omega) (by omega)
            have t19 : IntKind.wrap .i64 (Int.ofNat (u + n) - Int.ofNat j) = Int.ofNat (u + n - j) := wrap_sub (by omega) (by omega)
            refine ok_go 14 ?_
            refine sy_call 0 (by kernel_rfl) e5 ?_
            refine ok_go 6 ?_
            refine sy_test 0 (decide (IntKind.wrap .i64 (Int.ofNat j - Int.ofNat u) < IntKind.wrap .i64 (Int.ofNat (u + n) - Int.ofNat j))) (by kernel_rfl) ?_ ?_
            · intro hl
              have hl : j - u < u + n - j := by rw [t18, t19] at hl; exact ok_nat hl
              have hlo : u = 0 ∨ ∀ k, u ≤ k → k < j → ¬ lt (f5 k) (f5 (u - 1)) := (E.low (S.low hlow) hu hvb).imp id fun h k k1 k2 => h k k1 (by omega)
              obtain ⟨_, g6, e6, f6, W, S6, Z6⟩ := ihk u j (z) f5 hV5 (by omega) (by omega) (by omega) hlo g5 W
              have E := E.left (K 0).ord S6 j1 j2 hvb hu p1 p2 Z6
              have S := S.trans (S6.mono hu (by omega))
              have hwj : IntKind.wrap .i64 (Int.ofNat (j + 1)) = Int.ofNat (j + 1) := wrap_nat (by omega)
              refine ok_go 1 ?_
              refine sy_call 0 (by kernel_rfl) e6 ?_
              refine ok_go 1 ?_
              exact sy_next 0 _ g6 (by kernel_rfl) (by kernel_rfl) (ih (j + 1, u + n, z, decide (IntKind.wrap .i64 (Int.ofNat j - Int.ofNat u) ≥ IntKind.wrap .i64 ((IntKind.wrap .i64 (Int.ofNat (u + n) - Int.ofNat u)).tdiv 8)), r, f6) _ g6 ⟨by dsimp only; omega, by dsimp only; omega, by dsimp only; omega, W, S, E⟩ (by dsimp only; omega) ⟨by kernel_rfl, (by kernel_rfl : _ = Value.int .i64 (IntKind.wrap .i64 (Int.ofNat (j + 1)))).trans (by rw [hwj]), by kernel_rfl, by kernel_rfl, by kernel_rfl, by kernel_rfl, by kernel_rfl, trivial⟩)
            · intro hl
              have hl : u + n - j ≤ j - u := by rw [t18, t19] at hl; exact no_nat hl
              have hwj : IntKind.wrap .i64 (Int.ofNat (j + 1)) = Int.ofNat (j + 1) := wrap_nat (by omega)
              have hlo : j + 1 = 0 ∨ ∀ k, j + 1 ≤ k → k < u + n → ¬ lt (f5 k) (f5 (j + 1 - 1)) := .inr fun k k1 k2 => p2 k (by omega) k2
              obtain ⟨v6, g6, e6, f6, W, S6, Z6⟩ := ihk (j + 1) (u + n) (z) f5 hV5 (by omega) (by omega) (by omega) hlo g5 W
              have e6 : Ev lf (m + k + 6) 68 [SL, I (IntKind.wrap .i64 (Int.ofNat (j + 1))), J (u + n), I (z), .func (.func C) #[] #[]] g5 = some (v6, g6) := by rw [hwj]; exact e6
              have E := E.right (K 0).ord S6 j1 j2 hvb hu p1 p2 Z6
              have S := S.trans (S6.mono (by omega) hvb)
              refine ok_go 2 ?_
              refine sy_call 0 (by kernel_rfl) e6 ?_
              refine ok_go 0 ?_
              exact sy_next 0 _ g6 (by kernel_rfl) (by kernel_rfl) (ih (u, j, z, decide (IntKind.wrap .i64 (Int.ofNat (u + n) - Int.ofNat j) ≥ IntKind.wrap .i64 ((IntKind.wrap .i64 (Int.ofNat (u + n) - Int.ofNat u)).tdiv 8)), r, f6) _ g6 ⟨by dsimp only; omega, by dsimp only; omega, by dsimp only; omega, W, S, E⟩ (by dsimp only; omega) ⟨by kernel_rfl, by kernel_rfl, by kernel_rfl, by kernel_rfl, by kernel_rfl, by kernel_rfl, by kernel_rfl, trivial⟩)
end
end Go.Proofs.YtegcmgjldapnmaaDoor
namespace Go.Proofs.YtegcmgjldapnmaaDoor
open Go Go.Eng Nim Oct
set_option maxRecDepth 100000
set_option maxHeartbeats 8000000
section
variable {lf m C q N : Nat} {h : Hp} {l : List (Nat × AObj)} {o : Bool} {V : Value → Prop} {lt : Value → Value → Prop}
theorem sortf_of (hlf : 20000 ≤ lf) (K : ∀ j, Cmp lf (m + j) C h l q N o V lt) (hN : N ≤ 10000) (c : Nat) (f : Nat → Value) (hV : ∀ k, k < N → V (f k)) (g : Hp) (W : Dat h l q N o f g) :
    ∃ v g', Ev lf (m + 21) 55 [.slice (some ⟨q, 0, none⟩) N c, .func (.func C) #[] #[]] g = some (v, g') ∧ ∃ f', Dat h l q N o f' g' ∧ Sw 0 N f f' ∧ Srt lt f' 0 N := by
  refine fnS_ok (Q := fun v g' => ∃ f', Dat h l q N o f' g' ∧ Sw 0 N f f' ∧ Srt lt f' 0 N) ?_
  obtain ⟨_, g1, e1, hg1, k, rfl, _, _⟩ := len_of lf (m + 18) N hN g
  have e1 : Ev lf (m + 20) 67 [.int .u64 (IntKind.wrap .u64 (Int.ofNat N))] g = some (J k, g) := by rw [wrap_u64 (by omega)]; rw [hg1] at e1; exact e1
  obtain ⟨_, g2, e2, f2, W2, S2, Z2⟩ := pdq_of hlf K hN c 14 0 N (Int.ofNat k) f hV (Nat.zero_le _) (Nat.le_refl _) (by rw [show 2 ^ 14 = 16384 from rfl]; omega) (.inl rfl) g W
  refine ok_go 2 ?_
  refine sy_call 0 (by kernel_rfl) e1 ?_
  refine ok_go 0 ?_
  refine sy_call 0 (by kernel_rfl) e2 ?_
  refine sy_done 0 (v := Value.tuple { toList := [] }) (h := g2) (by kernel_rfl) ?_
  exact ⟨f2, W2, S2, Z2⟩
end
theorem isort_nil (lf m C : Nat) (hlf : 20000 ≤ lf) (g : Hp) : ∃ v g', Ev lf (m + 1) 91 [.slice none 0 0, J 0, J 0, .func (.func C) #[] #[]] g = some (v, g') ∧ g' = g := by
  refine fnS_ok (Q := fun v g' => g' = g) ?_
  refine ok_go 2 ?_
  refine sy_loop 0 lf g (α := Unit) (fun _ => [(0, .slice none 0 0), (1, J 0), (2, J 0), (3, .func (.func C) #[] #[]), (8, J 1)]) (fun _ g' => g' = g) (fun _ _ => 0) () (by kernel_rfl) (by kernel_rfl)
    ⟨by kernel_rfl, by kernel_rfl, by kernel_rfl, by kernel_rfl, by kernel_rfl, trivial⟩ (show 0 < lf by omega) rfl ?_
  rintro m1 ⟨⟩ F1 g rfl ih
  refine sy_done 2 (v := Value.tuple { toList := [] }) (h := g) (by kernel_rfl) ?_
  rfl
theorem pdq_nil (lf m C : Nat) (z : Int) (hlf : 20000 ≤ lf) (g : Hp) : ∃ v g', Ev lf (m + 2) 68 [.slice none 0 0, J 0, J 0, I z, .func (.func C) #[] #[]] g = some (v, g') ∧ g' = g := by
  refine fnS_ok (Q := fun v g' => g' = g) ?_
  obtain ⟨v, g', e, hg⟩ := isort_nil lf m C hlf g
  rw [hg] at e
  refine ok_go 1 ?_
  refine sy_loop 0 lf g (α := Unit) (fun _ => [(0, .slice none 0 0), (1, J 0), (2, J 0), (4, .func (.func C) #[] #[])]) (fun _ g' => g' = g) (fun _ _ => 0) () (by kernel_rfl) (by kernel_rfl)
    ⟨by kernel_rfl, by kernel_rfl, by kernel_rfl, by kernel_rfl, trivial⟩ (show 0 < lf by omega) rfl ?_
  rintro m1 ⟨⟩ F1 g rfl ih
  refine ok_go 3 ?_
  refine sy_call 0 (by kernel_rfl) e ?_
  refine sy_done 0 (v := Value.tuple { toList := [] }) (h := g) (by kernel_rfl) ?_
  rfl
theorem sortf_nil (lf m C : Nat) (hlf : 20000 ≤ lf) (g : Hp) : ∃ v g', Ev lf (m + 3) 55 [.slice none 0 0, .func (.func C) #[] #[]] g = some (v, g') ∧ g' = g := by
  refine fnS_ok (Q := fun v g' => g' = g) ?_
  obtain ⟨_, g1, e1, hg1, k, rfl, _, _⟩ := len_of lf m 0 (by decide) g
  rw [hg1] at e1
  obtain ⟨v, g', e, hg⟩ := pdq_nil lf m C (Int.ofNat k) hlf g
  rw [hg] at e
  refine ok_go 2 ?_
  refine sy_call 0 (by kernel_rfl) e1 ?_
  refine ok_go 0 ?_
  refine sy_call 0 (by kernel_rfl) e ?_
  refine sy_done 0 (v := Value.tuple { toList := [] }) (h := g) (by kernel_rfl) ?_
  rfl
end Go.Proofs.YtegcmgjldapnmaaDoor
namespace Go.Proofs.YtegcmgjldapnmaaDoor.Oct
section
variable {α : Type} {f g : Nat → α}
theorem swp_perm (f : Nat → α) {i j N : Nat} (hi : i < N) (hj : j < N) : ((List.range N).map (swp f i j)).Perm ((List.range N).map f) := by
  have h1 : ((List.range N).map (swp f i j)) = (((List.range N).map f).set i (f j)).set j (f i) := by
    apply List.ext_getElem
    · simp
    · intro k h1 h2
      simp only [List.getElem_map, List.getElem_range, List.getElem_set]
      unfold swp
      by_cases e1 : k = i
      · subst e1
        by_cases e2 : j = k
        · subst e2; simp
        · rw [if_pos rfl, if_neg e2, if_pos rfl]
      · by_cases e2 : k = j
        · subst e2; rw [if_neg e1, if_pos rfl, if_pos rfl]
        · rw [if_neg e1, if_neg e2, if_neg (fun h => e2 h.symm), if_neg (fun h => e1 h.symm)]
  rw [h1]
  have hl : ((List.range N).map f).length = N := by simp
  have := List.set_set_perm (show i < ((List.range N).map f).length by omega) (show j < ((List.range N).map f).length by omega)
  simpa using this
theorem Sw.perm {N : Nat} (S : Sw 0 N f g) : ((List.range N).map g).Perm ((List.range N).map f) := by
  induction S with
  | refl => exact List.Perm.refl _
  | step _ _ h2 _ h4 ih => exact (swp_perm _ h2 h4).trans ih
theorem Srt.pair {lt : α → α → Prop} {N : Nat} (Z : Srt lt f 0 N) : ((List.range N).map f).Pairwise fun x y => ¬ lt y x := by
  rw [List.pairwise_map]
  refine List.Pairwise.imp_of_mem ?_ (List.pairwise_lt_range (n := N))
  intro i j hi hj hij
  exact Z i j (Nat.zero_le _) hij (List.mem_range.1 hj)
end
end Go.Proofs.YtegcmgjldapnmaaDoor.Oct
namespace Go.Proofs.YtegcmgjldapnmaaDoor
open Go Go.Eng Nim Oct
set_option maxRecDepth 100000
set_option maxHeartbeats 8000000
theorem nbeq_no {a b : Nat} (h : a ≠ b) : Nat.beq a b = false := by
  cases hb : Nat.beq a b with
  | false => rfl
  | true => exact absurd (Nat.eq_of_beq_eq_true hb) h
theorem sz3 : sizeT Tryd.prog 3 = some 1 := by kernel_rfl
theorem odd_half (n : Nat) : (2 * n + 1) / 2 = n ∧ Nat.beq ((2 * n + 1) % 2) 1 = true := ⟨by omega, by rw [show (2 * n + 1) % 2 = 1 by omega]; rfl⟩
/-- s[i:j:n] of an open slice whose length is n. -/
theorem sl_mid {q n i j : Nat} (hij : i ≤ j) (hjn : j ≤ n) (hin : i < n) : sliceOp Tryd.prog 32 (.slice (some ⟨q, 0, none⟩) n (2 * n + 1)) (some (J i)) (some (J j)) (some (J n)) = some (.slice (some ⟨q, 0 + i * 1, none⟩) (j - i) (2 * (n - i))) := by
  obtain ⟨h1, h2⟩ := odd_half n
  simp only [sliceOp, u22, sz3, sliceV, Go.Eng.bound, h1, h2, Option.isSome_some, show ∀ k, natOf (J k) = some k from fun _ => rfl, if_true, Nat.ble_eq_true_of_le (Nat.le_refl n), Nat.ble_eq_true_of_le hjn, Nat.ble_eq_true_of_le hij, Nat.ble_eq_true_of_le (Nat.le_of_lt hin), nbeq_no (show n ≠ i by omega), Bool.not_true, Bool.and_false]
/-- s[:j] -/
theorem sl_hi {q n m j : Nat} (hjn : j ≤ n) (hn : 0 < n) : sliceOp Tryd.prog 32 (.slice (some ⟨q, 0, none⟩) m (2 * n + 1)) none (some (J j)) none = some (.slice (some ⟨q, 0, none⟩) j (2 * n + 1)) := by
  obtain ⟨h1, h2⟩ := odd_half n
  simp only [sliceOp, u22, sz3, sliceV, Go.Eng.bound, h1, h2, Option.isSome_none, show ∀ k, natOf (J k) = some k from fun _ => rfl, Bool.false_eq_true, if_false, Nat.ble_eq_true_of_le hjn, Nat.ble_eq_true_of_le (Nat.zero_le n), nbeq_no (show n ≠ 0 by omega), Bool.not_false, Bool.and_true]
  simp
/-- s[i:] of what has n left. -/
theorem sl_lo {q n m i : Nat} (him : i ≤ m) (hmn : m ≤ n) (hin : i < n) : sliceOp Tryd.prog 32 (.slice (some ⟨q, 0, none⟩) m (2 * n + 1)) (some (J i)) none none = some (.slice (some ⟨q, i, none⟩) (m - i) (2 * (n - i) + 1)) := by
  obtain ⟨h1, h2⟩ := odd_half n
  simp only [sliceOp, u22, sz3, sliceV, Go.Eng.bound, h1, h2, Option.isSome_none, show ∀ k, natOf (J k) = some k from fun _ => rfl, Nat.ble_eq_true_of_le him, Nat.ble_eq_true_of_le (Nat.le_of_lt hin), nbeq_no (show n ≠ i by omega), Bool.not_false, Bool.and_true]
  simp
theorem sl_end {q n : Nat} (hn : 0 < n) : sliceOp Tryd.prog 32 (.slice (some ⟨q, 0, none⟩) n (2 * n + 1)) (some (J n)) none none = some (.slice (some ⟨q, 0, some n⟩) 0 1) := by
  obtain ⟨h1, h2⟩ := odd_half n
  obtain ⟨n, rfl⟩ : ∃ k, n = k + 1 := ⟨n - 1, by omega⟩
  simp only [sliceOp, u22, sz3, sliceV, Go.Eng.bound, h1, h2, Option.isSome_none, show ∀ k, natOf (J k) = some k from fun _ => rfl, Nat.ble_eq_true_of_le (Nat.le_refl (n + 1)), Nat.beq_refl, Bool.not_false, Bool.and_true]
  simp
/-- s[i:j] -/
theorem sl_two {q n m i j : Nat} (hij : i ≤ j) (hjn : j ≤ n) (hin : i < n) : sliceOp Tryd.prog 32 (.slice (some ⟨q, 0, none⟩) m (2 * n + 1)) (some (J i)) (some (J j)) none = some (.slice (some ⟨q, i, none⟩) (j - i) (2 * (n - i) + 1)) := by
  obtain ⟨h1, h2⟩ := odd_half n
  simp only [sliceOp, u22, sz3, sliceV, Go.Eng.bound, h1, h2, Option.isSome_none, show ∀ k, natOf (J k) = some k from fun _ => rfl, Bool.false_eq_true, if_false, Nat.ble_eq_true_of_le hjn, Nat.ble_eq_true_of_le hij, Nat.ble_eq_true_of_le (Nat.le_of_lt hin), nbeq_no (show n ≠ i by omega), Bool.not_false, Bool.and_true]
  simp
end Go.Proofs.YtegcmgjldapnmaaDoor
namespace Go.Proofs.YtegcmgjldapnmaaDoor
open Go Go.Eng Nim Oct
set_option maxRecDepth 100000
set_option maxHeartbeats 8000000
/-- An append that fits: in place. -/
theorem app_in {g : Hp} {q N i : Nat} {cs new : List Value} {x : Value} (hg : g.get q = some (.cells cs 3 true)) (hc : cs.length = N) (hi : i + new.length ≤ N) (hN : N ≤ 10000) (h1 : lenV x = some new.length) (h2 : elems g 1 new.length x = some new) (h3 : new.all scalar = true) :
    appendOp Tryd.prog g 32 (.slice (some ⟨q, 0, none⟩) i (2 * N + 1)) x = some (.slice (some ⟨q, 0, none⟩) (i + new.length) (2 * N + 1), g.put q (.cells (splice cs i new) 3 true)) := by
  obtain ⟨inf, hi1, hi2⟩ := slz32.i
  obtain ⟨z, hz1, hz2⟩ := slz32.zr
  obtain ⟨o1, o2⟩ := odd_half N
  have hst : storeN g q (0 + i * 1) new = some (g.put q (.cells (splice cs i new) 3 true)) := by
    simp only [storeN, hg, Nat.zero_add, Nat.mul_one, h3, Nat.ble_eq_true_of_le (show i + new.length ≤ cs.length by omega)]
  simp only [appendOp, slz32.u, slz32.s, hi1, hz1, h1, h2, hz2, hi2, h3, Nat.ble_eq_true_of_le (show i + new.length ≤ most by unfold most; omega), o1, Nat.ble_eq_true_of_le hi, hst]
theorem drop_elems {g : Hp} {q : Nat} {cs : List Value} {o : Bool} (hg : g.get q = some (.cells cs 3 o)) (i c : Nat) : lenV (.slice (some ⟨q, i, none⟩) (cs.length - i) c) = some (cs.drop i).length ∧ elems g 1 (cs.drop i).length (.slice (some ⟨q, i, none⟩) (cs.length - i) c) = some (cs.drop i) := by
  refine ⟨by rw [List.length_drop]; rfl, ?_⟩
  have ht := takeN_all (cs.drop i)
  generalize hd : cs.drop i = d at *
  cases d with
  | nil => rfl
  | cons v r =>
    simp only [elems, List.length_cons, Nat.mul_one, loadN, hg, hd]
    exact ht
theorem clear_one {g : Hp} {q k c : Nat} {cs : List Value} (hg : g.get q = some (.cells cs 3 true)) (hk : k < cs.length) : clearOp Tryd.prog g 32 (.slice (some ⟨q, k, none⟩) 1 c) = some (g.put q (.cells (splice cs k [J 0]) 3 true)) := by
  have hz : zeroOf Tryd.prog 3 = some (J 0) := by kernel_rfl
  simp only [clearOp, u22, hz]
  show storeN g q k [J 0] = _
  simp only [storeN, hg, List.length_cons, List.length_nil, Nat.zero_add, Nat.ble_eq_true_of_le hk]
  rfl
theorem splice_del {cs : List Value} {n i : Nat} (hc : cs.length = n + 1) (hi : i ≤ n) : splice (splice cs i (cs.drop (i + 1))) n [J 0] = cs.eraseIdx i ++ [J 0] := by
  have h1 : splice cs i (cs.drop (i + 1)) = cs.eraseIdx i ++ cs.drop n := by
    unfold splice
    rw [List.eraseIdx_eq_take_drop_succ, List.length_drop, hc, show i + (n + 1 - (i + 1)) = n by omega]
  have h2 : (cs.eraseIdx i).length = n := by rw [List.length_eraseIdx_of_lt (by omega)]; omega
  rw [h1]
  unfold splice
  rw [List.take_append_of_le_length (by omega), List.take_of_length_le (by omega), List.drop_eq_nil_of_le (by simp [h2, hc]), List.append_nil]
theorem del_of (lf m : Nat) (n i q : Nat) (hi : i ≤ n) (hn : n ≤ 100) (cs : List Value) (hc : cs.length = n + 1) (hs : cs.all scalar = true) (h : Hp) (L : List (Nat × AObj)) (g : Hp) (W : Sto h g ((q, .cells cs 3 true) :: L)) :
    ∃ v g', Ev lf (m + 1) 50 [.slice (some ⟨q, 0, none⟩) (n + 1) (2 * (n + 1) + 1), J i, J (i + 1)] g = some (v, g') ∧ v = .slice (some ⟨q, 0, none⟩) n (2 * (n + 1) + 1) ∧ Sto h g' ((q, .cells (cs.eraseIdx i ++ [J 0]) 3 true) :: L) := by
  refine fnS_ok (Q := fun v g' => v = .slice (some ⟨q, 0, none⟩) n (2 * (n + 1) + 1) ∧ Sto h g' ((q, .cells (cs.eraseIdx i ++ [J 0]) 3 true) :: L)) ?_
  have hg := W.get 0 rfl
  have hlen : i + (cs.drop (i + 1)).length = n := by rw [List.length_drop]; omega
  have hds : (cs.drop (i + 1)).all scalar = true := by
    rw [List.all_eq_true] at hs ⊢
    exact fun x hx => hs x (List.mem_of_mem_drop hx)
  refine ok_go 1 ?_
  refine sy_load 0 (r := sliceOp Tryd.prog 32 (.slice (some ⟨q, 0, none⟩) (n + 1) (2 * (n + 1) + 1)) (some (J i)) (some (J (i + 1))) (some (J (n + 1)))) (h' := g) (by kernel_rfl) (sl_mid (by omega) (by omega) (by omega)) ?_
  refine ok_go 1 ?_
  refine sy_no 0 (b := Int.ofNat i == Int.ofNat (i + 1)) (by kernel_rfl) (beq_eq_false_iff_ne.2 fun h => by have := Int.ofNat.inj h; omega) ?_
  refine ok_go 1 ?_
  refine sy_load 0 (r := sliceOp Tryd.prog 32 (.slice (some ⟨q, 0, none⟩) (n + 1) (2 * (n + 1) + 1)) none (some (J i)) none) (h' := g) (by kernel_rfl) (sl_hi (by omega) (by omega)) ?_
  refine ok_go 0 ?_
  have hx : ∃ y, sliceOp Tryd.prog 32 (.slice (some ⟨q, 0, none⟩) (n + 1) (2 * (n + 1) + 1)) (some (J (i + 1))) none none = some y ∧ (∃ a k c, y = .slice a k c) ∧ appendOp Tryd.prog g 32 (.slice (some ⟨q, 0, none⟩) i (2 * (n + 1) + 1)) y = some (.slice (some ⟨q, 0, none⟩) n (2 * (n + 1) + 1), g.put q (.cells (splice cs i (cs.drop (i + 1))) 3 true)) := by
    by_cases hin : i = n
    · subst hin
      refine ⟨_, sl_end (by omega), ⟨_, _, _, rfl⟩, ?_⟩
      have hd : cs.drop (i + 1) = [] := List.drop_eq_nil_of_le (by omega)
      have := app_in hg hc (i := i) (new := cs.drop (i + 1)) (x := .slice (some ⟨q, 0, some (i + 1)⟩) 0 1) (by omega) (by omega) (by rw [hd]; rfl) (by rw [hd]; rfl) hds
      rw [this, hlen]
    · refine ⟨_, sl_lo (by omega) (by omega) (by omega), ⟨_, _, _, rfl⟩, ?_⟩
      obtain ⟨e1, e2⟩ := drop_elems hg (i + 1) (2 * (n + 1 - (i + 1)) + 1)
      rw [hc] at e1 e2
      have := app_in hg hc (i := i) (by omega) (by omega) e1 e2 hds
      rw [this, hlen]
  obtain ⟨_, hy, ⟨ya, yk, yc, rfl⟩, happ⟩ := hx
  refine sy_load 0 (r := sliceOp Tryd.prog 32 (.slice (some ⟨q, 0, none⟩) (n + 1) (2 * (n + 1) + 1)) (some (J (i + 1))) none none) (h' := g) (by kernel_rfl) hy ?_
  refine ok_go 0 ?_
  refine sy_call 0 (by kernel_rfl) happ ?_
  have W := W.put 0 rfl (.cells (splice cs i (cs.drop (i + 1))) 3 true)
  generalize g.put q (.cells (splice cs i (cs.drop (i + 1))) 3 true) = g2 at *
  have hg2 := W.get 0 rfl
  have hl2 : (splice cs i (cs.drop (i + 1))).length = n + 1 := by
    unfold splice
    simp
    omega
  refine ok_go 1 ?_
  refine sy_load 0 (r := sliceOp Tryd.prog 32 (.slice (some ⟨q, 0, none⟩) n (2 * (n + 1) + 1)) (some (J n)) (some (J (n + 1))) none) (h' := g2) (by kernel_rfl) (sl_two (by omega) (by omega) (by omega)) ?_
  refine ok_go 0 ?_
  refine sy_store 0 (r := clearOp Tryd.prog g2 32 (.slice (some ⟨q, n, none⟩) (n + 1 - n) (2 * (n + 1 - n) + 1))) (by kernel_rfl) (by rw [show n + 1 - n = 1 by omega]; exact clear_one hg2 (by omega)) ?_
  have W := W.put 0 rfl (.cells (splice (splice cs i (cs.drop (i + 1))) n [J 0]) 3 true)
  rw [splice_del hc hi] at W ⊢
  refine sy_done 0 (v := Value.slice (some { block := q, off := 0 }) n (2 * (n + 1) + 1)) (h := { objs := Tr.set (Hp.objs g2) q (some (AObj.cells (List.eraseIdx cs i ++ [J 0]) 3 true)), next := Hp.next g2 }) (by kernel_rfl) ?_
  exact ⟨rfl, W⟩
end Go.Proofs.YtegcmgjldapnmaaDoor
namespace Go.Proofs.YtegcmgjldapnmaaDoor
open Go Go.Eng Nim Oct
set_option maxRecDepth 100000
set_option maxHeartbeats 8000000
/-- An append to an empty slice that is not nil. -/
theorem app_empty {g : Hp} {b : Nat} {o : Bool} {new : List Value} {x : Value} (hg : g.get b = some (.cells [] 3 o)) (hn : 1 ≤ new.length) (hN : new.length ≤ 10000) (h1 : lenV x = some new.length) (h2 : elems g 1 new.length x = some new) (h3 : new.all scalar = true) :
    appendOp Tryd.prog g 32 (.slice (some ⟨b, 0, none⟩) 0 0) x = some (.slice (some ⟨g.next, 0, none⟩) new.length (2 * new.length + 1), g.new (.cells new 3 true)) := by
  obtain ⟨inf, hi1, hi2⟩ := slz32.i
  obtain ⟨z, hz1, hz2⟩ := slz32.zr
  have hb : Nat.ble (0 + new.length) (0 / 2) = false := by
    cases h : Nat.ble (0 + new.length) (0 / 2) with
    | false => rfl
    | true => have := Nat.le_of_ble_eq_true h; omega
  have hl : loadN g b 0 (0 * 1) = some [] := by simp only [loadN, hg]; rfl
  simp only [appendOp, slz32.u, slz32.s, hi1, hz1, h1, h2, hz2, hi2, h3, Nat.ble_eq_true_of_le (show 0 + new.length ≤ most by unfold most; omega), hb, hl]
  simp
theorem clone_of (lf m : Nat) (vs : List Value) (hv : 1 ≤ vs.length) (hv2 : vs.length ≤ 1000) (hs : vs.all scalar = true) (x : Value) (h : Hp) (L : List (Nat × AObj)) (g : Hp) (hx : Rds g x vs) (W : Sto h g L) :
    ∃ v g', Ev lf (m + 1) 51 [x] g = some (v, g') ∧ ∃ q, v = .slice (some ⟨q, 0, none⟩) vs.length (2 * vs.length + 1) ∧ Sto h g' ((q, .cells vs 3 true) :: L) := by
  refine fnS_ok (Q := fun v g' => ∃ q, v = .slice (some ⟨q, 0, none⟩) vs.length (2 * vs.length + 1) ∧ Sto h g' ((q, .cells vs 3 true) :: L)) ?_
  have hx0 := hx
  rcases hx with ⟨_, rfl⟩ | ⟨i, off, c, rfl, hr⟩
  · simp at hv
  have V := Sto.start g
  refine ow_new 2 V (AObj.cells [] 3 false) (fun q => Value.slice (some { block := q, off := 0 }) 0 0) (by kernel_rfl) fun s1 ns1 Vs1 => ?_
  have V := Vs1
  obtain ⟨e1, e2⟩ := rds_elems (hx0.ext V.ext)
  have ha := app_empty (V.get 0 rfl) hv (by omega) e1 e2 hs
  refine sy_call 0 (by kernel_rfl) ha ?_
  have V := (V.new (.cells vs 3 true)).sub (l' := [(s1.next, .cells vs 3 true)]) (.cons_cons _ (List.nil_sublist _))
  refine sy_done 0 (v := Value.slice (some { block := Hp.next s1, off := 0 }) (List.length vs) (2 * List.length vs + 1)) (h := Hp.new s1 (AObj.cells vs 3 true)) (by kernel_rfl) ?_
  exact ⟨_, rfl, W.over V⟩
/-- An append of two more to a full open slice: a new block. -/
theorem app_two {g : Hp} {q n N : Nat} {cs old new : List Value} {x : Value} (hg : g.get q = some (.cells cs 3 true)) (hc : cs.length = N) (ho : cs.take n = old) (hn : n ≤ N) (hnew : N < n + new.length) (hN : n + new.length ≤ 10000) (h1 : lenV x = some new.length) (h2 : elems g 1 new.length x = some new) (h3 : new.all scalar = true) :
    appendOp Tryd.prog g 32 (.slice (some ⟨q, 0, none⟩) n (2 * N + 1)) x = some (.slice (some ⟨g.next, 0, none⟩) (n + new.length) (2 * (n + new.length) + 1), (g.kill q).new (.cells (old ++ new) 3 true)) := by
  obtain ⟨inf, hi1, hi2⟩ := slz32.i
  obtain ⟨z, hz1, hz2⟩ := slz32.zr
  obtain ⟨o1, o2⟩ := odd_half N
  have hb : Nat.ble (n + new.length) N = false := by
    cases h : Nat.ble (n + new.length) N with
    | false => rfl
    | true => have := Nat.le_of_ble_eq_true h; omega
  have hl : loadN g q 0 (n * 1) = some old := by
    simp only [loadN, hg, List.drop_zero, Nat.mul_one]
    rw [← ho]
    exact takeN_take (hc ▸ takeN_all cs) n hn
  have h4 : Nat.beq ((2 * N + 1) % 2) 0 = false := by rw [show (2 * N + 1) % 2 = 1 by omega]; rfl
  have h5 : (Nat.beq 3 3 && Nat.beq cs.length (N * 1)) = true := by rw [hc, Nat.mul_one, Nat.beq_refl, Nat.beq_refl]; rfl
  have h6 : Nat.beq 0 0 = true := rfl
  simp only [appendOp, slz32.u, slz32.s, hi1, hz1, h1, h2, hz2, hi2, h3, Nat.ble_eq_true_of_le (show n + new.length ≤ most by unfold most; omega), o1, hb, hl, h4, h6, hg, h5]
end Go.Proofs.YtegcmgjldapnmaaDoor
namespace Go.Proofs.YtegcmgjldapnmaaDoor
open Go Go.Eng Nim Oct
set_option maxRecDepth 100000
set_option maxHeartbeats 8000000
theorem idxf_of (lf m C : Nat) (p : Int → Bool) (zs : List Int) (hlf : zs.length < lf) (hsm : lf < 2 ^ 62) (x : Value) (g : Hp) (hx : Rds g x (zs.map I)) (hp : ∀ z ∈ zs, Ev lf m C [I z] g = some (.bool (p z), g)) :
    ∃ v g', Ev lf (m + 1) 64 [x, .func (.func C) #[] #[]] g = some (v, g') ∧ g' = g ∧ ((∃ i, ∃ hi : i < zs.length, v = J i ∧ p zs[i] = true ∧ ∀ z ∈ zs.take i, p z = false) ∨ (v = I (-1) ∧ ∀ z ∈ zs, p z = false)) := by
  refine fnS_ok (Q := fun v g' => g' = g ∧ ((∃ i, ∃ hi : i < zs.length, v = J i ∧ p zs[i] = true ∧ ∀ z ∈ zs.take i, p z = false) ∨ (v = I (-1) ∧ ∀ z ∈ zs, p z = false))) ?_
  obtain ⟨xa, xc, hxs⟩ := hx.shape
  rw [List.length_map] at hxs
  subst hxs
  refine ok_go 1 ?_
  refine sy_loop 0 lf g (α := Nat) (fun k => [(0, .slice xa zs.length xc), (1, .func (.func C) #[] #[]), (7, J zs.length), (8, J k)]) (fun k g' => k ≤ zs.length ∧ g' = g ∧ ∀ z ∈ zs.take k, p z = false) (fun k _ => zs.length - k) 0 (by kernel_rfl) (by kernel_rfl)
    ⟨by kernel_rfl, by kernel_rfl, by kernel_rfl, by kernel_rfl, trivial⟩ (show zs.length - 0 < lf by omega) ⟨Nat.zero_le _, rfl, fun z hz => by simp at hz⟩ ?_
  rintro m1 k F1 g ⟨hk, rfl, ha⟩ ih
  have hw : IntKind.wrap .i64 (Int.ofNat (k + 1)) = Int.ofNat (k + 1) := wrap_nat (by omega)
  refine ok_go 1 ?_
  refine sy_test 0 (decide (Int.ofNat k < Int.ofNat zs.length)) (by kernel_rfl) ?_ ?_
  · intro hlt
    have hlt : k < zs.length := ok_nat hlt
    obtain ⟨q, hq1, hq2⟩ := rdI hx hlt
    have ec := hp zs[k] (List.getElem_mem hlt)
    refine ok_go 0 ?_
    refine sy_load 0 (r := indexAddrOp Tryd.prog 32 (.slice xa zs.length xc) (J k)) (h' := g) (by kernel_rfl) hq1 ?_
    refine ok_go 0 ?_
    refine sy_load 0 (r := loadT Tryd.prog g 3 q) (h' := g) (by kernel_rfl) hq2 ?_
    refine ok_go 0 ?_
    refine sy_call 0 (by kernel_rfl) ec ?_
    refine ok_go 0 ?_
    refine sy_test 0 (p zs[k]) (by kernel_rfl) ?_ ?_
    · intro hp1
      refine sy_done 0 (v := Value.int IntKind.i64 (Int.ofNat k)) (h := g) (by kernel_rfl) ?_
      exact ⟨rfl, .inl ⟨k, hlt, rfl, hp1, ha⟩⟩
    · intro hp1
      refine ok_go 1 ?_
      exact sy_next 0 _ g (by kernel_rfl) (by kernel_rfl) (ih (k + 1) _ g ⟨hlt, rfl, fun z hz => by
        rw [List.take_succ_eq_append_getElem hlt] at hz
        rcases List.mem_append.1 hz with h | h
        · exact ha z h
        · rw [List.mem_singleton.1 h]; exact hp1⟩ (show zs.length - (k + 1) < zs.length - k by omega) ⟨by kernel_rfl, by kernel_rfl, by kernel_rfl, (by kernel_rfl : _ = Value.int .i64 (IntKind.wrap .i64 (Int.ofNat (k + 1)))).trans (by rw [hw]), trivial⟩)
  · intro hlt
    have hlt : k = zs.length := Nat.le_antisymm hk (no_nat hlt)
    subst hlt
    rw [List.take_length] at ha
    refine sy_done 0 (v := Value.int IntKind.i64 (Int.negSucc 0)) (h := g) (by kernel_rfl) ?_
    exact ⟨rfl, .inr ⟨rfl, ha⟩⟩
theorem zero_of (lf m : Nat) (z : Int) (g : Hp) : Ev lf (m + 1) 53 [I z] g = some (.bool (z == 0), g) := by
  refine fn_eq ?_
  refine ok_go 1 ?_
  refine sy_done 0 (v := Value.bool (z == 0)) (h := g) (by kernel_rfl) ?_
  exact ⟨rfl, rfl⟩
end Go.Proofs.YtegcmgjldapnmaaDoor
namespace Go.Proofs.YtegcmgjldapnmaaDoor.Oct
def nz (n : Nat) : Bool := n != 0
theorem filt_take {zs : List Nat} {j : Nat} (h : j < zs.length) : (zs.take (j + 1)).filter nz = (zs.take j).filter nz ++ (if nz zs[j] then [zs[j]] else []) := by
  rw [List.take_succ_eq_append_getElem h, List.filter_append]
  congr 1
  rw [List.filter_cons]
  split <;> rfl
end Go.Proofs.YtegcmgjldapnmaaDoor.Oct
namespace Go.Proofs.YtegcmgjldapnmaaDoor
open Go Go.Eng Nim Oct
set_option maxRecDepth 100000
set_option maxHeartbeats 8000000
theorem clear_to {g : Hp} {q k n c : Nat} {cs : List Value} (hg : g.get q = some (.cells cs 3 true)) (hk : k + n ≤ cs.length) : ∃ g', clearOp Tryd.prog g 32 (.slice (some ⟨q, k, none⟩) n c) = some g' ∧ (g' = g ∧ n = 0 ∨ ∃ cs', g' = g.put q (.cells cs' 3 true) ∧ cs'.length = cs.length ∧ cs'.take k = cs.take k) := by
  have hz : zeroOf Tryd.prog 3 = some (J 0) := by kernel_rfl
  have hzl : ∀ n, (zeros [J 0] n).length = n ∧ (zeros [J 0] n).all scalar = true := fun n => by
    rw [zeros_one, cellsF_len]
    exact ⟨rfl, by simp [cellsF, scalar]⟩
  cases n with
  | zero => exact ⟨g, by simp only [clearOp, u22], .inl ⟨rfl, rfl⟩⟩
  | succ n =>
    obtain ⟨l1, l2⟩ := hzl (n + 1)
    refine ⟨g.put q (.cells (splice cs k (zeros [J 0] (n + 1))) 3 true), ?_, .inr ⟨_, rfl, ?_, ?_⟩⟩
    · simp only [clearOp, u22, hz]
      show storeN g q k (zeros [J 0] (n + 1)) = _
      simp only [storeN, hg, l1, l2, Nat.ble_eq_true_of_le hk]
    · unfold splice
      rw [List.length_append, List.length_append, List.length_take, List.length_drop, l1]
      omega
    · unfold splice
      rw [List.append_assoc, List.take_append_of_le_length (by rw [List.length_take]; omega), List.take_take, Nat.min_self]
theorem delf_of (lf m : Nat) (hlf : 300 ≤ lf) (hsm : lf < 2 ^ 62) (zs : List Nat) (M : Nat) (hM : zs.length = M) (h1 : 1 ≤ M) (h2 : M ≤ 100) (q : Nat) (h : Hp) (L : List (Nat × AObj)) (g : Hp) (W : Sto h g ((q, .cells (zs.map J) 3 true) :: L)) :
    ∃ v g', Ev lf (m + 3) 52 [.slice (some ⟨q, 0, none⟩) M (2 * M + 1), .func (.func 53) #[] #[]] g = some (v, g') ∧ v = .slice (some ⟨q, 0, none⟩) (zs.filter nz).length (2 * M + 1) ∧ ∃ cs, Sto h g' ((q, .cells cs 3 true) :: L) ∧ cs.length = M ∧ cs.take (zs.filter nz).length = (zs.filter nz).map J := by
  refine fnS_ok (Q := fun v g' => v = .slice (some ⟨q, 0, none⟩) (zs.filter nz).length (2 * M + 1) ∧ ∃ cs, Sto h g' ((q, .cells cs 3 true) :: L) ∧ cs.length = M ∧ cs.take (zs.filter nz).length = (zs.filter nz).map J) ?_
  have hrd : Rds g (.slice (some ⟨q, 0, none⟩) M (2 * M + 1)) ((zs.map Int.ofNat).map I) := by
    refine .inr ⟨q, 0, 2 * M + 1, by simp [hM], fun _ => ⟨W.lt 0 rfl, ?_⟩⟩
    have : (zs.map Int.ofNat).map I = zs.map J := by rw [List.map_map]; rfl
    rw [this]
    unfold loadN
    rw [W.get 0 rfl]
    exact takeN_all _
  obtain ⟨v, g1, e, hg1, hv⟩ := idxf_of lf (m + 1) 53 (fun z => z == 0) (zs.map Int.ofNat) (by rw [List.length_map]; omega) hsm _ g hrd fun z _ => zero_of lf m z g
  rw [hg1] at e
  refine ok_go 0 ?_
  rcases hv with ⟨i, hi, rfl, hp, ht⟩ | ⟨rfl, ha⟩
  · refine sy_call 0 (by kernel_rfl) e ?_
    have hil : i < M := by rw [List.length_map] at hi; omega
    have hzi : zs[i]'(by omega) = 0 := by
      have := eq_of_beq hp
      rw [List.getElem_map] at this
      exact Int.ofNat.inj this
    have hft : (zs.take i).filter nz = zs.take i := by
      rw [List.filter_eq_self]
      intro x hx
      have := ht (Int.ofNat x) (by rw [← List.map_take]; exact List.mem_map.2 ⟨x, hx, rfl⟩)
      have : Int.ofNat x ≠ 0 := by simpa using this
      unfold nz
      simpa using this
    have hw1 : IntKind.wrap .i64 (Int.ofNat (i + 1)) = Int.ofNat (i + 1) := wrap_nat (by omega)
    refine ok_go 3 ?_
    refine sy_loop 0 lf g (α := Nat × List Value) (fun x => [(0, .slice (some ⟨q, 0, none⟩) M (2 * M + 1)), (1, .func (.func 53) #[] #[]), (5, J ((zs.take x.1).filter nz).length), (6, J x.1)]) (fun x g => i + 1 ≤ x.1 ∧ x.1 ≤ M ∧ Sto h g ((q, .cells x.2 3 true) :: L) ∧ x.2.length = M ∧ x.2.take ((zs.take x.1).filter nz).length = ((zs.take x.1).filter nz).map J ∧ x.2.drop x.1 = (zs.drop x.1).map J ∧ ((zs.take x.1).filter nz).length < x.1) (fun x _ => M - x.1) (i + 1, zs.map J) (by kernel_rfl) (by kernel_rfl)
      ⟨by kernel_rfl, by kernel_rfl, ?_, (by kernel_rfl : _ = Value.int .i64 (IntKind.wrap .i64 (Int.ofNat (i + 1)))).trans (by rw [hw1]), trivial⟩ (show M - (i + 1) < lf by omega) ⟨Nat.le_refl _, hil, W, by rw [List.length_map]; exact hM, ?_, by rw [List.map_drop], ?_⟩ ?_
    · refine (by kernel_rfl : _ = J i).trans ?_
      rw [filt_take (by omega), hft, hzi]
      show J i = J ((zs.take i ++ []).length)
      rw [List.append_nil, List.length_take, Nat.min_eq_left (by omega)]
    · dsimp only
      rw [filt_take (by omega), hft, hzi]
      show (zs.map J).take (zs.take i ++ []).length = (zs.take i ++ []).map J
      rw [List.append_nil, List.length_take, Nat.min_eq_left (by omega), List.map_take]
    · dsimp only
      rw [filt_take (by omega), hft, hzi]
      show (zs.take i ++ []).length < i + 1
      rw [List.append_nil, List.length_take]
      omega
    clear W hrd e
    rintro m1 ⟨j, cs⟩ F1 g ⟨hj1, hj2, W, hcl, hct, hcd, hfl⟩ ih
    dsimp only at hj1 hj2 W hcl hct hcd hfl
    have hwj : IntKind.wrap .i64 (Int.ofNat (j + 1)) = Int.ofNat (j + 1) := wrap_nat (by omega)
    refine ok_go 2 ?_
    refine sy_test 0 (decide (Int.ofNat j < Int.ofNat M)) (by kernel_rfl) ?_ ?_
    · intro hlt
      have hlt : j < M := ok_nat hlt
      have hjz : j < zs.length := by omega
      have hld : cs[j]? = some (J zs[j]) := by
        have : (cs.drop j)[0]? = some (J zs[j]) := by rw [hcd, List.getElem?_map, List.getElem?_drop, Nat.add_zero, List.getElem?_eq_getElem hjz]; rfl
        rwa [List.getElem?_drop, Nat.add_zero] at this
      have hcd1 : cs.drop (j + 1) = (zs.drop (j + 1)).map J := by
        rw [← List.drop_drop (i := 1) (j := j), hcd, ← List.map_drop, List.drop_drop]
      have hftk := filt_take hjz
      generalize zs[j] = y at *
      refine ok_go 0 ?_
      refine sy_load 0 (r := indexAddrOp Tryd.prog 32 (.slice (some ⟨q, 0, none⟩) M (2 * M + 1)) (J j)) (h' := g) (by kernel_rfl) (idxS0 (e := 3) (by kernel_rfl) (by kernel_rfl) hlt) ?_
      refine ok_go 0 ?_
      refine ow_load (P := Tryd.prog) (T := 3) (off := j) 0 0 W rfl hld (by kernel_rfl) (by kernel_rfl) ?_
      refine ok_go 2 ?_
      refine sy_test 0 (!(Int.ofNat y == 0)) (by kernel_rfl) ?_ ?_
      · intro hy
        have hy : nz y = true := by
          have : ¬ (Int.ofNat y = 0) := by simpa using hy
          unfold nz
          simpa using this
        rw [if_pos hy] at hftk
        generalize hk : ((zs.take j).filter nz).length = k at *
        have hl2 : ((zs.take (j + 1)).filter nz).length = k + 1 := by rw [hftk, List.length_append, hk]; rfl
        have hwk : IntKind.wrap .i64 (Int.ofNat (k + 1)) = Int.ofNat (k + 1) := wrap_nat (by omega)
        refine ok_go 0 ?_
        refine sy_load 0 (r := indexAddrOp Tryd.prog 32 (.slice (some ⟨q, 0, none⟩) M (2 * M + 1)) (J k)) (h' := g) (by kernel_rfl) (idxS0 (e := 3) (by kernel_rfl) (by kernel_rfl) (by omega)) ?_
        refine ok_go 0 ?_
        refine ow_store (P := Tryd.prog) (T := 3) (off := k) (v := J y) 0 0 W rfl (by omega) (by kernel_rfl) (by kernel_rfl) (by kernel_rfl) fun g2 ng2 W => ?_
        refine ok_go 2 ?_
        refine sy_next 0 _ g2 (by kernel_rfl) (by kernel_rfl) (ih (j + 1, cs.set k (J y)) _ g2 ⟨by omega, hlt, W, by rw [List.length_set]; exact hcl, ?_, ?_, by dsimp only; omega⟩ (show M - (j + 1) < M - j by omega) ⟨by kernel_rfl, by kernel_rfl, (by kernel_rfl : _ = Value.int .i64 (IntKind.wrap .i64 (Int.ofNat (k + 1)))).trans (by rw [hwk]; dsimp only; rw [hl2]), (by kernel_rfl : _ = Value.int .i64 (IntKind.wrap .i64 (Int.ofNat (j + 1)))).trans (by rw [hwj]), trivial⟩)
        · dsimp only
          rw [hl2, hftk, List.map_append, ← hct, List.take_succ_eq_append_getElem (by rw [List.length_set]; omega), List.getElem_set_self, List.take_set_of_le (Nat.le_refl _)]
          rfl
        · dsimp only
          rw [List.drop_set_of_lt (by omega)]
          exact hcd1
      · intro hy
        have hy : nz y = false := by
          have : Int.ofNat y = 0 := by simpa using hy
          unfold nz
          rw [Int.ofNat.inj this]
          rfl
        rw [hy] at hftk
        have hftk : (zs.take (j + 1)).filter nz = (zs.take j).filter nz := by rw [hftk]; exact List.append_nil _
        refine ok_go 1 ?_
        exact sy_next 0 _ g (by kernel_rfl) (by kernel_rfl) (ih (j + 1, cs) _ g ⟨by omega, hlt, W, hcl, by dsimp only; rw [hftk]; exact hct, hcd1, by dsimp only; rw [hftk]; omega⟩ (show M - (j + 1) < M - j by omega) ⟨by kernel_rfl, by kernel_rfl, (by kernel_rfl : _ = J ((zs.take j).filter nz).length).trans (by dsimp only; rw [hftk]), (by kernel_rfl : _ = Value.int .i64 (IntKind.wrap .i64 (Int.ofNat (j + 1)))).trans (by rw [hwj]), trivial⟩)
    · intro hlt
      have hjM : j = M := Nat.le_antisymm hj2 (no_nat hlt)
      have htk : zs.take j = zs := List.take_of_length_le (by omega)
      have hfe : ((zs.take j).filter nz).length = (zs.filter nz).length := by rw [htk]
      rw [htk] at hct hfl
      obtain ⟨g2, ec, hg2⟩ := clear_to (g := g) (q := q) (k := (zs.filter nz).length) (n := M - (zs.filter nz).length) (c := 2 * (M - (zs.filter nz).length) + 1) (W.get 0 rfl) (by omega)
      have hW : ∃ cs', Sto h g2 ((q, .cells cs' 3 true) :: L) ∧ cs'.length = M ∧ cs'.take (zs.filter nz).length = (zs.filter nz).map J := by
        rcases hg2 with ⟨rfl, _⟩ | ⟨cs', rfl, c1, c2⟩
        · exact ⟨cs, W, hcl, hct⟩
        · exact ⟨cs', W.put 0 rfl _, by rw [c1]; exact hcl, by rw [c2]; exact hct⟩
      refine ok_go 0 ?_
      refine sy_load 0 (r := sliceOp Tryd.prog 32 (.slice (some ⟨q, 0, none⟩) M (2 * M + 1)) (some (J ((zs.take j).filter nz).length)) none none) (h' := g) (v := .slice (some ⟨q, (zs.filter nz).length, none⟩) (M - (zs.filter nz).length) (2 * (M - (zs.filter nz).length) + 1)) (by kernel_rfl) (by rw [hfe]; exact sl_lo (by omega) (Nat.le_refl _) (by omega)) ?_
      refine ok_go 0 ?_
      refine sy_store 0 (r := clearOp Tryd.prog g 32 (.slice (some ⟨q, (zs.filter nz).length, none⟩) (M - (zs.filter nz).length) (2 * (M - (zs.filter nz).length) + 1))) (by kernel_rfl) ec ?_
      refine ok_go 0 ?_
      refine sy_load 0 (r := sliceOp Tryd.prog 32 (.slice (some ⟨q, 0, none⟩) M (2 * M + 1)) none (some (J ((zs.take j).filter nz).length)) none) (h' := g2) (v := .slice (some ⟨q, 0, none⟩) (zs.filter nz).length (2 * M + 1)) (by kernel_rfl) (by rw [hfe]; exact sl_hi (by omega) (by omega)) ?_
      refine sy_done 0 (v := Value.slice (some { block := q, off := 0 }) (List.length (List.filter nz zs)) (2 * M + 1)) (h := g2) (by kernel_rfl) ?_
      exact ⟨rfl, hW⟩
  · refine sy_call 0 (by kernel_rfl) e ?_
    refine sy_done 2 (v := Value.slice (some { block := q, off := 0 }) M (2 * M + 1)) (h := g) (by kernel_rfl) ?_
    have hf : zs.filter nz = zs := by
      rw [List.filter_eq_self]
      intro x hx
      have := ha (Int.ofNat x) (List.mem_map.2 ⟨x, hx, rfl⟩)
      have : Int.ofNat x ≠ 0 := by simpa using this
      unfold nz
      simpa using this
    refine ⟨by rw [hf, hM], zs.map J, W, by rw [List.length_map]; exact hM, ?_⟩
    rw [hf, List.take_of_length_le (by rw [List.length_map]; exact Nat.le_refl _)]
end Go.Proofs.YtegcmgjldapnmaaDoor
namespace Go.Proofs.YtegcmgjldapnmaaDoor
open Go Go.Eng Nim Oct
set_option maxRecDepth 100000
set_option maxHeartbeats 8000000
abbrev DatI (h : Hp) (l : List (Nat × AObj)) (q N : Nat) (o : Bool) (f : Nat → Value) (g : Hp) : Prop := Sto h g ((q, .cells (cellsF N f) 3 o) :: l)
def keyJ : Value → Int
  | .int _ z => z
  | _ => 0
def ltJ (x y : Value) : Prop := keyJ x < keyJ y
instance (x y : Value) : Decidable (ltJ x y) := inferInstanceAs (Decidable (keyJ x < keyJ y))
def VJ (x : Value) : Prop := ∃ n : Nat, x = J n
theorem VJ.sc {x : Value} (h : VJ x) : scalar x = true := by obtain ⟨n, rfl⟩ := h; rfl
theorem ordJ : Ord ltJ := ⟨fun {x y} h => by unfold ltJ at *; omega, fun {x y z} h1 h2 => by unfold ltJ at *; omega⟩
theorem less_of (lf m : Nat) (a b : Int) (g : Hp) : Ev lf (m + 2) 86 [I a, I b] g = some (.bool (decide (a < b)), g) := by
  refine fn_eq ?_
  refine sy_no 1 (b := a != a) (by kernel_rfl) (bne_self_eq_false _) ?_
  refine ok_go 8 ?_
  refine sy_done 0 (v := Value.bool (decide (a < b))) (h := g) (by kernel_rfl) ?_
  exact ⟨rfl, rfl⟩
theorem lessV_of (lf m : Nat) (g : Hp) {x y : Value} (hx : VJ x) (hy : VJ y) : Ev lf (m + 2) 86 [x, y] g = some (.bool (decide (ltJ x y)), g) := by
  obtain ⟨a, rfl⟩ := hx
  obtain ⟨b, rfl⟩ := hy
  exact less_of lf m _ _ g
section
variable {lf m q N : Nat} {h : Hp} {l : List (Nat × AObj)} {o : Bool}
theorem isortI_of (hlf : 20000 ≤ lf) (hN : N ≤ 10000) (n c : Nat) (f : Nat → Value) (b : Nat) (hb : b ≤ N) (hbn : b ≤ n) (hV : ∀ k, k < b → VJ (f k)) (g : Hp) (W : DatI h l q N o f g) :
    ∃ v g', Ev lf (m + 3) 80 [.slice (some ⟨q, 0, none⟩) n c, J 0, J b] g = some (v, g') ∧ ∃ f', DatI h l q N o f' g' ∧ Sw 0 b f f' ∧ Srt ltJ f' 0 b := by
  refine fnS_ok (Q := fun v g' => ∃ f', DatI h l q N o f' g' ∧ Sw 0 b f f' ∧ Srt ltJ f' 0 b) ?_
  let SL : Value := .slice (some ⟨q, 0, none⟩) n c
  refine ok_go 1 ?_
  refine sy_loop 0 lf g (α := Nat × (Nat → Value)) (fun x => [(0, SL), (1, J 0), (2, J b), (6, J x.1)]) (fun x g => 1 ≤ x.1 ∧ x.1 ≤ b + 1 ∧ DatI h l q N o x.2 g ∧ Sw 0 b f x.2 ∧ Srt ltJ x.2 0 x.1) (fun x _ => b + 1 - x.1) (1, f) (by kernel_rfl) (by kernel_rfl)
    ⟨by kernel_rfl, by kernel_rfl, by kernel_rfl, by kernel_rfl, trivial⟩ (show b + 1 - 1 < lf by omega) ⟨Nat.le_refl _, by omega, W, .refl f, fun x y h1 h2 h3 => by omega⟩ ?_
  clear W
  rintro m1 ⟨i, f1⟩ F1 g ⟨hi1, hi2, W, S, R⟩ ih
  dsimp only at hi1 hi2 W S R
  have hw : IntKind.wrap .i64 (Int.ofNat (i + 1)) = Int.ofNat (i + 1) := wrap_nat (by omega)
  refine ok_go 1 ?_
  refine sy_test 0 (decide (Int.ofNat i < Int.ofNat b)) (by kernel_rfl) ?_ ?_
  · intro hlt
    have hlt : i < b := ok_nat hlt
    refine ok_go 0 ?_
    refine sy_loop 0 lf g (α := Nat × (Nat → Value)) (fun x => [(0, SL), (1, J 0), (2, J b), (6, J i), (7, J x.1)]) (fun x g => 0 ≤ x.1 ∧ x.1 ≤ i ∧ DatI h l q N o x.2 g ∧ Sw 0 b f x.2 ∧ Ins ltJ x.2 0 i x.1) (fun x _ => x.1) (i, f1) (by kernel_rfl) (by kernel_rfl)
      ⟨by kernel_rfl, by kernel_rfl, by kernel_rfl, by kernel_rfl, by kernel_rfl, trivial⟩ (show i < lf by omega) ⟨by omega, Nat.le_refl _, W, S, .start R⟩ ?_
    clear W S R
    rintro m2 ⟨j, f2⟩ F2 g ⟨hj1, hj2, W, S, R⟩ ih2
    dsimp only at hj1 hj2 W S R
    refine ok_go 1 ?_
    refine sy_test 0 (decide (Int.ofNat j > 0)) (by kernel_rfl) ?_ ?_
    · intro hja
      have hja : 0 < j := ok_nat (a := 0) hja
      obtain ⟨j, rfl⟩ : ∃ k, j = k + 1 := ⟨j - 1, by omega⟩
      have hwj : IntKind.wrap .i64 (Int.ofNat (j + 1) - 1) = Int.ofNat j := sub_one (by omega)
      have hV2 := S.every (Nat.le_refl b) hV
      have ec := lessV_of lf m g (hV2 (j + 1) (by omega)) (hV2 j (by omega))
      refine ok_go 2 ?_
      refine sy_load 0 (r := indexAddrOp Tryd.prog 32 SL (J (j + 1))) (h' := g) (by kernel_rfl) (idxS0 (e := 3) (by kernel_rfl) (by kernel_rfl) (by omega)) ?_
      refine ok_go 1 ?_
      refine ow_loadF (P := Tryd.prog) (T := 3) (off := j + 1) 0 0 W rfl (by omega) (by kernel_rfl) (by kernel_rfl) ?_
      refine ok_go 5 ?_
      refine sy_load 0 (r := indexAddrOp Tryd.prog 32 SL (I (IntKind.wrap .i64 (Int.ofNat (j + 1) - 1)))) (h' := g) (v := ptr q j) (by kernel_rfl) (by rw [hwj]; exact idxS0 (e := 3) (by kernel_rfl) (by kernel_rfl) (by omega)) ?_
      refine ok_go 1 ?_
      refine ow_loadF (P := Tryd.prog) (T := 3) (off := j) 0 0 W rfl (by omega) (by kernel_rfl) (by kernel_rfl) ?_
      refine ok_go 1 ?_
      refine sy_call 0 (by kernel_rfl) ec ?_
      refine ok_go 1 ?_
      refine sy_test 0 (decide (ltJ (f2 (j + 1)) (f2 j))) (by kernel_rfl) ?_ ?_
      · intro hz0
        have hz0 : ltJ (f2 (j + 1)) (f2 j) := of_decide_eq_true hz0
        refine ok_go 2 ?_
        refine sy_load 0 (r := indexAddrOp Tryd.prog 32 SL (I (IntKind.wrap .i64 (Int.ofNat (j + 1) - 1)))) (h' := g) (v := ptr q (j)) (by kernel_rfl) (by rw [hwj]; exact idxS0 (e := 3) (by kernel_rfl) (by kernel_rfl) (by omega)) ?_
        refine ok_go 0 ?_
        refine ow_loadF (P := Tryd.prog) (T := 3) (off := j) 0 0 W rfl (by omega) (by kernel_rfl) (by kernel_rfl) ?_
        refine ok_go 0 ?_
        refine sy_load 0 (r := indexAddrOp Tryd.prog 32 SL (J (j + 1))) (h' := g) (v := ptr q (j + 1)) (by kernel_rfl) (idxS0 (e := 3) (by kernel_rfl) (by kernel_rfl) (by omega)) ?_
        refine ok_go 0 ?_
        refine ow_loadF (P := Tryd.prog) (T := 3) (off := j + 1) 0 0 W rfl (by omega) (by kernel_rfl) (by kernel_rfl) ?_
        refine ok_go 0 ?_
        refine sy_load 0 (r := indexAddrOp Tryd.prog 32 SL (J (j + 1))) (h' := g) (v := ptr q (j + 1)) (by kernel_rfl) (idxS0 (e := 3) (by kernel_rfl) (by kernel_rfl) (by omega)) ?_
        refine ok_go 0 ?_
        refine ow_storeF (P := Tryd.prog) (T := 3) (off := j + 1) (v := f2 (j)) 0 0 W rfl (by omega) (by kernel_rfl) (VJ.sc (hV2 _ (by omega))) (by kernel_rfl) fun ga nga W => ?_
        refine ok_go 0 ?_
        refine sy_load 0 (r := indexAddrOp Tryd.prog 32 SL (I (IntKind.wrap .i64 (Int.ofNat (j + 1) - 1)))) (h' := ga) (v := ptr q (j)) (by kernel_rfl) (by rw [hwj]; exact idxS0 (e := 3) (by kernel_rfl) (by kernel_rfl) (by omega)) ?_
        refine ok_go 0 ?_
        refine ow_storeF (P := Tryd.prog) (T := 3) (off := j) (v := f2 (j + 1)) 0 0 W rfl (by omega) (by kernel_rfl) (VJ.sc (hV2 _ (by omega))) (by kernel_rfl) fun g3 ng3 W => ?_
        refine ok_go 1 ?_
        have W : DatI h l q N o (swp f2 (j + 1) (j)) g3 := by rw [← updF_swp]; exact W
        exact sy_next 0 _ g3 (by kernel_rfl) (by kernel_rfl) (ih2 (j, swp f2 (j + 1) j) _ g3 ⟨by omega, by omega, W, S.trans (.one (by omega) (by omega) (by omega) (by omega)), R.swap ordJ (by omega) (by omega) hz0⟩ (show j < j + 1 by omega) ⟨by kernel_rfl, by kernel_rfl, by kernel_rfl, by kernel_rfl, (by kernel_rfl : _ = Value.int .i64 (IntKind.wrap .i64 (Int.ofNat (j + 1) - 1))).trans (by rw [hwj]), trivial⟩)
      · intro hz0
        have hz0 : ¬ ltJ (f2 (j + 1)) (f2 j) := of_decide_eq_false hz0
        refine ok_go 1 ?_
        exact sy_next 0 _ g (by kernel_rfl) (by kernel_rfl) (ih (i + 1, f2) _ g ⟨by omega, by omega, W, S, R.done ordJ (.inr ⟨hja, hz0⟩)⟩ (show b + 1 - (i + 1) < b + 1 - i by omega) ⟨by kernel_rfl, by kernel_rfl, by kernel_rfl, (by kernel_rfl : _ = Value.int .i64 (IntKind.wrap .i64 (Int.ofNat (i + 1)))).trans (by rw [hw]), trivial⟩)
    · intro hja
      have hja : j = 0 := Nat.le_antisymm (no_nat (a := 0) hja) hj1
      refine ok_go 12 ?_
      exact sy_next 0 _ g (by kernel_rfl) (by kernel_rfl) (ih (i + 1, f2) _ g ⟨by omega, by omega, W, S, R.done ordJ (.inl hja)⟩ (show b + 1 - (i + 1) < b + 1 - i by omega) ⟨by kernel_rfl, by kernel_rfl, by kernel_rfl, (by kernel_rfl : _ = Value.int .i64 (IntKind.wrap .i64 (Int.ofNat (i + 1)))).trans (by rw [hw]), trivial⟩)
  · intro hlt
    have hlt : b ≤ i := no_nat hlt
    refine sy_done 0 (v := Value.tuple { toList := [] }) (h := g) (by kernel_rfl) ?_
    exact ⟨f1, W, S, fun x y h1 h2 h3 => R x y h1 h2 (by omega)⟩
end
end Go.Proofs.YtegcmgjldapnmaaDoor
namespace Go.Proofs.YtegcmgjldapnmaaDoor
open Go Go.Eng Nim Oct
set_option maxRecDepth 100000
set_option maxHeartbeats 8000000
theorem cells_fn (cs : List Value) : cs = cellsF cs.length fun i => cs.getD i (J 0) := by
  apply List.ext_getElem
  · rw [cellsF_len]
  · intro i h1 h2
    have : (cellsF cs.length fun i => cs.getD i (J 0))[i]? = some (cs.getD i (J 0)) := cellsF_get h1
    rw [List.getElem?_eq_getElem h2] at this
    rw [Option.some.inj this, List.getD_eq_getElem?_getD, List.getElem?_eq_getElem h1]
    rfl
theorem sortI_of (lf m : Nat) (hlf : 20000 ≤ lf) (cs : List Value) (M k C q : Nat) (hM : cs.length = M) (hk : k ≤ 12) (hkM : k ≤ M) (hM2 : M ≤ 100) (zs : List Nat) (hzk : zs.length = k) (hz : cs.take k = zs.map J) (h : Hp) (L : List (Nat × AObj)) (g : Hp) (W : Sto h g ((q, .cells cs 3 true) :: L)) :
    ∃ v g', Ev lf (m + 5) 54 [.slice (some ⟨q, 0, none⟩) k C] g = some (v, g') ∧ ∃ cs' ys, Sto h g' ((q, .cells cs' 3 true) :: L) ∧ cs'.length = M ∧ cs'.take k = (ys : List Nat).map J ∧ ys.Perm zs ∧ ys.Pairwise (· ≤ ·) := by
  refine fnS_ok (Q := fun v g' => ∃ cs' ys, Sto h g' ((q, .cells cs' 3 true) :: L) ∧ cs'.length = M ∧ cs'.take k = (ys : List Nat).map J ∧ ys.Perm zs ∧ ys.Pairwise (· ≤ ·)) ?_
  obtain ⟨_, g1, e1, hg1, t, rfl, _, _⟩ := len_of lf (m + 2) k (by omega) g
  have e1 : Ev lf (m + 4) 67 [.int .u64 (IntKind.wrap .u64 (Int.ofNat k))] g = some (J t, g) := by rw [wrap_u64 (by omega)]; rw [hg1] at e1; exact e1
  rw [cells_fn cs, hM] at W
  have hf : ∀ i, i < k → (cs.getD i (J 0)) = J (zs.getD i 0) := fun i hi => by
    have h1 : (cs.take k)[i]? = (zs.map J)[i]? := by rw [hz]
    rw [List.getElem?_take, if_pos hi, List.getElem?_map] at h1
    rw [List.getD_eq_getElem?_getD, h1, List.getD_eq_getElem?_getD, List.getElem?_eq_getElem (by omega)]
    rfl
  obtain ⟨v2, g2, e2, f2, W2, S2, Z2⟩ := isortI_of (m := m) hlf (show M ≤ 10000 by omega) k C (fun i => cs.getD i (J 0)) k hkM (Nat.le_refl _) (fun i hi => ⟨_, hf i hi⟩) g W
  have hVJ : ∀ i, i < k → VJ (f2 i) := S2.every (Nat.le_refl k) fun i hi => ⟨_, hf i hi⟩
  have hkey : ∀ i, i < k → f2 i = J (keyJ (f2 i)).toNat := fun i hi => by
    obtain ⟨n, e⟩ := hVJ i hi
    rw [e]
    rfl
  have hpost : ∃ cs' ys, Sto h g2 ((q, .cells cs' 3 true) :: L) ∧ cs'.length = M ∧ cs'.take k = (ys : List Nat).map J ∧ ys.Perm zs ∧ ys.Pairwise (· ≤ ·) := by
    refine ⟨cellsF M f2, (List.range k).map fun i => (keyJ (f2 i)).toNat, W2, cellsF_len _ _, ?_, ?_, ?_⟩
    · show ((List.range M).map f2).take k = _
      rw [← List.map_take, List.take_range, Nat.min_eq_left hkM, List.map_map]
      exact List.map_congr_left fun i hi => hkey i (List.mem_range.1 hi)
    · have hp := (S2.perm).map fun v => (keyJ v).toNat
      rw [List.map_map, List.map_map] at hp
      refine hp.trans (List.Perm.of_eq ?_)
      apply List.ext_getElem
      · simp [hzk]
      · intro i h1 h2
        simp only [List.getElem_map, List.getElem_range, Function.comp]
        rw [hf i (by simpa using h1), List.getD_eq_getElem?_getD, List.getElem?_eq_getElem h2]
        rfl
    · rw [List.pairwise_map]
      refine List.Pairwise.imp_of_mem ?_ (List.pairwise_lt_range (n := k))
      intro i j hi hj hij
      have hn := Z2 i j (Nat.zero_le _) hij (List.mem_range.1 hj)
      obtain ⟨a, ea⟩ := hVJ i (List.mem_range.1 hi)
      obtain ⟨b, eb⟩ := hVJ j (List.mem_range.1 hj)
      rw [ea, eb] at hn ⊢
      have hn : ¬ (b : Int) < (a : Int) := hn
      show a ≤ b
      omega
  have e3 : ∃ v g', Ev lf (m + 4) 66 [.slice (some ⟨q, 0, none⟩) k C, J 0, J k, J t] g = some (v, g') ∧ g' = g2 := by
    refine fnS_ok (Q := fun v g' => g' = g2) ?_
    refine ok_go 1 ?_
    refine sy_loop 0 lf g (α := Unit) (fun _ => [(0, .slice (some ⟨q, 0, none⟩) k C), (1, J 0), (2, J k)]) (fun _ g' => g' = g) (fun _ _ => 0) () (by kernel_rfl) (by kernel_rfl)
      ⟨by kernel_rfl, by kernel_rfl, by kernel_rfl, trivial⟩ (show 0 < lf by omega) rfl ?_
    rintro m1 ⟨⟩ F1 _ rfl ih
    refine ok_go 2 ?_
    refine sy_yes 0 (b := decide (IntKind.wrap .i64 (Int.ofNat k - 0) ≤ 12)) (by kernel_rfl) (decide_eq_true (by rw [Int.sub_zero, wrap_nat (by omega)]; show (k : Int) ≤ 12; omega)) ?_
    refine ok_go 0 ?_
    refine sy_call 0 (by kernel_rfl) e2 ?_
    refine sy_done 0 (v := Value.tuple { toList := [] }) (h := g2) (by kernel_rfl) ?_
    rfl
  obtain ⟨v3, g3, e3, rfl⟩ := e3
  refine ok_go 2 ?_
  refine sy_call 0 (by kernel_rfl) e1 ?_
  refine ok_go 0 ?_
  refine sy_call 0 (by kernel_rfl) e3 ?_
  refine sy_done 0 (v := Value.tuple { toList := [] }) (h := g3) (by kernel_rfl) ?_
  exact hpost
end Go.Proofs.YtegcmgjldapnmaaDoor
namespace Go.Proofs.YtegcmgjldapnmaaDoor.Oct
def lexC : List Nat → List Nat → Int
  | [], [] => 0
  | [], _ :: _ => -1
  | _ :: _, [] => 1
  | a :: r, b :: s => if a < b then -1 else if b < a then 1 else lexC r s
theorem lexC_neg : ∀ xs ys, lexC ys xs = - lexC xs ys
  | [], [] => rfl
  | [], _ :: _ => rfl
  | _ :: _, [] => rfl
  | a :: r, b :: s => by
    unfold lexC
    by_cases h1 : a < b
    · rw [if_neg (by omega), if_pos h1, if_pos h1]; rfl
    · by_cases h2 : b < a
      · rw [if_pos h2, if_neg h1, if_pos h2]
      · rw [if_neg h2, if_neg h1, if_neg h1, if_neg h2]; exact lexC_neg r s
theorem lexC_tr : ∀ {xs ys zs}, lexC xs ys ≤ 0 → lexC ys zs ≤ 0 → lexC xs zs ≤ 0
  | [], [], [], _, _ => by decide
  | [], [], _ :: _, _, _ => by show (-1 : Int) ≤ 0; decide
  | [], _ :: _, [], _, h => by exact absurd h (by show ¬ (1 : Int) ≤ 0; decide)
  | [], _ :: _, _ :: _, _, _ => by show (-1 : Int) ≤ 0; decide
  | _ :: _, [], _, h, _ => by exact absurd h (by show ¬ (1 : Int) ≤ 0; decide)
  | _ :: _, _ :: _, [], _, h => by exact absurd h (by show ¬ (1 : Int) ≤ 0; decide)
  | a :: r, b :: s, c :: t, h1, h2 => by
    unfold lexC at h1 h2 ⊢
    by_cases e1 : a < c
    · rw [if_pos e1]; decide
    · rw [if_neg e1]
      by_cases e2 : a < b
      · by_cases e3 : b < c
        · omega
        · rw [if_neg e3] at h2
          by_cases e4 : c < b
          · rw [if_pos e4] at h2; exact absurd h2 (by decide)
          · omega
      · rw [if_neg e2] at h1
        by_cases e3 : b < a
        · rw [if_pos e3] at h1; exact absurd h1 (by decide)
        · rw [if_neg e3] at h1
          by_cases e4 : b < c
          · omega
          · rw [if_neg e4] at h2
            by_cases e5 : c < b
            · rw [if_pos e5] at h2; exact absurd h2 (by decide)
            · rw [if_neg e5] at h2
              rw [if_neg (by omega)]
              exact lexC_tr h1 h2
theorem lex_ord {α : Type} (key : α → List Nat) : Ord fun x y => lexC (key x) (key y) < 0 :=
  ⟨fun {x y} h => by have := lexC_neg (key x) (key y); omega, fun {x y z} h1 h2 => by
    have a1 := lexC_neg (key x) (key y)
    have a2 := lexC_neg (key y) (key z)
    have a3 := lexC_neg (key x) (key z)
    have := lexC_tr (xs := key x) (ys := key y) (zs := key z) (by omega) (by omega)
    omega⟩
theorem lexC_drop : ∀ (i : Nat) (xs ys : List Nat), i ≤ xs.length → i ≤ ys.length → xs.take i = ys.take i → lexC xs ys = lexC (xs.drop i) (ys.drop i)
  | 0, _, _, _, _, _ => rfl
  | _ + 1, [], _, h, _, _ => by simp at h
  | _ + 1, _ :: _, [], _, h, _ => by simp at h
  | i + 1, a :: r, b :: s, h1, h2, h => by
    simp only [List.take_succ_cons, List.cons.injEq] at h
    obtain ⟨rfl, h⟩ := h
    show lexC (a :: r) (a :: s) = lexC (r.drop i) (s.drop i)
    rw [← lexC_drop i r s (by simpa using h1) (by simpa using h2) h]
    show (if a < a then -1 else if a < a then 1 else lexC r s) = _
    rw [if_neg (Nat.lt_irrefl a), if_neg (Nat.lt_irrefl a)]
section
variable {α : Type} [DecidableEq α]
def ddK : List α → List α
  | [] => []
  | [x] => [x]
  | x :: y :: r => if x = y then ddK (y :: r) else x :: ddK (y :: r)
theorem ddK_ne : ∀ (l : List α), l ≠ [] → ddK l ≠ []
  | [], h => h
  | [x], _ => by simp [ddK]
  | x :: y :: r, _ => by
    unfold ddK
    split
    · exact ddK_ne (y :: r) (by simp)
    · simp
theorem ddK_snoc : ∀ (l : List α) (x : α), ddK (l ++ [x]) = if l.getLast? = some x then ddK l else ddK l ++ [x]
  | [], x => by simp [ddK]
  | [y], x => by
    show (if y = x then ddK [x] else y :: ddK [x]) = _
    by_cases h : y = x
    · subst h; simp [ddK]
    · simp [ddK, h]
  | y :: z :: r, x => by
    have ih := ddK_snoc (z :: r) x
    show (if y = z then ddK (z :: (r ++ [x])) else y :: ddK (z :: (r ++ [x]))) = _
    rw [List.cons_append] at ih
    rw [ih, List.getLast?_cons_cons]
    by_cases h : y = z
    · rw [if_pos h]
      show _ = if _ then (if y = z then ddK (z :: r) else _) else (if y = z then ddK (z :: r) else _) ++ [x]
      rw [if_pos h]
    · rw [if_neg h]
      show _ = if _ then (if y = z then _ else y :: ddK (z :: r)) else (if y = z then _ else y :: ddK (z :: r)) ++ [x]
      rw [if_neg h]
      split <;> rfl
theorem mem_ddK : ∀ {l : List α} {x : α}, x ∈ ddK l ↔ x ∈ l
  | [], x => Iff.rfl
  | [y], x => Iff.rfl
  | y :: z :: r, x => by
    have ih := mem_ddK (l := z :: r) (x := x)
    unfold ddK
    by_cases h : y = z
    · rw [if_pos h, ih]; subst h; simp
    · rw [if_neg h, List.mem_cons, ih, List.mem_cons (a := x) (b := y)]
end
end Go.Proofs.YtegcmgjldapnmaaDoor.Oct
namespace Go.Proofs.YtegcmgjldapnmaaDoor
open Go Go.Eng Nim Oct
set_option maxRecDepth 100000
set_option maxHeartbeats 8000000
theorem rdN {h : Hp} {rv : Value} {r : List Nat} (hr : Rds h rv (r.map J)) {k : Nat} (hk : k < r.length) : ∃ p, indexAddrOp Tryd.prog 32 rv (J k) = some p ∧ loadT Tryd.prog h 3 p = some (J r[k]) :=
  hr.read (e := 3) (by kernel_rfl) (by kernel_rfl) (by kernel_rfl) (by rw [List.getElem?_map, List.getElem?_eq_getElem hk]; rfl)
theorem equal_of (lf m : Nat) (hlf : 20000 ≤ lf) (xs ys : List Nat) (hx1 : xs.length ≤ 1000) (x y : Value) (g : Hp) (hx : Rds g x (xs.map J)) (hy : Rds g y (ys.map J)) : Ev lf (m + 1) 58 [x, y] g = some (.bool (decide (xs = ys)), g) := by
  refine fn_eq ?_
  obtain ⟨xa, xc, hxs⟩ := hx.shape
  obtain ⟨ya, yc, hys⟩ := hy.shape
  rw [List.length_map] at hxs hys
  subst hxs hys
  refine ok_go 3 ?_
  refine sy_test 0 (Int.ofNat xs.length != Int.ofNat ys.length) (by kernel_rfl) ?_ ?_
  · intro hne
    have hne : xs.length ≠ ys.length := fun h => by rw [h] at hne; simp at hne
    refine sy_done 0 (v := Value.bool false) (h := g) (by kernel_rfl) ?_
    exact ⟨by rw [decide_eq_false fun h => hne (by rw [h])], rfl⟩
  intro heq
  have heq : xs.length = ys.length := by
    have : Int.ofNat xs.length = Int.ofNat ys.length := by simpa using heq
    exact Int.ofNat.inj this
  refine ok_go 1 ?_
  refine sy_loop 0 lf g (α := Nat) (fun i => [(0, .slice xa xs.length xc), (1, .slice ya ys.length yc), (12, J xs.length), (13, J i)]) (fun i g' => i ≤ xs.length ∧ g' = g ∧ xs.take i = ys.take i) (fun i _ => xs.length - i) 0 (by kernel_rfl) (by kernel_rfl)
    ⟨by kernel_rfl, by kernel_rfl, by kernel_rfl, by kernel_rfl, trivial⟩ (show xs.length - 0 < lf by omega) ⟨Nat.zero_le _, rfl, rfl⟩ ?_
  rintro m1 i F1 g ⟨hi, rfl, ht⟩ ih
  have hw : IntKind.wrap .i64 (Int.ofNat (i + 1)) = Int.ofNat (i + 1) := wrap_nat (by omega)
  refine ok_go 1 ?_
  refine sy_test 0 (decide (Int.ofNat i < Int.ofNat xs.length)) (by kernel_rfl) ?_ ?_
  · intro hlt
    have hlt : i < xs.length := ok_nat hlt
    have hlt2 : i < ys.length := by omega
    obtain ⟨p, hp1, hp2⟩ := rdN hx hlt
    obtain ⟨q, hq1, hq2⟩ := rdN hy hlt2
    have tx := List.take_succ_eq_append_getElem hlt
    have ty := List.take_succ_eq_append_getElem hlt2
    have gx : xs[i]? = some xs[i] := List.getElem?_eq_getElem hlt
    have gy : ys[i]? = some ys[i] := List.getElem?_eq_getElem hlt2
    generalize xs[i] = a at *
    generalize ys[i] = b at *
    refine ok_go 0 ?_
    refine sy_load 0 (r := indexAddrOp Tryd.prog 32 (.slice xa xs.length xc) (J i)) (h' := g) (by kernel_rfl) hp1 ?_
    refine ok_go 0 ?_
    refine sy_load 0 (r := loadT Tryd.prog g 3 p) (h' := g) (by kernel_rfl) hp2 ?_
    refine ok_go 0 ?_
    refine sy_load 0 (r := indexAddrOp Tryd.prog 32 (.slice ya ys.length yc) (J i)) (h' := g) (by kernel_rfl) hq1 ?_
    refine ok_go 0 ?_
    refine sy_load 0 (r := loadT Tryd.prog g 3 q) (h' := g) (by kernel_rfl) hq2 ?_
    refine ok_go 1 ?_
    refine sy_test 0 (Int.ofNat a != Int.ofNat b) (by kernel_rfl) ?_ ?_
    · intro hne
      refine sy_done 0 (v := Value.bool false) (h := g) (by kernel_rfl) ?_
      refine ⟨?_, rfl⟩
      rw [decide_eq_false fun h => ?_]
      rw [h, gy] at gx
      rw [Option.some.inj gx] at hne
      simp at hne
    · intro he
      have he : a = b := by
        have : Int.ofNat a = Int.ofNat b := by simpa using he
        exact Int.ofNat.inj this
      refine ok_go 1 ?_
      exact sy_next 0 _ g (by kernel_rfl) (by kernel_rfl) (ih (i + 1) _ g ⟨hlt, rfl, by rw [tx, ty, ht, he]⟩ (show xs.length - (i + 1) < xs.length - i by omega) ⟨by kernel_rfl, by kernel_rfl, by kernel_rfl, (by kernel_rfl : _ = Value.int .i64 (IntKind.wrap .i64 (Int.ofNat (i + 1)))).trans (by rw [hw]), trivial⟩)
  · intro hlt
    have hlt : i = xs.length := Nat.le_antisymm hi (no_nat hlt)
    rw [hlt, List.take_length, heq, List.take_length] at ht
    refine sy_done 0 (v := Value.bool true) (h := g) (by kernel_rfl) ?_
    exact ⟨by rw [decide_eq_true ht], rfl⟩
def cN (a b : Nat) : Int := if a < b then -1 else if b < a then 1 else 0
theorem ccmp_of (lf m : Nat) (a b : Nat) (g : Hp) : Ev lf (m + 2) 69 [J a, J b] g = some (I (cN a b), g) := by
  refine fn_eq ?_
  refine ok_go 2 ?_
  refine sy_no 0 (b := Int.ofNat a != Int.ofNat a) (by kernel_rfl) (bne_self_eq_false _) ?_
  refine ok_go 0 ?_
  refine sy_no 0 (b := Int.ofNat b != Int.ofNat b) (by kernel_rfl) (bne_self_eq_false _) ?_
  refine ok_go 1 ?_
  refine sy_test 0 (decide (Int.ofNat a < Int.ofNat b)) (by kernel_rfl) ?_ ?_
  · intro h1
    refine sy_done 0 (v := Value.int IntKind.i64 (Int.negSucc 0)) (h := g) (by kernel_rfl) ?_
    exact ⟨by rw [cN, if_pos (ok_nat h1)]; rfl, rfl⟩
  intro h1
  have h1 := no_nat h1
  refine ok_go 1 ?_
  refine sy_test 0 (decide (Int.ofNat a > Int.ofNat b)) (by kernel_rfl) ?_ ?_
  · intro h2
    refine sy_done 0 (v := Value.int IntKind.i64 (Int.ofNat 1)) (h := g) (by kernel_rfl) ?_
    exact ⟨by rw [cN, if_neg (by omega), if_pos (ok_nat h2)]; rfl, rfl⟩
  · intro h2
    refine sy_done 0 (v := Value.int IntKind.i64 (Int.ofNat 0)) (h := g) (by kernel_rfl) ?_
    exact ⟨by rw [cN, if_neg (by omega), if_neg (by have := no_nat h2; omega)]; rfl, rfl⟩
theorem comp_of (lf m : Nat) (hlf : 20000 ≤ lf) (xs ys : List Nat) (hx1 : xs.length ≤ 1000) (x y : Value) (g : Hp) (hx : Rds g x (xs.map J)) (hy : Rds g y (ys.map J)) : Ev lf (m + 3) 56 [x, y] g = some (I (lexC xs ys), g) := by
  refine fn_eq ?_
  obtain ⟨xa, xc, hxs⟩ := hx.shape
  obtain ⟨ya, yc, hys⟩ := hy.shape
  rw [List.length_map] at hxs hys
  subst hxs hys
  refine ok_go 1 ?_
  refine sy_loop 0 lf g (α := Nat) (fun i => [(0, .slice xa xs.length xc), (1, .slice ya ys.length yc), (9, .slice xa xs.length xc), (10, J xs.length), (11, J i)]) (fun i g' => i ≤ xs.length ∧ g' = g ∧ i ≤ ys.length ∧ xs.take i = ys.take i) (fun i _ => xs.length - i) 0 (by kernel_rfl) (by kernel_rfl)
    ⟨by kernel_rfl, by kernel_rfl, by kernel_rfl, by kernel_rfl, by kernel_rfl, trivial⟩ (show xs.length - 0 < lf by omega) ⟨Nat.zero_le _, rfl, Nat.zero_le _, rfl⟩ ?_
  rintro m1 i F1 g ⟨hi, rfl, hiy, ht⟩ ih
  have hw : IntKind.wrap .i64 (Int.ofNat (i + 1)) = Int.ofNat (i + 1) := wrap_nat (by omega)
  have hd := lexC_drop i xs ys hi hiy ht
  refine ok_go 1 ?_
  refine sy_test 0 (decide (Int.ofNat i < Int.ofNat xs.length)) (by kernel_rfl) ?_ ?_
  · intro hlt
    have hlt : i < xs.length := ok_nat hlt
    obtain ⟨p, hp1, hp2⟩ := rdN hx hlt
    rw [List.drop_eq_getElem_cons hlt] at hd
    refine ok_go 0 ?_
    refine sy_load 0 (r := indexAddrOp Tryd.prog 32 (.slice xa xs.length xc) (J i)) (h' := g) (by kernel_rfl) hp1 ?_
    refine ok_go 0 ?_
    refine sy_load 0 (r := loadT Tryd.prog g 3 p) (h' := g) (by kernel_rfl) hp2 ?_
    refine ok_go 2 ?_
    refine sy_test 0 (decide (Int.ofNat i ≥ Int.ofNat ys.length)) (by kernel_rfl) ?_ ?_
    · intro hge
      have hge : ys.length ≤ i := Int.ofNat_le.1 (of_decide_eq_true hge)
      rw [List.drop_eq_nil_of_le hge] at hd
      refine sy_done 0 (v := Value.int IntKind.i64 (Int.ofNat 1)) (h := g) (by kernel_rfl) ?_
      exact ⟨by rw [hd]; rfl, rfl⟩
    intro hge
    have hlt2 : i < ys.length := Nat.lt_of_not_le fun h => (of_decide_eq_false hge) (Int.ofNat_le.2 h)
    obtain ⟨q, hq1, hq2⟩ := rdN hy hlt2
    rw [List.drop_eq_getElem_cons hlt2] at hd
    have tx := List.take_succ_eq_append_getElem hlt
    have ty := List.take_succ_eq_append_getElem hlt2
    generalize xs[i] = a at *
    generalize ys[i] = b at *
    have ec := ccmp_of lf m a b g
    have hd : lexC xs ys = if a < b then -1 else if b < a then 1 else lexC (xs.drop (i + 1)) (ys.drop (i + 1)) := hd
    refine ok_go 0 ?_
    refine sy_load 0 (r := indexAddrOp Tryd.prog 32 (.slice ya ys.length yc) (J i)) (h' := g) (by kernel_rfl) hq1 ?_
    refine ok_go 0 ?_
    refine sy_load 0 (r := loadT Tryd.prog g 3 q) (h' := g) (by kernel_rfl) hq2 ?_
    refine ok_go 0 ?_
    refine sy_call 0 (by kernel_rfl) ec ?_
    refine ok_go 1 ?_
    refine sy_test 0 (cN a b != 0) (by kernel_rfl) ?_ ?_
    · intro hne
      refine sy_done 0 (v := Value.int IntKind.i64 (cN a b)) (h := g) (by kernel_rfl) ?_
      refine ⟨?_, rfl⟩
      rw [hd]
      unfold cN at hne ⊢
      by_cases h1 : a < b
      · rw [if_pos h1, if_pos h1]
      · by_cases h2 : b < a
        · rw [if_neg h1, if_neg h1, if_pos h2, if_pos h2]
        · rw [if_neg h1, if_neg h2] at hne; simp at hne
    · intro he
      have hab : a = b := by
        unfold cN at he
        by_cases h1 : a < b
        · rw [if_pos h1] at he; simp at he
        · by_cases h2 : b < a
          · rw [if_neg h1, if_pos h2] at he; simp at he
          · omega
      refine ok_go 1 ?_
      exact sy_next 0 _ g (by kernel_rfl) (by kernel_rfl) (ih (i + 1) _ g ⟨hlt, rfl, hlt2, by rw [tx, ty, ht, hab]⟩ (show xs.length - (i + 1) < xs.length - i by omega) ⟨by kernel_rfl, by kernel_rfl, by kernel_rfl, by kernel_rfl, (by kernel_rfl : _ = Value.int .i64 (IntKind.wrap .i64 (Int.ofNat (i + 1)))).trans (by rw [hw]), trivial⟩)
  · intro hlt
    have hlt : i = xs.length := Nat.le_antisymm hi (no_nat hlt)
    subst hlt
    rw [List.drop_eq_nil_of_le (Nat.le_refl _)] at hd
    refine ok_go 3 ?_
    refine sy_test 0 (decide (Int.ofNat xs.length < Int.ofNat ys.length)) (by kernel_rfl) ?_ ?_
    · intro hl
      have hl : xs.length < ys.length := ok_nat hl
      rw [List.drop_eq_getElem_cons hl] at hd
      refine sy_done 0 (v := Value.int IntKind.i64 (Int.negSucc 0)) (h := g) (by kernel_rfl) ?_
      exact ⟨by rw [hd]; rfl, rfl⟩
    · intro hl
      have hl : ys.length ≤ xs.length := no_nat hl
      rw [List.drop_eq_nil_of_le hl] at hd
      refine sy_done 0 (v := Value.int IntKind.i64 (Int.ofNat 0)) (h := g) (by kernel_rfl) ?_
      exact ⟨by rw [hd]; rfl, rfl⟩
end Go.Proofs.YtegcmgjldapnmaaDoor
namespace Go.Proofs.YtegcmgjldapnmaaDoor
open Go Go.Eng Nim Oct
set_option maxRecDepth 100000
set_option maxHeartbeats 8000000
theorem u24 : Tryd.prog.underlying 31 = some (.slice 32) := by kernel_rfl
theorem sz22 : sizeT Tryd.prog 32 = some 1 := by kernel_rfl
/-- s[:j] -/
theorem sl_hi4 {q n m j : Nat} (hjn : j ≤ n) (hn : 0 < n) : sliceOp Tryd.prog 31 (.slice (some ⟨q, 0, none⟩) m (2 * n + 1)) none (some (J j)) none = some (.slice (some ⟨q, 0, none⟩) j (2 * n + 1)) := by
  obtain ⟨h1, h2⟩ := odd_half n
  simp only [sliceOp, u24, sz22, sliceV, Go.Eng.bound, h1, h2, Option.isSome_none, show ∀ k, natOf (J k) = some k from fun _ => rfl, Bool.false_eq_true, if_false, Nat.ble_eq_true_of_le hjn, Nat.ble_eq_true_of_le (Nat.zero_le n), nbeq_no (show n ≠ 0 by omega), Bool.not_false, Bool.and_true]
  simp
/-- s[i:] of what has n left. -/
theorem sl_lo4 {q n m i : Nat} (him : i ≤ m) (hmn : m ≤ n) (hin : i < n) : sliceOp Tryd.prog 31 (.slice (some ⟨q, 0, none⟩) m (2 * n + 1)) (some (J i)) none none = some (.slice (some ⟨q, i, none⟩) (m - i) (2 * (n - i) + 1)) := by
  obtain ⟨h1, h2⟩ := odd_half n
  simp only [sliceOp, u24, sz22, sliceV, Go.Eng.bound, h1, h2, Option.isSome_none, show ∀ k, natOf (J k) = some k from fun _ => rfl, Nat.ble_eq_true_of_le him, Nat.ble_eq_true_of_le (Nat.le_of_lt hin), nbeq_no (show n ≠ i by omega), Bool.not_false, Bool.and_true]
  simp
theorem clear_to4 {g : Hp} {q k n c : Nat} {cs : List Value} (hg : g.get q = some (.cells cs 32 true)) (hk : k + n ≤ cs.length) : ∃ g', clearOp Tryd.prog g 31 (.slice (some ⟨q, k, none⟩) n c) = some g' ∧ (g' = g ∧ n = 0 ∨ ∃ cs', g' = g.put q (.cells cs' 32 true) ∧ cs'.length = cs.length ∧ cs'.take k = cs.take k) := by
  have hz : zeroOf Tryd.prog 32 = some (.slice none 0 0) := by kernel_rfl
  have hzl : ∀ n, (zeros [.slice none 0 0] n).length = n ∧ (zeros [.slice none 0 0] n).all scalar = true := fun n => by
    rw [zeros_one, cellsF_len]
    exact ⟨rfl, by simp [cellsF, scalar]⟩
  cases n with
  | zero => exact ⟨g, by simp only [clearOp, u24], .inl ⟨rfl, rfl⟩⟩
  | succ n =>
    obtain ⟨l1, l2⟩ := hzl (n + 1)
    refine ⟨g.put q (.cells (splice cs k (zeros [.slice none 0 0] (n + 1))) 32 true), ?_, .inr ⟨_, rfl, ?_, ?_⟩⟩
    · simp only [clearOp, u24, hz]
      show storeN g q k (zeros [.slice none 0 0] (n + 1)) = _
      simp only [storeN, hg, l1, l2, Nat.ble_eq_true_of_le hk]
    · unfold splice
      rw [List.length_append, List.length_append, List.length_take, List.length_drop, l1]
      omega
    · unfold splice
      rw [List.append_assoc, List.take_append_of_le_length (by rw [List.length_take]; omega), List.take_take, Nat.min_self]
theorem last_take {α : Type} {l : List α} {k : Nat} (h1 : 1 ≤ k) (hk : k ≤ l.length) : (l.take k).getLast? = l[k - 1]? := by
  rw [List.getLast?_eq_getElem?, List.length_take, Nat.min_eq_left hk, List.getElem?_take, if_pos (by omega)]
theorem ddK_take {α : Type} [DecidableEq α] (l : List α) {k : Nat} (h1 : 1 ≤ k) (hk : k < l.length) : ddK (l.take (k + 1)) = if l[k - 1]'(by omega) = l[k] then ddK (l.take k) else ddK (l.take k) ++ [l[k]] := by
  rw [List.take_succ_eq_append_getElem hk, ddK_snoc, last_take h1 (by omega), List.getElem?_eq_getElem (show k - 1 < l.length by omega)]
  simp only [Option.some.injEq]
theorem compact_of (lf m C : Nat) (hlf : 20000 ≤ lf) (key : Value → List Nat) (V : Value → Prop) (hsc : ∀ x, V x → scalar x = true) (vs : List Value) (N : Nat) (hN : vs.length = N) (h1 : 1 ≤ N) (h2 : N ≤ 10000) (hV : ∀ x ∈ vs, V x) (q : Nat) (h : Hp) (L : List (Nat × AObj)) (g : Hp) (W : Sto h g ((q, .cells vs 32 true) :: L))
    (hE : ∀ cs g x y, Sto h g ((q, .cells cs 32 true) :: L) → V x → V y → Ev lf m C [x, y] g = some (.bool (decide (key x = key y)), g)) :
    ∃ v g', Ev lf (m + 1) 57 [.slice (some ⟨q, 0, none⟩) N (2 * N + 1), .func (.func C) #[] #[]] g = some (v, g') ∧ ∃ k cs, v = .slice (some ⟨q, 0, none⟩) k (2 * N + 1) ∧ k ≤ N ∧ Sto h g' ((q, .cells cs 32 true) :: L) ∧ cs.length = N ∧ (cs.take k).map key = ddK (vs.map key) ∧ ∀ x ∈ cs.take k, V x := by
  refine fnS_ok (Q := fun v g' => ∃ k cs, v = .slice (some ⟨q, 0, none⟩) k (2 * N + 1) ∧ k ≤ N ∧ Sto h g' ((q, .cells cs 32 true) :: L) ∧ cs.length = N ∧ (cs.take k).map key = ddK (vs.map key) ∧ ∀ x ∈ cs.take k, V x) ?_
  let SL : Value := .slice (some ⟨q, 0, none⟩) N (2 * N + 1)
  have hdd := fun (k : Nat) (k1 : 1 ≤ k) (hk : k < N) => ddK_take (vs.map key) k1 (by rw [List.length_map]; omega)
  simp only [List.getElem_map, ← List.map_take] at hdd
  have h0 : ddK ((vs.take 1).map key) = (vs.take 1).map key := by
    obtain ⟨v, r, rfl⟩ := List.exists_cons_of_length_pos (show 0 < vs.length by omega)
    rfl
  have fin : ∀ k, N ≤ k → vs.take k = vs := fun k hk => List.take_of_length_le (by omega)
  refine ok_go 2 ?_
  refine sy_test 0 (decide (Int.ofNat N < 2)) (by kernel_rfl) ?_ ?_
  · intro hlt
    have hlt : N < 2 := ok_nat (b := 2) hlt
    refine sy_done 0 (v := Value.slice (some { block := q, off := 0 }) N (2 * N + 1)) (h := g) (by kernel_rfl) ?_
    refine ⟨N, vs, rfl, Nat.le_refl _, W, hN, ?_, fun x hx => hV x (List.mem_of_mem_take hx)⟩
    rw [fin N (Nat.le_refl _)]
    rw [fin 1 (by omega)] at h0
    exact h0.symm
  intro _
  refine ok_go 0 ?_
  refine sy_loop 0 lf g (α := Nat) (fun k => [(0, SL), (1, .func (.func C) #[] #[]), (5, J k)]) (fun k g' => 1 ≤ k ∧ k ≤ N ∧ g' = g ∧ ddK ((vs.take k).map key) = (vs.take k).map key) (fun k _ => N - k) 1 (by kernel_rfl) (by kernel_rfl)
    ⟨by kernel_rfl, by kernel_rfl, by kernel_rfl, trivial⟩ (show N - 1 < lf by omega) ⟨Nat.le_refl _, h1, rfl, h0⟩ ?_
  rintro m1 k F1 g ⟨hk1, hk2, rfl, hd⟩ ih
  have hw : IntKind.wrap .i64 (Int.ofNat (k + 1)) = Int.ofNat (k + 1) := wrap_nat (by omega)
  refine ok_go 2 ?_
  refine sy_test 0 (decide (Int.ofNat k < Int.ofNat N)) (by kernel_rfl) ?_ ?_
  · intro hlt
    have hlt : k < N := ok_nat hlt
    have hwk : IntKind.wrap .i64 (Int.ofNat k - 1) = Int.ofNat (k - 1) := wrap_sub (b := 1) hk1 (by omega)
    have hkv : k < vs.length := by omega
    have hkw : k - 1 < vs.length := by omega
    have hdk := hdd k hk1 hlt
    have ec := hE vs g vs[k] vs[k - 1] W (hV _ (List.getElem_mem hkv)) (hV _ (List.getElem_mem hkw))
    refine ok_go 0 ?_
    refine sy_load 0 (r := indexAddrOp Tryd.prog 31 SL (J k)) (h' := g) (by kernel_rfl) (idxS0 (e := 32) (by kernel_rfl) (by kernel_rfl) hlt) ?_
    refine ok_go 0 ?_
    refine ow_load (P := Tryd.prog) (T := 32) (off := k) 0 0 W rfl (List.getElem?_eq_getElem hkv) (by kernel_rfl) (by kernel_rfl) ?_
    refine ok_go 1 ?_
    refine sy_load 0 (r := indexAddrOp Tryd.prog 31 SL (I (IntKind.wrap .i64 (Int.ofNat k - 1)))) (h' := g) (v := ptr q (k - 1)) (by kernel_rfl) (by rw [hwk]; exact idxS0 (e := 32) (by kernel_rfl) (by kernel_rfl) (by omega)) ?_
    refine ok_go 0 ?_
    refine ow_load (P := Tryd.prog) (T := 32) (off := k - 1) 0 0 W rfl (List.getElem?_eq_getElem hkw) (by kernel_rfl) (by kernel_rfl) ?_
    refine ok_go 0 ?_
    refine sy_call 0 (by kernel_rfl) ec ?_
    refine ok_go 0 ?_
    refine sy_test 0 (decide (key vs[k] = key vs[k - 1])) (by kernel_rfl) ?_ ?_
    · intro hq
      have hq := of_decide_eq_true hq
      rw [if_pos hq.symm, hd] at hdk
      clear ih ec
      refine ok_go 0 ?_
      refine sy_load 0 (r := sliceOp Tryd.prog 31 SL (some (J k)) none none) (h' := g) (by kernel_rfl) (sl_lo4 (by omega) (Nat.le_refl _) hlt) ?_
      refine ok_go 0 ?_
      let S2 : Value := .slice (some ⟨q, k, none⟩) (N - k) (2 * (N - k) + 1)
      have ixs : ∀ i, i < N - k → indexAddrOp Tryd.prog 31 S2 (J i) = some (ptr q (k + i)) := fun i hi => by
        have := idxSl (kd := .i64) (i := q) (off := k) (len := N - k) (cap := 2 * (N - k) + 1) u24 sz22 hi
        rwa [Nat.mul_one] at this
      refine sy_loop 0 lf g (α := Nat × Nat × List Value) (fun x => [(0, SL), (1, .func (.func C) #[] #[]), (5, J x.1), (6, S2), (7, J x.2.1)]) (fun x g => 1 ≤ x.1 ∧ 1 ≤ x.2.1 ∧ x.1 + 1 ≤ k + x.2.1 ∧ k + x.2.1 ≤ N ∧ Sto h g ((q, .cells x.2.2 32 true) :: L) ∧ x.2.2.length = N ∧ (x.2.2.take x.1).map key = ddK ((vs.take (k + x.2.1)).map key) ∧ x.2.2.drop (k + x.2.1 - 1) = vs.drop (k + x.2.1 - 1) ∧ ∀ y ∈ x.2.2, V y) (fun x _ => N - x.2.1) (k, 1, vs) (by kernel_rfl) (by kernel_rfl)
        ⟨by kernel_rfl, by kernel_rfl, by kernel_rfl, by kernel_rfl, by kernel_rfl, trivial⟩ (show N - 1 < lf by omega) ⟨hk1, Nat.le_refl _, Nat.le_refl _, hlt, W, hN, hdk.symm, rfl, hV⟩ ?_
      clear W
      rintro m2 ⟨k', k2, cs⟩ F2 g ⟨c1, c2, c3, c4, W, hcl, hct, hcd, hcV⟩ ih2
      dsimp only at c1 c2 c3 c4 W hcl hct hcd hcV
      have hw2 : IntKind.wrap .i64 (Int.ofNat (k2 + 1)) = Int.ofNat (k2 + 1) := wrap_nat (by omega)
      refine ok_go 2 ?_
      refine sy_test 0 (decide (Int.ofNat k2 < Int.ofNat (N - k))) (by kernel_rfl) ?_ ?_
      · intro hl2
        have hl2 : k2 < N - k := ok_nat hl2
        have hwk : IntKind.wrap .i64 (Int.ofNat k2 - 1) = Int.ofNat (k2 - 1) := wrap_sub (b := 1) c2 (by omega)
        have hj : k + k2 < vs.length := by omega
        have hj1 : k + k2 - 1 < vs.length := by omega
        have hdk := hdd (k + k2) (by omega) (by omega)
        have hgj : cs[k + k2]? = some vs[k + k2] := by
          have : (cs.drop (k + k2 - 1))[1]? = (vs.drop (k + k2 - 1))[1]? := by rw [hcd]
          rw [List.getElem?_drop, List.getElem?_drop, show k + k2 - 1 + 1 = k + k2 by omega] at this
          rw [this, List.getElem?_eq_getElem hj]
        have hgj1 : cs[k + (k2 - 1)]? = some vs[k + k2 - 1] := by
          have : (cs.drop (k + k2 - 1))[0]? = (vs.drop (k + k2 - 1))[0]? := by rw [hcd]
          rw [List.getElem?_drop, List.getElem?_drop, Nat.add_zero] at this
          rw [show k + (k2 - 1) = k + k2 - 1 by omega, this, List.getElem?_eq_getElem hj1]
        have hVj := hV _ (List.getElem_mem hj)
        have ec := hE cs g vs[k + k2] vs[k + k2 - 1] W hVj (hV _ (List.getElem_mem hj1))
        have hcd1 : cs.drop (k + k2) = vs.drop (k + k2) := by
          have := congrArg (List.drop 1) hcd
          rw [List.drop_drop, List.drop_drop, show k + k2 - 1 + 1 = k + k2 by omega] at this
          exact this
        have e1 : k + (k2 + 1) = k + k2 + 1 := rfl
        refine ok_go 0 ?_
        refine sy_load 0 (r := indexAddrOp Tryd.prog 31 S2 (J k2)) (h' := g) (by kernel_rfl) (ixs k2 hl2) ?_
        refine ok_go 0 ?_
        refine ow_load (P := Tryd.prog) (T := 32) (off := k + k2) 0 0 W rfl hgj (by kernel_rfl) (by kernel_rfl) ?_
        refine ok_go 1 ?_
        refine sy_load 0 (r := indexAddrOp Tryd.prog 31 S2 (I (IntKind.wrap .i64 (Int.ofNat k2 - 1)))) (h' := g) (by kernel_rfl) (by rw [hwk]; exact ixs (k2 - 1) (by omega)) ?_
        refine ok_go 0 ?_
        refine ow_load (P := Tryd.prog) (T := 32) (off := k + (k2 - 1)) 0 0 W rfl hgj1 (by kernel_rfl) (by kernel_rfl) ?_
        refine ok_go 0 ?_
        refine sy_call 0 (by kernel_rfl) ec ?_
        refine ok_go 1 ?_
        refine sy_test 0 (!decide (key vs[k + k2] = key vs[k + k2 - 1])) (by kernel_rfl) ?_ ?_
        · intro hq
          have hq : key vs[k + k2] ≠ key vs[k + k2 - 1] := by simpa using hq
          rw [if_neg fun h => hq h.symm] at hdk
          have hwk' : IntKind.wrap .i64 (Int.ofNat (k' + 1)) = Int.ofNat (k' + 1) := wrap_nat (by omega)
          refine ok_go 0 ?_
          refine sy_load 0 (r := indexAddrOp Tryd.prog 31 S2 (J k2)) (h' := g) (by kernel_rfl) (ixs k2 hl2) ?_
          refine ok_go 0 ?_
          refine ow_load (P := Tryd.prog) (T := 32) (off := k + k2) 0 0 W rfl hgj (by kernel_rfl) (by kernel_rfl) ?_
          refine ok_go 0 ?_
          refine sy_load 0 (r := indexAddrOp Tryd.prog 31 SL (J k')) (h' := g) (by kernel_rfl) (idxS0 (e := 32) (by kernel_rfl) (by kernel_rfl) (by omega)) ?_
          refine ok_go 0 ?_
          refine ow_store (P := Tryd.prog) (T := 32) (off := k') (v := vs[k + k2]) 0 0 W rfl (by omega) (by kernel_rfl) (hsc _ hVj) (by kernel_rfl) fun g2 ng2 W => ?_
          refine ok_go 2 ?_
          exact sy_next 0 _ g2 (by kernel_rfl) (by kernel_rfl) (ih2 (k' + 1, k2 + 1, cs.set k' vs[k + k2]) _ g2 ⟨show 1 ≤ k' + 1 by omega, show 1 ≤ k2 + 1 by omega, show k' + 1 + 1 ≤ k + (k2 + 1) by omega, show k + (k2 + 1) ≤ N by omega, W, (List.length_set ..).trans hcl, by
            dsimp only
            rw [e1, hdk, ← hct, List.take_succ_eq_append_getElem (by rw [List.length_set]; omega), List.getElem_set_self, List.take_set_of_le (Nat.le_refl _), List.map_append]
            rfl, by
            dsimp only
            rw [e1, Nat.add_sub_cancel, List.drop_set_of_lt (by omega)]
            exact hcd1, fun y hy => by
            rcases List.mem_or_eq_of_mem_set hy with h | h
            · exact hcV y h
            · rw [h]; exact hVj⟩ (show N - (k2 + 1) < N - k2 by omega) ⟨by kernel_rfl, by kernel_rfl, (by kernel_rfl : _ = Value.int .i64 (IntKind.wrap .i64 (Int.ofNat (k' + 1)))).trans (by rw [hwk']), by kernel_rfl, (by kernel_rfl : _ = Value.int .i64 (IntKind.wrap .i64 (Int.ofNat (k2 + 1)))).trans (by rw [hw2]), trivial⟩)
        · intro hq
          have hq : key vs[k + k2] = key vs[k + k2 - 1] := by simpa using hq
          rw [if_pos hq.symm] at hdk
          refine ok_go 1 ?_
          exact sy_next 0 _ g (by kernel_rfl) (by kernel_rfl) (ih2 (k', k2 + 1, cs) _ g ⟨c1, show 1 ≤ k2 + 1 by omega, show k' + 1 ≤ k + (k2 + 1) by omega, show k + (k2 + 1) ≤ N by omega, W, hcl, by
            dsimp only
            rw [e1, hdk]
            exact hct, by
            dsimp only
            rw [e1, Nat.add_sub_cancel]
            exact hcd1, hcV⟩ (show N - (k2 + 1) < N - k2 by omega) ⟨by kernel_rfl, by kernel_rfl, by kernel_rfl, by kernel_rfl, (by kernel_rfl : _ = Value.int .i64 (IntKind.wrap .i64 (Int.ofNat (k2 + 1)))).trans (by rw [hw2]), trivial⟩)
      · intro hl2
        have hl2 : N - k ≤ k2 := no_nat hl2
        rw [fin (k + k2) (by omega)] at hct
        obtain ⟨g2, ecl, hg2⟩ := clear_to4 (g := g) (q := q) (k := k') (n := N - k') (c := 2 * (N - k') + 1) (W.get 0 rfl) (by omega)
        have hW : ∃ cs', Sto h g2 ((q, .cells cs' 32 true) :: L) ∧ cs'.length = N ∧ cs'.take k' = cs.take k' := by
          rcases hg2 with ⟨rfl, _⟩ | ⟨cs', rfl, d1, d2⟩
          · exact ⟨cs, W, hcl, rfl⟩
          · exact ⟨cs', W.put 0 rfl _, by rw [d1]; exact hcl, d2⟩
        obtain ⟨cs', W', l', t'⟩ := hW
        refine ok_go 0 ?_
        refine sy_load 0 (r := sliceOp Tryd.prog 31 SL (some (J k')) none none) (h' := g) (by kernel_rfl) (sl_lo4 (by omega) (Nat.le_refl _) (by omega)) ?_
        refine ok_go 0 ?_
        refine sy_store 0 (r := clearOp Tryd.prog g 31 (.slice (some ⟨q, k', none⟩) (N - k') (2 * (N - k') + 1))) (by kernel_rfl) ecl ?_
        refine ok_go 0 ?_
        refine sy_load 0 (r := sliceOp Tryd.prog 31 SL none (some (J k')) none) (h' := g2) (by kernel_rfl) (sl_hi4 (by omega) (by omega)) ?_
        refine sy_done 0 (v := Value.slice (some { block := q, off := 0 }) k' (2 * N + 1)) (h := g2) (by kernel_rfl) ?_
        exact ⟨k', cs', rfl, by omega, W', l', by rw [t']; exact hct, fun x hx => hcV x (List.mem_of_mem_take (t' ▸ hx))⟩
    · intro hq
      have hq := of_decide_eq_false hq
      rw [if_neg fun h => hq h.symm, hd] at hdk
      refine ok_go 1 ?_
      exact sy_next 0 _ g (by kernel_rfl) (by kernel_rfl) (ih (k + 1) _ g ⟨by omega, hlt, rfl, by
        rw [hdk, List.take_succ_eq_append_getElem hkv, List.map_append]; rfl⟩ (show N - (k + 1) < N - k by omega) ⟨by kernel_rfl, by kernel_rfl, (by kernel_rfl : _ = Value.int .i64 (IntKind.wrap .i64 (Int.ofNat (k + 1)))).trans (by rw [hw]), trivial⟩)
  · intro hlt
    have hlt : N ≤ k := no_nat hlt
    rw [fin k hlt] at hd
    refine sy_done 0 (v := Value.slice (some { block := q, off := 0 }) N (2 * N + 1)) (h := g) (by kernel_rfl) ?_
    exact ⟨N, vs, rfl, Nat.le_refl _, W, hN, by rw [fin N (Nat.le_refl _)]; exact hd.symm, fun x hx => hV x (List.mem_of_mem_take hx)⟩
end Go.Proofs.YtegcmgjldapnmaaDoor
namespace Go.Proofs.YtegcmgjldapnmaaDoor
open Go Go.Eng Nim Oct
set_option maxRecDepth 100000
set_option maxHeartbeats 8000000
def badN (z : Int) : Bool := decide (z < 0) || decide (z > 200)
theorem bad_of (lf m : Nat) (z : Int) (g : Hp) : Ev lf (m + 1) 46 [I z] g = some (.bool (badN z), g) := by
  refine fn_eq ?_
  refine ok_go 1 ?_
  by_cases h : z < 0
  · refine sy_yes 0 (b := decide (z < 0)) (by kernel_rfl) (decide_eq_true h) ?_
    refine sy_done 2 (v := Value.bool true) (h := g) (by kernel_rfl) ?_
    exact ⟨by unfold badN; rw [decide_eq_true h]; rfl, rfl⟩
  · refine sy_no 0 (b := decide (z < 0)) (by kernel_rfl) (decide_eq_false h) ?_
    refine sy_done 3 (v := Value.bool (decide (z > 200))) (h := g) (by kernel_rfl) ?_
    exact ⟨by unfold badN; rw [decide_eq_false h]; rfl, rfl⟩
theorem has_bad (lf m : Nat) (zs : List Int) (hlf : zs.length < lf) (hsm : lf < 2 ^ 62) (x : Value) (g : Hp) (hx : Rds g x (zs.map I)) : Ev lf (m + 3) 45 [x, .func (.func 46) #[] #[]] g = some (.bool (zs.any badN), g) := by
  refine fn_eq ?_
  obtain ⟨xa, xc, hxs⟩ := hx.shape
  obtain ⟨v, g', e, hg, hv⟩ := idxf_of lf (m + 1) 46 badN zs hlf hsm x g hx fun z _ => bad_of lf m z g
  rw [hg] at e
  subst hxs
  rcases hv with ⟨i, hi, rfl, hp, _⟩ | ⟨rfl, ha⟩
  · refine ok_go 0 ?_
    refine sy_call 0 (by kernel_rfl) e ?_
    refine sy_done 2 (v := .bool (decide (Int.ofNat i ≥ 0))) (h := g) (by kernel_rfl) ⟨?_, rfl⟩
    rw [show decide (Int.ofNat i ≥ 0) = true from decide_eq_true (Int.natCast_nonneg i), List.any_eq_true.2 ⟨_, List.getElem_mem hi, hp⟩]
  · refine ok_go 0 ?_
    refine sy_call 0 (by kernel_rfl) e ?_
    refine sy_done 1 (v := Value.bool false) (h := g) (by kernel_rfl) ?_
    refine ⟨?_, rfl⟩
    rw [show zs.any badN = false from List.any_eq_false.2 fun z hz => by rw [ha z hz]; decide]
theorem gv_12 (d : List Nat) (n : Nat) (hn : n < 4096) : gv d n < 4096 := Nat.lt_of_le_of_lt (gv_self d n) hn
theorem accR_12 (d : List Nat) (r : List Nat) (h : ∀ x ∈ r, x < 4096) : accR d r < 4096 := fold_lt d r 0 (by decide) h
theorem without_of (lf m : Nat) (hlf : 20000 ≤ lf) (d : List Nat) (ns : List Nat) (hn : ns.length ≤ 100) (h200 : ∀ n ∈ ns, n ≤ 200) (x y : Value) (g : Hp) (hx : Rds g x (cellsF 201 fun k => J (gv d k))) (hy : Rds g y (ns.map J)) : Ev lf (m + 1) 47 [x, y] g = some (J (accR d ns), g) := by
  refine fn_eq ?_
  obtain ⟨xa, xc, hxs⟩ := hx.shape
  obtain ⟨ya, yc, hys⟩ := hy.shape
  rw [cellsF_len] at hxs
  rw [List.length_map] at hys
  subst hxs hys
  have h12 : ∀ n ∈ ns, n < 4096 := fun n h => by have := h200 n h; omega
  refine ok_go 1 ?_
  refine sy_loop 0 lf g (α := Nat) (fun i => [(0, .slice xa 201 xc), (5, J (accR d (ns.take i))), (8, .slice ya ns.length yc), (9, J ns.length), (10, J i)]) (fun i g' => i ≤ ns.length ∧ g' = g) (fun i _ => ns.length - i) 0 (by kernel_rfl) (by kernel_rfl)
    ⟨by kernel_rfl, by kernel_rfl, by kernel_rfl, by kernel_rfl, by kernel_rfl, trivial⟩ (show ns.length - 0 < lf by omega) ⟨Nat.zero_le _, rfl⟩ ?_
  rintro m1 i F1 g ⟨hi, rfl⟩ ih
  have hw : IntKind.wrap .i64 (Int.ofNat (i + 1)) = Int.ofNat (i + 1) := wrap_nat (by omega)
  refine ok_go 1 ?_
  refine sy_test 0 (decide (Int.ofNat i < Int.ofNat ns.length)) (by kernel_rfl) ?_ ?_
  · intro hlt
    have hlt : i < ns.length := ok_nat hlt
    obtain ⟨p, hp1, hp2⟩ := rdN hy hlt
    have hn2 := h200 _ (List.getElem_mem hlt)
    obtain ⟨q, hq1, hq2⟩ := hx.read (kd := .i64) (k := ns[i]) (v := J (gv d ns[i])) (t := 32) (e := 3) (by kernel_rfl) (by kernel_rfl) (by kernel_rfl) (cellsF_get (by omega))
    have ha := accR_12 d (ns.take i) fun x hx => h12 x (List.mem_of_mem_take hx)
    have hg := gv_12 d ns[i] (by omega)
    have hxx : xorI (Int.ofNat (accR d (ns.take i))) (Int.ofNat (gv d ns[i])) = Int.ofNat (accR d (ns.take (i + 1))) := by rw [accR_take d ns hlt]; exact xor_nat (by omega) (by omega)
    refine ok_go 0 ?_
    refine sy_load 0 (r := indexAddrOp Tryd.prog 32 (.slice ya ns.length yc) (J i)) (h' := g) (by kernel_rfl) hp1 ?_
    refine ok_go 0 ?_
    refine sy_load 0 (r := loadT Tryd.prog g 3 p) (h' := g) (by kernel_rfl) hp2 ?_
    refine ok_go 0 ?_
    refine sy_load 0 (r := indexAddrOp Tryd.prog 32 (.slice xa 201 xc) (J ns[i])) (h' := g) (by kernel_rfl) hq1 ?_
    refine ok_go 0 ?_
    refine sy_load 0 (r := loadT Tryd.prog g 3 q) (h' := g) (by kernel_rfl) hq2 ?_
    refine ok_go 2 ?_
    exact sy_next 0 _ g (by kernel_rfl) (by kernel_rfl) (ih (i + 1) _ g ⟨hlt, rfl⟩ (show ns.length - (i + 1) < ns.length - i by omega) ⟨by kernel_rfl, (by kernel_rfl : _ = Value.int .i64 (xorI (Int.ofNat (accR d (ns.take i))) (Int.ofNat (gv d ns[i])))).trans (by rw [hxx]), by kernel_rfl, by kernel_rfl, (by kernel_rfl : _ = Value.int .i64 (IntKind.wrap .i64 (Int.ofNat (i + 1)))).trans (by rw [hw]), trivial⟩)
  · intro hlt
    have hlt : i = ns.length := Nat.le_antisymm hi (no_nat hlt)
    subst hlt
    refine sy_done 1 (v := J (accR d (ns.take ns.length))) (h := g) (by kernel_rfl) ⟨by rw [List.take_length], rfl⟩
end Go.Proofs.YtegcmgjldapnmaaDoor
