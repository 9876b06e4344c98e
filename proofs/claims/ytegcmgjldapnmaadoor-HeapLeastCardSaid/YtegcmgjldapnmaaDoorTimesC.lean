/- TimesC: contracts of functions. -/
import Derived.Test.YtegcmgjldapnmaaDoorTimesB
namespace Go.Proofs.YtegcmgjldapnmaaDoor
open Go Go.Eng Nim
set_option maxRecDepth 100000
theorem s11 (a b : Nat) (ha : a < 2 ^ 16) (hb : b < 2 ^ 16) (lf n : Nat) (h : Hp) (c : ∀ x h, Ev lf n 34 [.int .i64 x] h = some (.bool (decide (0 ≤ x ∧ x < 65536)), h)) (d : ∀ h, ∃ H, Ev lf n 35 [J a, J b, J 16] h = some (J (nm 4 a b), H)) :
    ∃ H, Ev lf (n + 1) 11 [J a, J b] h = some (.tuple #[J (nm 4 a b), .int .i64 0], H) := by
  have hin : ∀ x : Nat, x < 2 ^ 16 → decide (0 ≤ Int.ofNat x ∧ Int.ofNat x < 65536) = true := fun x hx => decide_eq_true ⟨by simp, by simp; omega⟩
  refine fn_val ?_
  refine sy_call 0 (by kernel_rfl) ((c (Int.ofNat a) h).trans (by rw [hin a ha])) ?_
  refine sy_call 3 (by kernel_rfl) ((c (Int.ofNat b) h).trans (by rw [hin b hb])) ?_
  obtain ⟨H, e⟩ := d h
  refine sy_call 4 (by kernel_rfl) e ?_
  refine sy_done 0 (h := H) (v := .tuple #[J (nm 4 a b), .int .i64 0]) (by kernel_rfl) rfl
theorem s38 (a m : Nat) (ha : a < 2 ^ 16) (hm : m < 2 ^ 63) (lf n : Nat) (hlf : 100 ≤ lf) (h : Hp) (d : ∀ a b h, a < 2 ^ 16 → b < 2 ^ 16 → ∃ H, Ev lf n 35 [J a, J b, J 16] h = some (J (nm 4 a b), H)) :
    ∃ H, Ev lf (n + 1) 38 [J a, J m] h = some (J (pwr 1 a m), H) := by
  refine fn_val ?_
  refine sy_loop 0 lf h (α := Nat × Nat × Nat × Nat) (fun s => [(5, J s.1), (0, J s.2.1), (1, J s.2.2.1)]) (fun s _ => s.1 < 2 ^ 16 ∧ s.2.1 < 2 ^ 16 ∧ s.2.2.1 < 2 ^ s.2.2.2 ∧ s.2.2.2 ≤ 63 ∧ pwr s.1 s.2.1 s.2.2.1 = pwr 1 a m) (fun s _ => s.2.2.2) (1, a, m, 63) (by kernel_rfl) (by kernel_rfl) ⟨by kernel_rfl, by kernel_rfl, by kernel_rfl, trivial⟩ (show 63 < lf by omega) ⟨show 1 < 2 ^ 16 by decide, ha, hm, show 63 ≤ 63 by omega, rfl⟩ ?_
  rintro k ⟨o, x, y, s⟩ f hh ⟨h1, h2, h3, h4, h5⟩ ih
  dsimp only at h1 h2 h3 h4 h5
  have hy63 : y < 2 ^ 63 := Nat.lt_of_lt_of_le h3 (Nat.pow_le_pow_right (by omega) h4)
  have hd : Value.int .i64 (IntKind.wrap .i64 ((Int.ofNat y).tdiv 2)) = J (y / 2) := by
    show Value.int .i64 (IntKind.wrap .i64 (Int.ofNat (y / 2))) = _
    rw [wrap_nat (by omega)]
  have mono : ∀ {f' : Fr} (o' x' : Nat) (h' : Hp), o' < 2 ^ 16 → x' < 2 ^ 16 → pwr o' x' (y / 2) = pwr 1 a m → 0 < y → f' 5 = J o' → f' 0 = J x' → f' 1 = J (y / 2) → Ok (fun v x => v = J (pwr 1 a m)) (cutFam (goS 0 (fnS Tryd.prog orc lf n 38 [J a, J m] h)) k f' h') := fun {f'} o' x' h' g1 g2 g3 g4 g5 g6 g7 => by
    have hs : 0 < s := by
      rcases s with _ | s
      · simp at h3; omega
      · omega
    have h2s : 2 ^ s = 2 * 2 ^ (s - 1) := by rw [← Nat.pow_succ']; congr 1; omega
    exact ih (o', x', y / 2, s - 1) f' h' ⟨g1, g2, (show y / 2 < 2 ^ (s - 1) by omega), (show s - 1 ≤ 63 by omega), g3⟩ (show s - 1 < s by omega) ⟨g5, g6, g7, trivial⟩
  refine sy_test 1 (decide (Int.ofNat y > 0)) (by kernel_rfl) ?_ ?_
  · intro hy
    have hy : 0 < y := by have := of_decide_eq_true hy; simpa using this
    refine sy_test 2 ((Int.ofNat y).tmod 2 == 1) (by kernel_rfl) ?_ ?_
    · intro ho
      have ho : y % 2 = 1 := by
        have h7 : Int.ofNat (y % 2) = Int.ofNat 1 := eq_of_beq ho
        exact Int.ofNat.inj h7
      obtain ⟨H1, e1⟩ := d o x hh h1 h2
      refine sy_call 0 (by kernel_rfl) e1 ?_
      obtain ⟨H2, e2⟩ := d x x H1 h2 h2
      refine sy_call 0 (by kernel_rfl) e2 ?_
      refine sy_next 1 (cutFam (goS 0 (fnS Tryd.prog orc lf n 38 [J a, J m] h)) k) H2 (by kernel_rfl) (by kernel_rfl) ?_
      refine mono (nm 4 o x) (nm 4 x x) H2 (nm_lt 4 _ _ h1 h2) (nm_lt 4 _ _ h2 h2) ?_ hy (by kernel_rfl) (by kernel_rfl) ((by kernel_rfl : _ = Value.int .i64 (IntKind.wrap .i64 ((Int.ofNat y).tdiv 2))).trans hd)
      rw [← h5, pwr.eq_1 o x y, if_neg (by omega), if_pos ho]
    · intro ho
      have ho : y % 2 ≠ 1 := fun hc => by
        have h7 : ((Int.ofNat (y % 2)) == 1) = false := ho
        rw [hc] at h7
        cases h7
      obtain ⟨H2, e2⟩ := d x x hh h2 h2
      refine sy_call 0 (by kernel_rfl) e2 ?_
      refine sy_next 1 (cutFam (goS 0 (fnS Tryd.prog orc lf n 38 [J a, J m] h)) k) H2 (by kernel_rfl) (by kernel_rfl) ?_
      refine mono o (nm 4 x x) H2 h1 (nm_lt 4 _ _ h2 h2) ?_ hy (by kernel_rfl) (by kernel_rfl) ((by kernel_rfl : _ = Value.int .i64 (IntKind.wrap .i64 ((Int.ofNat y).tdiv 2))).trans hd)
      rw [← h5, pwr.eq_1 o x y, if_neg (by omega), if_neg ho]
  · intro hy
    have hy : y = 0 := by have := of_decide_eq_false hy; simp at this; omega
    refine sy_done 0 (h := hh) (v := J o) (by kernel_rfl) ?_
    rw [← h5, hy, pwr]
    rfl
theorem s17 (a m : Nat) (ha : a < 2 ^ 16) (hm : m < 2 ^ 63) (lf n : Nat) (h : Hp) (c : ∀ x h, Ev lf n 34 [.int .i64 x] h = some (.bool (decide (0 ≤ x ∧ x < 65536)), h)) (d : ∀ h, ∃ H, Ev lf n 38 [J a, J m] h = some (J (pwr 1 a m), H)) :
    ∃ H, Ev lf (n + 1) 17 [J a, J m] h = some (.tuple #[J (pwr 1 a m), .int .i64 0], H) := by
  have hin : ∀ x : Nat, x < 2 ^ 16 → decide (0 ≤ Int.ofNat x ∧ Int.ofNat x < 65536) = true := fun x hx => decide_eq_true ⟨by simp, by simp; omega⟩
  refine fn_val ?_
  refine sy_call 0 (by kernel_rfl) ((c (Int.ofNat a) h).trans (by rw [hin a ha])) ?_
  obtain ⟨H, e⟩ := d h
  refine sy_call 6 (by kernel_rfl) e ?_
  refine sy_done 0 (h := H) (v := .tuple #[J (pwr 1 a m), .int .i64 0]) (by kernel_rfl) rfl
end Go.Proofs.YtegcmgjldapnmaaDoor
