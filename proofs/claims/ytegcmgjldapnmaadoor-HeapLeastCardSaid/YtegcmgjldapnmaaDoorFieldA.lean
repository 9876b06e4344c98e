/- FieldA: contracts of functions. -/
import Derived.Test.YtegcmgjldapnmaaDoorTimesC
namespace Go.Proofs.YtegcmgjldapnmaaDoor
open Go Go.Eng Nim
set_option maxRecDepth 100000
theorem res (a : Int) : ∃ x, F x ∧ IntKind.wrap .i64 ((IntKind.wrap .u64 a).tmod 65536) = Int.ofNat x := by
  have h0 : 0 ≤ IntKind.wrap .u64 a ∧ IntKind.wrap .u64 a < 2 ^ 64 := by
    show 0 ≤ a % 2 ^ 64 ∧ a % 2 ^ 64 < 2 ^ 64
    exact ⟨Int.emod_nonneg _ (by decide), Int.emod_lt_of_pos _ (by decide)⟩
  obtain ⟨u, hu⟩ := Int.eq_ofNat_of_zero_le h0.1
  have hu : IntKind.wrap .u64 a = Int.ofNat u := hu
  rw [hu]
  refine ⟨u % 65536, Nat.mod_lt _ (by decide), ?_⟩
  show IntKind.wrap .i64 (Int.ofNat (u % 65536)) = _
  exact wrap_nat (by omega)
theorem ne_no {a b : Nat} (h : a = b) : (Int.ofNat a != Int.ofNat b) = false := by subst h; exact bne_self_eq_false _
theorem s5 (a b c : Int) (m n : Nat) (h : Hp) (t : ∀ a b h, F a → F b → ∃ H, Ev (m + 10) n 11 [J a, J b] h = some (.tuple #[J (nm 4 a b), .int .i64 0], H))
   (p : ∀ a k h, F a → k < 2 ^ 63 → ∃ H, Ev (m + 10) n 17 [J a, J k] h = some (.tuple #[J (pwr 1 a k), .int .i64 0], H)) (aw : ∀ h, Ev (m + 10) n 14 [] h = some (.bool true, h)) :
    ∃ H, Ev (m + 10) (n + 1) 5 [.int .i64 a, .int .i64 b, .int .i64 c] h = some (.bool true, H) := by
  refine fn_val ?_
  obtain ⟨x, hx, ex⟩ := res a
  obtain ⟨y, hy, ey⟩ := res b
  obtain ⟨z, hz, ez⟩ := res c
  refine sy_call 2 (r := some (.int .i64 (IntKind.wrap .i64 ((IntKind.wrap .u64 a).tmod 65536)), h)) (by kernel_rfl) (by rw [ex]) ?_
  refine sy_call 2 (r := some (.int .i64 (IntKind.wrap .i64 ((IntKind.wrap .u64 b).tmod 65536)), h)) (by kernel_rfl) (by rw [ey]) ?_
  refine sy_call 2 (r := some (.int .i64 (IntKind.wrap .i64 ((IntKind.wrap .u64 c).tmod 65536)), h)) (by kernel_rfl) (by rw [ez]) ?_
  obtain ⟨H1, e1⟩ := t x y h hx hy
  refine sy_call 0 (by kernel_rfl) e1 ?_
  obtain ⟨H2, e2⟩ := t y x H1 hy hx
  refine sy_call 2 (by kernel_rfl) e2 ?_
  obtain ⟨H3, e3⟩ := t (nm 4 x y) z H2 (nF hx hy) hz
  refine sy_call 2 (by kernel_rfl) e3 ?_
  obtain ⟨H4, e4⟩ := t y z H3 hy hz
  refine sy_call 2 (by kernel_rfl) e4 ?_
  obtain ⟨H5, e5⟩ := t x (nm 4 y z) H4 hx (nF hy hz)
  refine sy_call 2 (by kernel_rfl) e5 ?_
  refine sy_call 2 (r := some (.int .i64 (xorI (Int.ofNat y) (Int.ofNat z)), H5)) (by kernel_rfl) (v := J (y ^^^ z)) (h' := H5) (by rw [xor_nat (by omega) (by omega)]) ?_
  obtain ⟨H6, e6⟩ := t x (y ^^^ z) H5 hx (Nat.xor_lt_two_pow hy hz)
  refine sy_call 0 (by kernel_rfl) e6 ?_
  obtain ⟨H7, e7⟩ := t x z H6 hx hz
  refine sy_call 2 (by kernel_rfl) e7 ?_
  obtain ⟨H8, e8⟩ := p x 65536 H7 hx (by decide)
  refine sy_call 2 (by kernel_rfl) e8 ?_
  refine sy_no 36 (b := Int.ofNat (nm 4 x y) != Int.ofNat (nm 4 y x)) (by kernel_rfl) (ne_no (cF hx hy)) ?_
  refine sy_no 4 (b := Int.ofNat (nm 4 (nm 4 x y) z) != Int.ofNat (nm 4 x (nm 4 y z))) (by kernel_rfl) (ne_no (aF hx hy hz)) ?_
  refine sy_no 7 (b := Int.ofNat (nm 4 x (y ^^^ z)) != xorI (Int.ofNat (nm 4 x y)) (Int.ofNat (nm 4 x z))) (by kernel_rfl) (by rw [xor_nat (Nat.lt_trans (nF hx hy) (by decide)) (Nat.lt_trans (nF hx hz) (by decide))]; exact ne_no (xF hx hy hz)) ?_
  refine sy_no 4 (b := Int.ofNat (pwr 1 x 65536) != Int.ofNat x) (by kernel_rfl) (ne_no (pwr_65536 hx)) ?_
  refine sy_test 6 (Int.ofNat x == 0) (by kernel_rfl) ?_ ?_
  · intro hx0
    have hx0 : x = 0 := Int.ofNat.inj (eq_of_beq hx0)
    refine sy_no 6 (b := !((Int.ofNat (nm 4 x y) == 0) == true)) (by kernel_rfl) (by rw [hx0, (nm_zero 4 y).2]; rfl) ?_
    refine sy_go 6 ?_
    obtain ⟨A0, a0⟩ := t 2 (x % 2) H8 (by decide) (by show _ < 2 ^ 16; omega)
    refine sy_call 0 (by kernel_rfl) (a0.trans (by rw [less.1])) ?_
    obtain ⟨B0, b0⟩ := t 2 2 A0 (by decide) (by decide)
    refine sy_call 2 (by kernel_rfl) (b0.trans (by rw [squares.1])) ?_
    refine sy_no 18 (b := Int.ofNat (2 * (x % 2)) != IntKind.wrap .i64 (Int.ofNat (2 * (x % 2)))) (by kernel_rfl) (by rw [wrap_nat (by omega)]; exact ne_no rfl) ?_
    refine sy_go 17 ?_
    obtain ⟨A1, a1⟩ := t 4 (x % 4) B0 (by decide) (by show _ < 2 ^ 16; omega)
    refine sy_call 0 (by kernel_rfl) (a1.trans (by rw [less.2.1])) ?_
    obtain ⟨B1, b1⟩ := t 4 4 A1 (by decide) (by decide)
    refine sy_call 2 (by kernel_rfl) (b1.trans (by rw [squares.2.1])) ?_
    refine sy_no 18 (b := Int.ofNat (4 * (x % 4)) != IntKind.wrap .i64 (Int.ofNat (4 * (x % 4)))) (by kernel_rfl) (by rw [wrap_nat (by omega)]; exact ne_no rfl) ?_
    refine sy_go 17 ?_
    obtain ⟨A2, a2⟩ := t 16 (x % 16) B1 (by decide) (by show _ < 2 ^ 16; omega)
    refine sy_call 0 (by kernel_rfl) (a2.trans (by rw [less.2.2.1])) ?_
    obtain ⟨B2, b2⟩ := t 16 16 A2 (by decide) (by decide)
    refine sy_call 2 (by kernel_rfl) (b2.trans (by rw [squares.2.2.1])) ?_
    refine sy_no 18 (b := Int.ofNat (16 * (x % 16)) != IntKind.wrap .i64 (Int.ofNat (16 * (x % 16)))) (by kernel_rfl) (by rw [wrap_nat (by omega)]; exact ne_no rfl) ?_
    refine sy_go 17 ?_
    obtain ⟨A3, a3⟩ := t 256 (x % 256) B2 (by decide) (by show _ < 2 ^ 16; omega)
    refine sy_call 0 (by kernel_rfl) (a3.trans (by rw [less.2.2.2])) ?_
    obtain ⟨B3, b3⟩ := t 256 256 A3 (by decide) (by decide)
    refine sy_call 2 (by kernel_rfl) (b3.trans (by rw [squares.2.2.2])) ?_
    refine sy_no 18 (b := Int.ofNat (256 * (x % 256)) != IntKind.wrap .i64 (Int.ofNat (256 * (x % 256)))) (by kernel_rfl) (by rw [wrap_nat (by omega)]; exact ne_no rfl) ?_
    refine sy_go 14 ?_
    refine sy_call 0 (by kernel_rfl) (aw B3) ?_
    exact sy_done 0 (h := B3) (v := .bool true) (by kernel_rfl) rfl
  · intro hx0
    have hx0 : x ≠ 0 := fun hc => by rw [hc] at hx0; cases hx0
    refine sy_no 7 (b := !((Int.ofNat (nm 4 x y) == 0) == (Int.ofNat y == 0))) (by kernel_rfl) (by
      have : (Int.ofNat (nm 4 x y) == 0) = (Int.ofNat y == 0) := by
        rw [Bool.eq_iff_iff]
        constructor
        · intro h1
          have h1 : nm 4 x y = 0 := Int.ofNat.inj (eq_of_beq h1)
          rcases (no_div hx hy).1 h1 with h2 | h2
          · exact absurd h2 hx0
          · rw [h2]; rfl
        · intro h1
          have h1 : y = 0 := Int.ofNat.inj (eq_of_beq h1)
          rw [h1, (nm_zero 4 x).1]; rfl
      rw [this]
      cases (Int.ofNat y == 0) <;> rfl) ?_
    refine sy_go 6 ?_
    obtain ⟨A0, a0⟩ := t 2 (x % 2) H8 (by decide) (by show _ < 2 ^ 16; omega)
    refine sy_call 0 (by kernel_rfl) (a0.trans (by rw [less.1])) ?_
    obtain ⟨B0, b0⟩ := t 2 2 A0 (by decide) (by decide)
    refine sy_call 2 (by kernel_rfl) (b0.trans (by rw [squares.1])) ?_
    refine sy_no 18 (b := Int.ofNat (2 * (x % 2)) != IntKind.wrap .i64 (Int.ofNat (2 * (x % 2)))) (by kernel_rfl) (by rw [wrap_nat (by omega)]; exact ne_no rfl) ?_
    refine sy_go 17 ?_
    obtain ⟨A1, a1⟩ := t 4 (x % 4) B0 (by decide) (by show _ < 2 ^ 16; omega)
    refine sy_call 0 (by kernel_rfl) (a1.trans (by rw [less.2.1])) ?_
    obtain ⟨B1, b1⟩ := t 4 4 A1 (by decide) (by decide)
    refine sy_call 2 (by kernel_rfl) (b1.trans (by rw [squares.2.1])) ?_
    refine sy_no 18 (b := Int.ofNat (4 * (x % 4)) != IntKind.wrap .i64 (Int.ofNat (4 * (x % 4)))) (by kernel_rfl) (by rw [wrap_nat (by omega)]; exact ne_no rfl) ?_
    refine sy_go 17 ?_
    obtain ⟨A2, a2⟩ := t 16 (x % 16) B1 (by decide) (by show _ < 2 ^ 16; omega)
    refine sy_call 0 (by kernel_rfl) (a2.trans (by rw [less.2.2.1])) ?_
    obtain ⟨B2, b2⟩ := t 16 16 A2 (by decide) (by decide)
    refine sy_call 2 (by kernel_rfl) (b2.trans (by rw [squares.2.2.1])) ?_
    refine sy_no 18 (b := Int.ofNat (16 * (x % 16)) != IntKind.wrap .i64 (Int.ofNat (16 * (x % 16)))) (by kernel_rfl) (by rw [wrap_nat (by omega)]; exact ne_no rfl) ?_
    refine sy_go 17 ?_
    obtain ⟨A3, a3⟩ := t 256 (x % 256) B2 (by decide) (by show _ < 2 ^ 16; omega)
    refine sy_call 0 (by kernel_rfl) (a3.trans (by rw [less.2.2.2])) ?_
    obtain ⟨B3, b3⟩ := t 256 256 A3 (by decide) (by decide)
    refine sy_call 2 (by kernel_rfl) (b3.trans (by rw [squares.2.2.2])) ?_
    refine sy_no 18 (b := Int.ofNat (256 * (x % 256)) != IntKind.wrap .i64 (Int.ofNat (256 * (x % 256)))) (by kernel_rfl) (by rw [wrap_nat (by omega)]; exact ne_no rfl) ?_
    refine sy_go 14 ?_
    refine sy_call 0 (by kernel_rfl) (aw B3) ?_
    exact sy_done 0 (h := B3) (v := .bool true) (by kernel_rfl) rfl
theorem run5 (a b c : Int) (h : Hp) : ∃ H, Ev 100000 1000 5 [.int .i64 a, .int .i64 b, .int .i64 c] h = some (.bool true, H) :=
  s5 a b c 99990 999 h
    (fun a b h ha hb => s11 a b ha hb 100000 998 h (fun x h => c34 x 100000 997 h) (fun h => c35 a b ha hb 100000 992 h))
    (fun a k h ha hk => s17 a k ha hk 100000 998 h (fun x h => c34 x 100000 997 h) (fun h => s38 a k ha hk 100000 997 (by decide) h (fun a b h ha hb => c35 a b ha hb 100000 991 h)))
    (fun h => rfl)
namespace heapField
theorem run (a0 a1 a2 : Int) (h : Hp) : ∃ H, evInv Tryd.prog orc 100000 1000 (.fn 5 [.int .i64 a0, .int .i64 a1, .int .i64 a2]) h = some (.bool true, H) := run5 a0 a1 a2 h
end heapField
end Go.Proofs.YtegcmgjldapnmaaDoor
