/- ProductsD: contracts of functions. -/
import Derived.Test.YtegcmgjldapnmaaDoorProductsA
namespace Go.Proofs.YtegcmgjldapnmaaDoor
open Go Go.Eng Nim
set_option maxRecDepth 100000
set_option maxHeartbeats 10000000
theorem pB (a0 b0 m0 : Int) (lf n : Nat) (h : Hp) (K : Facts lf n) (q k : Nat) (a b m : Int) (f : Fr) (g : Hp) (hna : inF a) (hnb : ¬ inF b) (hb0 : b < 0) (h2 : m < 2 ^ 63) (fin : ∀ (f' : Fr) (h' : Hp), f' 7 = .int .i64 (IntKind.wrap .i64 (Int.ofNat k + 1)) → f' 0 = .int .i64 (IntKind.wrap .i64 ((IntKind.wrap .u64 a).tmod 65536)) → f' 1 = .int .i64 (IntKind.wrap .i64 ((IntKind.wrap .u64 b).tmod 65536)) → f' 2 = .int .i64 (IntKind.wrap .i64 ((IntKind.wrap .u64 m).tmod 200000)) →
        Ok (fun v _ => v = .bool true) (cutFam (goS 0 (goS 0 (fnS Tryd.prog orc lf n 4 [.int .i64 a0, .int .i64 b0, .int .i64 m0] h))) q f' h')) : Ok (fun v _ => v = .bool true) (testY (goS 0 (goS 1 (cutFam (goS 0 (goS 0 (fnS Tryd.prog orc lf n 4 [.int .i64 a0, .int .i64 b0, .int .i64 m0] h))) (q + 1) (upds f [(7, J k), (0, .int .i64 a), (1, .int .i64 b), (2, .int .i64 m)]) g)))) := by
  obtain ⟨x, ea⟩ := Int.eq_ofNat_of_zero_le hna.1
  have ea : a = Int.ofNat x := ea
  have hx : F x := by have := hna.2; rw [ea] at this; simp at this; show x < 2 ^ 16; omega
  subst ea
  by_cases h0 : x = 0
  · skip
    by_cases hm : m < 0
    · skip
      obtain ⟨G1, eG1⟩ := K.tn (Int.ofNat x) (b) g (fun hh => hnb hh.2)
      refine ok_go 0 ?_
      refine sy_call 0 (by kernel_rfl) eG1 ?_
      obtain ⟨G2, eG2⟩ := (show ∃ H, Ev lf n 15 [J x] G1 = some (.tuple #[.int .i64 0, .int .i64 4], H) by rw [h0]; exact K.i0 G1)
      refine ok_go 2 ?_
      refine sy_call 0 (by kernel_rfl) eG2 ?_
      obtain ⟨G3, eG3⟩ := K.r x G2 hx
      refine ok_go 2 ?_
      refine sy_call 0 (by kernel_rfl) eG3 ?_
      obtain ⟨G4, eG4⟩ := K.pe (Int.ofNat x) m G3 (.inr hm)
      refine ok_go 2 ?_
      refine sy_call 0 (by kernel_rfl) eG4 ?_
      refine ok_go 8 ?_
      refine sy_no 0 (b := decide (b ≥ 0)) (by kernel_rfl) (by exact decide_eq_false (by omega)) ?_
      refine ok_go 3 ?_
      refine sy_no 0 (b := !decide (Int.ofNat x < 65536)) (by kernel_rfl) (by rw [decide_eq_true (show Int.ofNat x < 65536 by simp; omega)]; rfl) ?_
      refine ok_go 11 ?_
      refine sy_no 0 (b := !decide (Int.ofNat x < 65536)) (by kernel_rfl) (by rw [decide_eq_true (show Int.ofNat x < 65536 by simp; omega)]; rfl) ?_
      refine ok_go 1 ?_
      refine sy_yes 0 (b := Int.ofNat x == 0) (by kernel_rfl) (by rw [h0]; rfl) ?_
      refine ok_go 15 ?_
      refine sy_no 0 (b := decide (Int.ofNat (pwr 1 x 32768) > 65535)) (by kernel_rfl) (by exact decide_eq_false (by have := pwrF x 32768 1 (by decide) hx; simp; omega)) ?_
      refine ok_go 2 ?_
      refine sy_call 0 (by kernel_rfl) ((K.rt (pwr 1 x 32768) (pwr 1 x 32768) G4 (pwrF x 32768 1 (by decide) hx) (pwrF x 32768 1 (by decide) hx)).trans (by rw [root_sq hx])) ?_
      refine ok_go 4 ?_
      refine sy_no 0 (b := Int.ofNat x != Int.ofNat x) (by kernel_rfl) (by exact ne_no rfl) ?_
      refine ok_go 1 ?_
      refine sy_yes 0 (b := decide (m < 0)) (by kernel_rfl) (by exact decide_eq_true hm) ?_
      refine ok_go 16 ?_
      refine sy_next 0 (cutFam (goS 0 (goS 0 (fnS Tryd.prog orc lf n 4 [.int .i64 a0, .int .i64 b0, .int .i64 m0] h))) q) G4 (by kernel_rfl) (by kernel_rfl) ?_
      exact fin _ G4 (by kernel_rfl) (by kernel_rfl) (by kernel_rfl) (by kernel_rfl)
    · obtain ⟨z, em⟩ := Int.eq_ofNat_of_zero_le (show 0 ≤ m by omega)
      have em : m = Int.ofNat z := em
      have hz : z < 2 ^ 63 := by rw [em] at h2; simp at h2; omega
      subst em
      obtain ⟨G1, eG1⟩ := K.tn (Int.ofNat x) (b) g (fun hh => hnb hh.2)
      refine ok_go 0 ?_
      refine sy_call 0 (by kernel_rfl) eG1 ?_
      obtain ⟨G2, eG2⟩ := (show ∃ H, Ev lf n 15 [J x] G1 = some (.tuple #[.int .i64 0, .int .i64 4], H) by rw [h0]; exact K.i0 G1)
      refine ok_go 2 ?_
      refine sy_call 0 (by kernel_rfl) eG2 ?_
      obtain ⟨G3, eG3⟩ := K.r x G2 hx
      refine ok_go 2 ?_
      refine sy_call 0 (by kernel_rfl) eG3 ?_
      obtain ⟨G4, eG4⟩ := K.p x z G3 hx hz
      refine ok_go 2 ?_
      refine sy_call 0 (by kernel_rfl) eG4 ?_
      refine ok_go 8 ?_
      refine sy_no 0 (b := decide (b ≥ 0)) (by kernel_rfl) (by exact decide_eq_false (by omega)) ?_
      refine ok_go 3 ?_
      refine sy_no 0 (b := !decide (Int.ofNat x < 65536)) (by kernel_rfl) (by rw [decide_eq_true (show Int.ofNat x < 65536 by simp; omega)]; rfl) ?_
      refine ok_go 11 ?_
      refine sy_no 0 (b := !decide (Int.ofNat x < 65536)) (by kernel_rfl) (by rw [decide_eq_true (show Int.ofNat x < 65536 by simp; omega)]; rfl) ?_
      refine ok_go 1 ?_
      refine sy_yes 0 (b := Int.ofNat x == 0) (by kernel_rfl) (by rw [h0]; rfl) ?_
      refine ok_go 15 ?_
      refine sy_no 0 (b := decide (Int.ofNat (pwr 1 x 32768) > 65535)) (by kernel_rfl) (by exact decide_eq_false (by have := pwrF x 32768 1 (by decide) hx; simp; omega)) ?_
      refine ok_go 2 ?_
      refine sy_call 0 (by kernel_rfl) ((K.rt (pwr 1 x 32768) (pwr 1 x 32768) G4 (pwrF x 32768 1 (by decide) hx) (pwrF x 32768 1 (by decide) hx)).trans (by rw [root_sq hx])) ?_
      refine ok_go 4 ?_
      refine sy_no 0 (b := Int.ofNat x != Int.ofNat x) (by kernel_rfl) (by exact ne_no rfl) ?_
      obtain ⟨G5, eG5⟩ := K.rp x z G4 hx hz
      refine ok_go 7 ?_
      refine sy_call 0 (by kernel_rfl) eG5 ?_
      refine ok_go 3 ?_
      refine sy_no 0 (b := Int.ofNat (pwr 1 x z) != Int.ofNat (pwr 1 x z)) (by kernel_rfl) (by exact ne_no rfl) ?_
      refine ok_go 10 ?_
      refine sy_next 0 (cutFam (goS 0 (goS 0 (fnS Tryd.prog orc lf n 4 [.int .i64 a0, .int .i64 b0, .int .i64 m0] h))) q) G5 (by kernel_rfl) (by kernel_rfl) ?_
      exact fin _ G5 (by kernel_rfl) (by kernel_rfl) (by kernel_rfl) (by kernel_rfl)
  · skip
    by_cases hm : m < 0
    · skip
      obtain ⟨G1, eG1⟩ := K.tn (Int.ofNat x) (b) g (fun hh => hnb hh.2)
      refine ok_go 0 ?_
      refine sy_call 0 (by kernel_rfl) eG1 ?_
      obtain ⟨G2, eG2⟩ := K.i x G1 hx h0
      refine ok_go 2 ?_
      refine sy_call 0 (by kernel_rfl) eG2 ?_
      obtain ⟨G3, eG3⟩ := K.r x G2 hx
      refine ok_go 2 ?_
      refine sy_call 0 (by kernel_rfl) eG3 ?_
      obtain ⟨G4, eG4⟩ := K.pe (Int.ofNat x) m G3 (.inr hm)
      refine ok_go 2 ?_
      refine sy_call 0 (by kernel_rfl) eG4 ?_
      refine ok_go 8 ?_
      refine sy_no 0 (b := decide (b ≥ 0)) (by kernel_rfl) (by exact decide_eq_false (by omega)) ?_
      refine ok_go 3 ?_
      refine sy_no 0 (b := !decide (Int.ofNat x < 65536)) (by kernel_rfl) (by rw [decide_eq_true (show Int.ofNat x < 65536 by simp; omega)]; rfl) ?_
      refine ok_go 11 ?_
      refine sy_no 0 (b := !decide (Int.ofNat x < 65536)) (by kernel_rfl) (by rw [decide_eq_true (show Int.ofNat x < 65536 by simp; omega)]; rfl) ?_
      refine ok_go 1 ?_
      refine sy_no 0 (b := Int.ofNat x == 0) (by kernel_rfl) (by cases hc : (Int.ofNat x == 0) with
        | false => rfl
        | true => exact absurd (Int.ofNat.inj (eq_of_beq hc)) h0) ?_
      refine ok_go 9 ?_
      refine sy_no 0 (b := decide (Int.ofNat (pwr 1 x 65534) > 65535)) (by kernel_rfl) (by exact decide_eq_false (by have := pwrF x 65534 1 (by decide) hx; simp; omega)) ?_
      refine ok_go 2 ?_
      refine sy_call 0 (by kernel_rfl) ((K.rt x (pwr 1 x 65534) G4 hx (pwrF x 65534 1 (by decide) hx)).trans (by rw [inv_pwr hx h0])) ?_
      refine ok_go 13 ?_
      refine sy_no 0 (b := decide (Int.ofNat (pwr 1 x 32768) > 65535)) (by kernel_rfl) (by exact decide_eq_false (by have := pwrF x 32768 1 (by decide) hx; simp; omega)) ?_
      refine ok_go 2 ?_
      refine sy_call 0 (by kernel_rfl) ((K.rt (pwr 1 x 32768) (pwr 1 x 32768) G4 (pwrF x 32768 1 (by decide) hx) (pwrF x 32768 1 (by decide) hx)).trans (by rw [root_sq hx])) ?_
      refine ok_go 4 ?_
      refine sy_no 0 (b := Int.ofNat x != Int.ofNat x) (by kernel_rfl) (by exact ne_no rfl) ?_
      refine ok_go 1 ?_
      refine sy_yes 0 (b := decide (m < 0)) (by kernel_rfl) (by exact decide_eq_true hm) ?_
      refine ok_go 16 ?_
      refine sy_next 0 (cutFam (goS 0 (goS 0 (fnS Tryd.prog orc lf n 4 [.int .i64 a0, .int .i64 b0, .int .i64 m0] h))) q) G4 (by kernel_rfl) (by kernel_rfl) ?_
      exact fin _ G4 (by kernel_rfl) (by kernel_rfl) (by kernel_rfl) (by kernel_rfl)
    · obtain ⟨z, em⟩ := Int.eq_ofNat_of_zero_le (show 0 ≤ m by omega)
      have em : m = Int.ofNat z := em
      have hz : z < 2 ^ 63 := by rw [em] at h2; simp at h2; omega
      subst em
      obtain ⟨G1, eG1⟩ := K.tn (Int.ofNat x) (b) g (fun hh => hnb hh.2)
      refine ok_go 0 ?_
      refine sy_call 0 (by kernel_rfl) eG1 ?_
      obtain ⟨G2, eG2⟩ := K.i x G1 hx h0
      refine ok_go 2 ?_
      refine sy_call 0 (by kernel_rfl) eG2 ?_
      obtain ⟨G3, eG3⟩ := K.r x G2 hx
      refine ok_go 2 ?_
      refine sy_call 0 (by kernel_rfl) eG3 ?_
      obtain ⟨G4, eG4⟩ := K.p x z G3 hx hz
      refine ok_go 2 ?_
      refine sy_call 0 (by kernel_rfl) eG4 ?_
      refine ok_go 8 ?_
      refine sy_no 0 (b := decide (b ≥ 0)) (by kernel_rfl) (by exact decide_eq_false (by omega)) ?_
      refine ok_go 3 ?_
      refine sy_no 0 (b := !decide (Int.ofNat x < 65536)) (by kernel_rfl) (by rw [decide_eq_true (show Int.ofNat x < 65536 by simp; omega)]; rfl) ?_
      refine ok_go 11 ?_
      refine sy_no 0 (b := !decide (Int.ofNat x < 65536)) (by kernel_rfl) (by rw [decide_eq_true (show Int.ofNat x < 65536 by simp; omega)]; rfl) ?_
      refine ok_go 1 ?_
      refine sy_no 0 (b := Int.ofNat x == 0) (by kernel_rfl) (by cases hc : (Int.ofNat x == 0) with
        | false => rfl
        | true => exact absurd (Int.ofNat.inj (eq_of_beq hc)) h0) ?_
      refine ok_go 9 ?_
      refine sy_no 0 (b := decide (Int.ofNat (pwr 1 x 65534) > 65535)) (by kernel_rfl) (by exact decide_eq_false (by have := pwrF x 65534 1 (by decide) hx; simp; omega)) ?_
      refine ok_go 2 ?_
      refine sy_call 0 (by kernel_rfl) ((K.rt x (pwr 1 x 65534) G4 hx (pwrF x 65534 1 (by decide) hx)).trans (by rw [inv_pwr hx h0])) ?_
      refine ok_go 13 ?_
      refine sy_no 0 (b := decide (Int.ofNat (pwr 1 x 32768) > 65535)) (by kernel_rfl) (by exact decide_eq_false (by have := pwrF x 32768 1 (by decide) hx; simp; omega)) ?_
      refine ok_go 2 ?_
      refine sy_call 0 (by kernel_rfl) ((K.rt (pwr 1 x 32768) (pwr 1 x 32768) G4 (pwrF x 32768 1 (by decide) hx) (pwrF x 32768 1 (by decide) hx)).trans (by rw [root_sq hx])) ?_
      refine ok_go 4 ?_
      refine sy_no 0 (b := Int.ofNat x != Int.ofNat x) (by kernel_rfl) (by exact ne_no rfl) ?_
      obtain ⟨G5, eG5⟩ := K.rp x z G4 hx hz
      refine ok_go 7 ?_
      refine sy_call 0 (by kernel_rfl) eG5 ?_
      refine ok_go 3 ?_
      refine sy_no 0 (b := Int.ofNat (pwr 1 x z) != Int.ofNat (pwr 1 x z)) (by kernel_rfl) (by exact ne_no rfl) ?_
      refine ok_go 10 ?_
      refine sy_next 0 (cutFam (goS 0 (goS 0 (fnS Tryd.prog orc lf n 4 [.int .i64 a0, .int .i64 b0, .int .i64 m0] h))) q) G5 (by kernel_rfl) (by kernel_rfl) ?_
      exact fin _ G5 (by kernel_rfl) (by kernel_rfl) (by kernel_rfl) (by kernel_rfl)
end Go.Proofs.YtegcmgjldapnmaaDoor
