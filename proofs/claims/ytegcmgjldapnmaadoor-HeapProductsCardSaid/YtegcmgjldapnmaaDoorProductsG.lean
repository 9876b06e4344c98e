/- ProductsG: contracts of functions. -/
import Derived.Test.YtegcmgjldapnmaaDoorProductsA
namespace Go.Proofs.YtegcmgjldapnmaaDoor
open Go Go.Eng Nim
set_option maxRecDepth 100000
set_option maxHeartbeats 10000000
theorem pE (a0 b0 m0 : Int) (lf n : Nat) (h : Hp) (K : Facts lf n) (q k : Nat) (a b m : Int) (f : Fr) (g : Hp) (hna : ¬ inF a) (ha1 : 65536 ≤ a) (fin : ∀ (f' : Fr) (h' : Hp), f' 7 = .int .i64 (IntKind.wrap .i64 (Int.ofNat k + 1)) → f' 0 = .int .i64 (IntKind.wrap .i64 ((IntKind.wrap .u64 a).tmod 65536)) → f' 1 = .int .i64 (IntKind.wrap .i64 ((IntKind.wrap .u64 b).tmod 65536)) → f' 2 = .int .i64 (IntKind.wrap .i64 ((IntKind.wrap .u64 m).tmod 200000)) →
        Ok (fun v _ => v = .bool true) (cutFam (goS 0 (goS 0 (fnS Tryd.prog orc lf n 4 [.int .i64 a0, .int .i64 b0, .int .i64 m0] h))) q f' h')) : Ok (fun v _ => v = .bool true) (testY (goS 0 (goS 1 (cutFam (goS 0 (goS 0 (fnS Tryd.prog orc lf n 4 [.int .i64 a0, .int .i64 b0, .int .i64 m0] h))) (q + 1) (upds f [(7, J k), (0, .int .i64 a), (1, .int .i64 b), (2, .int .i64 m)]) g)))) := by
  by_cases hnb : inF b
  · skip
    obtain ⟨y, eb⟩ := Int.eq_ofNat_of_zero_le hnb.1
    have eb : b = Int.ofNat y := eb
    have hy : F y := by have := hnb.2; rw [eb] at this; simp at this; show y < 2 ^ 16; omega
    subst eb
    obtain ⟨G1, eG1⟩ := K.tn (a) (Int.ofNat y) g (fun hh => hna hh.1)
    refine ok_go 0 ?_
    refine sy_call 0 (by kernel_rfl) eG1 ?_
    obtain ⟨G2, eG2⟩ := K.ie a G1 hna
    refine ok_go 2 ?_
    refine sy_call 0 (by kernel_rfl) eG2 ?_
    obtain ⟨G3, eG3⟩ := K.re a G2 hna
    refine ok_go 2 ?_
    refine sy_call 0 (by kernel_rfl) eG3 ?_
    obtain ⟨G4, eG4⟩ := K.pe a m G3 (.inl hna)
    refine ok_go 2 ?_
    refine sy_call 0 (by kernel_rfl) eG4 ?_
    refine ok_go 3 ?_
    refine sy_yes 0 (b := decide (a ≥ 0)) (by kernel_rfl) (by exact decide_eq_true (by omega)) ?_
    refine ok_go 9 ?_
    refine sy_yes 0 (b := !decide (a < 65536)) (by kernel_rfl) (by rw [decide_eq_false (show ¬ a < 65536 by omega)]; rfl) ?_
    refine ok_go 10 ?_
    refine sy_yes 0 (b := !decide (a < 65536)) (by kernel_rfl) (by rw [decide_eq_false (show ¬ a < 65536 by omega)]; rfl) ?_
    refine ok_go 32 ?_
    refine sy_next 0 (cutFam (goS 0 (goS 0 (fnS Tryd.prog orc lf n 4 [.int .i64 a0, .int .i64 b0, .int .i64 m0] h))) q) G4 (by kernel_rfl) (by kernel_rfl) ?_
    exact fin _ G4 (by kernel_rfl) (by kernel_rfl) (by kernel_rfl) (by kernel_rfl)
  · by_cases hb0 : b < 0
    · skip
      obtain ⟨G1, eG1⟩ := K.tn (a) (b) g (fun hh => hna hh.1)
      refine ok_go 0 ?_
      refine sy_call 0 (by kernel_rfl) eG1 ?_
      obtain ⟨G2, eG2⟩ := K.ie a G1 hna
      refine ok_go 2 ?_
      refine sy_call 0 (by kernel_rfl) eG2 ?_
      obtain ⟨G3, eG3⟩ := K.re a G2 hna
      refine ok_go 2 ?_
      refine sy_call 0 (by kernel_rfl) eG3 ?_
      obtain ⟨G4, eG4⟩ := K.pe a m G3 (.inl hna)
      refine ok_go 2 ?_
      refine sy_call 0 (by kernel_rfl) eG4 ?_
      refine ok_go 3 ?_
      refine sy_yes 0 (b := decide (a ≥ 0)) (by kernel_rfl) (by exact decide_eq_true (by omega)) ?_
      refine ok_go 4 ?_
      refine sy_no 0 (b := decide (b ≥ 0)) (by kernel_rfl) (by exact decide_eq_false (by omega)) ?_
      refine ok_go 3 ?_
      refine sy_yes 0 (b := !decide (a < 65536)) (by kernel_rfl) (by rw [decide_eq_false (show ¬ a < 65536 by omega)]; rfl) ?_
      refine ok_go 10 ?_
      refine sy_yes 0 (b := !decide (a < 65536)) (by kernel_rfl) (by rw [decide_eq_false (show ¬ a < 65536 by omega)]; rfl) ?_
      refine ok_go 32 ?_
      refine sy_next 0 (cutFam (goS 0 (goS 0 (fnS Tryd.prog orc lf n 4 [.int .i64 a0, .int .i64 b0, .int .i64 m0] h))) q) G4 (by kernel_rfl) (by kernel_rfl) ?_
      exact fin _ G4 (by kernel_rfl) (by kernel_rfl) (by kernel_rfl) (by kernel_rfl)
    · have hb1 : 65536 ≤ b := Int.not_lt.1 fun hc => hnb ⟨by omega, hc⟩
      obtain ⟨G1, eG1⟩ := K.tn (a) (b) g (fun hh => hna hh.1)
      refine ok_go 0 ?_
      refine sy_call 0 (by kernel_rfl) eG1 ?_
      obtain ⟨G2, eG2⟩ := K.ie a G1 hna
      refine ok_go 2 ?_
      refine sy_call 0 (by kernel_rfl) eG2 ?_
      obtain ⟨G3, eG3⟩ := K.re a G2 hna
      refine ok_go 2 ?_
      refine sy_call 0 (by kernel_rfl) eG3 ?_
      obtain ⟨G4, eG4⟩ := K.pe a m G3 (.inl hna)
      refine ok_go 2 ?_
      refine sy_call 0 (by kernel_rfl) eG4 ?_
      refine ok_go 3 ?_
      refine sy_yes 0 (b := decide (a ≥ 0)) (by kernel_rfl) (by exact decide_eq_true (by omega)) ?_
      refine ok_go 4 ?_
      refine sy_yes 0 (b := decide (b ≥ 0)) (by kernel_rfl) (by exact decide_eq_true (by omega)) ?_
      refine ok_go 4 ?_
      refine sy_yes 0 (b := !decide (a < 65536)) (by kernel_rfl) (by rw [decide_eq_false (show ¬ a < 65536 by omega)]; rfl) ?_
      refine ok_go 10 ?_
      refine sy_yes 0 (b := !decide (a < 65536)) (by kernel_rfl) (by rw [decide_eq_false (show ¬ a < 65536 by omega)]; rfl) ?_
      refine ok_go 32 ?_
      refine sy_next 0 (cutFam (goS 0 (goS 0 (fnS Tryd.prog orc lf n 4 [.int .i64 a0, .int .i64 b0, .int .i64 m0] h))) q) G4 (by kernel_rfl) (by kernel_rfl) ?_
      exact fin _ G4 (by kernel_rfl) (by kernel_rfl) (by kernel_rfl) (by kernel_rfl)
end Go.Proofs.YtegcmgjldapnmaaDoor
