/- ProductsH: contracts of functions. -/
import Derived.Test.YtegcmgjldapnmaaDoorProductsA
import Derived.Test.YtegcmgjldapnmaaDoorProductsC
import Derived.Test.YtegcmgjldapnmaaDoorProductsD
import Derived.Test.YtegcmgjldapnmaaDoorProductsE
import Derived.Test.YtegcmgjldapnmaaDoorProductsF
import Derived.Test.YtegcmgjldapnmaaDoorProductsG
namespace Go.Proofs.YtegcmgjldapnmaaDoor
open Go Go.Eng Nim
set_option maxRecDepth 100000
set_option maxHeartbeats 10000000
theorem s4 (a0 b0 m0 : Int) (hm0 : m0 < 2 ^ 63) (lf n : Nat) (hlf : 10 ≤ lf) (h : Hp) (K : Facts lf n) : ∃ H, Ev lf (n + 1) 4 [.int .i64 a0, .int .i64 b0, .int .i64 m0] h = some (.bool true, H) := by
  refine fn_val ?_
  refine ok_go 0 ?_
  refine sy_loop 0 lf h (α := Nat × Int × Int × Int) (fun s => [(7, J s.1), (0, .int .i64 s.2.1), (1, .int .i64 s.2.2.1), (2, .int .i64 s.2.2.2)]) (fun s _ => s.1 ≤ 2 ∧ s.2.2.2 < 2 ^ 63) (fun s _ => 2 - s.1) (0, a0, b0, m0) (by kernel_rfl) (by kernel_rfl) ⟨by kernel_rfl, by kernel_rfl, by kernel_rfl, by kernel_rfl, trivial⟩ (show 2 < lf by omega) ⟨show 0 ≤ 2 by omega, hm0⟩ ?_
  rintro q ⟨k, a, b, m⟩ f g ⟨h1, h2⟩ ih
  dsimp only at h1 h2
  refine ok_go 1 ?_
  refine sy_test 0 (decide (Int.ofNat k < 2)) (by kernel_rfl) ?_ ?_
  · intro hk
    have hk : k < 2 := by have := of_decide_eq_true hk; simp at this; omega
    obtain ⟨x', hx', ex⟩ := res2 a 65536 (by decide) (by decide)
    obtain ⟨y', hy', ey⟩ := res2 b 65536 (by decide) (by decide)
    obtain ⟨z', hz', ez⟩ := res2 m 200000 (by decide) (by decide)
    have fin : ∀ (f' : Fr) (h' : Hp), f' 7 = .int .i64 (IntKind.wrap .i64 (Int.ofNat k + 1)) → f' 0 = .int .i64 (IntKind.wrap .i64 ((IntKind.wrap .u64 a).tmod 65536)) → f' 1 = .int .i64 (IntKind.wrap .i64 ((IntKind.wrap .u64 b).tmod 65536)) → f' 2 = .int .i64 (IntKind.wrap .i64 ((IntKind.wrap .u64 m).tmod 200000)) →
        Ok (fun v x => v = .bool true) (cutFam (goS 0 (goS 0 (fnS Tryd.prog orc lf n 4 [.int .i64 a0, .int .i64 b0, .int .i64 m0] h))) q f' h') := fun f' h' q7 q0 q1 q2 => by
      refine ih (k + 1, Int.ofNat x', Int.ofNat y', Int.ofNat z') f' h' ⟨show k + 1 ≤ 2 by omega, show Int.ofNat z' < 2 ^ 63 by simp; omega⟩ (show 2 - (k + 1) < 2 - k by omega) ⟨?_, ?_, ?_, ?_, trivial⟩
      · rw [q7]; show Value.int .i64 (IntKind.wrap .i64 (Int.ofNat (k + 1))) = _; rw [wrap_nat (by omega)]
      · rw [q0]; exact congrArg _ ex
      · rw [q1]; exact congrArg _ ey
      · rw [q2]; exact congrArg _ ez
    by_cases hna : inF a
    · by_cases hnb : inF b
      · exact pA a0 b0 m0 lf n h K q k a b m f g hna hnb h2 fin
      · by_cases hb0 : b < 0
        · exact pB a0 b0 m0 lf n h K q k a b m f g hna hnb hb0 h2 fin
        · exact pC a0 b0 m0 lf n h K q k a b m f g hna hnb (Int.not_lt.1 fun hc => hnb ⟨by omega, hc⟩) h2 fin
    · by_cases ha0 : a < 0
      · exact pD a0 b0 m0 lf n h K q k a b m f g hna ha0 fin
      · exact pE a0 b0 m0 lf n h K q k a b m f g hna (Int.not_lt.1 fun hc => hna ⟨by omega, hc⟩) fin
  · intro hk
    refine ok_go 0 ?_
    refine sy_call 0 (by kernel_rfl) (K.aw g) ?_
    refine ok_go 0 ?_
    exact sy_done 0 (h := g) (v := .bool true) (by kernel_rfl) rfl
end Go.Proofs.YtegcmgjldapnmaaDoor
