/- ProductsA: contracts of functions. -/
import Derived.Test.YtegcmgjldapnmaaDoorTimesD
namespace Go.Proofs.YtegcmgjldapnmaaDoor
open Go Go.Eng Nim
set_option maxRecDepth 100000
set_option maxHeartbeats 10000000
structure Facts (lf n : Nat) : Prop where
  t : ∀ a b h, F a → F b → ∃ H, Ev lf n 11 [J a, J b] h = some (.tuple #[J (nm 4 a b), .int .i64 0], H)
  tn : ∀ (a b : Int) h, ¬ (inF a ∧ inF b) → ∃ H, Ev lf n 11 [.int .i64 a, .int .i64 b] h = some (.tuple #[.int .i64 0, .int .i64 1], H)
  i0 : ∀ h, ∃ H, Ev lf n 15 [.int .i64 0] h = some (.tuple #[.int .i64 0, .int .i64 4], H)
  i : ∀ x h, F x → x ≠ 0 → ∃ H, Ev lf n 15 [J x] h = some (.tuple #[J (pwr 1 x 65534), .int .i64 0], H)
  ie : ∀ (a : Int) h, ¬ inF a → ∃ H, Ev lf n 15 [.int .i64 a] h = some (.tuple #[.int .i64 0, .int .i64 1], H)
  r : ∀ x h, F x → ∃ H, Ev lf n 16 [J x] h = some (.tuple #[J (pwr 1 x 32768), .int .i64 0], H)
  re : ∀ (a : Int) h, ¬ inF a → ∃ H, Ev lf n 16 [.int .i64 a] h = some (.tuple #[.int .i64 0, .int .i64 1], H)
  p : ∀ a k h, F a → k < 2 ^ 63 → ∃ H, Ev lf n 17 [J a, J k] h = some (.tuple #[J (pwr 1 a k), .int .i64 0], H)
  pe : ∀ (a m : Int) h, (¬ inF a ∨ m < 0) → ∃ H, Ev lf n 17 [.int .i64 a, .int .i64 m] h = some (.tuple #[.int .i64 0, .int .i64 1], H)
  rt : ∀ a b h, F a → F b → Ev lf n 13 [J a, J b] h = some (J (nm 4 a b), h)
  rp : ∀ a k h, F a → k < 2 ^ 63 → ∃ H, Ev lf n 18 [J a, J k] h = some (J (pwr 1 a k), H)
  aw : ∀ h, Ev lf n 14 [] h = some (.bool true, h)

theorem res2 (a : Int) (m : Nat) (hm : 0 < m) (h2 : m < 2 ^ 63) : ∃ x, x < m ∧ IntKind.wrap .i64 ((IntKind.wrap .u64 a).tmod (Int.ofNat m)) = Int.ofNat x := by
  have h0 : 0 ≤ IntKind.wrap .u64 a ∧ IntKind.wrap .u64 a < 2 ^ 64 := by
    show 0 ≤ a % 2 ^ 64 ∧ a % 2 ^ 64 < 2 ^ 64
    exact ⟨Int.emod_nonneg _ (by decide), Int.emod_lt_of_pos _ (by decide)⟩
  obtain ⟨u, hu⟩ := Int.eq_ofNat_of_zero_le h0.1
  have hu : IntKind.wrap .u64 a = Int.ofNat u := hu
  rw [hu]
  refine ⟨u % m, Nat.mod_lt _ hm, ?_⟩
  show IntKind.wrap .i64 (Int.ofNat (u % m)) = _
  exact wrap_nat (Nat.lt_trans (Nat.mod_lt _ hm) h2)
end Go.Proofs.YtegcmgjldapnmaaDoor
