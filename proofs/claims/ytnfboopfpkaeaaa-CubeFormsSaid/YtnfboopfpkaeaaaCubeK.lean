/- CubeK: contracts of functions. -/
import Derived.Test.YtnfboopfpkaeaaaProg
import Derived.KernelRfl
import Derived.Test.YtnfboopfpkaeaaaSyB
import Derived.Test.YtnfboopfpkaeaaaCubeH
namespace Go.Proofs.Ytnfboopfpkaeaaa
open Go Go.Eng Nim
set_option maxRecDepth 100000
theorem lower (n k : Nat) (hn : n ≤ 6) : Lower 100000 (k + 20) n where
  hn := hn
  hlf := by decide
  sz := fun h => size_of n hn (k + 10) h
  ck := fun a c h => check_of n a c 100000 (k + 19) h fun h => size_of n hn (k + 9) h
  nb := fun b h => number_of b (k + 10) h
  ns := fun f a c h A => numbers_of f (2 ^ n) 100000 (k + 19) (Nat.one_le_two_pow) (Nat.pow_le_pow_right (n := 2) (by decide) hn) (by decide) (fun b h => number_of b (k + 9) h) a c h A
  tI := by
    intro f s _ v hk hB h1 h2 h3 b c h A
    refine turnI f s n hn Far v hB 100000 (k + 19) (by decide) h ?_ b c A
    intro a b h ha hb
    rcases hk with rfl | rfl | rfl
    · rw [h1 rfl]; exact spec_step 100000 (k + 18) a b h ha hb
    · rw [h2 rfl]; exact real_step 100000 (k + 18) a b h ha hb
    · rw [h3 rfl]; exact from_step 100000 (k + 18) a b h ha hb
  tB := by
    intro v b c h A
    exact turnB 64 _ n hn (fun _ => True) v (fun _ _ _ => trivial) 100000 (k + 19) (by decide) h (fun a b h _ _ => rem_step 100000 (k + 18) a b h) b c A
  cI := fun v b c h A => cloneI_of v (2 ^ n) 100000 (k + 19) b c (Nat.one_le_two_pow) (Nat.pow_le_pow_right (n := 2) (by decide) hn) h A
  cB := fun v b c h A => cloneB_of v (2 ^ n) 100000 (k + 19) b c (Nat.one_le_two_pow) (Nat.pow_le_pow_right (n := 2) (by decide) hn) h A
theorem upper (k : Nat) : Upper 100000 (k + 22) where
  hlf := by decide
  tb := fun x n kind h hn => table_of x n hn kind 100000 (k + 21) (by decide) h
  bt := fun z => by
    obtain ⟨j, hj, e⟩ := bits_of z
    exact ⟨j, hj, fun h => e 100000 (k + 21) h⟩
  sp := fun f n b c h hn A => spectrum_of f n 100000 (k + 21) (lower n (k + 1) hn) (some ⟨b, 0, none⟩) c h (A.rds c)
  inf := fun f n i b c h hn hi A => influence_of f n i 100000 (k + 21) hi (lower n (k + 1) hn) b c h A
  rm := fun f n b c h hn A => remainders_of f n 100000 (k + 21) (lower n (k + 1) hn) b c h A
  re := fun f n b c h hn A => Reals_of f n 100000 (k + 21) (lower n (k + 1) hn) (some ⟨b, 0, none⟩) c h (reals_of f n 100000 (k + 20) (lower n k hn) (some ⟨b, 0, none⟩) c h (A.rds c))
  fr := fun f n b c h hn A => from_of f n 100000 (k + 21) (lower n (k + 1) hn) b c h A
  bo := fun f N a ca b cb h hN A B => bools_of f N 100000 (k + 21) a ca b cb hN (by decide) h A B
  aw := fun h => rfl
theorem said6 (x a0 a1 : Int) (h : Hp) : ∃ H, evInv Try.prog orc 100000 100 (.fn 6 [.int .u64 x, .agg #[I a0, I a1]]) h = some (.bool true, H) := s6 x a0 a1 100000 99 (upper 77) h
end Go.Proofs.Ytnfboopfpkaeaaa
