/- LeastC: contracts of functions. -/
import Derived.Test.YtegcmgjldapnmaaDoorProg
import Derived.KernelRfl
import Derived.Test.YtegcmgjldapnmaaDoorSyB
import Derived.Test.YtegcmgjldapnmaaDoorLeastB
import Derived.Test.YtegcmgjldapnmaaDoorFieldA
import Derived.Test.YtegcmgjldapnmaaDoorTimesD
namespace Go.Proofs.YtegcmgjldapnmaaDoor
open Go Go.Eng Nim
set_option maxRecDepth 100000
set_option maxHeartbeats 4000000
theorem res16 (a : Int) (m : Nat) (hm : 0 < m) (h2 : m < 2 ^ 63) : ∃ x, x < m ∧ IntKind.wrap .i64 ((IntKind.wrap .u64 a).tmod (Int.ofNat m)) = Int.ofNat x := by
  have h0 : 0 ≤ IntKind.wrap .u64 a ∧ IntKind.wrap .u64 a < 2 ^ 64 := by
    show 0 ≤ a % 2 ^ 64 ∧ a % 2 ^ 64 < 2 ^ 64
    exact ⟨Int.emod_nonneg _ (by decide), Int.emod_lt_of_pos _ (by decide)⟩
  obtain ⟨u, hu⟩ := Int.eq_ofNat_of_zero_le h0.1
  have hu : IntKind.wrap .u64 a = Int.ofNat u := hu
  rw [hu]
  refine ⟨u % m, Nat.mod_lt _ hm, ?_⟩
  show IntKind.wrap .i64 (Int.ofNat (u % m)) = _
  exact wrap_nat (Nat.lt_trans (Nat.mod_lt _ hm) h2)
theorem s3 (a b : Int) (lf n : Nat) (h : Hp) (t : ∀ a b h, F a → F b → ∃ H, Ev lf n 11 [J a, J b] h = some (.tuple #[J (nm 4 a b), .int .i64 0], H))
   (l : ∀ a b h, a < 16 → b < 16 → ∃ H, Ev lf n 12 [J a, J b] h = some (J (nm 4 a b), H)) (rt : ∀ a b h, F a → F b → Ev lf n 13 [J a, J b] h = some (J (nm 4 a b), h)) (aw : ∀ h, Ev lf n 14 [] h = some (.bool true, h)) :
    ∃ H, Ev lf (n + 1) 3 [.int .i64 a, .int .i64 b] h = some (.bool true, H) := by
  refine fn_val ?_
  obtain ⟨x, hx, ex⟩ := res16 a 16 (by decide) (by decide)
  obtain ⟨y, hy, ey⟩ := res16 b 16 (by decide) (by decide)
  have fx : F x := by show x < 2 ^ 16; omega
  have fy : F y := by show y < 2 ^ 16; omega
  refine sy_call 2 (r := some (.int .i64 (IntKind.wrap .i64 ((IntKind.wrap .u64 a).tmod 16)), h)) (by kernel_rfl) (by rw [show (16 : Int) = Int.ofNat 16 from rfl, ex]) ?_
  refine sy_call 2 (r := some (.int .i64 (IntKind.wrap .i64 ((IntKind.wrap .u64 b).tmod 16)), h)) (by kernel_rfl) (by rw [show (16 : Int) = Int.ofNat 16 from rfl, ey]) ?_
  refine ok_go 0 ?_
  obtain ⟨H1, e1⟩ := t x y h fx fy
  refine sy_call 0 (by kernel_rfl) e1 ?_
  refine ok_go 7 ?_
  obtain ⟨H2, e2⟩ := l x y H1 hx hy
  refine sy_call 0 (by kernel_rfl) e2 ?_
  refine ok_go 3 ?_
  refine sy_yes 0 (b := Int.ofNat (nm 4 x y) == Int.ofNat (nm 4 x y)) (by kernel_rfl) (beq_self_eq_true _) ?_
  refine ok_go 2 ?_
  refine sy_call 0 (by kernel_rfl) (rt x y H2 fx fy) ?_
  refine ok_go 4 ?_
  refine sy_yes 0 (b := Int.ofNat (nm 4 x y) == Int.ofNat (nm 4 x y)) (by kernel_rfl) (beq_self_eq_true _) ?_
  refine ok_go 0 ?_
  refine sy_call 0 (by kernel_rfl) (aw H2) ?_
  refine ok_go 1 ?_
  exact sy_done 0 (h := H2) (v := .bool true) (by kernel_rfl) rfl
theorem run3 (a b : Int) (h : Hp) : ∃ H, Ev 100000 1000 3 [.int .i64 a, .int .i64 b] h = some (.bool true, H) :=
  s3 a b 100000 999 h (fun a b h ha hb => s11 a b ha hb 100000 998 h (fun x h => c34 x 100000 997 h) (fun h => c35 a b ha hb 100000 992 h))
    (fun a b h ha hb => s12 a b ha hb 100000 998 (by decide) h (fun zs l h hz hl ho => s36 16 zs hz (by omega) 100000 997 (by decide) (by decide) l h ho))
    (fun a b h ha hb => s13 a b 100000 998 h (c37 a b ha hb 100000 993 h)) (fun h => rfl)
namespace heapLeast
theorem run (a0 a1 : Int) (h : Hp) : ∃ H, evInv Tryd.prog orc 100000 1000 (.fn 3 [.int .i64 a0, .int .i64 a1]) h = some (.bool true, H) := run3 a0 a1 h
end heapLeast
end Go.Proofs.YtegcmgjldapnmaaDoor
