/- CubeDeep's run, whose needs are the residues of the number. -/
import Derived.Test.YtnfboopfpkaeaaaProg
import Derived.KernelRfl
import Derived.Test.YtnfboopfpkaeaaaEngN
namespace Go.Proofs.Ytnfboopfpkaeaaa.cubeDeep
open Go Go.Eng
set_option maxRecDepth 100000

def sy : List (Nat × Nat) := [(4, 12), (4, 13), (4, 16), (4, 17), (4, 18), (4, 42), (4, 43), (4, 44)]
noncomputable def R (n : Int) : Ans := runInv Try.prog 100000 sy 1000 (.fn 4 [.int .i64 n]) ⟨.nil, Try.prog.globals.size⟩ trueV
def V (u : Int) : Value := .int .u64 u
theorem r0 (n : Int) : isNeed (R n) = true := by kernel_rfl
theorem v0 (n : Int) : needV (R n) = V (IntKind.u64.wrap n) := by kernel_rfl
noncomputable def A1 (n u : Int) : Ans := needF (R n) (V u)
theorem r1 (n u : Int) : isNeed (A1 n u) = true := by kernel_rfl
theorem v1 (n u : Int) : needV (A1 n u) = V (u.tmod 2) := by kernel_rfl
noncomputable def A2 (n u r : Int) : Ans := needF (A1 n u) (V r)
theorem r20 (n u : Int) : isNeed (A2 n u 0) = true := by kernel_rfl
theorem r21 (n u : Int) : isNeed (A2 n u 1) = true := by kernel_rfl
theorem v20 (n u : Int) : needV (A2 n u 0) = V (IntKind.u64.wrap n) := by kernel_rfl
theorem v21 (n u : Int) : needV (A2 n u 1) = V (IntKind.u64.wrap n) := by kernel_rfl
noncomputable def A3 (n u r v : Int) : Ans := needF (A2 n u r) (V v)
theorem r30 (n u v : Int) : isNeed (A3 n u 0 v) = true := by kernel_rfl
theorem r31 (n u v : Int) : isNeed (A3 n u 1 v) = true := by kernel_rfl
theorem v30 (n u v : Int) : needV (A3 n u 0 v) = V (IntKind.u64.wrap (v.tdiv 2)) := by kernel_rfl
theorem v31 (n u v : Int) : needV (A3 n u 1 v) = V (IntKind.u64.wrap (v.tdiv 2)) := by kernel_rfl
noncomputable def A4 (n u r v q : Int) : Ans := needF (A3 n u r v) (V q)
theorem r40 (n u v q : Int) : isNeed (A4 n u 0 v q) = true := by kernel_rfl
theorem r41 (n u v q : Int) : isNeed (A4 n u 1 v q) = true := by kernel_rfl
theorem v40 (n u v q : Int) : needV (A4 n u 0 v q) = V (q.tmod 2) := by kernel_rfl
theorem v41 (n u v q : Int) : needV (A4 n u 1 v q) = V (q.tmod 2) := by kernel_rfl
noncomputable def A5 (n u r v q s : Int) : Ans := needF (A4 n u r v q) (V s)

theorem wrap_pos (x : Int) : 0 ≤ IntKind.u64.wrap x := by
  unfold IntKind.wrap
  simp only [IntKind.bits, IntKind.signed, Bool.false_and, Bool.false_eq_true, if_false]
  omega

theorem two (x : Int) (h : 0 ≤ x) : x.tmod 2 = 0 ∨ x.tmod 2 = 1 := by
  rw [Int.tmod_eq_emod_of_nonneg h]
  omega

theorem yes_of_all (h : ∀ n u v q r s : Int, (r = 0 ∨ r = 1) → (s = 0 ∨ s = 1) → A5 n u r v q s = .yes) (n : Int) : Yes (R n) := by
  refine need_ok (r0 n) (v0 n) ?_
  generalize hu : IntKind.u64.wrap n = u
  have h0 : 0 ≤ u := by rw [← hu]; exact wrap_pos n
  generalize hq : IntKind.u64.wrap (u.tdiv 2) = q
  have h1 : 0 ≤ q := by rw [← hq]; exact wrap_pos _
  have hs := two q h1
  generalize hs2 : q.tmod 2 = s at hs
  rcases two u h0 with hr | hr
  · have a1 : Yes (A3 n u 0 u) := need_ok (r30 n u u) ((v30 n u u).trans (by rw [hq])) (need_ok (r40 n u u q) ((v40 n u u q).trans (by rw [hs2])) (yes_of (h n u u q 0 s (.inl rfl) hs)))
    have a2 : Yes (A2 n u 0) := need_ok (r20 n u) ((v20 n u).trans (by rw [hu])) a1
    exact need_ok (r1 n u) ((v1 n u).trans (by rw [hr])) a2
  · have a1 : Yes (A3 n u 1 u) := need_ok (r31 n u u) ((v31 n u u).trans (by rw [hq])) (need_ok (r41 n u u q) ((v41 n u u q).trans (by rw [hs2])) (yes_of (h n u u q 1 s (.inr rfl) hs)))
    have a2 : Yes (A2 n u 1) := need_ok (r21 n u) ((v21 n u).trans (by rw [hu])) a1
    exact need_ok (r1 n u) ((v1 n u).trans (by rw [hr])) a2

end Go.Proofs.Ytnfboopfpkaeaaa.cubeDeep
