/- CubeB: contracts of functions. -/
import Derived.Test.YtnfboopfpkaeaaaProg
import Derived.KernelRfl
import Derived.Test.YtnfboopfpkaeaaaSyB
import Derived.Test.YtnfboopfpkaeaaaCubeT
namespace Go.Proofs.Ytnfboopfpkaeaaa
open Go Go.Eng Nim
set_option maxRecDepth 100000
set_option maxHeartbeats 4000000
theorem slI : SlT Try.prog 50 3 := ⟨by kernel_rfl, by kernel_rfl, ⟨_, rfl, by kernel_rfl⟩, ⟨_, rfl, by kernel_rfl⟩⟩
theorem slB : SlT Try.prog 27 4 := ⟨by kernel_rfl, by kernel_rfl, ⟨_, rfl, by kernel_rfl⟩, ⟨_, rfl, by kernel_rfl⟩⟩
theorem cellsF_succ (f : Nat → Value) (k : Nat) : cellsF (k + 1) f = cellsF k f ++ [f k] := by
  unfold cellsF
  rw [List.range_succ, List.map_append]
  rfl
/-- What appends have made is a vector in a block. -/
theorem openI {h : Hp} {l : Value} {N : Nat} {v : Nat → Int} (hN : 1 ≤ N) (H : OpenSl h 3 l (cellsF N fun x => I (v x))) : ∃ b, l = .slice (some ⟨b, 0, none⟩) N (2 * N + 1) ∧ ArI b N v h := by
  rcases H with ⟨_, h0⟩ | ⟨b, h1, _, h2, h3, _⟩
  · have := congrArg List.length h0
    rw [cellsF_len] at this
    simp at this
    omega
  · rw [cellsF_len] at h1
    exact ⟨b, h1, h2, true, h3⟩
theorem openB {h : Hp} {l : Value} {N : Nat} {v : Nat → Bool} (hN : 1 ≤ N) (H : OpenSl h 4 l (cellsF N fun x => Value.bool (v x))) : ∃ b, l = .slice (some ⟨b, 0, none⟩) N (2 * N + 1) ∧ ArB b N v h := by
  rcases H with ⟨_, h0⟩ | ⟨b, h1, _, h2, h3, _⟩
  · have := congrArg List.length h0
    rw [cellsF_len] at this
    simp at this
    omega
  · rw [cellsF_len] at h1
    exact ⟨b, h1, h2, true, h3⟩
/-- A function's values as numbers. -/
def num (f : Nat → Bool) (x : Nat) : Int := if f x = true then 1 else 0
theorem numbers_of (f : Nat → Bool) (N lf m : Nat) (hN : 1 ≤ N) (hN2 : N ≤ 64) (hlf : 300 ≤ lf) (nb : ∀ b h, Ev lf m 74 [.bool b] h = some (I (if b = true then 1 else 0), h)) (a : Option Addr) (c : Nat) (h : Hp) (A : Rds h (.slice a N c) (cellsF N fun x => Value.bool (f x))) :
    ∃ x h', Ev lf (m + 1) 67 [.slice a N c] h = some (x, h') ∧ ∃ b, x = .slice (some ⟨b, 0, none⟩) N (2 * N + 1) ∧ h.next ≤ b ∧ h.Ext h' ∧ ArI b N (num f) h' := by
  refine fnS_ok (Q := fun x h' => ∃ b, x = .slice (some ⟨b, 0, none⟩) N (2 * N + 1) ∧ h.next ≤ b ∧ h.Ext h' ∧ ArI b N (num f) h') ?_
  refine ok_go 1 ?_
  refine sy_loop 0 lf h (α := Nat × Value) (fun s => [(6, .slice a N c), (7, J N), (8, J s.1), (3, s.2)]) (fun s g => s.1 ≤ N ∧ h.Ext g ∧ OpenSl g 3 s.2 (cellsF s.1 fun x => I (num f x)) ∧ ∀ j, j < h.next → ∀ p q, s.2 ≠ .slice (some ⟨j, 0, none⟩) p q) (fun s _ => N - s.1) (0, .slice none 0 0) (by kernel_rfl) (by kernel_rfl) ⟨by kernel_rfl, by kernel_rfl, by kernel_rfl, by kernel_rfl, trivial⟩ (show N - 0 < lf by omega) ⟨Nat.zero_le _, Hp.Ext.refl _, .inl ⟨rfl, rfl⟩, fun j _ p q hc => (by cases hc)⟩ ?_
  rintro m1 ⟨k, l⟩ f1 g ⟨hk, X, O, hne⟩ ih
  dsimp only at hk O hne
  refine ok_go 1 ?_
  refine sy_test 0 (decide (Int.ofNat k < Int.ofNat N)) (by kernel_rfl) ?_ ?_
  · intro hlt
    have hlt := ok_nat hlt
    obtain ⟨p, e1, e2⟩ := (A.ext X).read (P := Try.prog) (kd := .i64) uB zB agB (k := k) (v := .bool (f k)) (by rw [cellsF_get hlt])
    obtain ⟨l', g', e3, O', y1, y2, y3⟩ := append1 slI O (v := I (num f k)) rfl (by rw [cellsF_len]; omega)
    refine ok_go 0 ?_
    refine sy_load 0 (r := indexAddrOp Try.prog 27 (.slice a N c) (J k)) (h' := g) (by kernel_rfl) e1 ?_
    refine ok_go 0 ?_
    refine sy_load 0 (r := loadT Try.prog g 4 p) (h' := g) (by kernel_rfl) e2 ?_
    refine ok_go 0 ?_
    refine sy_call 0 (by kernel_rfl) (nb (f k) g) ?_
    refine ok_go 1 ?_
    refine sy_call 0 (r := appendOp Try.prog (g.new (.cells [I (num f k)] 3 false)) 50 l (.slice (some ⟨g.next, 0, none⟩) 1 2)) (v := l') (h' := g') (by kernel_rfl) e3 ?_
    refine ok_go 1 ?_
    have hxn := X.next
    exact sy_next 0 _ g' (by kernel_rfl) (by kernel_rfl) (ih (k + 1, l') _ g' ⟨hlt, ⟨by omega, fun j hj => (y2 j (by omega) (hne j hj)).trans (X.get j hj)⟩, by rw [cellsF_succ]; exact O', fun j hj => y3 j (by omega)⟩ (show N - (k + 1) < N - k by omega) ⟨by kernel_rfl, by kernel_rfl, (by kernel_rfl : _ = Value.int .i64 (IntKind.wrap .i64 (Int.ofNat (k + 1)))).trans (by rw [wrap_nat (by omega)]), by kernel_rfl, trivial⟩)
  · intro hlt
    have hlt := no_nat hlt
    have hkN : k = N := by omega
    subst hkN
    obtain ⟨b, rfl, B⟩ := openI hN O
    refine ok_go 0 ?_
    refine sy_done 0 (v := .slice (some ⟨b, 0, none⟩) k (2 * k + 1)) (h := g) (by kernel_rfl) ⟨b, rfl, Nat.le_of_not_lt fun hc => hne b hc _ _ rfl, X, B⟩
end Go.Proofs.Ytnfboopfpkaeaaa
