/- LeastB: contracts of functions. -/
import Derived.Test.YtegcmgjldapnmaaDoorProg
import Derived.KernelRfl
import Derived.Test.YtegcmgjldapnmaaDoorSyB
import Derived.Test.YtegcmgjldapnmaaDoorLeastA
namespace Go.Proofs.YtegcmgjldapnmaaDoor
open Go Go.Eng Nim
set_option maxRecDepth 100000
set_option maxHeartbeats 4000000
theorem s12 (a b : Nat) (ha : a < 16) (hb : b < 16) (lf n : Nat) (hlf : 1000 ≤ lf) (h : Hp) (d : ∀ (zs : List Nat) l h, (∀ z ∈ zs, z < 16) → zs.length < 300 → OpenSl h 3 l (zs.map J) → ∃ m, (∀ k, k < m → k ∈ zs) ∧ m ∉ zs ∧ Ev lf n 36 [l] h = some (J m, h)) :
    ∃ H, Ev lf (n+1) 12 [J a, J b] h = some (J (nm 4 a b), H) := by
  refine fn_val ?_
  refine ok_go 1 ?_
  refine sy_loop 0 lf (h.new (.cells (cellsT b 0 0) 63 false)) (α := Nat) (fun s => [(0, J a), (1, J b), (5, ptr h.next 0), (6, J s)]) (fun s g => s ≤ a + 1 ∧ h.next < g.next ∧ g.get h.next = some (.cells (cellsT b s 0) 63 false)) (fun s _ => a + 1 - s) 0 (by kernel_rfl) (by kernel_rfl) ⟨by kernel_rfl, by kernel_rfl, by kernel_rfl, by kernel_rfl, trivial⟩ (show a + 1 - 0 < lf by omega) ⟨by omega, Nat.lt_succ_self _, get_new _ _⟩ ?_
  rintro k x f g1 ⟨hx, hn1, hg1⟩ ih
  refine ok_go 1 ?_
  refine sy_test 0 (decide (Int.ofNat x ≤ Int.ofNat a)) (by kernel_rfl) ?_ ?_
  · intro hxa
    have hxa : x ≤ a := by have := of_decide_eq_true hxa; simpa using this
    refine ok_go 0 ?_
    refine sy_loop 0 lf g1 (α := Nat) (fun s => [(0, J a), (1, J b), (5, ptr h.next 0), (6, J x), (7, J s)]) (fun s g => s ≤ b + 1 ∧ h.next < g.next ∧ g.get h.next = some (.cells (cellsT b x s) 63 false)) (fun s _ => b + 1 - s) 0 (by kernel_rfl) (by kernel_rfl) ⟨by kernel_rfl, by kernel_rfl, by kernel_rfl, by kernel_rfl, by kernel_rfl, trivial⟩ (show b + 1 - 0 < lf by omega) ⟨by omega, hn1, hg1⟩ ?_
    rintro k2 y f2 g2 ⟨hy, hn2, hg2⟩ ih2
    refine ok_go 1 ?_
    refine sy_test 0 (decide (Int.ofNat y ≤ Int.ofNat b)) (by kernel_rfl) ?_ ?_
    · intro hyb
      have hyb : y ≤ b := by have := of_decide_eq_true hyb; simpa using this
      refine ok_go 0 ?_
      refine sy_loop 0 lf g2 (α := Nat × Value) (fun s => [(0, J a), (1, J b), (5, ptr h.next 0), (6, J x), (7, J y), (8, s.2), (9, J s.1)]) (fun s g => s.1 ≤ x ∧ InL b h.next x y s.2 (lst x y s.1 0) g) (fun s _ => x - s.1) (0, .slice none 0 0) (by kernel_rfl) (by kernel_rfl) ⟨by kernel_rfl, by kernel_rfl, by kernel_rfl, by kernel_rfl, by kernel_rfl, by kernel_rfl, by kernel_rfl, trivial⟩ (show x - 0 < lf by omega) ⟨Nat.zero_le _, ⟨hn2, hg2, .inl ⟨rfl, rfl⟩, fun n c hc => by injection hc with hc; cases hc⟩⟩ ?_
      rintro k3 ⟨i, l⟩ f3 g3 ⟨hi, H3⟩ ih3
      dsimp only at hi H3
      refine ok_go 1 ?_
      refine sy_test 0 (decide (Int.ofNat i < Int.ofNat x)) (by kernel_rfl) ?_ ?_
      · intro hix
        have hix : i < x := by have := of_decide_eq_true hix; simpa using this
        refine ok_go 0 ?_
        refine sy_loop 0 lf g3 (α := Nat × Value) (fun s => [(0, J a), (1, J b), (5, ptr h.next 0), (6, J x), (7, J y), (8, s.2), (9, J i), (10, J s.1)]) (fun s g => s.1 ≤ y ∧ InL b h.next x y s.2 (lst x y i s.1) g) (fun s _ => y - s.1) (0, l) (by kernel_rfl) (by kernel_rfl) ⟨by kernel_rfl, by kernel_rfl, by kernel_rfl, by kernel_rfl, by kernel_rfl, by kernel_rfl, by kernel_rfl, by kernel_rfl, trivial⟩ (show y - 0 < lf by omega) ⟨Nat.zero_le _, H3⟩ ?_
        rintro k4 ⟨j, l4⟩ f4 g4 ⟨hj, H4⟩ ih4
        dsimp only at hj H4
        refine ok_go 1 ?_
        refine sy_test 0 (decide (Int.ofNat j < Int.ofNat y)) (by kernel_rfl) ?_ ?_
        · intro hjy
          have hjy : j < y := by have := of_decide_eq_true hjy; simpa using this
          have p1 := idx2 (p := h.next) (i := i) (k := y) (by omega) (by omega)
          have p2 := idx2 (p := h.next) (i := x) (k := j) (by omega) (by omega)
          have p3 := idx2 (p := h.next) (i := i) (k := j) (by omega) (by omega)
          refine ok_go 0 ?_
          refine sy_load 0 (r := indexAddrOp Tryd.prog 63 (ptr h.next 0) (J i)) (h' := g4) (by kernel_rfl) p1.1 ?_
          refine ok_go 0 ?_
          refine sy_load 0 (r := indexAddrOp Tryd.prog 62 (ptr h.next (i * 16)) (J y)) (h' := g4) (by kernel_rfl) p1.2 ?_
          refine ok_go 0 ?_
          refine sy_load 0 (r := loadT Tryd.prog g4 3 (ptr h.next (i * 16 + y))) (h' := g4) (by kernel_rfl) (H4.get (by omega) (by omega) (.inl ⟨hix, by omega⟩)) ?_
          refine ok_go 0 ?_
          refine sy_load 0 (r := indexAddrOp Tryd.prog 63 (ptr h.next 0) (J x)) (h' := g4) (by kernel_rfl) p2.1 ?_
          refine ok_go 0 ?_
          refine sy_load 0 (r := indexAddrOp Tryd.prog 62 (ptr h.next (x * 16)) (J j)) (h' := g4) (by kernel_rfl) p2.2 ?_
          refine ok_go 0 ?_
          refine sy_load 0 (r := loadT Tryd.prog g4 3 (ptr h.next (x * 16 + j))) (h' := g4) (by kernel_rfl) (H4.get (by omega) (by omega) (.inr ⟨rfl, hjy⟩)) ?_
          refine ok_go 1 ?_
          refine sy_load 0 (r := indexAddrOp Tryd.prog 63 (ptr h.next 0) (J i)) (h' := g4) (by kernel_rfl) p3.1 ?_
          refine ok_go 0 ?_
          refine sy_load 0 (r := indexAddrOp Tryd.prog 62 (ptr h.next (i * 16)) (J j)) (h' := g4) (by kernel_rfl) p3.2 ?_
          refine ok_go 0 ?_
          refine sy_load 0 (r := loadT Tryd.prog g4 3 (ptr h.next (i * 16 + j))) (h' := g4) (by kernel_rfl) (H4.get (by omega) (by omega) (.inl ⟨hix, by omega⟩)) ?_
          have q1 : nm 4 i y < 2 ^ 63 := Nat.lt_trans (nF (a := i) (b := y) (by show i < 2 ^ 16; omega) (by show y < 2 ^ 16; omega)) (by decide)
          have q2 : nm 4 x j < 2 ^ 63 := Nat.lt_trans (nF (a := x) (b := j) (by show x < 2 ^ 16; omega) (by show j < 2 ^ 16; omega)) (by decide)
          have q3 : nm 4 i j < 2 ^ 63 := Nat.lt_trans (nF (a := i) (b := j) (by show i < 2 ^ 16; omega) (by show j < 2 ^ 16; omega)) (by decide)
          obtain ⟨l5, g5, e5, H5⟩ := H4.app (put3 x y i j) (lst_len (by omega) (by omega) (by omega))
          refine ok_go 2 ?_
          refine sy_call 0 (r := appendOp Tryd.prog (g4.new (.cells [.int .i64 (xorI (xorI (Int.ofNat (nm 4 i y)) (Int.ofNat (nm 4 x j))) (Int.ofNat (nm 4 i j)))] 3 false)) 32 l4 (.slice (some ⟨g4.next, 0, none⟩) 1 2)) (v := l5) (h' := g5) (by kernel_rfl) (by rw [xor_nat q1 q2, xor_nat (Nat.xor_lt_two_pow q1 q2) q3]; exact e5) ?_
          refine ok_go 1 ?_
          have el : lst x y i (j + 1) = lst x y i j ++ [put3 x y i j] := by simp [lst, List.range_succ]
          exact sy_next 0 _ g5 (by kernel_rfl) (by kernel_rfl) (ih4 (j + 1, l5) _ g5 ⟨hjy, by rw [el]; exact H5⟩ (show y - (j + 1) < y - j by omega) ⟨by kernel_rfl, by kernel_rfl, by kernel_rfl, by kernel_rfl, by kernel_rfl, by kernel_rfl, by kernel_rfl, (by kernel_rfl : _ = Value.int .i64 (IntKind.wrap .i64 (Int.ofNat (j + 1)))).trans (by rw [wrap_nat (by omega)]), trivial⟩)
        · intro hjy
          have hjy : j = y := by have := of_decide_eq_false hjy; simp at this; omega
          subst hjy
          refine ok_go 1 ?_
          have el : lst x j (i + 1) 0 = lst x j i j := by simp [lst, List.range_succ]
          exact sy_next 0 _ g4 (by kernel_rfl) (by kernel_rfl) (ih3 (i + 1, l4) _ g4 ⟨hix, by rw [el]; exact H4⟩ (show x - (i + 1) < x - i by omega) ⟨by kernel_rfl, by kernel_rfl, by kernel_rfl, by kernel_rfl, by kernel_rfl, by kernel_rfl, (by kernel_rfl : _ = Value.int .i64 (IntKind.wrap .i64 (Int.ofNat (i + 1)))).trans (by rw [wrap_nat (by omega)]), trivial⟩)
      · intro hix
        have hix : i = x := by have := of_decide_eq_false hix; simp at this; omega
        subst hix
        have mm := mex4 (x := i) (y := y) (by omega) (by omega)
        obtain ⟨m, m1, m2, m3⟩ := d (lst i y i 0) l g3 mm.2.1 mm.2.2 H3.sl
        have em : m = nm 4 i y := mex_one ⟨m1, m2⟩ mm.1
        subst em
        have p1 := idx2 (p := h.next) (i := i) (k := y) (by omega) (by omega)
        refine ok_go 0 ?_
        refine sy_call 0 (by kernel_rfl) m3 ?_
        refine ok_go 0 ?_
        refine sy_load 0 (r := indexAddrOp Tryd.prog 63 (ptr h.next 0) (J i)) (h' := g3) (by kernel_rfl) p1.1 ?_
        refine ok_go 0 ?_
        refine sy_load 0 (r := indexAddrOp Tryd.prog 62 (ptr h.next (i * 16)) (J y)) (h' := g3) (by kernel_rfl) p1.2 ?_
        refine ok_go 0 ?_
        refine sy_store 0 (r := storeT Tryd.prog g3 3 (ptr h.next (i * 16 + y)) (J (nm 4 i y))) (by kernel_rfl) (store1 (by kernel_rfl) rfl H3.t (by unfold cellsT; simp; omega)) ?_
        refine ok_go 1 ?_
        refine sy_next 0 _ (g3.put h.next (.cells ((cellsT b i y).set (i * 16 + y) (J (nm 4 i y))) 63 false)) (by kernel_rfl) (by kernel_rfl) (ih2 (y + 1) _ _ ⟨by omega, H3.lt, by rw [cellsT_set (by omega) hb hyb]; exact get_put _ _ _⟩ (show b + 1 - (y + 1) < b + 1 - y by omega) ⟨by kernel_rfl, by kernel_rfl, by kernel_rfl, by kernel_rfl, (by kernel_rfl : _ = Value.int .i64 (IntKind.wrap .i64 (Int.ofNat (y + 1)))).trans (by rw [wrap_nat (by omega)]), trivial⟩)
    · intro hyb
      have hyb : y = b + 1 := by have := of_decide_eq_false hyb; simp at this; omega
      subst hyb
      refine ok_go 1 ?_
      rw [cellsT_row] at hg2
      exact sy_next 0 _ g2 (by kernel_rfl) (by kernel_rfl) (ih (x + 1) _ g2 ⟨by omega, hn2, hg2⟩ (show a + 1 - (x + 1) < a + 1 - x by omega) ⟨by kernel_rfl, by kernel_rfl, by kernel_rfl, (by kernel_rfl : _ = Value.int .i64 (IntKind.wrap .i64 (Int.ofNat (x + 1)))).trans (by rw [wrap_nat (by omega)]), trivial⟩)
  · intro hxa
    have hxa : x = a + 1 := by have := of_decide_eq_false hxa; simp at this; omega
    subst hxa
    have p1 := idx2 (p := h.next) (i := a) (k := b) (by omega) (by omega)
    refine ok_go 0 ?_
    refine sy_load 0 (r := indexAddrOp Tryd.prog 63 (ptr h.next 0) (J a)) (h' := g1) (by kernel_rfl) p1.1 ?_
    refine ok_go 0 ?_
    refine sy_load 0 (r := indexAddrOp Tryd.prog 62 (ptr h.next (a * 16)) (J b)) (h' := g1) (by kernel_rfl) p1.2 ?_
    refine ok_go 0 ?_
    refine sy_load 0 (r := loadT Tryd.prog g1 3 (ptr h.next (a * 16 + b))) (h' := g1) (by kernel_rfl) (load1 aggI hg1 (cellsT_get ha hb (.inl ⟨by omega, by omega⟩))) ?_
    refine ok_go 0 ?_
    exact sy_done 0 (h := g1) (v := J (nm 4 a b)) (by kernel_rfl) rfl
end Go.Proofs.YtegcmgjldapnmaaDoor
