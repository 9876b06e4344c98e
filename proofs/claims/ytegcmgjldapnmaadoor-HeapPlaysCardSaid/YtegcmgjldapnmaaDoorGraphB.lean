/- GraphB: contracts of functions. -/
import Derived.Test.YtegcmgjldapnmaaDoorProg
import Derived.KernelRfl
import Derived.Test.YtegcmgjldapnmaaDoorSyB
import Derived.Test.YtegcmgjldapnmaaDoorGraphA
namespace Go.Proofs.YtegcmgjldapnmaaDoor
open Go Go.Eng Nim
set_option maxRecDepth 100000
theorem ok_step' {n : Nat} {r : List Int} {k : Nat} (hk : k < r.length) (h : RowOK n r k) (h1 : ¬ r[k] < 0) (h2 : ¬ r[k] ≥ Int.ofNat n) (h3 : ∀ _ : k ≠ 0, ¬ r[k - 1] ≥ r[k]) : RowOK n r (k + 1) := by
  intro j hj hjk
  rcases Nat.lt_succ_iff_lt_or_eq.1 hjk with hlt | rfl
  · exact h j hj hlt
  · exact ⟨by omega, by omega, fun hp => by have := h3 hp; omega⟩
theorem sub1 {j : Nat} (h : j < 2 ^ 63) : IntKind.wrap .i64 (Int.ofNat (j + 1) - 1) = Int.ofNat j := by
  rw [show Int.ofNat (j + 1) - 1 = Int.ofNat j by simp]
  exact wrap_nat h
theorem s19 (g : List (List Int)) (lf n : Nat) (hlf : g.length < lf) (hrow : ∀ r ∈ g, r.length < lf) (v : Value) (h : Hp) (hg : Gr h v g) (hsm : lf < 2 ^ 62) :
    ∃ x h', Ev lf (n+1) 19 [v] h = some (x, h') ∧ h' = h ∧ ((x = J 0 ∧ GrOK g) ∨ (x = J 61 ∧ ¬ GrOK g)) := by
  obtain ⟨a, c, hsh⟩ := hg.shape
  subst hsh
  refine fnS_ok (Q := fun x h' => h' = h ∧ ((x = J 0 ∧ GrOK g) ∨ (x = J 61 ∧ ¬ GrOK g))) ?_
  refine ok_go 2 ?_
  refine sy_test 0 (decide (Int.ofNat g.length < 1)) (by kernel_rfl) ?_ ?_
  · intro h1
    have h1 : g.length < 1 := by have := of_decide_eq_true h1; simp at this; omega
    refine ok_go 4 ?_
    exact sy_done 0 (v := J 61) (h := h) (by kernel_rfl) ⟨rfl, .inr ⟨rfl, fun hc => by have := hc.1; omega⟩⟩
  · intro h1
    have h1 : 1 ≤ g.length := by have := of_decide_eq_false h1; simp at this; omega
    refine ok_go 5 ?_
    refine sy_test 0 (decide (200 < Int.ofNat g.length)) (by kernel_rfl) ?_ ?_
    · intro h2
      have h2 : 200 < g.length := by have := of_decide_eq_true h2; simp at this; omega
      refine ok_go 0 ?_
      exact sy_done 0 (v := J 61) (h := h) (by kernel_rfl) ⟨rfl, .inr ⟨rfl, fun hc => by have := hc.2.1; omega⟩⟩
    · intro h2
      have h2 : g.length ≤ 200 := by have := of_decide_eq_false h2; simp at this; omega
      refine ok_go 0 ?_
      refine sy_loop 0 lf h (α := Nat) (fun s => [(0, .slice a g.length c), (3, J s)]) (fun s k => k = h ∧ s ≤ g.length ∧ okRows g s) (fun s _ => g.length - s) 0 (by kernel_rfl) (by kernel_rfl) ⟨by kernel_rfl, by kernel_rfl, trivial⟩ (show g.length - 0 < lf by omega) ⟨rfl, Nat.zero_le _, fun j hj hj0 => absurd hj0 (Nat.not_lt_zero _)⟩ ?_
      rintro m i f k ⟨rfl, hil, hi⟩ ih
      refine ok_go 2 ?_
      refine sy_test 0 (decide (Int.ofNat i < Int.ofNat g.length)) (by kernel_rfl) ?_ ?_
      · intro hlt
        have hlt := ok_nat hlt
        obtain ⟨p, rv, e1, e2, hr⟩ := hg.row hlt
        obtain ⟨ra, rc, hrs⟩ := hr.shape
        rw [List.length_map] at hrs
        subst hrs
        refine ok_go 0 ?_
        refine sy_loop 0 lf k (α := Nat) (fun s => [(0, .slice a g.length c), (3, J i), (4, J s)]) (fun s k' => k' = k ∧ s ≤ g[i].length ∧ RowOK g.length g[i] s) (fun s _ => g[i].length - s) 0 (by kernel_rfl) (by kernel_rfl) ⟨by kernel_rfl, by kernel_rfl, by kernel_rfl, trivial⟩ (show g[i].length - 0 < lf by have := hrow _ (List.getElem_mem hlt); omega) ⟨rfl, Nat.zero_le _, fun j hj hj0 => absurd hj0 (Nat.not_lt_zero _)⟩ ?_
        rintro m2 j f2 k2 ⟨rfl, hjl, hj⟩ ih2
        refine ok_go 0 ?_
        refine sy_load 0 (r := indexAddrOp Tryd.prog 31 (.slice a g.length c) (J i)) (h' := k2) (by kernel_rfl) e1 ?_
        refine ok_go 0 ?_
        refine sy_load 0 (r := loadT Tryd.prog k2 32 p) (h' := k2) (by kernel_rfl) e2 ?_
        refine ok_go 2 ?_
        refine sy_test 0 (decide (Int.ofNat j < Int.ofNat g[i].length)) (by kernel_rfl) ?_ ?_
        · intro hjlt
          have hjlt := ok_nat hjlt
          have hll := hrow _ (List.getElem_mem hlt)
          obtain ⟨q, e3, e4⟩ := row_get hr hjlt
          refine ok_go 0 ?_
          refine sy_load 0 (r := indexAddrOp Tryd.prog 31 (.slice a g.length c) (J i)) (h' := k2) (by kernel_rfl) e1 ?_
          refine ok_go 0 ?_
          refine sy_load 0 (r := loadT Tryd.prog k2 32 p) (h' := k2) (by kernel_rfl) e2 ?_
          refine ok_go 0 ?_
          refine sy_load 0 (r := indexAddrOp Tryd.prog 32 (.slice ra g[i].length rc) (J j)) (h' := k2) (by kernel_rfl) e3 ?_
          refine ok_go 0 ?_
          refine sy_load 0 (r := loadT Tryd.prog k2 3 q) (h' := k2) (by kernel_rfl) e4 ?_
          refine ok_go 1 ?_
          refine sy_test 0 (decide (g[i][j] < 0)) (by kernel_rfl) ?_ ?_
          · intro c1
            have c1 := of_decide_eq_true c1
            refine ok_go 16 ?_
            exact sy_done 0 (v := J 61) (h := k2) (by kernel_rfl) ⟨rfl, .inr ⟨rfl, fun hc => by have := (hc.2.2 _ (List.getElem_mem hlt) j hjlt hjlt).1; omega⟩⟩
          · intro c1
            have c1 := of_decide_eq_false c1
            refine ok_go 2 ?_
            refine sy_load 0 (r := indexAddrOp Tryd.prog 31 (.slice a g.length c) (J i)) (h' := k2) (by kernel_rfl) e1 ?_
            refine ok_go 1 ?_
            refine sy_load 0 (r := loadT Tryd.prog k2 32 p) (h' := k2) (by kernel_rfl) e2 ?_
            refine ok_go 2 ?_
            refine sy_load 0 (r := indexAddrOp Tryd.prog 32 (.slice ra g[i].length rc) (J j)) (h' := k2) (by kernel_rfl) e3 ?_
            refine ok_go 1 ?_
            refine sy_load 0 (r := loadT Tryd.prog k2 3 q) (h' := k2) (by kernel_rfl) e4 ?_
            refine ok_go 6 ?_
            refine sy_test 0 (decide (g[i][j] ≥ Int.ofNat g.length)) (by kernel_rfl) ?_ ?_
            · intro c2
              have c2 := of_decide_eq_true c2
              refine ok_go 5 ?_
              exact sy_done 0 (v := J 61) (h := k2) (by kernel_rfl) ⟨rfl, .inr ⟨rfl, fun hc => by have := (hc.2.2 _ (List.getElem_mem hlt) j hjlt hjlt).2.1; omega⟩⟩
            · intro c2
              have c2 := of_decide_eq_false c2
              cases j with
              | zero =>
                refine ok_go 24 ?_
                exact sy_next 0 _ k2 (by kernel_rfl) (by kernel_rfl) (ih2 (0 + 1) _ k2 ⟨rfl, hjlt, ok_step' hjlt hj c1 c2 (fun hp => absurd rfl hp)⟩ (show g[i].length - (0 + 1) < g[i].length - (0) by omega) ⟨by kernel_rfl, by kernel_rfl, (by kernel_rfl : _ = Value.int .i64 (IntKind.wrap .i64 (Int.ofNat (0 + 1)))).trans (by rw [wrap_nat (by omega)]), trivial⟩)
              | succ j0 =>
                obtain ⟨q', e5, e6⟩ := row_get hr (k := j0) (by omega)
                refine ok_go 3 ?_
                refine sy_yes 0 (b := decide (Int.ofNat (j0 + 1) > 0)) (by kernel_rfl) (decide_eq_true (by simp)) ?_
                refine ok_go 2 ?_
                refine sy_load 0 (r := indexAddrOp Tryd.prog 31 (.slice a g.length c) (J i)) (h' := k2) (by kernel_rfl) e1 ?_
                refine ok_go 1 ?_
                refine sy_load 0 (r := loadT Tryd.prog k2 32 p) (h' := k2) (by kernel_rfl) e2 ?_
                refine ok_go 4 ?_
                refine sy_load 0 (r := indexAddrOp Tryd.prog 32 (.slice ra g[i].length rc) (.int .i64 (IntKind.wrap .i64 (Int.ofNat (j0 + 1) - 1)))) (h' := k2) (by kernel_rfl) (by rw [sub1 (by omega)]; exact e5) ?_
                refine ok_go 1 ?_
                refine sy_load 0 (r := loadT Tryd.prog k2 3 q') (h' := k2) (by kernel_rfl) e6 ?_
                refine ok_go 3 ?_
                refine sy_load 0 (r := indexAddrOp Tryd.prog 31 (.slice a g.length c) (J i)) (h' := k2) (by kernel_rfl) e1 ?_
                refine ok_go 1 ?_
                refine sy_load 0 (r := loadT Tryd.prog k2 32 p) (h' := k2) (by kernel_rfl) e2 ?_
                refine ok_go 2 ?_
                refine sy_load 0 (r := indexAddrOp Tryd.prog 32 (.slice ra g[i].length rc) (J (j0 + 1))) (h' := k2) (by kernel_rfl) e3 ?_
                refine ok_go 1 ?_
                refine sy_load 0 (r := loadT Tryd.prog k2 3 q) (h' := k2) (by kernel_rfl) e4 ?_
                refine ok_go 5 ?_
                refine sy_test 0 (decide (g[i][j0] ≥ g[i][j0 + 1])) (by kernel_rfl) ?_ ?_
                · intro c3
                  have c3 := of_decide_eq_true c3
                  refine ok_go 0 ?_
                  exact sy_done 0 (v := J 61) (h := k2) (by kernel_rfl) ⟨rfl, .inr ⟨rfl, fun hc => by have := (hc.2.2 _ (List.getElem_mem hlt) (j0 + 1) hjlt hjlt).2.2 (by omega); simp only [Nat.add_sub_cancel] at this; omega⟩⟩
                · intro c3
                  have c3 := of_decide_eq_false c3
                  refine ok_go 1 ?_
                  exact sy_next 0 _ k2 (by kernel_rfl) (by kernel_rfl) (ih2 (j0 + 1 + 1) _ k2 ⟨rfl, hjlt, ok_step' hjlt hj c1 c2 (fun _ => c3)⟩ (show g[i].length - (j0 + 1 + 1) < g[i].length - (j0 + 1) by omega) ⟨by kernel_rfl, by kernel_rfl, (by kernel_rfl : _ = Value.int .i64 (IntKind.wrap .i64 (Int.ofNat (j0 + 1 + 1)))).trans (by rw [wrap_nat (by omega)]), trivial⟩)
        · intro hjlt
          have hjlt := no_nat hjlt
          refine ok_go 1 ?_
          refine sy_next 0 _ k2 (by kernel_rfl) (by kernel_rfl) (ih (i + 1) _ k2 ⟨rfl, hlt, fun q hq hqi => ?_⟩ (show g.length - (i + 1) < g.length - i by omega) ⟨by kernel_rfl, (by kernel_rfl : _ = Value.int .i64 (IntKind.wrap .i64 (Int.ofNat (i + 1)))).trans (by rw [wrap_nat (by omega)]), trivial⟩)
          rcases Nat.lt_succ_iff_lt_or_eq.1 hqi with h7 | h7
          · exact hi q hq h7
          · subst h7
            intro x hx _
            exact hj x hx (by omega)
      · intro hlt
        have hlt := no_nat hlt
        refine ok_go 0 ?_
        refine sy_done 0 (v := J 0) (h := k) (by kernel_rfl) ⟨rfl, .inl ⟨rfl, h1, h2, fun r hr => ?_⟩⟩
        obtain ⟨q, hq, rfl⟩ := List.getElem_of_mem hr
        exact hi q hq (by omega)
end Go.Proofs.YtegcmgjldapnmaaDoor
