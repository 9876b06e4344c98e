/- GraphA: contracts of functions. -/
import Derived.Test.YtegcmgjldapnmaaDoorProg
import Derived.KernelRfl
import Derived.Test.YtegcmgjldapnmaaDoorSyB
import Derived.Test.YtegcmgjldapnmaaDoorBaseA
namespace Go.Proofs.YtegcmgjldapnmaaDoor
open Go Go.Eng Nim
set_option maxRecDepth 100000
/-- A number of Go's int. -/
abbrev I (z : Int) : Value := .int .i64 z
theorem u31 : Tryd.prog.underlying 31 = some (.slice 32) := by kernel_rfl
theorem u32 : Tryd.prog.underlying 32 = some (.slice 3) := by kernel_rfl
theorem z3 : sizeT Tryd.prog 3 = some 1 := by kernel_rfl
theorem z32 : sizeT Tryd.prog 32 = some 1 := by kernel_rfl
theorem agg32 : isAggT Tryd.prog 32 = some false := by kernel_rfl
/-- A slice of slices of ints that may be read. -/
def Gr (h : Hp) (v : Value) (g : List (List Int)) : Prop := ∃ vs, Rds h v vs ∧ vs.length = g.length ∧ ∀ (i : Nat) (r : List Int), g[i]? = some r → ∃ rv, vs[i]? = some rv ∧ Rds h rv (r.map I)
theorem Gr.ext {h h' : Hp} {v : Value} {g : List (List Int)} (hg : Gr h v g) (k : h.Ext h') : Gr h' v g := by
  obtain ⟨vs, h1, h2, h3⟩ := hg
  exact ⟨vs, h1.ext k, h2, fun i r hr => by obtain ⟨rv, h4, h5⟩ := h3 i r hr; exact ⟨rv, h4, h5.ext k⟩⟩
theorem Gr.shape {h : Hp} {v : Value} {g : List (List Int)} (hg : Gr h v g) : ∃ a c, v = .slice a g.length c := by
  obtain ⟨vs, h1, h2, h3⟩ := hg
  rw [← h2]
  exact h1.shape
/-- One row. -/
theorem Gr.row {h : Hp} {v : Value} {g : List (List Int)} (hg : Gr h v g) {i : Nat} (hi : i < g.length) : ∃ p rv, indexAddrOp Tryd.prog 31 v (J i) = some p ∧ loadT Tryd.prog h 32 p = some rv ∧ Rds h rv (g[i].map I) := by
  obtain ⟨vs, h1, h2, h3⟩ := hg
  obtain ⟨rv, h4, h5⟩ := h3 i g[i] (List.getElem?_eq_getElem hi)
  obtain ⟨p, h6, h7⟩ := h1.read u31 z32 agg32 h4
  exact ⟨p, rv, h6, h7, h5⟩
/-- One number of a row. -/
theorem row_get {h : Hp} {rv : Value} {r : List Int} (hr : Rds h rv (r.map I)) {k : Nat} (hk : k < r.length) : ∃ p, indexAddrOp Tryd.prog 32 rv (J k) = some p ∧ loadT Tryd.prog h 3 p = some (I r[k]) :=
  hr.read u32 z3 aggI (by rw [List.getElem?_map, List.getElem?_eq_getElem hk]; rfl)
/-- A row of a graph of n vertices, the first k of it. -/
def RowOK (n : Nat) (r : List Int) (k : Nat) : Prop := ∀ j (hj : j < r.length), j < k → 0 ≤ r[j] ∧ r[j] < Int.ofNat n ∧ (∀ hp : j ≠ 0, r[j - 1] < r[j])
/-- A graph. -/
def GrOK (g : List (List Int)) : Prop := 1 ≤ g.length ∧ g.length ≤ 200 ∧ ∀ r ∈ g, RowOK g.length r r.length
def okRows (g : List (List Int)) (i : Nat) : Prop := ∀ j (hj : j < g.length), j < i → RowOK g.length g[j] g[j].length
theorem ok_nat {a b : Nat} (h : decide (Int.ofNat a < Int.ofNat b) = true) : a < b := by have := of_decide_eq_true h; simpa using this
theorem no_nat {a b : Nat} (h : decide (Int.ofNat a < Int.ofNat b) = false) : b ≤ a := by have := of_decide_eq_false h; simp at this; omega
/-- The number before. -/
def lastOf (r : List Int) (k : Nat) : Int := if k = 0 then -1 else r.getD (k - 1) 0
theorem no_ok {g : List (List Int)} {i k : Nat} (hi : i < g.length) (hk : k < g[i].length) (h : g[i][k] ≤ lastOf g[i] k ∨ Int.ofNat g.length ≤ g[i][k]) : ¬ GrOK g := by
  rintro ⟨_, _, h3⟩
  obtain ⟨h4, h5, h6⟩ := h3 g[i] (List.getElem_mem hi) k hk hk
  rcases h with h | h
  · unfold lastOf at h
    split at h
    · omega
    · rename_i hp
      have := h6 hp
      rw [List.getD_eq_getElem?_getD, List.getElem?_eq_getElem (by omega), Option.getD_some] at h
      omega
  · omega
theorem ok_step {n : Nat} {r : List Int} {k : Nat} (hk : k < r.length) (h : RowOK n r k) (h1 : ¬ r[k] ≤ lastOf r k) (h2 : ¬ Int.ofNat n ≤ r[k]) : RowOK n r (k + 1) := by
  intro j hj hjk
  rcases Nat.lt_succ_iff_lt_or_eq.1 hjk with hlt | rfl
  · exact h j hj hlt
  · unfold lastOf at h1
    split at h1
    · rename_i h0
      subst h0
      exact ⟨by omega, by omega, fun hp => absurd rfl hp⟩
    · rename_i hp
      rw [List.getD_eq_getElem?_getD, List.getElem?_eq_getElem (by omega), Option.getD_some] at h1
      have := h (j - 1) (by omega) (by omega)
      exact ⟨by omega, by omega, fun _ => by omega⟩
theorem s20 (g : List (List Int)) (lf n : Nat) (hlf : g.length < lf) (hrow : ∀ r ∈ g, r.length < lf) (v : Value) (h : Hp) (hg : Gr h v g) (hsm : lf < 2 ^ 62) :
    ∃ x h', Ev lf (n+1) 20 [v] h = some (x, h') ∧ h' = h ∧ ((x = J 0 ∧ GrOK g) ∨ (x = J 61 ∧ ¬ GrOK g)) := by
  obtain ⟨a, c, hsh⟩ := hg.shape
  subst hsh
  refine fnS_ok (Q := fun x h' => h' = h ∧ ((x = J 0 ∧ GrOK g) ∨ (x = J 61 ∧ ¬ GrOK g))) ?_
  refine ok_go 2 ?_
  refine sy_test 0 (decide (Int.ofNat g.length < 1)) (by kernel_rfl) ?_ ?_
  · intro h1
    have h1 : g.length < 1 := by have := of_decide_eq_true h1; simp at this; omega
    refine ok_go 4 ?_
    exact sy_done 0 (v := J 61) (h := h) (by kernel_rfl) ⟨rfl, .inr ⟨rfl, fun hc => by have := hc.1; omega⟩⟩
  · intro h1
    have h1 : 1 ≤ g.length := by have := of_decide_eq_false h1; simp at this; omega
    refine ok_go 5 ?_
    refine sy_test 0 (decide (200 < Int.ofNat g.length)) (by kernel_rfl) ?_ ?_
    · intro h2
      have h2 : 200 < g.length := by have := of_decide_eq_true h2; simp at this; omega
      refine ok_go 0 ?_
      exact sy_done 0 (v := J 61) (h := h) (by kernel_rfl) ⟨rfl, .inr ⟨rfl, fun hc => by have := hc.2.1; omega⟩⟩
    · intro h2
      have h2 : g.length ≤ 200 := by have := of_decide_eq_false h2; simp at this; omega
      refine ok_go 1 ?_
      refine sy_loop 0 lf h (α := Nat) (fun s => [(0, .slice a g.length c), (16, .slice a g.length c), (17, J g.length), (18, J s)]) (fun s k => k = h ∧ s ≤ g.length ∧ okRows g s) (fun s _ => g.length - s) 0 (by kernel_rfl) (by kernel_rfl) ⟨by kernel_rfl, by kernel_rfl, by kernel_rfl, by kernel_rfl, trivial⟩ (show g.length - 0 < lf by omega) ⟨rfl, Nat.zero_le _, fun j hj hj0 => absurd hj0 (Nat.not_lt_zero _)⟩ ?_
      rintro m i f k ⟨rfl, hil, hi⟩ ih
      refine ok_go 1 ?_
      refine sy_test 0 (decide (Int.ofNat i < Int.ofNat g.length)) (by kernel_rfl) ?_ ?_
      · intro hlt
        have hlt := ok_nat hlt
        obtain ⟨p, rv, e1, e2, hr⟩ := hg.row hlt
        refine ok_go 0 ?_
        refine sy_load 0 (r := indexAddrOp Tryd.prog 31 (.slice a g.length c) (J i)) (h' := k) (by kernel_rfl) e1 ?_
        refine ok_go 0 ?_
        refine sy_load 0 (r := loadT Tryd.prog k 32 p) (h' := k) (by kernel_rfl) e2 ?_
        obtain ⟨ra, rc, hrs⟩ := hr.shape
        rw [List.length_map] at hrs
        subst hrs
        refine ok_go 1 ?_
        refine sy_loop 0 lf k (α := Nat) (fun s => [(0, .slice a g.length c), (16, .slice a g.length c), (17, J g.length), (18, J i), (22, .slice ra g[i].length rc), (23, J g[i].length), (24, J s), (5, I (lastOf g[i] s))]) (fun s k' => k' = k ∧ s ≤ g[i].length ∧ RowOK g.length g[i] s) (fun s _ => g[i].length - s) 0 (by kernel_rfl) (by kernel_rfl) ⟨by kernel_rfl, by kernel_rfl, by kernel_rfl, by kernel_rfl, by kernel_rfl, by kernel_rfl, by kernel_rfl, by kernel_rfl, trivial⟩ (show g[i].length - 0 < lf by have := hrow _ (List.getElem_mem hlt); omega) ⟨rfl, Nat.zero_le _, fun j hj hj0 => absurd hj0 (Nat.not_lt_zero _)⟩ ?_
        rintro m2 j f2 k2 ⟨rfl, hjl, hj⟩ ih2
        refine ok_go 1 ?_
        refine sy_test 0 (decide (Int.ofNat j < Int.ofNat g[i].length)) (by kernel_rfl) ?_ ?_
        · intro hjlt
          have hjlt := ok_nat hjlt
          have hll := hrow _ (List.getElem_mem hlt)
          obtain ⟨q, e3, e4⟩ := row_get hr hjlt
          refine ok_go 0 ?_
          refine sy_load 0 (r := indexAddrOp Tryd.prog 32 (.slice ra g[i].length rc) (J j)) (h' := k2) (by kernel_rfl) e3 ?_
          refine ok_go 0 ?_
          refine sy_load 0 (r := loadT Tryd.prog k2 3 q) (h' := k2) (by kernel_rfl) e4 ?_
          refine ok_go 1 ?_
          refine sy_test 0 (decide (g[i][j] ≤ lastOf g[i] j)) (by kernel_rfl) ?_ ?_
          · intro hc
            have hc := of_decide_eq_true hc
            refine ok_go 5 ?_
            exact sy_done 0 (v := J 61) (h := k2) (by kernel_rfl) ⟨rfl, .inr ⟨rfl, no_ok hlt hjlt (.inl hc)⟩⟩
          · intro hc
            have hc := of_decide_eq_false hc
            refine ok_go 6 ?_
            refine sy_test 0 (decide (g[i][j] ≥ Int.ofNat g.length)) (by kernel_rfl) ?_ ?_
            · intro hd
              have hd := of_decide_eq_true hd
              refine ok_go 0 ?_
              exact sy_done 0 (v := J 61) (h := k2) (by kernel_rfl) ⟨rfl, .inr ⟨rfl, no_ok hlt hjlt (.inr hd)⟩⟩
            · intro hd
              have hd := of_decide_eq_false hd
              refine ok_go 1 ?_
              refine sy_next 0 _ k2 (by kernel_rfl) (by kernel_rfl) (ih2 (j + 1) _ k2 ⟨rfl, hjlt, ok_step hjlt hj hc hd⟩ (show g[i].length - (j + 1) < g[i].length - j by omega) ⟨by kernel_rfl, by kernel_rfl, by kernel_rfl, by kernel_rfl, by kernel_rfl, by kernel_rfl, (by kernel_rfl : _ = Value.int .i64 (IntKind.wrap .i64 (Int.ofNat (j + 1)))).trans (by rw [wrap_nat (by omega)]), (by kernel_rfl : _ = I g[i][j]).trans (by unfold lastOf; rw [if_neg (Nat.succ_ne_zero j), Nat.add_sub_cancel, List.getD_eq_getElem?_getD, List.getElem?_eq_getElem hjlt, Option.getD_some]), trivial⟩)
        · intro hjlt
          have hjlt := no_nat hjlt
          refine ok_go 1 ?_
          refine sy_next 0 _ k2 (by kernel_rfl) (by kernel_rfl) (ih (i + 1) _ k2 ⟨rfl, hlt, fun q hq hqi => ?_⟩ (show g.length - (i + 1) < g.length - i by omega) ⟨by kernel_rfl, by kernel_rfl, by kernel_rfl, (by kernel_rfl : _ = Value.int .i64 (IntKind.wrap .i64 (Int.ofNat (i + 1)))).trans (by rw [wrap_nat (by omega)]), trivial⟩)
          rcases Nat.lt_succ_iff_lt_or_eq.1 hqi with h7 | h7
          · exact hi q hq h7
          · subst h7
            intro x hx _
            exact hj x hx (by omega)
      · intro hlt
        have hlt := no_nat hlt
        refine ok_go 0 ?_
        refine sy_done 0 (v := J 0) (h := k) (by kernel_rfl) ⟨rfl, .inl ⟨rfl, h1, h2, fun r hr => ?_⟩⟩
        obtain ⟨q, hq, rfl⟩ := List.getElem_of_mem hr
        exact hi q hq (by omega)
end Go.Proofs.YtegcmgjldapnmaaDoor
