/- LeastM: contracts of functions. -/
import Derived.Test.YtegcmgjldapnmaaDoorFieldA
import Derived.Test.YtegcmgjldapnmaaDoorSyC
namespace Go.Proofs.YtegcmgjldapnmaaDoor
open Go Go.Eng Nim
set_option maxRecDepth 100000
theorem slT : SlT Tryd.prog 32 3 := ⟨by kernel_rfl, by kernel_rfl, ⟨_, rfl, by kernel_rfl⟩, ⟨_, rfl, by kernel_rfl⟩⟩
theorem aggI : isAggT Tryd.prog 3 = some false := by kernel_rfl
theorem s36 (B : Nat) (zs : List Nat) (hz : ∀ z ∈ zs, z < B) (hlen : zs.length < 1000) (lf n : Nat) (hB : B < 2 ^ 32) (hlf : B + 1000 ≤ lf) (l : Value) (h : Hp) (hl : OpenSl h 3 l (zs.map J)) : ∃ m, (∀ k, k < m → k ∈ zs) ∧ m ∉ zs ∧ Ev lf (n+1) 36 [l] h = some (J m, h) := by
  obtain ⟨pa, pc, rfl⟩ := hl.shape
  rw [List.length_map]
  rw [List.length_map] at hl
  generalize hl0 : Value.slice pa zs.length pc = l at hl
  subst hl0
  suffices hs : ∃ v h', evInv Tryd.prog orc lf (n + 1) (.fn 36 [.slice pa zs.length pc]) h = some (v, h') ∧ ∃ m, v = J m ∧ h' = h ∧ (∀ k, k < m → k ∈ zs) ∧ m ∉ zs by
    obtain ⟨v, h', e, m, rfl, rfl, h1, h2⟩ := hs
    exact ⟨m, h1, h2, e⟩
  refine fnS_ok (Q := fun v h' => ∃ m, v = J m ∧ h' = h ∧ (∀ k, k < m → k ∈ zs) ∧ m ∉ zs) ?_
  refine ok_go 0 ?_
  refine sy_loop 0 lf h (α := Nat) (fun s => [(0, .slice pa zs.length pc), (3, J s)]) (fun s g => g = h ∧ ∀ k, k < s → k ∈ zs) (fun s _ => B + 1 - s) 0 (by kernel_rfl) (by kernel_rfl) ⟨by kernel_rfl, by kernel_rfl, trivial⟩ (show B + 1 - 0 < lf by omega) ⟨rfl, fun k hk => absurd hk (Nat.not_lt_zero _)⟩ ?_
  rintro k x f hh ⟨rfl, hx⟩ ih
  refine ok_go 0 ?_
  refine sy_loop 0 lf hh (α := Nat × Bool) (fun s => [(0, .slice pa zs.length pc), (3, J x), (4, .bool s.2), (5, J s.1)]) (fun s g => g = hh ∧ s.2 = (zs.take s.1).contains x) (fun s _ => zs.length - s.1) (0, false) (by kernel_rfl) (by kernel_rfl) ⟨by kernel_rfl, by kernel_rfl, by kernel_rfl, by kernel_rfl, trivial⟩ (show zs.length - 0 < lf by omega) ⟨rfl, by simp⟩ ?_
  rintro k2 ⟨i, b⟩ f2 hh2 ⟨rfl, hb⟩ ih2
  refine ok_go 2 ?_
  refine sy_test 0 (decide (Int.ofNat i < Int.ofNat zs.length)) (by kernel_rfl) ?_ ?_
  · intro hi
    have hi : i < zs.length := by have := of_decide_eq_true hi; simpa using this
    have tk : zs.take (i + 1) = zs.take i ++ [zs[i]] := List.take_succ_eq_append_getElem hi
    have tm : x ∈ zs.take (i + 1) ↔ x ∈ zs.take i ∨ x = zs[i] := by rw [tk]; simp only [List.mem_append, List.mem_singleton]
    have w5 : Value.int .i64 (IntKind.wrap .i64 (Int.ofNat (i + 1))) = J (i + 1) := by rw [wrap_nat (by omega)]
    cases b with
    | true =>
      refine ok_go 8 ?_
      refine sy_next 0 _ hh2 (by kernel_rfl) (by kernel_rfl) (ih2 (i + 1, true) _ hh2 ⟨rfl, ?_⟩ (show zs.length - (i + 1) < zs.length - i by omega) ⟨by kernel_rfl, by kernel_rfl, by kernel_rfl, (by kernel_rfl : _ = Value.int .i64 (IntKind.wrap .i64 (Int.ofNat (i + 1)))).trans w5, trivial⟩)
      have hb : true = (zs.take i).contains x := hb
      show true = (zs.take (i + 1)).contains x
      exact (List.contains_iff_mem.2 (tm.2 (.inl (List.contains_iff_mem.1 hb.symm)))).symm
    | false =>
      obtain ⟨p, r1, r2⟩ := hl.read (P := Tryd.prog) (kd := .i64) slT aggI (k := i) (v := J zs[i]) (by rw [List.getElem?_map, List.getElem?_eq_getElem hi]; rfl)
      refine ok_go 3 ?_
      refine sy_load 0 (r := indexAddrOp Tryd.prog 32 (.slice pa zs.length pc) (J i)) (h' := hh2) (by kernel_rfl) r1 ?_
      refine ok_go 1 ?_
      refine sy_load 0 (r := loadT Tryd.prog hh2 3 p) (h' := hh2) (by kernel_rfl) r2 ?_
      refine ok_go 5 ?_
      have we : (Int.ofNat zs[i] == Int.ofNat x) = (zs[i] == x) := by
        rw [Bool.eq_iff_iff, beq_iff_eq, beq_iff_eq]
        exact ⟨Int.ofNat.inj, congrArg _⟩
      refine sy_next 0 _ hh2 (by kernel_rfl) (by kernel_rfl) (ih2 (i + 1, zs[i] == x) _ hh2 ⟨rfl, ?_⟩ (show zs.length - (i + 1) < zs.length - i by omega) ⟨by kernel_rfl, by kernel_rfl, (by kernel_rfl : _ = Value.bool (Int.ofNat zs[i] == Int.ofNat x)).trans (by rw [we]), (by kernel_rfl : _ = Value.int .i64 (IntKind.wrap .i64 (Int.ofNat (i + 1)))).trans w5, trivial⟩)
      have hb : false = (zs.take i).contains x := hb
      show (zs[i] == x) = (zs.take (i + 1)).contains x
      have hn : ¬ x ∈ zs.take i := fun hc => by rw [List.contains_iff_mem.2 hc] at hb; cases hb
      rw [Bool.eq_iff_iff, List.contains_iff_mem, tm, beq_iff_eq]
      exact ⟨fun e => .inr e.symm, fun h => (h.resolve_left hn).symm⟩
  · intro hi
    have hi : zs.length ≤ i := by have := of_decide_eq_false hi; simp at this; omega
    have hb : b = (zs.take i).contains x := hb
    rw [List.take_of_length_le hi] at hb
    cases b with
    | true =>
      have hm : x ∈ zs := by simpa using hb.symm
      have := hz x hm
      refine ok_go 3 ?_
      refine sy_next 0 _ hh2 (by kernel_rfl) (by kernel_rfl) (ih (x + 1) _ hh2 ⟨rfl, fun k hk => ?_⟩ (show B + 1 - (x + 1) < B + 1 - x by omega) ⟨by kernel_rfl, (by kernel_rfl : _ = Value.int .i64 (IntKind.wrap .i64 (Int.ofNat (x + 1)))).trans (by rw [wrap_nat (by omega)]), trivial⟩)
      rcases Nat.lt_succ_iff_lt_or_eq.1 hk with h7 | h7
      · exact hx k h7
      · rw [h7]; exact hm
    | false =>
      refine ok_go 2 ?_
      exact sy_done 0 (h := hh2) (v := J x) (by kernel_rfl) ⟨x, rfl, rfl, hx, by simpa using hb.symm⟩
end Go.Proofs.YtegcmgjldapnmaaDoor
