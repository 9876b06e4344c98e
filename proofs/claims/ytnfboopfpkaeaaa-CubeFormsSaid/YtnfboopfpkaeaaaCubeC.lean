/- CubeC: contracts of functions. -/
import Derived.Test.YtnfboopfpkaeaaaProg
import Derived.KernelRfl
import Derived.Test.YtnfboopfpkaeaaaSyB
import Derived.Test.YtnfboopfpkaeaaaCubeB
namespace Go.Proofs.Ytnfboopfpkaeaaa
open Go Go.Eng Nim
set_option maxRecDepth 100000
set_option maxHeartbeats 4000000
/-- Appending to an empty slice that has no room. -/
theorem appendEmpty {P : Program} {h : Hp} {t e : TypeId} {x : Value} {vs : List Value} {i : Nat} {opn : Bool} (hT : SlT P t e) (hi : h.get i = some (.cells [] e opn)) (hx : Rds h x vs) (hv : vs.all scalar = true) (h1 : vs ≠ []) (hn : vs.length < 16777216) :
    appendOp P h t (.slice (some ⟨i, 0, none⟩) 0 0) x = some (.slice (some ⟨h.next, 0, none⟩) vs.length (2 * vs.length + 1), h.new (.cells vs e true)) := by
  obtain ⟨inf, hi1, hi2⟩ := hT.i
  obtain ⟨z, hz1, hz2⟩ := hT.z
  obtain ⟨a, c, hsh⟩ := hx.shape
  have hlen : lenV x = some vs.length := by rw [hsh]; rfl
  have hel : elems h 1 vs.length x = some vs := by
    rcases hx with ⟨⟨a, rfl⟩, rfl⟩ | ⟨i, off, c, rfl, hr⟩
    · exact absurd rfl h1
    · cases vs with
      | nil => exact absurd rfl h1
      | cons v r => simp only [elems, List.length_cons, Nat.mul_one]; exact (hr (by simp)).2
  cases vs with
  | nil => exact absurd rfl h1
  | cons v r =>
    simp only [List.length_cons] at hlen hel hn ⊢
    have b1 : Nat.ble (0 + (r.length + 1)) most = true := Nat.ble_eq_true_of_le (by unfold most; omega)
    have b2 : Nat.ble (0 + (r.length + 1)) (0 / 2) = false := by
      cases hb : Nat.ble (0 + (r.length + 1)) (0 / 2) with
      | false => rfl
      | true => have := Nat.le_of_ble_eq_true hb; omega
    have b3 : loadN h i 0 (0 * 1) = some [] := by
      unfold loadN
      rw [hi]
      rfl
    have b4 : Nat.beq (0 % 2) 0 = true := rfl
    simp only [appendOp, hT.u, hT.s, hi1, hz1, hlen, hel, hz2, hi2, hv, b1, b2, b3, b4, List.nil_append]
    rw [Nat.zero_add]
theorem cloneI_of (v : Nat → Int) (N lf m b c : Nat) (hN : 1 ≤ N) (hN2 : N ≤ 64) (h : Hp) (A : ArI b N v h) :
    ∃ x h', Ev lf (m + 1) 72 [.slice (some ⟨b, 0, none⟩) N c] h = some (x, h') ∧ ∃ b', x = .slice (some ⟨b', 0, none⟩) N (2 * N + 1) ∧ h.next ≤ b' ∧ h.Ext h' ∧ ArI b' N v h' := by
  refine fnS_ok (Q := fun x h' => ∃ b', x = .slice (some ⟨b', 0, none⟩) N (2 * N + 1) ∧ h.next ≤ b' ∧ h.Ext h' ∧ ArI b' N v h') ?_
  have X : h.Ext (h.new (.cells [] 3 false)) := Hp.Ext.new _ _
  have hl : (cellsF N fun x => I (v x)).length = N := cellsF_len _ _
  have e := appendEmpty (P := Try.prog) (h := h.new (.cells [] 3 false)) (i := h.next) slI (get_new _ _) ((A.rds c).ext X) (by simp [cellsF, scalar]) (fun hc => by rw [hc] at hl; simp at hl; omega) (by rw [hl]; omega)
  rw [hl] at e
  refine ok_go 3 ?_
  refine sy_call 0 (r := appendOp Try.prog (h.new (.cells [] 3 false)) 50 (.slice (some ⟨h.next, 0, none⟩) 0 0) (.slice (some ⟨b, 0, none⟩) N c)) (v := .slice (some ⟨h.next + 1, 0, none⟩) N (2 * N + 1)) (h' := (h.new (.cells [] 3 false)).new (.cells (cellsF N fun x => I (v x)) 3 true)) (by kernel_rfl) e ?_
  refine ok_go 0 ?_
  exact sy_done 0 (v := .slice (some ⟨h.next + 1, 0, none⟩) N (2 * N + 1)) (h := (h.new (.cells [] 3 false)).new (.cells (cellsF N fun x => I (v x)) 3 true)) (by kernel_rfl) ⟨h.next + 1, rfl, Nat.le_succ _, X.trans (Hp.Ext.new _ _), ⟨Nat.lt_succ_self _, true, get_new _ _⟩⟩
theorem cloneB_of (v : Nat → Bool) (N lf m b c : Nat) (hN : 1 ≤ N) (hN2 : N ≤ 64) (h : Hp) (A : ArB b N v h) :
    ∃ x h', Ev lf (m + 1) 62 [.slice (some ⟨b, 0, none⟩) N c] h = some (x, h') ∧ ∃ b', x = .slice (some ⟨b', 0, none⟩) N (2 * N + 1) ∧ h.next ≤ b' ∧ h.Ext h' ∧ ArB b' N v h' := by
  refine fnS_ok (Q := fun x h' => ∃ b', x = .slice (some ⟨b', 0, none⟩) N (2 * N + 1) ∧ h.next ≤ b' ∧ h.Ext h' ∧ ArB b' N v h') ?_
  have X : h.Ext (h.new (.cells [] 4 false)) := Hp.Ext.new _ _
  have hl : (cellsF N fun x => Value.bool (v x)).length = N := cellsF_len _ _
  have e := appendEmpty (P := Try.prog) (h := h.new (.cells [] 4 false)) (i := h.next) slB (get_new _ _) ((A.rds c).ext X) (by simp [cellsF, scalar]) (fun hc => by rw [hc] at hl; simp at hl; omega) (by rw [hl]; omega)
  rw [hl] at e
  refine ok_go 3 ?_
  refine sy_call 0 (r := appendOp Try.prog (h.new (.cells [] 4 false)) 27 (.slice (some ⟨h.next, 0, none⟩) 0 0) (.slice (some ⟨b, 0, none⟩) N c)) (v := .slice (some ⟨h.next + 1, 0, none⟩) N (2 * N + 1)) (h' := (h.new (.cells [] 4 false)).new (.cells (cellsF N fun x => Value.bool (v x)) 4 true)) (by kernel_rfl) e ?_
  refine ok_go 0 ?_
  exact sy_done 0 (v := .slice (some ⟨h.next + 1, 0, none⟩) N (2 * N + 1)) (h := (h.new (.cells [] 4 false)).new (.cells (cellsF N fun x => Value.bool (v x)) 4 true)) (by kernel_rfl) ⟨h.next + 1, rfl, Nat.le_succ _, X.trans (Hp.Ext.new _ _), ⟨Nat.lt_succ_self _, true, get_new _ _⟩⟩
/-- Numbers that are far from the ends. -/
def Far (z : Int) : Prop := -(2 ^ 40) ≤ z ∧ z ≤ 2 ^ 40
theorem spec_step (lf m : Nat) (a b : Int) (h : Hp) (ha : Far a) (hb : Far b) : Ev lf (m + 1) 69 [I a, I b] h = some (.tuple #[I (wsh a b).1, I (wsh a b).2], h) := by
  obtain ⟨a1, a2⟩ := ha
  obtain ⟨b1, b2⟩ := hb
  refine fn_eq ?_
  refine ok_go 2 ?_
  exact sy_done 0 (v := .tuple #[I (IntKind.wrap .i64 (a + b)), I (IntKind.wrap .i64 (a - b))]) (h := h) (by kernel_rfl) ⟨by rw [wrap_int (by omega) (by omega), wrap_int (by omega) (by omega)]; rfl, rfl⟩
theorem real_step (lf m : Nat) (a b : Int) (h : Hp) (ha : Far a) (hb : Far b) : Ev lf (m + 1) 89 [I a, I b] h = some (.tuple #[I (up (fun a b => b - a) a b).1, I (up (fun a b => b - a) a b).2], h) := by
  obtain ⟨a1, a2⟩ := ha
  obtain ⟨b1, b2⟩ := hb
  refine fn_eq ?_
  refine ok_go 1 ?_
  exact sy_done 0 (v := .tuple #[I a, I (IntKind.wrap .i64 (b - a))]) (h := h) (by kernel_rfl) ⟨by rw [wrap_int (by omega) (by omega)]; rfl, rfl⟩
theorem from_step (lf m : Nat) (a b : Int) (h : Hp) (ha : Far a) (hb : Far b) : Ev lf (m + 1) 73 [I a, I b] h = some (.tuple #[I (up (fun a b => b + a) a b).1, I (up (fun a b => b + a) a b).2], h) := by
  obtain ⟨a1, a2⟩ := ha
  obtain ⟨b1, b2⟩ := hb
  refine fn_eq ?_
  refine ok_go 1 ?_
  exact sy_done 0 (v := .tuple #[I a, I (IntKind.wrap .i64 (b + a))]) (h := h) (by kernel_rfl) ⟨by rw [wrap_int (by omega) (by omega)]; rfl, rfl⟩
theorem rem_step (lf m : Nat) (a b : Bool) (h : Hp) : Ev lf (m + 1) 64 [.bool a, .bool b] h = some (.tuple #[.bool (up (fun a b => a != b) a b).1, .bool (up (fun a b => a != b) a b).2], h) := by
  refine fn_eq ?_
  refine ok_go 1 ?_
  exact sy_done 0 (v := .tuple #[.bool a, .bool (a != b)]) (h := h) (by kernel_rfl) ⟨rfl, rfl⟩
theorem check_of (n : Nat) (a : Option Addr) (c lf m : Nat) (h : Hp) (sz : ∀ h, Ev lf m 56 [J (2 ^ n)] h = some (.tuple #[J n, .bool true], h)) : Ev lf (m + 1) 54 [.slice a (2 ^ n) c] h = some (J 0, h) := by
  refine fn_eq ?_
  refine ok_go 1 ?_
  refine sy_call 0 (by kernel_rfl) (sz h) ?_
  refine ok_go 4 ?_
  exact sy_done 0 (v := J 0) (h := h) (by kernel_rfl) ⟨rfl, rfl⟩
end Go.Proofs.Ytnfboopfpkaeaaa
