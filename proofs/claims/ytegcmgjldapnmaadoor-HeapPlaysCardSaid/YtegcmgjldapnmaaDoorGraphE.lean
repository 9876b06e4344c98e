/- GraphE: contracts of functions. -/
import Derived.Test.YtegcmgjldapnmaaDoorProg
import Derived.KernelRfl
import Derived.Test.YtegcmgjldapnmaaDoorSyB
import Derived.Test.YtegcmgjldapnmaaDoorGraphD
namespace Go.Proofs.YtegcmgjldapnmaaDoor
open Go Go.Eng Nim
set_option maxRecDepth 100000
set_option maxHeartbeats 4000000
/-- Two slices do not lie in one block. -/
def Sep (a b : Value) : Prop := ∀ j m c m' c', a = .slice (some ⟨j, 0, none⟩) m c → b ≠ .slice (some ⟨j, 0, none⟩) m' c'
theorem Sep.symm {a b : Value} (h : Sep a b) : Sep b a := fun j m c m' c' hb ha => h j m' c' m c ha hb
theorem OpenSl.blk {h : Hp} {e : TypeId} {l : Value} {vs : List Value} (hl : OpenSl h e l vs) {j m c : Nat} (hj : l = .slice (some ⟨j, 0, none⟩) m c) : j < h.next := by
  rcases hl with ⟨rfl, _⟩ | ⟨i, rfl, _, h1, _⟩
  · cases hj
  · injection hj with h2
    injection h2 with h2
    injection h2 with h2
    omega
theorem two_app {X : Hp} {a b : Value} {xs ys : List Value} (ha : OpenSl X 3 a xs) (hb : OpenSl X 3 b ys) (ab : Sep a b) (z : Int) (hn : xs.length < 1000) :
    ∃ l' X', appendOp Tryd.prog (X.new (.cells [I z] 3 false)) 32 a (.slice (some ⟨X.next, 0, none⟩) 1 2) = some (l', X') ∧ OpenSl X' 3 l' (xs ++ [I z]) ∧ OpenSl X' 3 b ys ∧ Sep l' b ∧ X.next ≤ X'.next ∧
      (∀ j, j < X.next → (∀ m c, a ≠ .slice (some ⟨j, 0, none⟩) m c) → X'.get j = X.get j) ∧ (∀ j, j < X.next → ∀ m c, l' ≠ .slice (some ⟨j, 0, none⟩) m c) := by
  obtain ⟨l', X', e1, e2, e3, e4, e5⟩ := append1 slT ha (v := I z) rfl (by omega)
  refine ⟨l', X', e1, e2, hb.ext e3 (fun j hj ⟨m, c, hc⟩ => e4 j hj (fun m' c' ha' => ab j m' c' m c ha' hc)), fun j m c m' c' h1 h2 => ?_, e3, e4, e5⟩
  exact e5 j (OpenSl.blk hb h2) m c h1
theorem storeAll {P : Program} {h : Hp} {t : TypeId} {i : Nat} {cs vs : List Value} {e : TypeId} {opn : Bool} (hs : sizeT P t = some vs.length) (hg : h.get i = some (.cells cs e opn)) (hl : cs.length = vs.length) (hv : vs.all scalar = true) :
    storeT P h t (ptr i 0) (.agg vs.toArray) = some (h.put i (.cells vs e opn)) := by
  have hsz : Nat.beq (Value.agg vs.toArray).cells.size vs.length = true := by simp [Value.cells]
  have hcl : (Value.agg vs.toArray).cells.toList = vs := by simp [Value.cells]
  have hb : Nat.ble (0 + vs.length) cs.length = true := Nat.ble_eq_true_of_le (by omega)
  have hsp : splice cs 0 vs = vs := by
    unfold splice
    rw [List.take_zero, List.nil_append, Nat.zero_add, List.drop_of_length_le (by omega), List.append_nil]
  simp only [storeT, ptr, hs, hsz, hcl, storeN, hg, hb, hv, hsp]
/-- While the outcomes are put into two lists. -/
structure InO (h : Hp) (n : Nat) (S : St) (bk : Nat) (ka kb : Value) (k : Nat) (g : Hp) : Prop where
  ext : h.Ext g
  ps : PS bk n S g
  hb : h.next ≤ bk
  oa : OpenSl g 3 ka ((List.range k).map fun v => J (S v).1)
  ob : OpenSl g 3 kb ((List.range k).map fun v => I (S v).2)
  na : ∀ j, j ≤ bk → ∀ m c, ka ≠ .slice (some ⟨j, 0, none⟩) m c
  nb : ∀ j, j ≤ bk → ∀ m c, kb ≠ .slice (some ⟨j, 0, none⟩) m c
  ab : Sep ka kb
theorem s21_bad (lf n : Nat) (v : Value) (h : Hp) (d : Ev lf n 20 [v] h = some (J 61, h)) : Ev lf (n+1) 21 [v] h = some (.tuple #[.slice none 0 0, .slice none 0 0, J 61], h) := by
  refine fn_eq ?_
  refine ok_go 0 ?_
  refine sy_call 0 (by kernel_rfl) d ?_
  refine ok_go 2 ?_
  exact sy_done 0 (v := .tuple #[.slice none 0 0, .slice none 0 0, J 61]) (h := h) (by kernel_rfl) ⟨rfl, rfl⟩
theorem s21 (N : Nat) (S : St) (lf n : Nat) (hN : N ≤ 200) (hlf : 300 ≤ lf) (v : Value) (h h' : Hp) (d : Ev lf n 20 [v] h = some (J 0, h)) (e : Ev lf n 39 [v] h = some (.slice (some ⟨h.next, 0, none⟩) N (2 * N), h')) (hx : h.Ext h') (ps : PS h.next N S h') :
    ∃ x H, Ev lf (n+1) 21 [v] h = some (x, H) ∧ ∃ ka kb, x = .tuple #[ka, kb, J 0] ∧ h.Ext H ∧ Rds H ka ((List.range N).map fun v => J (S v).1) ∧ Rds H kb ((List.range N).map fun v => I (S v).2) := by
  refine fnS_ok (Q := fun x H => ∃ ka kb, x = .tuple #[ka, kb, J 0] ∧ h.Ext H ∧ Rds H ka ((List.range N).map fun v => J (S v).1) ∧ Rds H kb ((List.range N).map fun v => I (S v).2)) ?_
  refine ok_go 0 ?_
  refine sy_call 0 (by kernel_rfl) d ?_
  refine ok_go 2 ?_
  refine sy_call 0 (by kernel_rfl) e ?_
  refine ok_go 1 ?_
  refine sy_loop 0 lf h' (α := Nat × Value × Value) (fun s => [(6, s.2.1), (7, s.2.2), (16, .slice (some ⟨h.next, 0, none⟩) N (2 * N)), (17, J N), (18, J s.1)]) (fun s g => s.1 ≤ N ∧ InO h N S h.next s.2.1 s.2.2 s.1 g) (fun s _ => N - s.1) (0, .slice none 0 0, .slice none 0 0) (by kernel_rfl) (by kernel_rfl) ⟨by kernel_rfl, by kernel_rfl, by kernel_rfl, by kernel_rfl, by kernel_rfl, trivial⟩ (show N - 0 < lf by omega) ⟨Nat.zero_le _, hx, ps, Nat.le_refl _, .inl ⟨rfl, rfl⟩, .inl ⟨rfl, rfl⟩, fun j _ m c hc => (by cases hc), fun j _ m c hc => (by cases hc), fun j m c m' c' hc => (by cases hc)⟩ ?_
  rintro m1 ⟨k, ka, kb⟩ f g ⟨hk, H⟩ ih
  dsimp only at hk H
  refine ok_go 1 ?_
  refine sy_test 0 (decide (Int.ofNat k < Int.ofNat N)) (by kernel_rfl) ?_ ?_
  · intro hlt
    have hlt := ok_nat hlt
    refine ok_go 0 ?_
    refine sy_load 0 (r := indexAddrOp Tryd.prog 65 (.slice (some ⟨h.next, 0, none⟩) N (2 * N)) (J k)) (h' := g) (by kernel_rfl) (idx65 hlt) ?_
    refine ok_go 0 ?_
    refine sy_load 0 (r := loadT Tryd.prog g 68 (ptr h.next (k * 2))) (h' := g) (by kernel_rfl) (H.ps.both hlt) ?_
    refine ok_go 1 ?_
    refine sy_store 0 (r := storeT Tryd.prog (g.new (.cells [J 0, I 0] 68 false)) 68 (ptr g.next 0) (.agg #[J (S k).1, I (S k).2])) (by kernel_rfl) (storeAll (vs := [J (S k).1, I (S k).2]) z68 (get_new _ _) rfl rfl) ?_
    have gx := get_put (g.new (.cells [J 0, I 0] 68 false)) g.next (.cells [J (S k).1, I (S k).2] 68 false)
    have X1 : g.Ext ((g.new (.cells [J 0, I 0] 68 false)).put g.next (.cells [J (S k).1, I (S k).2] 68 false)) := (Hp.Ext.new _ _).put (Nat.le_refl _) _
    have X2 : ((g.new (.cells [J 0, I 0] 68 false)).put g.next (.cells [J (S k).1, I (S k).2] 68 false)).next = g.next + 1 := rfl
    generalize hX : (g.new (.cells [J 0, I 0] 68 false)).put g.next (.cells [J (S k).1, I (S k).2] 68 false) = X at gx X1 X2
    have oa : OpenSl X 3 ka ((List.range k).map fun v => J (S v).1) := H.oa.ext X1.next (fun j hj _ => X1.get j hj)
    have ob : OpenSl X 3 kb ((List.range k).map fun v => I (S v).2) := H.ob.ext X1.next (fun j hj _ => X1.get j hj)
    have hbl := H.ps.lt
    have hxn := H.ext.next
    obtain ⟨ka', Y, e1, a1, b1, ab1, y1, y2, y3⟩ := two_app oa ob H.ab (Int.ofNat (S k).1) (by simp; omega)
    refine ok_go 1 ?_
    refine sy_load 0 (r := loadT Tryd.prog X 3 (ptr g.next 0)) (h' := X) (by kernel_rfl) (load1 aggI gx rfl) ?_
    refine ok_go 1 ?_
    refine sy_call 0 (r := appendOp Tryd.prog (X.new (.cells [J (S k).1] 3 false)) 32 ka (.slice (some ⟨X.next, 0, none⟩) 1 2)) (v := ka') (h' := Y) (by kernel_rfl) e1 ?_
    have gy : Y.get g.next = some (.cells [J (S k).1, I (S k).2] 68 false) := by
      rw [y2 _ (by omega) (fun m c hc => absurd (OpenSl.blk H.oa hc) (Nat.lt_irrefl _))]
      exact gx
    obtain ⟨kb', Z, e2, b2, a2, ba2, w1, w2, w3⟩ := two_app b1 a1 ab1.symm (S k).2 (by simp; omega)
    refine ok_go 1 ?_
    refine sy_load 0 (r := loadT Tryd.prog Y 3 (ptr g.next 1)) (h' := Y) (by kernel_rfl) (load1 aggI gy rfl) ?_
    refine ok_go 1 ?_
    refine sy_call 0 (r := appendOp Tryd.prog (Y.new (.cells [I (S k).2] 3 false)) 32 kb (.slice (some ⟨Y.next, 0, none⟩) 1 2)) (v := kb') (h' := Z) (by kernel_rfl) e2 ?_
    refine ok_go 1 ?_
    have keep : ∀ j, j ≤ h.next → Z.get j = g.get j := fun j hj => by
      rw [w2 j (by omega) (H.nb j hj), y2 j (by omega) (H.na j hj), X1.get j (by omega)]
    exact sy_next 0 _ Z (by kernel_rfl) (by kernel_rfl) (ih (k + 1, ka', kb') _ Z ⟨hlt, ⟨by omega, fun j hj => by rw [keep j (by omega)]; exact H.ext.get j hj⟩, ⟨by omega, by rw [keep _ (Nat.le_refl _)]; exact H.ps.get⟩, Nat.le_refl _, by rw [List.range_succ, List.map_append]; exact a2, by rw [List.range_succ, List.map_append]; exact b2, fun j hj => y3 j (by omega), fun j hj => w3 j (by omega), ba2.symm⟩ (show N - (k + 1) < N - k by omega) ⟨by kernel_rfl, by kernel_rfl, by kernel_rfl, by kernel_rfl, (by kernel_rfl : _ = Value.int .i64 (IntKind.wrap .i64 (Int.ofNat (k + 1)))).trans (by rw [wrap_nat (by omega)]), trivial⟩)
  · intro hlt
    have hlt := no_nat hlt
    have hkN : k = N := by omega
    subst hkN
    refine ok_go 0 ?_
    exact sy_done 0 (v := .tuple #[ka, kb, J 0]) (h := g) (by kernel_rfl) ⟨ka, kb, rfl, H.ext, H.oa.rd, H.ob.rd⟩
end Go.Proofs.YtegcmgjldapnmaaDoor
