/- Slices that appends have made, in a heap with open places. -/
import Derived.Test.YtegcmgjldapnmaaGreatDoorSyB
namespace Go.Eng

structure SlT (P : Program) (t e : TypeId) : Prop where
  u : P.underlying t = some (.slice e)
  s : sizeT P e = some 1
  i : ∃ inf, P.info? e = some inf ∧ Nat.ble inf.bytes 4096 = true
  z : ∃ z, zeroOf P e = some z ∧ Nat.beq z.cells.size 1 = true

def OpenSl (h : Hp) (e : TypeId) (l : Value) (zs : List Value) : Prop :=
  (l = .slice none 0 0 ∧ zs = []) ∨ ∃ i, l = .slice (some ⟨i, 0, none⟩) zs.length (2 * zs.length + 1) ∧ zs ≠ [] ∧ i < h.next ∧ h.get i = some (.cells zs e true) ∧ zs.all scalar = true

theorem Hp.get_new_ne {h : Hp} {o : AObj} {i : Nat} (hi : i ≠ h.next) : (h.new o).get i = h.get i := by
  simp [Hp.new, Hp.get, Tr.get_set, hi]

theorem Hp.get_kill_ne {h : Hp} {i j : Nat} (hi : i ≠ j) : (h.kill j).get i = h.get i := by
  simp [Hp.kill, Hp.get, Tr.get_set, hi]

theorem takeN_all : ∀ (l : List Value), takeN l.length l = some l
  | [] => rfl
  | v :: r => by simp only [List.length_cons, takeN, takeN_all r]

theorem blt_true {a b : Nat} (h : a < b) : Nat.blt a b = true := Nat.ble_eq_true_of_le h

theorem idxArr {P : Program} {t e : TypeId} {n s k i off : Nat} {kd : IntKind} (hu : P.underlying t = some (.array n e)) (hs : sizeT P e = some s) (hk : k < n) : indexAddrOp P t (ptr i off) (.int kd (Int.ofNat k)) = some (ptr i (off + k * s)) := by
  simp only [indexAddrOp, natOf, ptr, hu, blt_true hk, hs, addTo]

theorem idxSl {P : Program} {t e : TypeId} {s k i off len cap : Nat} {kd : IntKind} (hu : P.underlying t = some (.slice e)) (hs : sizeT P e = some s) (hk : k < len) : indexAddrOp P t (.slice (some ⟨i, off, none⟩) len cap) (.int kd (Int.ofNat k)) = some (ptr i (off + k * s)) := by
  simp only [indexAddrOp, natOf, ptr, hu, blt_true hk, hs, addTo]

theorem OpenSl.len {h : Hp} {e : TypeId} {l : Value} {zs : List Value} (hl : OpenSl h e l zs) : lenV l = some zs.length := by
  rcases hl with ⟨rfl, rfl⟩ | ⟨i, rfl, _⟩ <;> rfl

theorem OpenSl.read {P : Program} {h : Hp} {t e : TypeId} {l : Value} {zs : List Value} {k : Nat} {kd : IntKind} {v : Value} (hT : SlT P t e) (ha : isAggT P e = some false) (hl : OpenSl h e l zs) (hk : zs[k]? = some v) :
    ∃ p, indexAddrOp P t l (.int kd (Int.ofNat k)) = some p ∧ loadT P h e p = some v := by
  have hlt : k < zs.length := (List.getElem?_eq_some_iff.1 hk).1
  rcases hl with ⟨rfl, rfl⟩ | ⟨i, rfl, _, _, hg, _⟩
  · cases hk
  · refine ⟨ptr i k, ?_, load1 ha hg hk⟩
    rw [idxSl hT.u hT.s hlt]
    simp

theorem OpenSl.ext {h h' : Hp} {e : TypeId} {l : Value} {zs : List Value} (hl : OpenSl h e l zs) (hx : h.next ≤ h'.next) (he : ∀ j, j < h.next → (∃ n c, l = .slice (some ⟨j, 0, none⟩) n c) → h'.get j = h.get j) : OpenSl h' e l zs := by
  rcases hl with hl | ⟨i, rfl, h1, h2, h3, h4⟩
  · exact .inl hl
  · exact .inr ⟨i, rfl, h1, by omega, by rw [he i h2 ⟨_, _, rfl⟩]; exact h3, h4⟩

theorem OpenSl.shape {h : Hp} {e : TypeId} {l : Value} {zs : List Value} (hl : OpenSl h e l zs) : ∃ a c, l = .slice a zs.length c := by
  rcases hl with ⟨rfl, rfl⟩ | ⟨i, rfl, _⟩ <;> exact ⟨_, _, rfl⟩

end Go.Eng
