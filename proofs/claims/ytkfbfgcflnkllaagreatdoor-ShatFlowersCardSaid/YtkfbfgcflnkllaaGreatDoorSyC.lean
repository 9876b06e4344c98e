/- Slices that appends have made, in a heap with open places. -/
import Derived.Test.YtkfbfgcflnkllaaGreatDoorSyB
namespace Go.Eng

/-- A type of slices whose elements are single cells. -/
structure SlT (P : Program) (t e : TypeId) : Prop where
  u : P.underlying t = some (.slice e)
  s : sizeT P e = some 1
  i : ∃ inf, P.info? e = some inf ∧ Nat.ble inf.bytes 4096 = true
  z : ∃ z, zeroOf P e = some z ∧ Nat.beq z.cells.size 1 = true

/-- A slice that appends alone have made (or nil), and what it holds. -/
def OpenSl (h : Hp) (e : TypeId) (l : Value) (zs : List Value) : Prop :=
  (l = .slice none 0 0 ∧ zs = []) ∨ ∃ i, l = .slice (some ⟨i, 0, none⟩) zs.length (2 * zs.length + 1) ∧ zs ≠ [] ∧ i < h.next ∧ h.get i = some (.cells zs e true) ∧ zs.all scalar = true

theorem Hp.get_new_ne {h : Hp} {o : AObj} {i : Nat} (hi : i ≠ h.next) : (h.new o).get i = h.get i := by
  simp [Hp.new, Hp.get, Tr.get_set, hi]

theorem Hp.get_kill_ne {h : Hp} {i j : Nat} (hi : i ≠ j) : (h.kill j).get i = h.get i := by
  simp [Hp.kill, Hp.get, Tr.get_set, hi]

theorem takeN_all : ∀ (l : List Value), takeN l.length l = some l
  | [] => rfl
  | v :: r => by simp only [List.length_cons, takeN, takeN_all r]

theorem append1 {P : Program} {h : Hp} {t e : TypeId} {l : Value} {zs : List Value} {v : Value} (hT : SlT P t e) (hl : OpenSl h e l zs) (hv : scalar v = true) (hn : zs.length < 16777216) :
    ∃ l' h', appendOp P (h.new (.cells [v] e false)) t l (.slice (some ⟨h.next, 0, none⟩) 1 2) = some (l', h') ∧ OpenSl h' e l' (zs ++ [v]) ∧ h.next ≤ h'.next ∧
      (∀ j, j < h.next → (∀ n c, l ≠ .slice (some ⟨j, 0, none⟩) n c) → h'.get j = h.get j) ∧ (∀ j, j < h.next → ∀ n c, l' ≠ .slice (some ⟨j, 0, none⟩) n c) := by
  obtain ⟨inf, hi1, hi2⟩ := hT.i
  obtain ⟨z, hz1, hz2⟩ := hT.z
  have hel : elems (h.new (.cells [v] e false)) 1 1 (.slice (some ⟨h.next, 0, none⟩) 1 2) = some [v] := by
    simp only [elems, loadN, get_new, List.drop_zero, takeN]
  have hall : [v].all scalar = true := by simp [hv]
  have hnx : (h.new (.cells [v] e false)).next = h.next + 1 := rfl
  rcases hl with ⟨rfl, rfl⟩ | ⟨i, rfl, hne, hlt, hg, hsc⟩
  · refine ⟨_, _, by simp only [appendOp, hT.u, hT.s, hi1, hz1, lenV, hel, hz2, hi2, hall]; rfl, .inr ⟨h.next + 1, rfl, by simp, ?_, ?_, hall⟩, ?_, ?_, ?_⟩
    · show h.next + 1 < h.next + 1 + 1
      omega
    · exact get_new (h.new (.cells [v] e false)) _
    · show h.next ≤ h.next + 1 + 1
      omega
    · intro j hj _
      rw [Hp.get_new_ne (by rw [hnx]; omega), Hp.get_new_ne (by omega)]
    · intro j hj n c hc
      injection hc with h1
      injection h1 with h1
      injection h1 with h1
      have h1 : h.next + 1 = j := h1
      omega
  · have h1 : Nat.ble (zs.length + 1) most = true := Nat.ble_eq_true_of_le (by unfold most; omega)
    have h2 : Nat.ble (zs.length + 1) ((2 * zs.length + 1) / 2) = false := by
      cases hb : Nat.ble (zs.length + 1) ((2 * zs.length + 1) / 2) with
      | false => rfl
      | true => have := Nat.le_of_ble_eq_true hb; omega
    have hgi : (h.new (.cells [v] e false)).get i = some (.cells zs e true) := by rw [Hp.get_new_ne (by omega)]; exact hg
    have h3 : loadN (h.new (.cells [v] e false)) i 0 (zs.length * 1) = some zs := by
      simp only [loadN, hgi, List.drop_zero, Nat.mul_one, takeN_all]
    have h4 : Nat.beq ((2 * zs.length + 1) % 2) 0 = false := by
      rw [show (2 * zs.length + 1) % 2 = 1 by omega]
      rfl
    have h5 : (Nat.beq e e && Nat.beq zs.length ((2 * zs.length + 1) / 2 * 1)) = true := by
      rw [show (2 * zs.length + 1) / 2 * 1 = zs.length by omega]
      simp
    refine ⟨.slice (some ⟨h.next + 1, 0, none⟩) (zs.length + 1) (2 * (zs.length + 1) + 1), ((h.new (.cells [v] e false)).kill i).new (.cells (zs ++ [v]) e true), ?_, .inr ⟨h.next + 1, by simp, by simp, ?_, ?_, ?_⟩, ?_, ?_, ?_⟩
    · simp only [appendOp, hT.u, hT.s, hi1, hz1, lenV, hel, hz2, hi2, hall, h1, h2, h3, h4, hgi, h5]
      rfl
    · show h.next + 1 < h.next + 1 + 1
      omega
    · exact get_new ((h.new (.cells [v] e false)).kill i) _
    · rw [List.all_append, hsc, hall]; rfl
    · show h.next ≤ h.next + 1 + 1
      omega
    · intro j hj hne
      have hji : j ≠ i := fun hc => hne _ _ (by rw [hc])
      rw [Hp.get_new_ne (by show j ≠ h.next + 1; omega), Hp.get_kill_ne hji, Hp.get_new_ne (by omega)]
    · intro j hj n c hc
      injection hc with h1
      injection h1 with h1
      injection h1 with h1
      omega

theorem blt_true {a b : Nat} (h : a < b) : Nat.blt a b = true := Nat.ble_eq_true_of_le h

theorem idxArr {P : Program} {t e : TypeId} {n s k i off : Nat} {kd : IntKind} (hu : P.underlying t = some (.array n e)) (hs : sizeT P e = some s) (hk : k < n) : indexAddrOp P t (ptr i off) (.int kd (Int.ofNat k)) = some (ptr i (off + k * s)) := by
  simp only [indexAddrOp, natOf, ptr, hu, blt_true hk, hs, addTo]

theorem idxSl {P : Program} {t e : TypeId} {s k i off len cap : Nat} {kd : IntKind} (hu : P.underlying t = some (.slice e)) (hs : sizeT P e = some s) (hk : k < len) : indexAddrOp P t (.slice (some ⟨i, off, none⟩) len cap) (.int kd (Int.ofNat k)) = some (ptr i (off + k * s)) := by
  simp only [indexAddrOp, natOf, ptr, hu, blt_true hk, hs, addTo]

theorem OpenSl.len {h : Hp} {e : TypeId} {l : Value} {zs : List Value} (hl : OpenSl h e l zs) : lenV l = some zs.length := by
  rcases hl with ⟨rfl, rfl⟩ | ⟨i, rfl, _⟩ <;> rfl

/-- Reading one element. -/
theorem OpenSl.read {P : Program} {h : Hp} {t e : TypeId} {l : Value} {zs : List Value} {k : Nat} {kd : IntKind} {v : Value} (hT : SlT P t e) (ha : isAggT P e = some false) (hl : OpenSl h e l zs) (hk : zs[k]? = some v) :
    ∃ p, indexAddrOp P t l (.int kd (Int.ofNat k)) = some p ∧ loadT P h e p = some v := by
  have hlt : k < zs.length := (List.getElem?_eq_some_iff.1 hk).1
  rcases hl with ⟨rfl, rfl⟩ | ⟨i, rfl, _, _, hg, _⟩
  · cases hk
  · refine ⟨ptr i k, ?_, load1 ha hg hk⟩
    rw [idxSl hT.u hT.s hlt]
    simp

theorem OpenSl.ext {h h' : Hp} {e : TypeId} {l : Value} {zs : List Value} (hl : OpenSl h e l zs) (hx : h.next ≤ h'.next) (he : ∀ j, j < h.next → (∃ n c, l = .slice (some ⟨j, 0, none⟩) n c) → h'.get j = h.get j) : OpenSl h' e l zs := by
  rcases hl with hl | ⟨i, rfl, h1, h2, h3, h4⟩
  · exact .inl hl
  · exact .inr ⟨i, rfl, h1, by omega, by rw [he i h2 ⟨_, _, rfl⟩]; exact h3, h4⟩

theorem OpenSl.shape {h : Hp} {e : TypeId} {l : Value} {zs : List Value} (hl : OpenSl h e l zs) : ∃ a c, l = .slice a zs.length c := by
  rcases hl with ⟨rfl, rfl⟩ | ⟨i, rfl, _⟩ <;> exact ⟨_, _, rfl⟩

end Go.Eng
