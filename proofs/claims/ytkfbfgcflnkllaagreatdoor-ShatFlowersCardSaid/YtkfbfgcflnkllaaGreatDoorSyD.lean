/- What a call leaves as it was, slices that may be read, and rows of cells told by a function. -/
import Derived.Test.YtkfbfgcflnkllaaGreatDoorSyC
namespace Go.Eng

/-- All that was there is as it was. -/
structure Hp.Ext (h h' : Hp) : Prop where
  next : h.next ≤ h'.next
  get : ∀ j, j < h.next → h'.get j = h.get j

theorem Hp.Ext.refl (h : Hp) : h.Ext h := ⟨Nat.le_refl _, fun _ _ => rfl⟩
theorem Hp.Ext.trans {a b c : Hp} (h : a.Ext b) (k : b.Ext c) : a.Ext c := ⟨Nat.le_trans h.next k.next, fun j hj => (k.get j (Nat.lt_of_lt_of_le hj h.next)).trans (h.get j hj)⟩
theorem Hp.Ext.new (h : Hp) (o : AObj) : h.Ext (h.new o) := ⟨Nat.le_succ _, fun _ hj => Hp.get_new_ne (Nat.ne_of_lt hj)⟩
theorem Hp.get_put_ne {h : Hp} {i j : Nat} {o : AObj} (hij : j ≠ i) : (h.put i o).get j = h.get j := by
  simp [Hp.put, Hp.get, Tr.get_set, hij]
theorem Hp.Ext.put {h g : Hp} (k : h.Ext g) {i : Nat} (hi : h.next ≤ i) (o : AObj) : h.Ext (g.put i o) := ⟨k.next, fun j hj => (Hp.get_put_ne (by omega)).trans (k.get j hj)⟩
theorem Hp.Ext.kill {h g : Hp} (k : h.Ext g) {i : Nat} (hi : h.next ≤ i) : h.Ext (g.kill i) := ⟨k.next, fun j hj => (Hp.get_kill_ne (by omega)).trans (k.get j hj)⟩
theorem Hp.Ext.at_ {h g : Hp} (k : h.Ext g) {i : Nat} {o : AObj} (hi : i < h.next) (hg : h.get i = some o) : g.get i = some o := (k.get i hi).trans hg

/-- A slice whose elements have one cell each, and these: it may be read. -/
def Rds (h : Hp) (l : Value) (vs : List Value) : Prop :=
  ((∃ a, l = .slice a 0 0) ∧ vs = []) ∨ ∃ i off c, l = .slice (some ⟨i, off, none⟩) vs.length c ∧ (vs ≠ [] → i < h.next ∧ loadN h i off vs.length = some vs)

theorem loadN_ext {h g : Hp} {i : Nat} (e : g.get i = h.get i) (off n : Nat) : loadN g i off n = loadN h i off n := by
  unfold loadN; rw [e]

theorem Rds.ext {h g : Hp} {l : Value} {vs : List Value} (hl : Rds h l vs) (k : h.Ext g) : Rds g l vs := by
  rcases hl with hl | ⟨i, off, c, rfl, hr⟩
  · exact .inl hl
  · exact .inr ⟨i, off, c, rfl, fun hn => ⟨Nat.lt_of_lt_of_le (hr hn).1 k.next, by rw [loadN_ext (k.get i (hr hn).1)]; exact (hr hn).2⟩⟩

theorem Rds.shape {h : Hp} {l : Value} {vs : List Value} (hl : Rds h l vs) : ∃ a c, l = .slice a vs.length c := by
  rcases hl with ⟨⟨a, rfl⟩, rfl⟩ | ⟨i, off, c, rfl, _⟩ <;> exact ⟨_, _, rfl⟩

theorem OpenSl.rd {h : Hp} {e : TypeId} {l : Value} {vs : List Value} (hl : OpenSl h e l vs) : Rds h l vs := by
  rcases hl with hl | ⟨i, rfl, _, h1, h2, _⟩
  · exact .inl ⟨⟨none, hl.1⟩, hl.2⟩
  · exact .inr ⟨i, 0, _, rfl, fun _ => ⟨h1, by unfold loadN; rw [h2]; exact takeN_all vs⟩⟩

theorem takeN_get : ∀ {n : Nat} {l r : List Value}, takeN n l = some r → ∀ k, k < n → l[k]? = r[k]?
  | 0, _, _, _, k, hk => absurd hk (Nat.not_lt_zero k)
  | n + 1, [], _, h, _, _ => by simp [takeN] at h
  | n + 1, v :: l, r, h, k, hk => by
    unfold takeN at h
    split at h
    · rename_i l' hl'
      cases h
      cases k with
      | zero => rfl
      | succ k => simpa using takeN_get hl' k (by omega)
    · cases h

theorem takeN_one {l : List Value} {k : Nat} {v : Value} (h : l[k]? = some v) : takeN 1 (l.drop k) = some [v] := by
  obtain ⟨hlt, rfl⟩ := List.getElem?_eq_some_iff.1 h
  rw [List.drop_eq_getElem_cons hlt]
  rfl

theorem loadN_at {h : Hp} {i off n k : Nat} {vs : List Value} {v : Value} (hl : loadN h i off n = some vs) (hk : k < n) (hv : vs[k]? = some v) : loadN h i (off + k) 1 = some [v] := by
  unfold loadN at hl ⊢
  split at hl
  · have := takeN_get hl k hk
    rw [List.getElem?_drop, hv] at this
    exact takeN_one this
  · split at hl
    · rename_i o cs e hg _ hb
      have hb' := Nat.le_of_ble_eq_true hb
      have := takeN_get hl k hk
      rw [List.getElem?_drop, hv] at this
      have e1 : Nat.ble o (off + k) = true := Nat.ble_eq_true_of_le (by omega)
      simp only [e1]
      rw [show off + k - o = off - o + k by omega]
      exact takeN_one this
    · cases hl
  · have := takeN_get hl k hk
    rw [List.getElem?_drop, hv] at this
    exact takeN_one this
  · cases hl

/-- Reading one element. -/
theorem Rds.read {P : Program} {h : Hp} {t e : TypeId} {l : Value} {vs : List Value} {k : Nat} {kd : IntKind} {v : Value} (hu : P.underlying t = some (.slice e)) (hs : sizeT P e = some 1) (ha : isAggT P e = some false) (hl : Rds h l vs) (hk : vs[k]? = some v) :
    ∃ p, indexAddrOp P t l (.int kd (Int.ofNat k)) = some p ∧ loadT P h e p = some v := by
  have hlt : k < vs.length := (List.getElem?_eq_some_iff.1 hk).1
  rcases hl with ⟨⟨a, rfl⟩, rfl⟩ | ⟨i, off, c, rfl, hr⟩
  · cases hk
  · have hne : vs ≠ [] := fun hc => by rw [hc] at hk; cases hk
    refine ⟨ptr i (off + k), ?_, ?_⟩
    · rw [idxSl hu hs hlt, Nat.mul_one]
    · simp only [loadT, ha, loadN_at (hr hne).2 hlt hk]

/-- The same cells by number: n cells, each told by a function. -/
def cellsF (n : Nat) (f : Nat → Value) : List Value := (List.range n).map f

theorem cellsF_get {n : Nat} {f : Nat → Value} {k : Nat} (hk : k < n) : (cellsF n f)[k]? = some (f k) := by
  simp [cellsF, hk]
theorem cellsF_len (n : Nat) (f : Nat → Value) : (cellsF n f).length = n := by simp [cellsF]
def updF (f : Nat → Value) (k : Nat) (v : Value) : Nat → Value := fun i => if i = k then v else f i
theorem cellsF_set {n : Nat} {f : Nat → Value} {k : Nat} {v : Value} : (cellsF n f).set k v = cellsF n (updF f k v) := by
  refine List.ext_getElem? fun q => ?_
  rw [List.getElem?_set]
  unfold cellsF updF
  simp only [List.length_map, List.length_range, List.getElem?_map]
  by_cases hq : k = q
  · subst hq
    rw [if_pos rfl]
    by_cases hl : k < n
    · rw [if_pos hl, List.getElem?_range hl]; simp
    · rw [if_neg hl, List.getElem?_eq_none (by simpa using hl)]; rfl
  · rw [if_neg hq]
    by_cases hl : q < n
    · rw [List.getElem?_range hl]; simp [Ne.symm hq]
    · rw [List.getElem?_eq_none (by simpa using hl)]; rfl
theorem cellsF_congr {n : Nat} {f g : Nat → Value} (h : ∀ k, k < n → f k = g k) : cellsF n f = cellsF n g := List.map_congr_left fun k hk => h k (List.mem_range.1 hk)

theorem zeros_one (z : Value) : ∀ n, zeros [z] n = cellsF n fun _ => z
  | 0 => rfl
  | n + 1 => by
    rw [zeros, zeros_one z n]
    simp only [cellsF, List.range_succ_eq_map, List.map_cons, List.map_map]
    rfl

/-- A slice that make has made: cells told by a function. -/
theorem rd_cells {h : Hp} {i n c : Nat} {f : Nat → Value} {e : TypeId} {opn : Bool} (hi : i < h.next) (hg : h.get i = some (.cells (cellsF n f) e opn)) : Rds h (.slice (some ⟨i, 0, none⟩) n c) (cellsF n f) := by
  refine .inr ⟨i, 0, c, by rw [cellsF_len], fun _ => ⟨hi, ?_⟩⟩
  unfold loadN
  rw [hg]
  exact takeN_all _

/-- Appending other elements to nothing. -/
theorem appendNew {P : Program} {h : Hp} {t e : TypeId} {x : Value} {vs : List Value} (hT : SlT P t e) (hx : Rds h x vs) (hv : vs.all scalar = true) (hn : vs.length < 16777216) :
    ∃ l' h', appendOp P h t (.slice none 0 0) x = some (l', h') ∧ OpenSl h' e l' vs ∧ h.Ext h' ∧ (∀ j, j < h.next → ∀ n c, l' ≠ .slice (some ⟨j, 0, none⟩) n c) := by
  obtain ⟨inf, hi1, hi2⟩ := hT.i
  obtain ⟨z, hz1, hz2⟩ := hT.z
  obtain ⟨a, c, hsh⟩ := hx.shape
  have hlen : lenV x = some vs.length := by rw [hsh]; rfl
  have hel : elems h 1 vs.length x = some vs := by
    rcases hx with ⟨⟨a, rfl⟩, rfl⟩ | ⟨i, off, c, rfl, hr⟩
    · rcases a with _ | ⟨i, off, _ | q⟩ <;> rfl
    · cases vs with
      | nil => rfl
      | cons v r => simp only [elems, List.length_cons, Nat.mul_one]; exact (hr (by simp)).2
  cases vs with
  | nil =>
    simp only [List.length_nil] at hlen hel
    exact ⟨.slice none 0 0, h, by simp only [appendOp, hT.u, hT.s, hi1, hz1, hlen, hel, hz2, hi2, List.all_nil], .inl ⟨rfl, rfl⟩, Hp.Ext.refl _, fun j _ n c hc => by cases hc⟩
  | cons v r =>
    simp only [List.length_cons] at hlen hel
    refine ⟨.slice (some ⟨h.next, 0, none⟩) (r.length + 1) (2 * (r.length + 1) + 1), h.new (.cells (v :: r) e true), ?_, .inr ⟨h.next, by simp, by simp, Nat.lt_succ_self _, get_new _ _, hv⟩, Hp.Ext.new _ _, fun j hj n c hc => ?_⟩
    · have hb : Nat.ble (r.length + 1) most = true := Nat.ble_eq_true_of_le (by unfold most; simp at hn; omega)
      simp only [appendOp, hT.u, hT.s, hi1, hz1, hlen, hel, hz2, hi2, hv, hb]
    · injection hc with h1
      injection h1 with h1
      injection h1 with h1
      omega

end Go.Eng
