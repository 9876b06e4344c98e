/- The blocks that a run has made and looks at: a list of what stands in them. -/
import Derived.Test.YtkfbfgcflnkllaaGreatDoorSyE
namespace Go.Eng

noncomputable section

/-- H has all of h as it was, and these new blocks. -/
structure Sto (h H : Hp) (l : List (Nat × AObj)) : Prop where
  ext : h.Ext H
  all : ∀ p ∈ l, h.next ≤ p.1 ∧ p.1 < H.next ∧ H.get p.1 = some p.2
  nd : (l.map (·.1)).Nodup

theorem Sto.start (h : Hp) : Sto h h [] := ⟨Hp.Ext.refl h, fun p hp => (by cases hp), List.nodup_nil⟩

variable {h H : Hp} {l : List (Nat × AObj)}

theorem Sto.mem (W : Sto h H l) {k : Nat} {p : Nat × AObj} (hk : l[k]? = some p) : h.next ≤ p.1 ∧ p.1 < H.next ∧ H.get p.1 = some p.2 := W.all p (List.mem_of_getElem? hk)
theorem Sto.get (W : Sto h H l) (k : Nat) {i : Nat} {o : AObj} (hk : l[k]? = some (i, o)) : H.get i = some o := (W.mem hk).2.2
theorem Sto.lt (W : Sto h H l) (k : Nat) {i : Nat} {o : AObj} (hk : l[k]? = some (i, o)) : i < H.next := (W.mem hk).2.1
theorem Sto.ge (W : Sto h H l) (k : Nat) {i : Nat} {o : AObj} (hk : l[k]? = some (i, o)) : h.next ≤ i := (W.mem hk).1
theorem Sto.next (W : Sto h H l) : h.next ≤ H.next := W.ext.next

theorem Sto.new (W : Sto h H l) (o : AObj) : Sto h (H.new o) ((H.next, o) :: l) := by
  refine ⟨W.ext.trans (Hp.Ext.new H o), fun p hp => ?_, ?_⟩
  · have hn : (H.new o).next = H.next + 1 := rfl
    rcases List.mem_cons.1 hp with rfl | hp
    · exact ⟨W.ext.next, by rw [hn]; exact Nat.lt_succ_self _, get_new H o⟩
    · obtain ⟨h1, h2, h3⟩ := W.all p hp
      exact ⟨h1, by rw [hn]; omega, (Hp.get_new_ne (Nat.ne_of_lt h2)).trans h3⟩
  · rw [List.map_cons, List.nodup_cons]
    refine ⟨fun hm => ?_, W.nd⟩
    obtain ⟨p, hp, e⟩ := List.mem_map.1 hm
    have := (W.all p hp).2.1
    have e : p.1 = H.next := e
    omega

theorem Sto.ids (W : Sto h H l) {k : Nat} {i : Nat} {o : AObj} (hk : l[k]? = some (i, o)) {q : Nat × AObj} {j : Nat} (hq : l[j]? = some q) (hj : j ≠ k) : q.1 ≠ i := by
  intro e
  have nd := W.nd
  rw [List.Nodup, List.pairwise_map, List.pairwise_iff_getElem] at nd
  obtain ⟨l1, e1⟩ := List.getElem?_eq_some_iff.1 hk
  obtain ⟨l2, e2⟩ := List.getElem?_eq_some_iff.1 hq
  rcases Nat.lt_or_gt_of_ne hj with hlt | hlt
  · exact nd j k l2 l1 hlt (by rw [e1, e2]; exact e)
  · exact nd k j l1 l2 hlt (by rw [e1, e2]; exact e.symm)

/-- One of the blocks is changed, all else that was there is as it was. -/
theorem Sto.chg (W : Sto h H l) (k : Nat) {i : Nat} {o o' : AObj} (hk : l[k]? = some (i, o)) {H' : Hp} (hn : H.next ≤ H'.next) (ho : ∀ j, j < H.next → j ≠ i → H'.get j = H.get j) (hi : H'.get i = some o') : Sto h H' (l.set k (i, o')) := by
  have hge := W.ge k hk
  have hlt := W.lt k hk
  refine ⟨⟨Nat.le_trans W.ext.next hn, fun j hj => (ho j (Nat.lt_of_lt_of_le hj W.ext.next) (by omega)).trans (W.ext.get j hj)⟩, fun p hp => ?_, ?_⟩
  · obtain ⟨j, hj⟩ := List.mem_iff_getElem?.1 hp
    rw [List.getElem?_set] at hj
    split at hj
    · split at hj
      · cases hj; exact ⟨hge, by omega, hi⟩
      · cases hj
    · rename_i hne
      have hids := W.ids hk hj (fun e => hne e.symm)
      obtain ⟨h1, h2, h3⟩ := W.mem hj
      exact ⟨h1, by omega, (ho _ h2 hids).trans h3⟩
  · have : (l.set k (i, o')).map (·.1) = l.map (·.1) := by
      rw [List.map_set]
      refine List.ext_getElem? fun q => ?_
      rw [List.getElem?_set]
      split
      · rename_i e
        subst e
        rw [List.getElem?_map, hk]
        split
        · rfl
        · rename_i hq
          have := (List.getElem?_eq_some_iff.1 hk).1
          simp only [List.length_map] at hq
          omega
      · rfl
    rw [this]
    exact W.nd

theorem Sto.put (W : Sto h H l) (k : Nat) {i : Nat} {o : AObj} (hk : l[k]? = some (i, o)) (o' : AObj) : Sto h (H.put i o') (l.set k (i, o')) :=
  W.chg k hk (Nat.le_refl _) (fun _ _ hj => Hp.get_put_ne hj) (get_put H i o')

/-- A call that leaves all as it was. -/
theorem Sto.call (W : Sto h H l) {H' : Hp} (X : H.Ext H') : Sto h H' l :=
  ⟨W.ext.trans X, fun p hp => by
    obtain ⟨h1, h2, h3⟩ := W.all p hp
    exact ⟨h1, Nat.lt_of_lt_of_le h2 X.next, (X.get _ h2).trans h3⟩, W.nd⟩

theorem Sto.sub (W : Sto h H l) {l' : List (Nat × AObj)} (hs : l'.Sublist l) : Sto h H l' :=
  ⟨W.ext, fun p hp => W.all p (hs.subset hp), W.nd.sublist (hs.map _)⟩

theorem Sto.perm (W : Sto h H l) {l' : List (Nat × AObj)} (hs : l.Perm l') : Sto h H l' :=
  ⟨W.ext, fun p hp => W.all p (hs.mem_iff.2 hp), (hs.map _).nodup_iff.1 W.nd⟩

/-- Only the first k. -/
theorem Sto.take (W : Sto h H l) (k : Nat) : Sto h H (l.take k) := W.sub (List.take_sublist k l)
theorem Sto.drop (W : Sto h H l) (k : Nat) : Sto h H (l.drop k) := W.sub (List.drop_sublist k l)

/-- What stands on what was there before: the blocks of an earlier part belong to the whole. -/
theorem Sto.over {g : Hp} {l' : List (Nat × AObj)} (W : Sto h g l) (V : Sto g H l') : Sto h H (l' ++ l) := by
  have W' := W.call V.ext
  refine ⟨W'.ext, fun p hp => ?_, ?_⟩
  · rcases List.mem_append.1 hp with hp | hp
    · obtain ⟨h1, h2, h3⟩ := V.all p hp
      exact ⟨Nat.le_trans W.ext.next h1, h2, h3⟩
    · exact W'.all p hp
  · rw [List.map_append, List.nodup_append]
    refine ⟨V.nd, W.nd, fun a ha b hb e => ?_⟩
    obtain ⟨p, hp, rfl⟩ := List.mem_map.1 ha
    obtain ⟨q, hq, rfl⟩ := List.mem_map.1 hb
    have h1 := (V.all p hp).1
    have h2 := (W.all q hq).2.1
    have e : p.1 = q.1 := e
    omega

/-- Two blocks of the list are not the same. -/
theorem Sto.ne (W : Sto h H l) (a b : Nat) {i j : Nat} {o o' : AObj} (ha : l[a]? = some (i, o)) (hb : l[b]? = some (j, o')) (hab : Nat.beq a b = false) : i ≠ j :=
  fun e => W.ids hb ha (fun e' => by subst e'; simp at hab) e

variable {Q : Value → Hp → Prop} {P : Program}

theorem ow_new (n : Nat) {t : SA} (W : Sto h H l) (o : AObj) (v : Nat → Value) (he : askR (goS n t) = some (v H.next, H.new o)) (hk : ∀ H', H'.next = H.next + 1 → Sto h H' ((H.next, o) :: l) → Ok Q (askK (goS n t) (v H.next) H')) : Ok Q t :=
  ok_go n (ok_ask he (hk _ rfl (W.new o)))

theorem ow_load (n k : Nat) {t : SA} (W : Sto h H l) {i off : Nat} {T : TypeId} {cs : List Value} {e : TypeId} {opn : Bool} {v : Value} (hk : l[k]? = some (i, .cells cs e opn)) (hv : cs[off]? = some v) (ha : isAggT P T = some false)
    (he : askR (goS n t) = (loadT P H T (ptr i off)).map (·, H)) (hq : Ok Q (askK (goS n t) v H)) : Ok Q t :=
  sy_load n he (load1 ha (W.get k hk) hv) hq

/-- The whole block, of more than one cell. -/
theorem ow_loadA (n k : Nat) {t : SA} (W : Sto h H l) {i z : Nat} {T : TypeId} {cs : List Value} {e : TypeId} {opn : Bool} (hk : l[k]? = some (i, .cells cs e opn)) (ha : isAggT P T = some true) (hs : sizeT P T = some z) (hz : takeN z cs = some cs)
    (he : askR (goS n t) = (loadT P H T (ptr i 0)).map (·, H)) (hq : Ok Q (askK (goS n t) (.agg cs.toArray) H)) : Ok Q t :=
  sy_load n he (v := .agg cs.toArray) (by simp only [loadT, ha, hs, loadN, W.get k hk, List.drop_zero, hz]) hq

theorem ow_store (n k : Nat) {t : SA} (W : Sto h H l) {i off : Nat} {T : TypeId} {cs : List Value} {e : TypeId} {opn : Bool} {v : Value} (hk : l[k]? = some (i, .cells cs e opn)) (ho : off < cs.length) (hs : sizeT P T = some 1) (hv : scalar v = true)
    (he : askR (goS n t) = (storeT P H T (ptr i off) v).map (undef, ·)) (hq : ∀ H', H'.next = H.next → Sto h H' (l.set k (i, .cells (cs.set off v) e opn)) → Ok Q (askK (goS n t) undef H')) : Ok Q t :=
  sy_store n he (store1 hs hv (W.get k hk) ho) (hq _ rfl (W.put k hk _))

theorem ow_storeA (n k : Nat) {t : SA} (W : Sto h H l) {i : Nat} {T : TypeId} {cs : List Value} {e : TypeId} {opn : Bool} {v : Value} (vs : List Value) (hk : l[k]? = some (i, .cells cs e opn)) (hc : v.cells.toList = vs) (hl : vs.length = cs.length) (hs : sizeT P T = some vs.length) (hv : vs.all scalar = true)
    (he : askR (goS n t) = (storeT P H T (ptr i 0) v).map (undef, ·)) (hq : ∀ H', H'.next = H.next → Sto h H' (l.set k (i, .cells vs e opn)) → Ok Q (askK (goS n t) undef H')) : Ok Q t := by
  refine sy_store n (h' := H.put i (.cells vs e opn)) he ?_ (hq _ rfl (W.put k hk _))
  have h1 : Nat.beq v.cells.size vs.length = true := by rw [← Array.length_toList, hc]; exact Nat.beq_refl _
  have h2 : Nat.ble (0 + vs.length) cs.length = true := by rw [Nat.zero_add, hl]; exact Nat.ble_eq_true_of_le (Nat.le_refl _)
  have h3 : splice cs 0 vs = vs := by
    unfold splice
    rw [List.take_zero, Nat.zero_add, List.nil_append, hl, List.drop_length, List.append_nil]
  simp only [ptr, storeT, hs, h1, hc, storeN, W.get k hk, h2, hv, h3]

theorem ow_loadF (n k : Nat) {t : SA} (W : Sto h H l) {i off N : Nat} {T : TypeId} {f : Nat → Value} {e : TypeId} {opn : Bool} (hk : l[k]? = some (i, .cells (cellsF N f) e opn)) (ho : off < N) (ha : isAggT P T = some false)
    (he : askR (goS n t) = (loadT P H T (ptr i off)).map (·, H)) (hq : Ok Q (askK (goS n t) (f off) H)) : Ok Q t :=
  sy_load n he (load1 ha (W.get k hk) (cellsF_get ho)) hq

theorem ow_storeF (n k : Nat) {t : SA} (W : Sto h H l) {i off N : Nat} {T : TypeId} {f : Nat → Value} {e : TypeId} {opn : Bool} {v : Value} (hk : l[k]? = some (i, .cells (cellsF N f) e opn)) (ho : off < N) (hs : sizeT P T = some 1) (hv : scalar v = true)
    (he : askR (goS n t) = (storeT P H T (ptr i off) v).map (undef, ·)) (hq : ∀ H', H'.next = H.next → Sto h H' (l.set k (i, .cells (cellsF N (updF f off v)) e opn)) → Ok Q (askK (goS n t) undef H')) : Ok Q t := by
  refine sy_store n he (store1 hs hv (W.get k hk) (by rw [cellsF_len]; exact ho)) (hq _ rfl ?_)
  rw [← cellsF_set]
  exact W.put k hk _

theorem ow_busy (n k : Nat) {t : SA} (W : Sto h H l) {i : Nat} {pd : Option Code} {fm : Fm} {ps : Array Tmp} {as b : Code} {d : Nat} (hk : l[k]? = some (i, .loop .ready pd fm ps as b d)) (he : askR (goS n t) = busyR i H)
    (hq : ∀ H', H'.next = H.next → Sto h H' (l.set k (i, .loop .busy pd fm ps as b d)) → Ok Q (askK (goS n t) undef H')) : Ok Q t :=
  sy_busy n he (W.get k hk) (hq _ rfl (W.put k hk _))

theorem ow_round (n k : Nat) {t : SA} (W : Sto h H l) {i : Nat} {st : LoopState} {pd : Option Code} {fm : Fm} {ps : Array Tmp} {as b : Code} {d : Nat} (hk : l[k]? = some (i, .loop st pd fm ps as b d)) (he : askR (goS n t) = roundR i .normal H)
    (hq : ∀ H', H'.next = H.next → Sto h H' (l.set k (i, .loop .ready none fm ps as b d)) → Ok Q (askK (goS n t) (.bool true) H')) : Ok Q t :=
  sy_round n he (W.get k hk) (hq _ rfl (W.put k hk _))

theorem ow_leave (n k : Nat) {t : SA} (ex : Ex) (W : Sto h H l) {i : Nat} {st : LoopState} {pd : Option Code} {fm : Fm} {ps : Array Tmp} {as b : Code} {d : Nat} (hk : l[k]? = some (i, .loop st pd fm ps as b d)) (he : askR (goS n t) = roundR i ex H) (hx : ex ≠ .normal)
    (hq : ∀ H', H'.next = H.next → Sto h H' (l.set k (i, .loop .done ex.code fm ps as b d)) → Ok Q (askK (goS n t) (.bool false) H')) : Ok Q t :=
  sy_leave n ex he hx (W.get k hk) (hq _ rfl (W.put k hk _))

/-- The marks at the end: all of them stand in the list. -/
theorem ow_marks (n : Nat) {t : SA} (ds : List Nat) {l' : List (Nat × AObj)} (W : Sto h H (ds.map (fun d => (d, .defd false)) ++ l')) (he : askR (goS n t) = (collectL (dsOf (marksV ds)) H).map (undef, ·))
    (hq : ∀ H', H'.next = H.next → Sto h H' l' → Ok Q (askK (goS n t) undef H')) : Ok Q t := by
  have nd := W.nd
  rw [List.map_append, List.nodup_append, List.map_map] at nd
  obtain ⟨n1, n2, n3⟩ := nd
  have hid : (ds.map ((fun p : Nat × AObj => p.1) ∘ fun d => (d, AObj.defd false))) = ds := by
    rw [show ((fun p : Nat × AObj => p.1) ∘ fun d => (d, AObj.defd false)) = id from rfl, List.map_id]
  rw [hid] at n1 n3
  have hd : ∀ d ∈ ds, h.next ≤ d ∧ d < H.next ∧ H.get d = some (.defd false) := fun d hd => W.all (d, .defd false) (List.mem_append_left _ (List.mem_map.2 ⟨d, hd, rfl⟩))
  refine sy_marks n ds he n1 (fun d h1 => (hd d h1).2.2) fun H' hn ho => hq H' hn ⟨⟨by rw [hn]; exact W.ext.next, fun j hj => ?_⟩, fun p hp => ?_, n2⟩
  · rw [ho j (fun hm => by have := (hd j hm).1; omega)]
    exact W.ext.get j hj
  · obtain ⟨h1, h2, h3⟩ := W.all p (List.mem_append_right _ hp)
    exact ⟨h1, by rw [hn]; exact h2, by rw [ho p.1 (fun hm => n3 p.1 hm p.1 (List.mem_map.2 ⟨p, hp, rfl⟩) rfl)]; exact h3⟩

/-! What stands in a list of blocks holds in a heap. -/

def Hold (H : Hp) (L : List (Nat × AObj)) : Prop := ∀ p ∈ L, p.1 < H.next ∧ H.get p.1 = some p.2

theorem Hold.ext {H' : Hp} {L : List (Nat × AObj)} (K : Hold H L) (X : H.Ext H') : Hold H' L := fun p hp => by
  obtain ⟨h1, h2⟩ := K p hp
  exact ⟨Nat.lt_of_lt_of_le h1 X.next, (X.get _ h1).trans h2⟩
theorem Hold.sub {L L' : List (Nat × AObj)} (K : Hold H L) (hs : ∀ p ∈ L', p ∈ L) : Hold H L' := fun p hp => K p (hs p hp)
theorem Sto.hold (W : Sto h H l) : Hold H l := fun p hp => (W.all p hp).2
/-- A part of the list, and what was there before. -/
theorem Sto.hold_old (W : Sto h H l) {L : List (Nat × AObj)} (K : Hold h L) : Hold H L := K.ext W.ext

/-- What a producer has made goes behind the first part of the list. -/
theorem Sto.into {a b L : List (Nat × AObj)} {H' : Hp} (W : Sto h H (a ++ b)) (V : Sto H H' L) : Sto h H' (a ++ (L ++ b)) := by
  refine (W.over V).perm ?_
  rw [← List.append_assoc, ← List.append_assoc]
  exact List.Perm.append_right b List.perm_append_comm

theorem Sto.kill {i : Nat} {o : AObj} (W : Sto h H (l ++ [(i, o)])) : Sto h (H.kill i) l := by
  have hp := W.all (i, o) (List.mem_append_right _ (List.mem_singleton.2 rfl))
  have nd := W.nd
  rw [List.map_append, List.nodup_append] at nd
  refine ⟨⟨W.ext.next, fun j hj => (Hp.get_kill_ne (by have := hp.1; dsimp only at this; omega)).trans (W.ext.get j hj)⟩, fun p hm => ?_, nd.1⟩
  obtain ⟨h1, h2, h3⟩ := W.all p (List.mem_append_left _ hm)
  have hne : p.1 ≠ i := nd.2.2 p.1 (List.mem_map.2 ⟨p, hm, rfl⟩) i (by simp)
  exact ⟨h1, h2, (Hp.get_kill_ne hne).trans h3⟩

/-! Slices that appends alone have made, of elements of z cells. -/

structure SlTz (P : Program) (t e : TypeId) (z : Nat) : Prop where
  u : P.underlying t = some (.slice e)
  s : sizeT P e = some z
  i : ∃ inf, P.info? e = some inf ∧ Nat.ble inf.bytes 4096 = true
  zr : ∃ v, zeroOf P e = some v ∧ Nat.beq v.cells.size z = true
  pos : 0 < z

def oslV (i n : Nat) : Value := match n with
  | 0 => .slice none 0 0
  | n + 1 => .slice (some ⟨i, 0, none⟩) (n + 1) (2 * (n + 1) + 1)
def oent (i : Nat) (e : TypeId) (zs : List Value) : List (Nat × AObj) := match zs with
  | [] => []
  | v :: r => [(i, .cells (v :: r) e true)]

theorem oslV_len (i n : Nat) : lenV (oslV i n) = some n := by cases n <;> rfl

theorem append_sto {t e : TypeId} {z n m i : Nat} {zs new : List Value} {x : Value} (W : Sto h H (l ++ oent i e zs)) (hT : SlTz P t e z) (hz : zs.length = n * z) (hnew : new.length = (m + 1) * z) (hx : lenV x = some (m + 1)) (hel : elems H z (m + 1) x = some new) (hall : new.all scalar = true) (hn : n + m < 16777215) :
    ∃ H', appendOp P H t (oslV i n) x = some (oslV H.next (n + (m + 1)), H') ∧ H'.next = H.next + 1 ∧ Sto h H' (l ++ oent H.next e (zs ++ new)) := by
  obtain ⟨inf, hi1, hi2⟩ := hT.i
  obtain ⟨zv, hz1, hz2⟩ := hT.zr
  have hpos := hT.pos
  have hnn : new ≠ [] := fun h0 => by
    rw [h0, List.length_nil] at hnew
    have : 0 < (m + 1) * z := Nat.mul_pos (Nat.succ_pos m) hpos
    omega
  cases n with
  | zero =>
    have hzs : zs = [] := List.eq_nil_of_length_eq_zero (by rw [hz]; omega)
    subst hzs
    have hb : Nat.ble (m + 1) most = true := Nat.ble_eq_true_of_le (by unfold most; omega)
    refine ⟨H.new (.cells new e true), ?_, rfl, ?_⟩
    · rw [Nat.zero_add]
      simp only [appendOp, hT.u, hT.s, hi1, hz1, hx, hel, hz2, hi2, hall, oslV, hb]
    · have W1 := W.new (.cells new e true)
      simp only [oent, List.append_nil] at W1
      cases new with
      | nil => exact absurd rfl hnn
      | cons v r => exact W1.perm (by simp only [List.nil_append, oent]; exact (List.perm_append_comm (l₁ := [(H.next, AObj.cells (v :: r) e true)]) (l₂ := l)))
  | succ n =>
    cases zs with
    | nil =>
      have : 0 < (n + 1) * z := Nat.mul_pos (Nat.succ_pos n) hpos
      simp only [List.length_nil] at hz
      omega
    | cons v r =>
      simp only [oent] at W
      have hgi : H.get i = some (.cells (v :: r) e true) := (W.all (i, .cells (v :: r) e true) (List.mem_append_right _ (List.mem_singleton.2 rfl))).2.2
      have h1 : Nat.ble (n + 1 + (m + 1)) most = true := Nat.ble_eq_true_of_le (by unfold most; omega)
      have h2 : Nat.ble (n + 1 + (m + 1)) ((2 * (n + 1) + 1) / 2) = false := by
        cases hb : Nat.ble (n + 1 + (m + 1)) ((2 * (n + 1) + 1) / 2) with
        | false => rfl
        | true => have := Nat.le_of_ble_eq_true hb; omega
      have h3 : loadN H i 0 ((n + 1) * z) = some (v :: r) := by
        simp only [loadN, hgi, List.drop_zero]
        rw [← hz]
        exact takeN_all _
      have h4 : Nat.beq ((2 * (n + 1) + 1) % 2) 0 = false := by
        rw [show (2 * (n + 1) + 1) % 2 = 1 by omega]
        rfl
      have h5 : (Nat.beq e e && Nat.beq (v :: r).length ((2 * (n + 1) + 1) / 2 * z)) = true := by
        rw [show (2 * (n + 1) + 1) / 2 = n + 1 by omega, hz, Nat.beq_refl, Nat.beq_refl]
        rfl
      have h6 : Nat.beq 0 0 = true := rfl
      have hk : (H.kill i).next = H.next := rfl
      refine ⟨(H.kill i).new (.cells ((v :: r) ++ new) e true), ?_, rfl, ?_⟩
      · simp only [appendOp, hT.u, hT.s, hi1, hz1, hx, hel, hz2, hi2, hall, oslV, h1, h2, h3, h4, hgi, h5, h6]
        rfl
      · exact (W.kill.new (.cells ((v :: r) ++ new) e true)).perm (by simp only [oent, List.cons_append, hk]; exact (List.perm_append_comm (l₁ := [(H.next, AObj.cells (v :: (r ++ new)) e true)]) (l₂ := l)))

/-- One element more, out of a block that was built for it. -/
theorem ow_app {t e : TypeId} {z c i j : Nat} (n : Nat) {s : SA} {zs new : List Value} (W : Sto h H ((j, .cells new e false) :: (l ++ oent i e zs))) (hT : SlTz P t e z) (hz : zs.length = c * z) (hnew : new.length = z) (hall : new.all scalar = true) (hn : c < 16777215)
    (he : askR (goS n s) = appendOp P H t (oslV i c) (.slice (some ⟨j, 0, none⟩) 1 2)) (hq : ∀ H' sl, H'.next = H.next + 1 → sl = oslV H.next (c + 1) → scalar sl = true → Sto h H' (l ++ oent H.next e (zs ++ new)) → Ok Q (askK (goS n s) sl H')) : Ok Q s := by
  have hj : H.get j = some (.cells new e false) := W.get 0 rfl
  have hp := hT.pos
  obtain ⟨H', e1, e2, W'⟩ := append_sto (P := P) (t := t) (x := .slice (some ⟨j, 0, none⟩) 1 2) (m := 0) (W.sub (List.sublist_cons_self ..)) hT hz (by rw [hnew]; omega) rfl (by
    simp only [elems, Nat.zero_add, Nat.one_mul, loadN, hj, List.drop_zero]
    rw [← hnew]
    exact takeN_all _) hall (by omega)
  exact sy_call n (he.trans e1) rfl (hq H' _ e2 rfl rfl W')

/-- Reading such a slice. -/
theorem osl_rd {e : TypeId} {i : Nat} {zs : List Value} (hm : ∀ p ∈ oent i e zs, p.1 < H.next ∧ H.get p.1 = some p.2) : Rds H (oslV i zs.length) zs := by
  cases zs with
  | nil => exact .inl ⟨⟨none, rfl⟩, rfl⟩
  | cons v r =>
    obtain ⟨h1, h2⟩ := hm (i, .cells (v :: r) e true) (List.mem_singleton.2 rfl)
    exact .inr ⟨i, 0, _, rfl, fun _ => ⟨h1, by unfold loadN; rw [h2]; exact takeN_all _⟩⟩

/-! What a region's drawn reads come to. -/
theorem ob_load {i off k : Nat} {T : TypeId} {cs : List Value} {e : TypeId} {opn : Bool} {v : Value} (W : Sto h H l) (hk : l[k]? = some (i, .cells cs e opn)) (hv : cs[off]? = some v) (ha : isAggT P T = some false) : (loadT P H T (ptr i off)).map (·, H) = some (v, H) := by
  rw [load1 ha (W.get k hk) hv]; rfl
theorem ob_loadA {i k z : Nat} {T : TypeId} {cs : List Value} {e : TypeId} {opn : Bool} (W : Sto h H l) (hk : l[k]? = some (i, .cells cs e opn)) (ha : isAggT P T = some true) (hs : sizeT P T = some z) (hz : takeN z cs = some cs) : (loadT P H T (ptr i 0)).map (·, H) = some (.agg cs.toArray, H) := by
  simp only [loadT, ha, hs, loadN, W.get k hk, List.drop_zero, hz, Option.map_some]

theorem idxS0 {t e : TypeId} {k i len cap : Nat} {kd : IntKind} (hu : P.underlying t = some (.slice e)) (hs : sizeT P e = some 1) (hk : k < len) : indexAddrOp P t (.slice (some ⟨i, 0, none⟩) len cap) (.int kd (Int.ofNat k)) = some (ptr i k) := by
  rw [idxSl hu hs hk, Nat.zero_add, Nat.mul_one]

theorem idxA0 {t e : TypeId} {n k i : Nat} {kd : IntKind} (hu : P.underlying t = some (.array n e)) (hs : sizeT P e = some 1) (hk : k < n) : indexAddrOp P t (ptr i 0) (.int kd (Int.ofNat k)) = some (ptr i k) := by
  rw [idxArr hu hs hk, Nat.zero_add, Nat.mul_one]

theorem sc_cons {v : Value} {r : List Value} (h1 : scalar v = true) (h2 : r.all scalar = true) : (v :: r).all scalar = true := by
  rw [List.all_cons, h1, h2]; rfl

/-- A range over a function, by the list of blocks. -/
theorem ow_range (n : Nat) {t : SA} {callF : CallF} {lf m : Nat} (c : RC) (W : Sto h H l) (vals : List (Nat × Value)) (g : FuncId) (args : List Value) (hp : rngP (goS n t) = some (⟨none, true⟩, m))
    (hR : ∀ F, rngR (goS n t) F = exR (evC callF P lf c.code F H)) (hv : Has (rngF (goS n t)) vals) (ht : okOpd P c.g = true)
    (htg : target (oev (rngF (goS n t)) c.g) [.func (.yield (H.next + 1)) #[] #[]] = some (.fn g args))
    (hk : ∀ F f HH, Rel ⟨none, true⟩ m F (upds f vals) → HH.next = H.next + 2 → Sto h HH ((H.next + 1, c.obj F H.next .ready none) :: (H.next, .defd false) :: l) →
      ∃ v h3 st pd d e l3, callF (.fn g args) HH = some (v, h3) ∧ Sto h h3 ((H.next + 1, c.obj F d st pd) :: l3) ∧ st ≠ .busy ∧ endPending pd = some e ∧ ∀ H', H'.next = h3.next → Sto h H' l3 → Ok Q (rngK (goS n t) e H')) : Ok Q t := by
  refine sy_range n c H vals g args hp hR hv ht htg fun F f hr => ?_
  have W1 : Sto h (c.heap F H) ((H.next + 1, c.obj F H.next .ready none) :: (H.next, .defd false) :: l) := (W.new (.defd false)).new (c.obj F H.next .ready none)
  obtain ⟨v, h3, st, pd, d, e, l3, e1, W3, e2, e3, hq⟩ := hk F f (c.heap F H) hr rfl W1
  exact ⟨v, h3, st, pd, d, e, e1, W3.get 0 rfl, e2, e3, hq _ rfl ((W3.put 0 rfl _).drop 1)⟩

/-- A new block and what is stored into it at once. -/
theorem ow_var (n : Nat) {t : SA} (W : Sto h H l) {T : TypeId} {cs : List Value} {e : TypeId} {v : Value} (vs : List Value) (hc : v.cells.toList = vs) (hl : vs.length = cs.length) (hs : sizeT P T = some vs.length) (hv : vs.all scalar = true)
    (he : askR (goS n t) = (storeT P (H.new (.cells cs e false)) T (ptr H.next 0) v).map (undef, ·)) (hq : ∀ H', H'.next = H.next + 1 → Sto h H' ((H.next, .cells vs e false) :: l) → Ok Q (askK (goS n t) undef H')) : Ok Q t :=
  ow_storeA n 0 (W.new (.cells cs e false)) vs rfl hc hl hs hv he fun H' hn W' => hq H' hn W'

/-- Some of the blocks, by their places. -/
theorem Sto.pick (W : Sto h H l) (ks : List Nat) (hk : ks.Nodup) : Sto h H (ks.filterMap fun k => l[k]?) := by
  refine ⟨W.ext, fun p hp => ?_, ?_⟩
  · obtain ⟨k, _, e⟩ := List.mem_filterMap.1 hp
    exact W.mem e
  · rw [List.Nodup, List.pairwise_map, List.pairwise_filterMap]
    exact hk.imp fun {a b} hab p hp q hq => W.ids hq hp hab

end
end Go.Eng
