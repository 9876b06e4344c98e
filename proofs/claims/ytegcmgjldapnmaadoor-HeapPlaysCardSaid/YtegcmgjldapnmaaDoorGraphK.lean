/- GraphK: contracts of functions. -/
import Derived.Test.YtegcmgjldapnmaaDoorProg
import Derived.KernelRfl
import Derived.Test.YtegcmgjldapnmaaDoorSyB
import Derived.Test.YtegcmgjldapnmaaDoorSyD
import Derived.ChangeSlices
import Derived.ChangeArms
import Derived.Test.YtegcmgjldapnmaaDoorGraphA
namespace Go.Proofs.YtegcmgjldapnmaaDoor
open Go Go.Eng Nim Go.ChangeShapes
set_option maxRecDepth 100000
section
variable {HH : Type} {enc : TypeId × Value → HH} {B : Prot} {w0 w : World}
theorem cell_block {w : World} {a : Addr} {v : Value} (h : w.cell? a = some v) : ∃ arr e fz, w.heap[a.block]? = some (.cells arr e fz) ∧ a.spot = none ∧ arr[a.off]? = some v := by
  unfold World.cell? at h
  split at h
  · rename_i c e fz hb
    split at h
    · cases h
    · rename_i hs
      refine ⟨c, e, fz, hb, ?_, h⟩
      cases hq : a.spot with
      | none => rfl
      | some q => rw [hq] at hs; simp at hs
  · cases h
theorem add_spot {a : Addr} (h : a.spot = none) (i : Nat) : a.add i = ⟨a.block, a.off + i, none⟩ := by
  obtain ⟨b, o, s⟩ := a
  simp only at h
  subst h
  unfold Addr.add
  split
  · rename_i h0; subst h0; rfl
  · rfl
/-- A slice in memory, as the evaluator sees it: the cells one by one. -/
theorem openCells {E : Env} {h : Hp} (H : HpOK Tryd.prog B w0 E h w) (hB : ∀ k, k < w.heap.size → B.ro k) {a : Addr} {len cap : Nat} (cs : List Value) (hl : cs.length = len) (hc0 : 0 < cap → a.spot = none)
    (hlc : len ≤ cap) (hcell : ∀ i v, cs[i]? = some v → w.cell? (a.add i) = some (con E v)) (hs : scL h.next cs = true) (h1 : ∀ v ∈ cs, scalar v = true) :
    ∃ E' h' v, HpOK Tryd.prog B w0 E' h' w ∧ Agree h.next E E' ∧ h.Ext h' ∧ con E' v = .slice (some a) len cap ∧ sc h'.next v = true ∧ Rds h' v cs ∧ scalar v = true := by
  subst hl
  cases cs with
  | nil =>
    refine ⟨E.ext h.next a.block 0, ⟨h.objs, h.next + 1⟩, .slice (some ⟨h.next, a.off, a.spot⟩) 0 (2 * cap), H.bump a.block, Env.ext_agree _ _ _ _, ⟨Nat.le_succ _, fun j _ => rfl⟩, ?_, by simp [sc], ?_, rfl⟩
    · obtain ⟨b, o, s⟩ := a
      cases s with
      | none => simp [con, conCap]
      | some q =>
        have hc : cap = 0 := Nat.eq_zero_of_not_pos fun hp => by have := hc0 hp; simp at this
        subst hc
        simp [con, conCap, conOff, conSpot]
    · cases hsp : a.spot with
      | none => exact .inr ⟨h.next, a.off, _, rfl, fun hn => absurd rfl hn⟩
      | some q =>
        have hc : cap = 0 := Nat.eq_zero_of_not_pos fun hp => by have := hc0 hp; rw [hsp] at this; cases this
        subst hc
        exact .inl ⟨⟨_, rfl⟩, rfl⟩
  | cons v r =>
    have h0 := hcell 0 v rfl
    have hsp : a.spot = none := hc0 (by simp at hlc; omega)
    obtain ⟨arr, e, fz, hb, _, ha⟩ := cell_block h0
    rw [add_spot hsp] at ha hb
    have ha0 : a.off + 0 < arr.size := (Array.getElem?_eq_some_iff.1 ha).1
    have hR := H.newRo (m := a.block) (off := a.off) (cs := v :: r) (hB _ (Array.getElem?_eq_some_iff.1 hb).1) hb (by omega) (fun i u hu => by
      have hi := hcell i u hu
      obtain ⟨arr', e', fz', hb', _, ha'⟩ := cell_block hi
      rw [add_spot hsp] at hb' ha'
      rw [hb] at hb'
      cases hb'
      exact ha') hs h1
    refine ⟨_, _, .slice (some ⟨h.next, a.off, none⟩) (r.length + 1) (2 * cap), hR, Env.ext_agree _ _ _ _, Hp.Ext.new _ _, ?_, by simp [sc, Hp.new], .inr ⟨h.next, a.off, _, rfl, fun _ => ⟨Nat.lt_succ_self _, ?_⟩⟩, rfl⟩
    · obtain ⟨b, o, s⟩ := a
      simp only at hsp
      subst hsp
      simp [con, conCap]
    · unfold loadN
      rw [get_new]
      have hble : Nat.ble a.off a.off = true := Nat.ble_eq_true_of_le (Nat.le_refl _)
      simp only [hble, Nat.sub_self, List.drop_zero]
      exact takeN_all (v :: r)
theorem openInts {E : Env} {h : Hp} (H : HpOK Tryd.prog B w0 E h w) (hB : ∀ k, k < w.heap.size → B.ro k) {fuel : Nat} {c : Value} {x : DataW HH × List MemPlace}
    (ht : DataW.trod enc Tryd.prog w 0 (fun _ => true) true fuel 32 [c] = some x) :
    ∃ (E' : Env) (h' : Hp) (v : Value) (r : List Int), HpOK Tryd.prog B w0 E' h' w ∧ Agree h.next E E' ∧ h.Ext h' ∧ con E' v = c ∧ sc h'.next v = true ∧ Rds h' v (r.map I) ∧ scalar v = true ∧ r.length < 2 ^ 63 := by
  rcases open_ints (k := .i64) u32 (by kernel_rfl) (by kernel_rfl) ht with ⟨hc, _⟩ | ⟨a, len, cap, zs, hc, _, hlc, hcm, hzl, _, hcell, hwf⟩
  · simp only [List.cons.injEq, and_true] at hc
    subst hc
    exact ⟨E, h, .slice none 0 0, [], H, Agree.refl _ _, Hp.Ext.refl _, by simp [con], rfl, .inl ⟨⟨none, rfl⟩, rfl⟩, rfl, by decide⟩
  · simp only [List.cons.injEq, and_true] at hc
    subst hc
    simp only [if_true] at hzl
    obtain ⟨E', h', v, k1, k2, k3, k4, k5, k6, k7⟩ := openCells H hB (a := a) (len := len) (cap := cap) ((zs.take len).map I) (by simp; omega) (fun hp => by
        have := hcell 0 (by omega)
        obtain ⟨_, _, _, _, h2, _⟩ := cell_block this
        unfold Addr.add at h2
        simpa using h2) hlc (fun i v hv => by
        have hil : i < len ∧ i < zs.length := by
          have := (List.getElem?_eq_some_iff.1 hv).1
          simp at this
          exact ⟨by omega, by omega⟩
        have := hcell i hil.2
        rw [this]
        rw [List.getElem?_map, List.getElem?_take, if_pos hil.1, List.getElem?_eq_getElem hil.2] at hv
        simp only [Option.map_some, Option.some.injEq] at hv
        subst hv
        rw [List.getD_eq_getElem?_getD, List.getElem?_eq_getElem hil.2]
        simp [con]) (by rw [scL_iff]; intro v hv; obtain ⟨z, _, rfl⟩ := List.mem_map.1 hv; rfl) (fun v hv => by obtain ⟨z, _, rfl⟩ := List.mem_map.1 hv; rfl)
    refine ⟨E', h', v, zs.take len, k1, k2, k3, k4, k5, k6, k7, ?_⟩
    have : maxLen = 2 ^ 63 - 1 := rfl
    rw [List.length_take]
    omega
/-- Rows, one after the other. -/
theorem openRows (hB : ∀ k, k < w.heap.size → B.ro k) : ∀ (cs : List Value) {E : Env} {h : Hp} (_ : HpOK Tryd.prog B w0 E h w), (∀ c ∈ cs, ∃ (fuel : Nat) (x : DataW HH × List MemPlace), DataW.trod enc Tryd.prog w 0 (fun _ => true) true fuel 32 [c] = some x) →
    ∃ (E' : Env) (h' : Hp) (vs : List Value) (R : List (List Int)), HpOK Tryd.prog B w0 E' h' w ∧ Agree h.next E E' ∧ h.Ext h' ∧ vs.length = cs.length ∧ R.length = cs.length ∧ (∀ (i : Nat) (v : Value), vs[i]? = some v → some (con E' v) = cs[i]? ∧ sc h'.next v = true ∧ scalar v = true) ∧
      (∀ (i : Nat) (r : List Int), R[i]? = some r → ∃ rv, vs[i]? = some rv ∧ Rds h' rv (r.map I)) ∧ ∀ r ∈ R, r.length < 2 ^ 63
  | [], E, h, H, _ => ⟨E, h, [], [], H, Agree.refl _ _, Hp.Ext.refl _, rfl, rfl, fun i v hv => (by simp at hv), fun i r hr => (by simp at hr), fun r hr => (by cases hr)⟩
  | c :: cs, E, h, H, hc => by
    obtain ⟨fuel, x, ht⟩ := hc c (by simp)
    obtain ⟨E1, h1, v, r, j1, j2, j3, j4, j5, j6, j7, j8⟩ := openInts H hB ht
    obtain ⟨E2, h2, vs, R, k1, k2, k3, k4, k5, k6, k7, k8⟩ := openRows hB cs j1 fun d hd => hc d (by simp [hd])
    refine ⟨E2, h2, v :: vs, r :: R, k1, j2.trans k2 j3.next, j3.trans k3, by simp [k4], by simp [k5], fun i u hu => ?_, fun i s hs => ?_, fun s hs => ?_⟩
    · cases i with
      | zero =>
        simp only [List.getElem?_cons_zero, Option.some.injEq] at hu
        subst hu
        exact ⟨by rw [← con_congr k2 v j5, j4]; rfl, sc_mono k3.next v j5, j7⟩
      | succ i =>
        simp only [List.getElem?_cons_succ] at hu ⊢
        exact k6 i u hu
    · cases i with
      | zero =>
        simp only [List.getElem?_cons_zero, Option.some.injEq] at hs
        subst hs
        exact ⟨v, rfl, j6.ext k3⟩
      | succ i =>
        simp only [List.getElem?_cons_succ] at hs ⊢
        exact k7 i s hs
    · rcases List.mem_cons.1 hs with rfl | hs
      · exact j8
      · exact k8 s hs
theorem openRowsArg {E : Env} {h : Hp} (H : HpOK Tryd.prog B w0 E h w) (hB : ∀ k, k < w.heap.size → B.ro k) {v0 : Value} {base : Nat} {d : DataW HH} {p : List MemPlace} (hval : Value.okWide Tryd.prog w .any base 31 v0)
    (ht : DataW.Trod enc Tryd.prog w 0 (fun _ => true) true 31 v0 d p) :
    ∃ (E' : Env) (h' : Hp) (v : Value) (g : List (List Int)), HpOK Tryd.prog B w0 E' h' w ∧ Agree h.next E E' ∧ h.Ext h' ∧ con E' v = v0 ∧ sc h'.next v = true ∧ Gr h' v g ∧ g.length < 2 ^ 63 ∧ ∀ r ∈ g, r.length < 2 ^ 63 := by
  obtain ⟨fuel, ht⟩ := ht
  have hsl : ∃ a l c, v0 = .slice a l c := by
    unfold Value.okWide at hval
    rw [u31] at hval
    simp only [Cell.okWide, u31, Cell.ok] at hval
    cases v0 <;> first | exact ⟨_, _, _, rfl⟩ | simp at hval
  obtain ⟨a0, l0, c0, rfl⟩ := hsl
  have hcells : (Value.slice a0 l0 c0).cells.toList = [.slice a0 l0 c0] := rfl
  rw [hcells] at ht
  have hm : maxLen = 2 ^ 63 - 1 := rfl
  have hco : Tryd.prog.cellsOf 32 = 1 := by kernel_rfl
  rcases DataW.trod_slice u31 ht with ⟨hc, _⟩ | ⟨a, len, cap, el, rest, n, rfl, hc, _, _, hlc, hcm, hel, hrow, hsp, _⟩
  · simp only [List.cons.injEq, and_true] at hc
    rw [hc]
    exact ⟨E, h, .slice none 0 0, [], H, Agree.refl _ _, Hp.Ext.refl _, by simp [con], rfl, ⟨[], .inl ⟨⟨none, rfl⟩, rfl⟩, rfl, fun i r hr => by simp at hr⟩, by decide, fun r hr => by cases hr⟩
  · simp only [List.cons.injEq, and_true] at hc
    rw [hc]
    have hr : ∀ i, i < len → ∃ c, w.cell? (a.add i) = some c ∧ ∃ x, DataW.trod enc Tryd.prog w 0 (fun _ => true) true n 32 [c] = some x := by
      intro i hi
      have h1 := hrow i hi
      rw [List.getElem?_eq_getElem (by omega), hco, Nat.mul_one, Option.bind_eq_some_iff] at h1
      obtain ⟨cs, h2, h3⟩ := h1
      have h4 : cs.length = 1 := (World.cells?_some h2).2.1
      obtain ⟨c, rfl⟩ := List.length_eq_one_iff.1 h4
      exact ⟨c, cell_of_cells?_one h2, _, h3⟩
    have hcs : ∃ cs : List Value, cs.length = len ∧ ∀ i (v : Value), cs[i]? = some v → w.cell? (a.add i) = some v ∧ ∃ x, DataW.trod enc Tryd.prog w 0 (fun _ => true) true n 32 [v] = some x := by
      refine ⟨(List.range len).map fun i => (w.cell? (a.add i)).getD Go.undef, by simp, fun i v hv => ?_⟩
      have hi : i < len := by
        have := (List.getElem?_eq_some_iff.1 hv).1
        simpa using this
      obtain ⟨c, h1, h2⟩ := hr i hi
      rw [List.getElem?_map, List.getElem?_range hi] at hv
      simp only [Option.map_some, Option.some.injEq, h1, Option.getD_some] at hv
      subst hv
      exact ⟨h1, h2⟩
    obtain ⟨cs, hl, hcs⟩ := hcs
    obtain ⟨E1, h1, vs, R, k1, k2, k3, k4, k5, k6, k7, k8⟩ := openRows (w0 := w0) hB cs H fun c hc => by
      obtain ⟨i, hi, rfl⟩ := List.getElem_of_mem hc
      obtain ⟨_, x, hx⟩ := hcs i _ (List.getElem?_eq_getElem hi)
      exact ⟨n, x, hx⟩
    obtain ⟨E2, h2, v, q1, q2, q3, q4, q5, q6, _⟩ := openCells k1 hB (a := a) (len := len) (cap := cap) vs (by omega) (fun hp => by
        have h5 := (hsp rfl)
        by_cases hl0 : 0 < len
        · obtain ⟨c, h6, _⟩ := hr 0 hl0
          obtain ⟨_, _, _, _, h7, _⟩ := cell_block h6
          unfold Addr.add at h7
          simpa using h7
        · have h6 := h5.2 0 (by omega)
          have hr0 : rest[0]? = some (rest[0]'(by omega)) := List.getElem?_eq_getElem (by omega)
          rw [hr0, hco, Option.bind_eq_some_iff] at h6
          obtain ⟨cs', h7, _⟩ := h6
          obtain ⟨c', rfl⟩ := List.length_eq_one_iff.1 (World.cells?_some h7).2.1
          have h8 := cell_of_cells?_one h7
          obtain ⟨_, _, _, _, h9, _⟩ := cell_block h8
          have : (len + 0) * 1 = 0 := by omega
          rw [this] at h9
          unfold Addr.add at h9
          simpa using h9) hlc (fun i u hu => by
        obtain ⟨e1, _, _⟩ := k6 i u hu
        rw [(hcs i _ e1.symm).1]) (by
          rw [scL_iff]
          intro u hu
          obtain ⟨i, hi, rfl⟩ := List.getElem_of_mem hu
          exact (k6 i _ (List.getElem?_eq_getElem hi)).2.1) (fun u hu => by
          obtain ⟨i, hi, rfl⟩ := List.getElem_of_mem hu
          exact (k6 i _ (List.getElem?_eq_getElem hi)).2.2)
    refine ⟨E2, h2, v, R, q1, k2.trans q2 k3.next, k3.trans q3, q4, q5, ⟨vs, q6, by omega, fun i r hr => ?_⟩, by omega, k8⟩
    obtain ⟨rv, e1, e2⟩ := k7 i r hr
    exact ⟨rv, e1, e2.ext q3⟩
end
end Go.Proofs.YtegcmgjldapnmaaDoor
