/- A slice of ints that is an argument, as the evaluator sees it: a window that is read alone, and what a part of it is. -/
import Derived.Test.YtnfboopfpkaeaaaProg
import Derived.KernelRfl
import Derived.Test.YtnfboopfpkaeaaaSyB
import Derived.Test.YtnfboopfpkaeaaaSyD
import Derived.ChangeSlices
import Derived.ChangeArms
import Derived.Test.YtnfboopfpkaeaaaEngN
import Derived.Test.YtnfboopfpkaeaaaRefC
namespace Go.Proofs.Ytnfboopfpkaeaaa
open Go Go.Eng Nim Go.ChangeShapes
set_option maxRecDepth 100000
section
variable {HH : Type} {enc : TypeId × Value → HH} {B : Prot} {w0 w : World}
theorem cell_block {w : World} {a : Addr} {v : Value} (h : w.cell? a = some v) : ∃ arr e fz, w.heap[a.block]? = some (.cells arr e fz) ∧ a.spot = none ∧ arr[a.off]? = some v := by
  unfold World.cell? at h
  split at h
  · rename_i c e fz hb
    split at h
    · cases h
    · rename_i hs
      refine ⟨c, e, fz, hb, ?_, h⟩
      cases hq : a.spot with
      | none => rfl
      | some q => rw [hq] at hs; simp at hs
  · cases h
theorem add_spot {a : Addr} (h : a.spot = none) (i : Nat) : a.add i = ⟨a.block, a.off + i, none⟩ := by
  obtain ⟨b, o, s⟩ := a
  simp only at h
  subst h
  unfold Addr.add
  split
  · rename_i h0; subst h0; rfl
  · rfl
theorem takeN_take : ∀ {n : Nat} {l : List Value} {r : List Value}, takeN n l = some r → ∀ k, k ≤ n → takeN k l = some (r.take k)
  | _, _, _, _, 0, _ => by simp [takeN]
  | 0, _, _, _, k + 1, hk => absurd hk (by omega)
  | n + 1, [], _, h, k + 1, _ => by simp [takeN] at h
  | n + 1, v :: l, r, h, k + 1, hk => by
    unfold takeN at h
    split at h
    · rename_i l' hl'
      cases h
      unfold takeN
      rw [takeN_take hl' k (by omega)]
      rfl
    · cases h
/-- The value of a part from the beginning. -/
theorem slice_val {i off len cap K : Nat} (h : K ≤ cap) : ∃ c, sliceOp Try.prog 50 (.slice (some ⟨i, off, none⟩) len (2 * cap)) none (some (J K)) none = some (.slice (some ⟨i, off, none⟩) K c) := by
  have hd : 2 * cap / 2 = cap := by omega
  have hm : 2 * cap % 2 = 0 := by omega
  have hs : sizeT Try.prog 3 = some 1 := zI
  simp only [sliceOp, uI, hs, sliceV, hd, hm, Go.Eng.bound, Option.isSome_none, show natOf (J K) = some K from rfl, Bool.false_eq_true, if_false, Nat.ble_eq_true_of_le h, Nat.ble_eq_true_of_le (Nat.zero_le cap), show Nat.beq 0 1 = false from rfl, Bool.false_and]
  cases hb : Nat.beq cap 0
  · exact ⟨2 * cap, by simp⟩
  · exact ⟨0, by simp⟩
theorem openInts {E : Env} {h : Hp} (H : HpOK Try.prog B w0 E h w) (hB : ∀ k, k < w.heap.size → B.ro k) {fuel : Nat} {c : Value} {x : DataW HH × List MemPlace}
    (ht : DataW.trod enc Try.prog w 0 (fun _ => true) true fuel 50 [c] = some x) :
    ∃ (E' : Env) (h' : Hp) (va : Option Addr) (vc : Nat) (r : List Int), HpOK Try.prog B w0 E' h' w ∧ con E' (.slice va r.length vc) = c ∧ sc h'.next (.slice va r.length vc) = true ∧ r.length < 2 ^ 63 ∧ Rds h' (.slice va r.length vc) (r.map I) ∧
      ((va = none ∧ r = [] ∧ vc = 0) ∨ ∃ a, va = some a ∧ ∀ K, K ≤ r.length → ∃ y, sliceOp Try.prog 50 (.slice (some a) r.length vc) none (some (J K)) none = some y ∧ Rds h' y ((r.take K).map I)) := by
  rcases open_ints (k := .i64) uI (by kernel_rfl) (by kernel_rfl) ht with ⟨hc, _⟩ | ⟨a, len, cap, zs, hc, _, hlc, hcm, hzl, _, hcell, hwf⟩
  · simp only [List.cons.injEq, and_true] at hc
    subst hc
    exact ⟨E, h, none, 0, [], H, by simp [con], rfl, by decide, .inl ⟨⟨none, rfl⟩, rfl⟩, .inl ⟨rfl, rfl, rfl⟩⟩
  · simp only [List.cons.injEq, and_true] at hc
    subst hc
    simp only [if_true] at hzl
    have hspot : 0 < cap → a.spot = none := fun hp => by
      have := hcell 0 (by omega)
      obtain ⟨_, _, _, _, h2, _⟩ := cell_block this
      unfold Addr.add at h2
      simpa using h2
    have hcl : ∀ i (v : Value), ((zs.take len).map I)[i]? = some v → w.cell? (a.add i) = some (con E v) := fun i v hv => by
      have hil : i < len ∧ i < zs.length := by
        have := (List.getElem?_eq_some_iff.1 hv).1
        simp at this
        exact ⟨by omega, by omega⟩
      have := hcell i hil.2
      rw [this]
      rw [List.getElem?_map, List.getElem?_take, if_pos hil.1, List.getElem?_eq_getElem hil.2] at hv
      simp only [Option.map_some, Option.some.injEq] at hv
      subst hv
      rw [List.getD_eq_getElem?_getD, List.getElem?_eq_getElem hil.2]
      simp [con]
    have hm : maxLen = 2 ^ 63 - 1 := rfl
    have hlr : (zs.take len).length = len := by rw [List.length_take]; omega
    generalize zs.take len = r at hcl hlr
    subst hlr
    cases r with
    | nil =>
      refine ⟨E.ext h.next a.block 0, ⟨h.objs, h.next + 1⟩, some ⟨h.next, a.off, a.spot⟩, 2 * cap, [], H.bump a.block, ?_, by simp [sc], by decide, ?_, .inr ⟨_, rfl, fun K hK => ?_⟩⟩
      · obtain ⟨b, o, s⟩ := a
        cases s with
        | none => simp [con, conCap]
        | some q =>
          have hc : cap = 0 := Nat.eq_zero_of_not_pos fun hp => by have := hspot hp; simp at this
          subst hc
          simp [con, conCap, conOff, conSpot]
      · cases hsp : a.spot with
        | none => exact .inr ⟨h.next, a.off, _, rfl, fun hn => absurd rfl hn⟩
        | some q =>
          have hc : cap = 0 := Nat.eq_zero_of_not_pos fun hp => by have := hspot hp; rw [hsp] at this; cases this
          subst hc
          exact .inl ⟨⟨_, rfl⟩, rfl⟩
      · obtain rfl : K = 0 := by simpa using hK
        cases hsp : a.spot with
        | none =>
          obtain ⟨c, e⟩ := slice_val (i := h.next) (off := a.off) (len := 0) (Nat.zero_le cap)
          exact ⟨_, e, .inr ⟨h.next, a.off, _, rfl, fun hn => absurd rfl hn⟩⟩
        | some q =>
          have hc : cap = 0 := Nat.eq_zero_of_not_pos fun hp => by have := hspot hp; rw [hsp] at this; cases this
          subst hc
          exact ⟨.slice (some ⟨h.next, a.off, some q⟩) 0 0, by kernel_rfl, .inl ⟨⟨_, rfl⟩, rfl⟩⟩
    | cons v r =>
      have h0 := hcl 0 (I v) rfl
      have hsp : a.spot = none := hspot (by simp at hlc; omega)
      obtain ⟨arr, e, fz, hb, _, ha⟩ := cell_block h0
      rw [add_spot hsp] at ha hb
      have ha0 : a.off + 0 < arr.size := (Array.getElem?_eq_some_iff.1 ha).1
      have hall : ∀ u ∈ (v :: r).map I, ∃ z, u = I z := fun u hu => by
        obtain ⟨z, _, rfl⟩ := List.mem_map.1 hu
        exact ⟨z, rfl⟩
      have hR := H.newRo (m := a.block) (off := a.off) (arr := arr) (cs := (v :: r).map I) (e := e) (hB _ (Array.getElem?_eq_some_iff.1 hb).1) hb (by omega) (fun i u hu => by
        have hi := hcl i u hu
        obtain ⟨arr', e', fz', hb', _, ha'⟩ := cell_block hi
        rw [add_spot hsp] at hb' ha'
        rw [hb] at hb'
        cases hb'
        exact ha') (by rw [scL_iff]; intro u hu; obtain ⟨z, rfl⟩ := hall u hu; rfl) (fun u hu => by obtain ⟨z, rfl⟩ := hall u hu; rfl)
      have hld : ∀ K, K ≤ (v :: r).length → loadN (h.new (.ro a.off ((v :: r).map I) e)) h.next a.off K = some (((v :: r).take K).map I) := by
        intro K hK
        unfold loadN
        rw [get_new]
        have hble : Nat.ble a.off a.off = true := Nat.ble_eq_true_of_le (Nat.le_refl _)
        simp only [hble, Nat.sub_self, List.drop_zero]
        have := takeN_take (takeN_all ((v :: r).map I)) K (by simpa using hK)
        rw [this, List.map_take]
      have hrd : ∀ K c, K ≤ (v :: r).length → Rds (h.new (.ro a.off ((v :: r).map I) e)) (.slice (some ⟨h.next, a.off, none⟩) K c) (((v :: r).take K).map I) := by
        intro K c hK
        have hlen : (((v :: r).take K).map I).length = K := by rw [List.length_map, List.length_take, Nat.min_eq_left hK]
        refine .inr ⟨h.next, a.off, c, by rw [hlen], fun _ => ⟨Nat.lt_succ_self _, ?_⟩⟩
        rw [hlen]
        exact hld K hK
      refine ⟨_, _, some ⟨h.next, a.off, none⟩, 2 * cap, v :: r, hR, ?_, by simp [sc, Hp.new], by omega, ?_, .inr ⟨_, rfl, fun K hK => ?_⟩⟩
      · obtain ⟨b, o, s⟩ := a
        simp only at hsp
        subst hsp
        simp [con, conCap]
      · have := hrd (v :: r).length (2 * cap) (Nat.le_refl _)
        rwa [List.take_length] at this
      · obtain ⟨c, e⟩ := slice_val (i := h.next) (off := a.off) (len := (v :: r).length) (K := K) (cap := cap) (by omega)
        exact ⟨_, e, hrd K c hK⟩
end
end Go.Proofs.Ytnfboopfpkaeaaa
