/- MoQB: contracts and laws of ZvB, ZvC, ZvD, ZvE, ZvG, ZvF, ZvK. -/
import Derived.Test.YtegcmgjldapnmaaGreatDoorProg
import Derived.KernelRfl
import Derived.Test.YtegcmgjldapnmaaGreatDoorSyF
import Derived.Test.YtegcmgjldapnmaaGreatDoorMoQA
import Derived.Test.YtegcmgjldapnmaaGreatDoorSyD
import Derived.ChangeSlices
import Derived.ChangeArms
namespace Go.Proofs.YtegcmgjldapnmaaGreatDoor
open Go Go.Eng Nim Oct
set_option maxRecDepth 100000
set_option maxHeartbeats 8000000
end Go.Proofs.YtegcmgjldapnmaaGreatDoor
namespace Go.Proofs.YtegcmgjldapnmaaGreatDoor.Oct
end Go.Proofs.YtegcmgjldapnmaaGreatDoor.Oct
namespace Go.Proofs.YtegcmgjldapnmaaGreatDoor
open Go Go.Eng Nim Oct
set_option maxRecDepth 100000
set_option maxHeartbeats 8000000
theorem rdI {h : Hp} {rv : Value} {r : List Int} (hr : Rds h rv (r.map I)) {k : Nat} (hk : k < r.length) : ∃ p, indexAddrOp Tryz.prog 22 rv (J k) = some p ∧ loadT Tryz.prog h 3 p = some (I r[k]) :=
  hr.read (e := 3) (by kernel_rfl) (by kernel_rfl) (by kernel_rfl) (by rw [List.getElem?_map, List.getElem?_eq_getElem hk]; rfl)
end Go.Proofs.YtegcmgjldapnmaaGreatDoor
namespace Go.Proofs.YtegcmgjldapnmaaGreatDoor
open Go Go.Eng Nim Oct
set_option maxRecDepth 100000
set_option maxHeartbeats 8000000
theorem same_of (zs : List Int) (lf n : Nat) (hlf : zs.length < lf) (hsm : lf < 2 ^ 62) (x y : Value) (h : Hp) (hx : Rds h x (zs.map I)) (hy : Rds h y (zs.map I)) : Ev lf (n + 1) 8 [x, y] h = some (.bool true, h) := by
  refine fn_eq ?_
  obtain ⟨xa, xc, hxs⟩ := hx.shape
  obtain ⟨ya, yc, hys⟩ := hy.shape
  rw [List.length_map] at hxs hys
  subst hxs hys
  refine ok_go 3 ?_
  refine sy_no 0 (b := Int.ofNat zs.length != Int.ofNat zs.length) (by kernel_rfl) (bne_self_eq_false _) ?_
  refine ok_go 0 ?_
  refine sy_loop 0 lf h (α := Nat) (fun i => [(0, .slice xa zs.length xc), (1, .slice ya zs.length yc), (5, J i)]) (fun i g => i ≤ zs.length ∧ g = h) (fun i _ => zs.length - i) 0 (by kernel_rfl) (by kernel_rfl)
    ⟨by kernel_rfl, by kernel_rfl, by kernel_rfl, trivial⟩ (show zs.length - 0 < lf by omega) ⟨Nat.zero_le _, rfl⟩ ?_
  rintro m1 i f1 g ⟨hi, rfl⟩ ih
  have hw : IntKind.wrap .i64 (Int.ofNat (i + 1)) = Int.ofNat (i + 1) := wrap_nat (by omega)
  refine ok_go 2 ?_
  refine sy_test 0 (decide (Int.ofNat i < Int.ofNat zs.length)) (by kernel_rfl) ?_ ?_
  · intro hlt
    have hlt : i < zs.length := ok_nat hlt
    obtain ⟨p, hp1, hp2⟩ := rdI hx hlt
    obtain ⟨q, hq1, hq2⟩ := rdI hy hlt
    refine ok_go 0 ?_
    refine sy_load 0 (r := indexAddrOp Tryz.prog 22 (.slice xa zs.length xc) (J i)) (h' := g) (by kernel_rfl) hp1 ?_
    refine ok_go 0 ?_
    refine sy_load 0 (r := loadT Tryz.prog g 3 p) (h' := g) (by kernel_rfl) hp2 ?_
    refine ok_go 0 ?_
    refine sy_load 0 (r := indexAddrOp Tryz.prog 22 (.slice ya zs.length yc) (J i)) (h' := g) (by kernel_rfl) hq1 ?_
    refine ok_go 0 ?_
    refine sy_load 0 (r := loadT Tryz.prog g 3 q) (h' := g) (by kernel_rfl) hq2 ?_
    refine ok_go 1 ?_
    refine sy_no 0 (b := zs[i] != zs[i]) (by kernel_rfl) (bne_self_eq_false _) ?_
    refine ok_go 1 ?_
    exact sy_next 0 _ g (by kernel_rfl) (by kernel_rfl) (ih (i + 1) _ g ⟨hlt, rfl⟩ (show zs.length - (i + 1) < zs.length - i by omega) ⟨by kernel_rfl, by kernel_rfl, (by kernel_rfl : _ = Value.int .i64 (IntKind.wrap .i64 (Int.ofNat (i + 1)))).trans (by rw [hw]), trivial⟩)
  · intro _
    refine ok_go 0 ?_
    refine sy_done 0 (v := Value.bool true) (h := g) (by kernel_rfl) ?_
    exact ⟨rfl, rfl⟩
end Go.Proofs.YtegcmgjldapnmaaGreatDoor
namespace Go.Proofs.YtegcmgjldapnmaaGreatDoor
open Go Go.Eng Nim Oct
set_option maxRecDepth 100000
set_option maxHeartbeats 8000000
end Go.Proofs.YtegcmgjldapnmaaGreatDoor
namespace Go.Proofs.YtegcmgjldapnmaaGreatDoor
open Go Go.Eng Nim Oct
set_option maxRecDepth 100000
set_option maxHeartbeats 8000000
def WfS : Value → Prop
  | .slice none n c => n = 0 ∧ c = 0
  | .slice (some a) n c => (a.spot = none ∧ n ≤ c / 2) ∨ (n = 0 ∧ c = 0)
  | _ => False
theorem takeN_take : ∀ {n : Nat} {l : List Value} {r : List Value}, takeN n l = some r → ∀ k, k ≤ n → takeN k l = some (r.take k)
  | _, _, _, _, 0, _ => by simp [takeN]
  | 0, _, _, _, k + 1, hk => absurd hk (by omega)
  | n + 1, [], _, h, k + 1, _ => by simp [takeN] at h
  | n + 1, v :: l, r, h, k + 1, hk => by
    unfold takeN at h
    split at h
    · rename_i l' hl'
      cases h
      unfold takeN
      rw [takeN_take hl' k (by omega)]
      rfl
    · cases h
theorem u22 : Tryz.prog.underlying 22 = some (.slice 3) := by kernel_rfl
theorem slice_val {i off len cap K : Nat} (h : K ≤ cap / 2) : ∃ c, sliceOp Tryz.prog 22 (.slice (some ⟨i, off, none⟩) len cap) none (some (J K)) none = some (.slice (some ⟨i, off, none⟩) K c) := by
  have hs : sizeT Tryz.prog 3 = some 1 := by kernel_rfl
  simp only [sliceOp, u22, hs, sliceV, Go.Eng.bound, Option.isSome_none, show natOf (J K) = some K from rfl, Bool.false_eq_true, if_false, Nat.ble_eq_true_of_le h, Nat.ble_eq_true_of_le (Nat.zero_le (cap / 2))]
  cases hb : Nat.beq (cap / 2) 0
  · cases hc : Nat.beq (cap % 2) 1
    · exact ⟨2 * (cap / 2), by simp⟩
    · exact ⟨2 * (cap / 2) + 1, by simp⟩
  · cases hc : Nat.beq (cap % 2) 1
    · exact ⟨0, by simp⟩
    · exact ⟨1, by simp⟩
theorem cut_row {h : Hp} {x : Value} {vs : List Value} (hw : WfS x) (hx : Rds h x vs) {K : Nat} (hK : K ≤ vs.length) : ∃ y, sliceOp Tryz.prog 22 x none (some (J K)) none = some y ∧ Rds h y (vs.take K) := by
  have hs : sizeT Tryz.prog 3 = some 1 := by kernel_rfl
  rcases hx with ⟨⟨a, rfl⟩, rfl⟩ | ⟨i, off, c, rfl, hr⟩
  · obtain rfl : K = 0 := by simpa using hK
    rcases a with _ | ⟨i, off, _ | q⟩
    · exact ⟨.slice none 0 0, rfl, .inl ⟨⟨_, rfl⟩, rfl⟩⟩
    · obtain ⟨c, e⟩ := slice_val (i := i) (off := off) (len := 0) (cap := 0) (K := 0) (Nat.zero_le _)
      exact ⟨_, e, .inr ⟨i, off, c, rfl, fun h => absurd rfl h⟩⟩
    · exact ⟨.slice (some ⟨i, off, some q⟩) 0 0, rfl, .inl ⟨⟨_, rfl⟩, rfl⟩⟩
  · have hc : vs.length ≤ c / 2 := by
      rcases hw with ⟨_, h⟩ | ⟨h, h2⟩
      · exact h
      · omega
    obtain ⟨c', e⟩ := slice_val (i := i) (off := off) (len := vs.length) (cap := c) (K := K) (Nat.le_trans hK hc)
    refine ⟨_, e, .inr ⟨i, off, c', by rw [List.length_take, Nat.min_eq_left hK], fun hne => ?_⟩⟩
    have hv : vs ≠ [] := fun h0 => by subst h0; simp at hne
    obtain ⟨h1, h2⟩ := hr hv
    refine ⟨h1, ?_⟩
    rw [List.length_take, Nat.min_eq_left hK]
    unfold loadN at h2 ⊢
    cases hg : h.get i with
    | none => rw [hg] at h2; cases h2
    | some o =>
      rw [hg] at h2
      cases o with
      | cells cs e opn => exact takeN_take h2 K hK
      | ro o cs e =>
        dsimp only at h2 ⊢
        cases hb : Nat.ble o off with
        | true => rw [hb] at h2; exact takeN_take h2 K hK
        | false => rw [hb] at h2; cases h2
      | fro cs e => exact takeN_take h2 K hK
      | _ => cases h2
theorem rds_elems {H : Hp} {x : Value} {vs : List Value} (hx : Rds H x vs) : lenV x = some vs.length ∧ elems H 1 vs.length x = some vs := by
  obtain ⟨a, c, hsh⟩ := hx.shape
  refine ⟨by rw [hsh]; rfl, ?_⟩
  rcases hx with ⟨⟨a, rfl⟩, rfl⟩ | ⟨i, off, c, rfl, hr⟩
  · rcases a with _ | ⟨i, off, _ | q⟩ <;> rfl
  · cases vs with
    | nil => rfl
    | cons v r => simp only [elems, List.length_cons, Nat.mul_one]; exact (hr (by simp)).2
theorem ow_rds {h H : Hp} {Q : Value → Hp → Prop} {l : List (Nat × AObj)} {P : Program} {t e : TypeId} (n : Nat) {s : SA} {vs : List Value} {x : Value} (W : Sto h H l) (hT : SlTz P t e 1) (hx : Rds H x vs) (hv : vs.all scalar = true) (hn : vs.length < 16777216)
    (he : askR (goS n s) = appendOp P H t (.slice none 0 0) x) (hq : ∀ H' sl, H.next ≤ H'.next → sl = oslV H.next vs.length → scalar sl = true → Sto h H' (l ++ oent H.next e vs) → Ok Q (askK (goS n s) sl H')) : Ok Q s := by
  obtain ⟨h1, h2⟩ := rds_elems hx
  cases vs with
  | nil =>
    obtain ⟨inf, hi1, hi2⟩ := hT.i
    obtain ⟨z, hz1, hz2⟩ := hT.zr
    refine sy_call n (he.trans (?_ : _ = some (.slice none 0 0, H))) rfl (hq H _ (Nat.le_refl _) rfl rfl (by simpa only [oent, List.append_nil] using W))
    simp only [List.length_nil] at h1 h2
    simp only [appendOp, hT.u, hT.s, hi1, hz1, h1, h2, hz2, hi2, List.all_nil]
  | cons v r =>
    obtain ⟨H', e1, e2, W'⟩ := append_sto (P := P) (t := t) (x := x) (i := 0) (n := 0) (m := r.length) (zs := []) (l := l) (by simpa only [oent, List.append_nil] using W) hT (by simp) (by simp) h1 h2 hv (by simp at hn; omega)
    rw [Nat.zero_add] at e1
    exact sy_call n (he.trans e1) rfl (hq H' _ (by omega) rfl rfl W')
theorem sy_any {Q : Value → Hp → Prop} (n : Nat) {t : SA} {p : Value → Prop} {h' : Hp} (he : ∃ v, p v ∧ askR (goS n t) = some (v, h')) (hk : ∀ v, p v → Ok Q (askK (goS n t) v h')) : Ok Q t := by
  obtain ⟨v, hp, e⟩ := he
  exact ok_go n (ok_ask e (hk v hp))
end Go.Proofs.YtegcmgjldapnmaaGreatDoor
namespace Go.Proofs.YtegcmgjldapnmaaGreatDoor
open Go Go.Eng Nim Oct
set_option maxRecDepth 100000
set_option maxHeartbeats 8000000
end Go.Proofs.YtegcmgjldapnmaaGreatDoor
namespace Go.Proofs.YtegcmgjldapnmaaGreatDoor
open Go Go.Eng Nim Go.ChangeShapes
set_option maxRecDepth 100000
section
variable {HH : Type} {enc : TypeId × Value → HH} {B : Prot} {w0 w : World}
theorem cell_block {w : World} {a : Addr} {v : Value} (h : w.cell? a = some v) : ∃ arr e fz, w.heap[a.block]? = some (.cells arr e fz) ∧ a.spot = none ∧ arr[a.off]? = some v := by
  unfold World.cell? at h
  split at h
  · rename_i c e fz hb
    split at h
    · cases h
    · rename_i hs
      refine ⟨c, e, fz, hb, ?_, h⟩
      cases hq : a.spot with
      | none => rfl
      | some q => rw [hq] at hs; simp at hs
  · cases h
theorem add_spot {a : Addr} (h : a.spot = none) (i : Nat) : a.add i = ⟨a.block, a.off + i, none⟩ := by
  obtain ⟨b, o, s⟩ := a
  simp only at h
  subst h
  unfold Addr.add
  split
  · rename_i h0; subst h0; rfl
  · rfl
theorem openCells {E : Env} {h : Hp} (H : HpOK Tryz.prog B w0 E h w) (hB : ∀ k, k < w.heap.size → B.ro k) {a : Addr} {len cap : Nat} (cs : List Value) (hl : cs.length = len) (hc0 : 0 < cap → a.spot = none)
    (hlc : len ≤ cap) (hcell : ∀ i v, cs[i]? = some v → w.cell? (a.add i) = some (con E v)) (hs : scL h.next cs = true) (h1 : ∀ v ∈ cs, scalar v = true) :
    ∃ E' h' v, HpOK Tryz.prog B w0 E' h' w ∧ Agree h.next E E' ∧ h.Ext h' ∧ con E' v = .slice (some a) len cap ∧ sc h'.next v = true ∧ Rds h' v cs ∧ scalar v = true ∧ WfS v := by
  subst hl
  cases cs with
  | nil =>
    refine ⟨E.ext h.next a.block 0, ⟨h.objs, h.next + 1⟩, .slice (some ⟨h.next, a.off, a.spot⟩) 0 (2 * cap), H.bump a.block, Env.ext_agree _ _ _ _, ⟨Nat.le_succ _, fun j _ => rfl⟩, ?_, by simp [sc], ?_, rfl, ?_⟩
    · obtain ⟨b, o, s⟩ := a
      cases s with
      | none => simp [con, conCap]
      | some q =>
        have hc : cap = 0 := Nat.eq_zero_of_not_pos fun hp => by have := hc0 hp; simp at this
        subst hc
        simp [con, conCap, conOff, conSpot]
    · cases hsp : a.spot with
      | none => exact .inr ⟨h.next, a.off, _, rfl, fun hn => absurd rfl hn⟩
      | some q =>
        have hc : cap = 0 := Nat.eq_zero_of_not_pos fun hp => by have := hc0 hp; rw [hsp] at this; cases this
        subst hc
        exact .inl ⟨⟨_, rfl⟩, rfl⟩
    · cases hsp : a.spot with
      | none => exact .inl ⟨rfl, Nat.zero_le _⟩
      | some q =>
        have hc : cap = 0 := Nat.eq_zero_of_not_pos fun hp => by have := hc0 hp; rw [hsp] at this; cases this
        subst hc
        exact .inr ⟨rfl, rfl⟩
  | cons v r =>
    have h0 := hcell 0 v rfl
    have hsp : a.spot = none := hc0 (by simp at hlc; omega)
    obtain ⟨arr, e, fz, hb, _, ha⟩ := cell_block h0
    rw [add_spot hsp] at ha hb
    have ha0 : a.off + 0 < arr.size := (Array.getElem?_eq_some_iff.1 ha).1
    have hR := H.newRo (m := a.block) (off := a.off) (cs := v :: r) (hB _ (Array.getElem?_eq_some_iff.1 hb).1) hb (by omega) (fun i u hu => by
      have hi := hcell i u hu
      obtain ⟨arr', e', fz', hb', _, ha'⟩ := cell_block hi
      rw [add_spot hsp] at hb' ha'
      rw [hb] at hb'
      cases hb'
      exact ha') hs h1
    refine ⟨_, _, .slice (some ⟨h.next, a.off, none⟩) (r.length + 1) (2 * cap), hR, Env.ext_agree _ _ _ _, Hp.Ext.new _ _, ?_, by simp [sc, Hp.new], .inr ⟨h.next, a.off, _, rfl, fun _ => ⟨Nat.lt_succ_self _, ?_⟩⟩, rfl, .inl ⟨rfl, by simp at hlc; omega⟩⟩
    · obtain ⟨b, o, s⟩ := a
      simp only at hsp
      subst hsp
      simp [con, conCap]
    · unfold loadN
      rw [get_new]
      have hble : Nat.ble a.off a.off = true := Nat.ble_eq_true_of_le (Nat.le_refl _)
      simp only [hble, Nat.sub_self, List.drop_zero]
      exact takeN_all (v :: r)
theorem openInts {E : Env} {h : Hp} (H : HpOK Tryz.prog B w0 E h w) (hB : ∀ k, k < w.heap.size → B.ro k) {fuel : Nat} {c : Value} {x : DataW HH × List MemPlace}
    (ht : DataW.trod enc Tryz.prog w 0 (fun _ => true) true fuel 22 [c] = some x) :
    ∃ (E' : Env) (h' : Hp) (v : Value) (r : List Int), HpOK Tryz.prog B w0 E' h' w ∧ Agree h.next E E' ∧ h.Ext h' ∧ con E' v = c ∧ sc h'.next v = true ∧ Rds h' v (r.map I) ∧ scalar v = true ∧ r.length < 2 ^ 63 ∧ WfS v := by
  rcases open_ints (k := .i64) u22 (by kernel_rfl) (by kernel_rfl) ht with ⟨hc, _⟩ | ⟨a, len, cap, zs, hc, _, hlc, hcm, hzl, _, hcell, hwf⟩
  · simp only [List.cons.injEq, and_true] at hc
    subst hc
    exact ⟨E, h, .slice none 0 0, [], H, Agree.refl _ _, Hp.Ext.refl _, by simp [con], rfl, .inl ⟨⟨none, rfl⟩, rfl⟩, rfl, by decide, ⟨rfl, rfl⟩⟩
  · simp only [List.cons.injEq, and_true] at hc
    subst hc
    simp only [if_true] at hzl
    obtain ⟨E', h', v, k1, k2, k3, k4, k5, k6, k7, k8⟩ := openCells H hB (a := a) (len := len) (cap := cap) ((zs.take len).map I) (by simp; omega) (fun hp => by
        have := hcell 0 (by omega)
        obtain ⟨_, _, _, _, h2, _⟩ := cell_block this
        unfold Addr.add at h2
        simpa using h2) hlc (fun i v hv => by
        have hil : i < len ∧ i < zs.length := by
          have := (List.getElem?_eq_some_iff.1 hv).1
          simp at this
          exact ⟨by omega, by omega⟩
        have := hcell i hil.2
        rw [this]
        rw [List.getElem?_map, List.getElem?_take, if_pos hil.1, List.getElem?_eq_getElem hil.2] at hv
        simp only [Option.map_some, Option.some.injEq] at hv
        subst hv
        rw [List.getD_eq_getElem?_getD, List.getElem?_eq_getElem hil.2]
        simp [con]) (by rw [scL_iff]; intro v hv; obtain ⟨z, _, rfl⟩ := List.mem_map.1 hv; rfl) (fun v hv => by obtain ⟨z, _, rfl⟩ := List.mem_map.1 hv; rfl)
    refine ⟨E', h', v, zs.take len, k1, k2, k3, k4, k5, k6, k7, ?_, k8⟩
    have : maxLen = 2 ^ 63 - 1 := rfl
    rw [List.length_take]
    omega
theorem openIntsArg {E : Env} {h : Hp} (H : HpOK Tryz.prog B w0 E h w) (hB : ∀ k, k < w.heap.size → B.ro k) {v0 : Value} {base : Nat} {d : DataW HH} {p : List MemPlace} (hval : Value.okWide Tryz.prog w .any base 22 v0)
    (ht : DataW.Trod enc Tryz.prog w 0 (fun _ => true) true 22 v0 d p) :
    ∃ (E' : Env) (h' : Hp) (xa : Option Addr) (xc : Nat) (zs : List Int), HpOK Tryz.prog B w0 E' h' w ∧ con E' (.slice xa zs.length xc) = v0 ∧ sc h'.next (.slice xa zs.length xc) = true ∧ Rds h' (.slice xa zs.length xc) (zs.map I) ∧ WfS (.slice xa zs.length xc) ∧ zs.length < 2 ^ 63 := by
  obtain ⟨fuel, ht⟩ := ht
  have hsl : ∃ a l c, v0 = .slice a l c := by
    unfold Value.okWide at hval
    rw [u22] at hval
    simp only [Cell.okWide, u22, Cell.ok] at hval
    cases v0 <;> first | exact ⟨_, _, _, rfl⟩ | simp at hval
  obtain ⟨a0, l0, c0, rfl⟩ := hsl
  have hcells : (Value.slice a0 l0 c0).cells.toList = [.slice a0 l0 c0] := rfl
  rw [hcells] at ht
  obtain ⟨E', h', v, r, j1, j2, j3, j4, j5, j6, j7, j8, j9⟩ := openInts H hB ht
  obtain ⟨xa, xc, hs⟩ := j6.shape
  rw [List.length_map] at hs
  subst hs
  exact ⟨E', h', xa, xc, r, j1, j4, j5, j6, j9, j8⟩
end
end Go.Proofs.YtegcmgjldapnmaaGreatDoor
