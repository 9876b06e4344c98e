/- GraphF: contracts of functions. -/
import Derived.Test.YtegcmgjldapnmaaDoorProg
import Derived.KernelRfl
import Derived.Test.YtegcmgjldapnmaaDoorSyB
import Derived.Test.YtegcmgjldapnmaaDoorGraphE
namespace Go.Proofs.YtegcmgjldapnmaaDoor
open Go Go.Eng Nim
set_option maxRecDepth 100000
set_option maxHeartbeats 4000000
def wantP (S : St) (i : Nat) : Nat × Int := if (S i).1 = 2 then (2, 0) else (1 - (S i).1, (S i).2 - 1)
def bestP (G : List (List Nat)) (S : St) (i : Nat) : Option Nat := (grow G i).find? fun t => decide (S t = wantP S i)
theorem s22_bad (lf n : Nat) (v : Value) (z : Int) (h : Hp) (d : Ev lf n 20 [v] h = some (J 61, h)) : Ev lf (n+1) 22 [v, I z] h = some (.tuple #[J 0, J 61], h) := by
  refine fn_eq ?_
  refine ok_go 0 ?_
  refine sy_call 0 (by kernel_rfl) d ?_
  refine ok_go 2 ?_
  exact sy_done 0 (v := .tuple #[J 0, J 61]) (h := h) (by kernel_rfl) ⟨rfl, rfl⟩
theorem s22_arg (N : Nat) (lf n : Nat) (a : Option Addr) (c : Nat) (z : Int) (hz : ¬ (0 ≤ z ∧ z < N)) (h : Hp) (d : Ev lf n 20 [.slice a N c] h = some (J 0, h)) : Ev lf (n+1) 22 [.slice a N c, I z] h = some (.tuple #[J 0, J 1], h) := by
  refine fn_eq ?_
  refine ok_go 0 ?_
  refine sy_call 0 (by kernel_rfl) d ?_
  refine ok_go 3 ?_
  refine sy_test 0 (decide (z < 0)) (by kernel_rfl) ?_ ?_
  · intro _
    refine ok_go 5 ?_
    exact sy_done 0 (v := .tuple #[J 0, J 1]) (h := h) (by kernel_rfl) ⟨rfl, rfl⟩
  · intro h1
    have h1 := of_decide_eq_false h1
    refine ok_go 6 ?_
    refine sy_yes 0 (b := decide (z ≥ Int.ofNat N)) (by kernel_rfl) (decide_eq_true (by have : Int.ofNat N = (N : Int) := rfl; omega)) ?_
    refine ok_go 0 ?_
    exact sy_done 0 (v := .tuple #[J 0, J 1]) (h := h) (by kernel_rfl) ⟨rfl, rfl⟩
theorem Gr.rowE {h : Hp} {v : Value} {G : List (List Nat)} (hg : Gr h v (gI G)) {i : Nat} (hi : i < G.length) : ∃ p rv, indexAddrOp Tryd.prog 31 v (J i) = some p ∧ (∀ g, h.Ext g → loadT Tryd.prog g 32 p = some rv) ∧ Rds h rv ((grow G i).map J) := by
  obtain ⟨vs, h1, h2, h3⟩ := hg
  have hil : i < (gI G).length := by rw [gI_len]; exact hi
  obtain ⟨rv, h4, h5⟩ := h3 i (gI G)[i] (List.getElem?_eq_getElem hil)
  obtain ⟨p, h6, h7⟩ := h1.read (kd := .i64) u31 z32 agg32 h4
  refine ⟨p, rv, h6, fun g k => ?_, ?_⟩
  · obtain ⟨p', h8, h9⟩ := (h1.ext k).read (kd := .i64) u31 z32 agg32 h4
    rw [h6] at h8
    cases h8
    exact h9
  · have : (gI G)[i] = (grow G i).map Int.ofNat := by
      simp only [gI, List.getElem_map, grow, List.getD_eq_getElem?_getD, List.getElem?_eq_getElem hi, Option.getD_some]
    rw [this, List.map_map] at h5
    exact h5
theorem PS.ext {b n : Nat} {S : St} {h g : Hp} (H : PS b n S h) (k : h.Ext g) : PS b n S g := ⟨Nat.lt_of_lt_of_le H.lt k.next, k.at_ H.lt H.get⟩
theorem load2 {h : Hp} {i : Nat} {x y : Value} {e : TypeId} {opn : Bool} (hg : h.get i = some (.cells [x, y] e opn)) : loadT Tryd.prog h 68 (ptr i 0) = some (.agg #[x, y]) := by
  simp only [loadT, agg68, z68, loadN, hg, List.drop_zero, takeN]
theorem find_at {G : List (List Nat)} {S : St} {i k : Nat} (hk : k < (grow G i).length) (h : S (grow G i)[k] = wantP S i) (hno : ∀ j (hj : j < (grow G i).length), j < k → S (grow G i)[j] ≠ wantP S i) : bestP G S i = some (grow G i)[k] := by
  unfold bestP
  rw [List.find?_eq_some_iff_getElem]
  exact ⟨decide_eq_true h, k, hk, rfl, fun j hj => by simpa using hno j (by omega) hj⟩
theorem find_no {G : List (List Nat)} {S : St} {i : Nat} (hno : ∀ j (hj : j < (grow G i).length), S (grow G i)[j] ≠ wantP S i) : bestP G S i = none := by
  unfold bestP
  rw [List.find?_eq_none]
  intro x hx
  obtain ⟨j, hj, rfl⟩ := List.getElem_of_mem hx
  simpa using hno j hj
theorem s22 (G : List (List Nat)) (S : St) (i : Nat) (lf n : Nat) (hi : i < G.length) (hk : ∀ t, (S t).1 ≤ 2) (hd : ∀ t, 0 ≤ (S t).2 ∧ (S t).2 < 1000) (hN : G.length ≤ 200) (hrow : ∀ i, (grow G i).length < lf) (hsm : lf < 2 ^ 62) (hG : ∀ i t, t ∈ grow G i → t < G.length) (v : Value) (h h' : Hp) (hg : Gr h v (gI G))
    (d : Ev lf n 20 [v] h = some (J 0, h)) (e : Ev lf n 39 [v] h = some (.slice (some ⟨h.next, 0, none⟩) G.length (2 * G.length), h')) (hx : h.Ext h') (ps : PS h.next G.length S h') :
    ∃ x H, Ev lf (n+1) 22 [v, J i] h = some (x, H) ∧ h.Ext H ∧ x = (match bestP G S i with | some t => .tuple #[J t, J 0] | none => .tuple #[J 0, J 4]) := by
  obtain ⟨a, c, hsh⟩ := hg.shape
  rw [gI_len] at hsh
  subst hsh
  obtain ⟨p, rv, e1, e2e, hr⟩ := hg.rowE hi
  have e2 := e2e h (Hp.Ext.refl h)
  obtain ⟨ra, rc, hrs⟩ := hr.shape
  rw [List.length_map] at hrs
  subst hrs
  refine fnS_ok (Q := fun x H => h.Ext H ∧ x = (match bestP G S i with | some t => .tuple #[J t, J 0] | none => .tuple #[J 0, J 4])) ?_
  refine ok_go 0 ?_
  refine sy_call 0 (by kernel_rfl) d ?_
  refine ok_go 10 ?_
  refine sy_no 0 (b := decide (Int.ofNat i ≥ Int.ofNat G.length)) (by kernel_rfl) (decide_eq_false (by simp; omega)) ?_
  refine ok_go 0 ?_
  refine sy_load 0 (r := indexAddrOp Tryd.prog 31 (.slice a G.length c) (J i)) (h' := h) (by kernel_rfl) e1 ?_
  refine ok_go 0 ?_
  refine sy_load 0 (r := loadT Tryd.prog h 32 p) (h' := h) (by kernel_rfl) e2 ?_
  refine ok_go 2 ?_
  refine sy_test 0 (Int.ofNat (grow G i).length == 0) (by kernel_rfl) ?_ ?_
  · intro h0
    have h0 : grow G i = [] := List.eq_nil_of_length_eq_zero (Int.ofNat.inj (eq_of_beq h0))
    refine ok_go 0 ?_
    refine sy_done 0 (v := .tuple #[J 0, J 4]) (h := h) (by kernel_rfl) ⟨Hp.Ext.refl _, ?_⟩
    unfold bestP
    rw [h0]
    rfl
  · intro _
    refine ok_go 0 ?_
    refine sy_call 0 (by kernel_rfl) e ?_
    refine ok_go 2 ?_
    refine sy_store 0 (r := storeT Tryd.prog (h'.new (.cells [J 0, I 0] 68 false)) 68 (ptr h'.next 0) (.agg #[J 2, I 0])) (by kernel_rfl) (storeAll (vs := [J 2, I 0]) z68 (get_new _ _) rfl rfl) ?_
    have gx := get_put (h'.new (.cells [J 0, I 0] 68 false)) h'.next (.cells [J 2, I 0] 68 false)
    have X1 : h'.Ext ((h'.new (.cells [J 0, I 0] 68 false)).put h'.next (.cells [J 2, I 0] 68 false)) := (Hp.Ext.new _ _).put (Nat.le_refl _) _
    have X2 : ((h'.new (.cells [J 0, I 0] 68 false)).put h'.next (.cells [J 2, I 0] 68 false)).next = h'.next + 1 := rfl
    generalize hX : (h'.new (.cells [J 0, I 0] 68 false)).put h'.next (.cells [J 2, I 0] 68 false) = X at gx X1 X2
    clear hX
    have psx := ps.ext X1
    refine ok_go 0 ?_
    refine sy_load 0 (r := indexAddrOp Tryd.prog 65 (.slice (some ⟨h.next, 0, none⟩) G.length (2 * G.length)) (J i)) (h' := X) (by kernel_rfl) (idx65 hi) ?_
    refine ok_go 0 ?_
    refine sy_load 0 (r := loadT Tryd.prog X 68 (ptr h.next (i * 2))) (h' := X) (by kernel_rfl) (psx.both hi) ?_
    refine ok_go 1 ?_
    refine sy_store 0 (r := storeT Tryd.prog (X.new (.cells [J 0, I 0] 68 false)) 68 (ptr X.next 0) (.agg #[J (S i).1, I (S i).2])) (by kernel_rfl) (storeAll (vs := [J (S i).1, I (S i).2]) z68 (get_new _ _) rfl rfl) ?_
    have gy := get_put (X.new (.cells [J 0, I 0] 68 false)) X.next (.cells [J (S i).1, I (S i).2] 68 false)
    have Y1 : X.Ext ((X.new (.cells [J 0, I 0] 68 false)).put X.next (.cells [J (S i).1, I (S i).2] 68 false)) := (Hp.Ext.new _ _).put (Nat.le_refl _) _
    generalize hY : (X.new (.cells [J 0, I 0] 68 false)).put X.next (.cells [J (S i).1, I (S i).2] 68 false) = Y at gy Y1
    clear hY
    have gxy : Y.get h'.next = some (.cells [J 2, I 0] 68 false) := Y1.at_ (by omega) gx
    have psy := psx.ext Y1
    refine ok_go 1 ?_
    refine sy_load 0 (r := loadT Tryd.prog Y 3 (ptr X.next 0)) (h' := Y) (by kernel_rfl) (load1 aggI gy rfl) ?_
    refine ok_go 1 ?_
    refine sy_test 0 (Int.ofNat (S i).1 != 2) (by kernel_rfl) ?_ ?_
    · intro hk2
      have hk2 : (S i).1 ≠ 2 := fun hc => by rw [hc] at hk2; cases hk2
      have hw : wantP S i = (1 - (S i).1, (S i).2 - 1) := if_neg hk2
      have hk1 := hk i
      have hd1 := hd i
      have w1 : IntKind.wrap .i64 (1 - Int.ofNat (S i).1) = Int.ofNat (wantP S i).1 := by
        rw [hw]
        rcases (by omega : (S i).1 = 0 ∨ (S i).1 = 1) with h0 | h0 <;> rw [h0] <;> rfl
      have w2 : IntKind.wrap .i64 ((S i).2 - 1) = (wantP S i).2 := by
        rw [hw]
        obtain ⟨m, hm⟩ := Int.eq_ofNat_of_zero_le hd1.1
        have := wd (d := m) (by omega)
        rw [hm]
        exact this
      refine ok_go 1 ?_
      refine sy_load 0 (r := loadT Tryd.prog Y 3 (ptr X.next 0)) (h' := Y) (by kernel_rfl) (load1 aggI gy rfl) ?_
      refine ok_go 2 ?_
      refine sy_load 0 (r := loadT Tryd.prog Y 3 (ptr X.next 1)) (h' := Y) (by kernel_rfl) (load1 aggI gy rfl) ?_
      refine ok_go 2 ?_
      refine sy_store 0 (r := storeT Tryd.prog Y 68 (ptr h'.next 0) (.agg #[I (IntKind.wrap .i64 (1 - Int.ofNat (S i).1)), I (IntKind.wrap .i64 ((S i).2 - 1))])) (h' := Y.put h'.next (.cells [J (wantP S i).1, I (wantP S i).2] 68 false)) (by kernel_rfl) (by rw [w1, w2]; exact storeAll (vs := [J (wantP S i).1, I (wantP S i).2]) z68 gxy rfl rfl) ?_
      have gz := get_put Y h'.next (.cells [J (wantP S i).1, I (wantP S i).2] 68 false)
      have Z1 : h'.Ext (Y.put h'.next (.cells [J (wantP S i).1, I (wantP S i).2] 68 false)) := (X1.trans Y1).put (Nat.le_refl _) _
      generalize hZ : Y.put h'.next (.cells [J (wantP S i).1, I (wantP S i).2] 68 false) = Z at gz Z1
      clear hZ
      have psz := ps.ext Z1
      have xz := hx.trans Z1
      have hrz := hr.ext xz
      have e2z : loadT Tryd.prog Z 32 p = some (.slice ra (grow G i).length rc) := e2e _ xz
      refine ok_go 0 ?_
      refine sy_load 0 (r := indexAddrOp Tryd.prog 31 (.slice a G.length c) (J i)) (h' := Z) (by kernel_rfl) e1 ?_
      refine ok_go 0 ?_
      refine sy_load 0 (r := loadT Tryd.prog Z 32 p) (h' := Z) (by kernel_rfl) e2z ?_
      refine ok_go 1 ?_
      refine sy_loop 0 lf Z (α := Nat) (fun s => [(7, .slice (some ⟨h.next, 0, none⟩) G.length (2 * G.length)), (8, ptr h'.next 0), (51, .slice ra (grow G i).length rc), (52, J (grow G i).length), (53, J s)]) (fun s g => g = Z ∧ s ≤ (grow G i).length ∧ ∀ j (hj : j < (grow G i).length), j < s → S (grow G i)[j] ≠ wantP S i) (fun s _ => (grow G i).length - s) 0 (by kernel_rfl) (by kernel_rfl) ⟨by kernel_rfl, by kernel_rfl, by kernel_rfl, by kernel_rfl, by kernel_rfl, trivial⟩ (show (grow G i).length - 0 < lf by have := hrow i; omega) ⟨rfl, Nat.zero_le _, fun j _ hj => absurd hj (Nat.not_lt_zero _)⟩ ?_
      rintro m1 k f1 g1 ⟨rfl, hkl, hno⟩ ih
      refine ok_go 1 ?_
      refine sy_test 0 (decide (Int.ofNat k < Int.ofNat (grow G i).length)) (by kernel_rfl) ?_ ?_
      · intro hlt
        have hlt := ok_nat hlt
        have hrl := hrow i
        obtain ⟨q, e3, e4⟩ := rowN_get hrz hlt
        have htn := hG i (grow G i)[k] (List.getElem_mem hlt)
        refine ok_go 0 ?_
        refine sy_load 0 (r := indexAddrOp Tryd.prog 32 (.slice ra (grow G i).length rc) (J k)) (h' := g1) (by kernel_rfl) e3 ?_
        refine ok_go 0 ?_
        refine sy_load 0 (r := loadT Tryd.prog g1 3 q) (h' := g1) (by kernel_rfl) e4 ?_
        refine ok_go 0 ?_
        refine sy_load 0 (r := indexAddrOp Tryd.prog 65 (.slice (some ⟨h.next, 0, none⟩) G.length (2 * G.length)) (J (grow G i)[k])) (h' := g1) (by kernel_rfl) (idx65 htn) ?_
        refine ok_go 0 ?_
        refine sy_load 0 (r := loadT Tryd.prog g1 68 (ptr h.next ((grow G i)[k] * 2))) (h' := g1) (by kernel_rfl) (psz.both htn) ?_
        refine ok_go 0 ?_
        refine sy_load 0 (r := loadT Tryd.prog g1 68 (ptr h'.next 0)) (h' := g1) (by kernel_rfl) (load2 gz) ?_
        refine ok_go 0 ?_
        refine sy_call 0 (r := (pureOp Tryd.prog (rhoEq (.agg #[J (S (grow G i)[k]).1, I (S (grow G i)[k]).2]) (.agg #[J (wantP S i).1, I (wantP S i).2])) opEq).map (·, g1)) (by kernel_rfl) (eq68 _ _ _ _ _) ?_
        refine ok_go 0 ?_
        refine sy_test 0 (decide (Int.ofNat (S (grow G i)[k]).1 = Int.ofNat (wantP S i).1 ∧ (S (grow G i)[k]).2 = (wantP S i).2)) (by kernel_rfl) ?_ ?_
        · intro hc
          have hc := of_decide_eq_true hc
          have hc : S (grow G i)[k] = wantP S i := Prod.ext (Int.ofNat.inj hc.1) hc.2
          refine ok_go 0 ?_
          refine sy_done 0 (v := .tuple #[J (grow G i)[k], J 0]) (h := g1) (by kernel_rfl) ⟨xz, ?_⟩
          rw [find_at hlt hc hno]
        · intro hc
          have hc := of_decide_eq_false hc
          refine ok_go 1 ?_
          refine sy_next 0 _ g1 (by kernel_rfl) (by kernel_rfl) (ih (k + 1) _ g1 ⟨rfl, hlt, fun j hj hjk => ?_⟩ (show (grow G i).length - (k + 1) < (grow G i).length - k by omega) ⟨by kernel_rfl, by kernel_rfl, by kernel_rfl, by kernel_rfl, (by kernel_rfl : _ = Value.int .i64 (IntKind.wrap .i64 (Int.ofNat (k + 1)))).trans (by rw [wrap_nat (by omega)]), trivial⟩)
          rcases Nat.lt_succ_iff_lt_or_eq.1 hjk with h7 | h7
          · exact hno j hj h7
          · subst h7
            exact fun hw => hc ⟨by rw [hw], by rw [hw]⟩
      · intro hlt
        have hlt := no_nat hlt
        refine ok_go 0 ?_
        refine sy_done 0 (v := .tuple #[J 0, J 4]) (h := g1) (by kernel_rfl) ⟨xz, ?_⟩
        rw [find_no (fun j hj => hno j hj (by omega))]
    · intro hk2
      have hk2 : (S i).1 = 2 := by
        have : ¬ (Int.ofNat (S i).1 ≠ 2) := by simpa using hk2
        exact Int.ofNat.inj (Classical.not_not.1 this)
      have hw : wantP S i = (2, 0) := if_pos hk2
      have gz : Y.get h'.next = some (.cells [J (wantP S i).1, I (wantP S i).2] 68 false) := by rw [hw]; exact gxy
      have Z1 := X1.trans Y1
      have psz := ps.ext Z1
      have xz := hx.trans Z1
      have hrz := hr.ext xz
      have e2z : loadT Tryd.prog Y 32 p = some (.slice ra (grow G i).length rc) := e2e _ xz
      refine ok_go 0 ?_
      refine sy_load 0 (r := indexAddrOp Tryd.prog 31 (.slice a G.length c) (J i)) (h' := Y) (by kernel_rfl) e1 ?_
      refine ok_go 0 ?_
      refine sy_load 0 (r := loadT Tryd.prog Y 32 p) (h' := Y) (by kernel_rfl) e2z ?_
      refine ok_go 1 ?_
      refine sy_loop 0 lf Y (α := Nat) (fun s => [(7, .slice (some ⟨h.next, 0, none⟩) G.length (2 * G.length)), (8, ptr h'.next 0), (51, .slice ra (grow G i).length rc), (52, J (grow G i).length), (53, J s)]) (fun s g => g = Y ∧ s ≤ (grow G i).length ∧ ∀ j (hj : j < (grow G i).length), j < s → S (grow G i)[j] ≠ wantP S i) (fun s _ => (grow G i).length - s) 0 (by kernel_rfl) (by kernel_rfl) ⟨by kernel_rfl, by kernel_rfl, by kernel_rfl, by kernel_rfl, by kernel_rfl, trivial⟩ (show (grow G i).length - 0 < lf by have := hrow i; omega) ⟨rfl, Nat.zero_le _, fun j _ hj => absurd hj (Nat.not_lt_zero _)⟩ ?_
      rintro m1 k f1 g1 ⟨rfl, hkl, hno⟩ ih
      refine ok_go 1 ?_
      refine sy_test 0 (decide (Int.ofNat k < Int.ofNat (grow G i).length)) (by kernel_rfl) ?_ ?_
      · intro hlt
        have hlt := ok_nat hlt
        have hrl := hrow i
        obtain ⟨q, e3, e4⟩ := rowN_get hrz hlt
        have htn := hG i (grow G i)[k] (List.getElem_mem hlt)
        refine ok_go 0 ?_
        refine sy_load 0 (r := indexAddrOp Tryd.prog 32 (.slice ra (grow G i).length rc) (J k)) (h' := g1) (by kernel_rfl) e3 ?_
        refine ok_go 0 ?_
        refine sy_load 0 (r := loadT Tryd.prog g1 3 q) (h' := g1) (by kernel_rfl) e4 ?_
        refine ok_go 0 ?_
        refine sy_load 0 (r := indexAddrOp Tryd.prog 65 (.slice (some ⟨h.next, 0, none⟩) G.length (2 * G.length)) (J (grow G i)[k])) (h' := g1) (by kernel_rfl) (idx65 htn) ?_
        refine ok_go 0 ?_
        refine sy_load 0 (r := loadT Tryd.prog g1 68 (ptr h.next ((grow G i)[k] * 2))) (h' := g1) (by kernel_rfl) (psz.both htn) ?_
        refine ok_go 0 ?_
        refine sy_load 0 (r := loadT Tryd.prog g1 68 (ptr h'.next 0)) (h' := g1) (by kernel_rfl) (load2 gz) ?_
        refine ok_go 0 ?_
        refine sy_call 0 (r := (pureOp Tryd.prog (rhoEq (.agg #[J (S (grow G i)[k]).1, I (S (grow G i)[k]).2]) (.agg #[J (wantP S i).1, I (wantP S i).2])) opEq).map (·, g1)) (by kernel_rfl) (eq68 _ _ _ _ _) ?_
        refine ok_go 0 ?_
        refine sy_test 0 (decide (Int.ofNat (S (grow G i)[k]).1 = Int.ofNat (wantP S i).1 ∧ (S (grow G i)[k]).2 = (wantP S i).2)) (by kernel_rfl) ?_ ?_
        · intro hc
          have hc := of_decide_eq_true hc
          have hc : S (grow G i)[k] = wantP S i := Prod.ext (Int.ofNat.inj hc.1) hc.2
          refine ok_go 0 ?_
          refine sy_done 0 (v := .tuple #[J (grow G i)[k], J 0]) (h := g1) (by kernel_rfl) ⟨xz, ?_⟩
          rw [find_at hlt hc hno]
        · intro hc
          have hc := of_decide_eq_false hc
          refine ok_go 1 ?_
          refine sy_next 0 _ g1 (by kernel_rfl) (by kernel_rfl) (ih (k + 1) _ g1 ⟨rfl, hlt, fun j hj hjk => ?_⟩ (show (grow G i).length - (k + 1) < (grow G i).length - k by omega) ⟨by kernel_rfl, by kernel_rfl, by kernel_rfl, by kernel_rfl, (by kernel_rfl : _ = Value.int .i64 (IntKind.wrap .i64 (Int.ofNat (k + 1)))).trans (by rw [wrap_nat (by omega)]), trivial⟩)
          rcases Nat.lt_succ_iff_lt_or_eq.1 hjk with h7 | h7
          · exact hno j hj h7
          · subst h7
            exact fun hw => hc ⟨by rw [hw], by rw [hw]⟩
      · intro hlt
        have hlt := no_nat hlt
        refine ok_go 0 ?_
        refine sy_done 0 (v := .tuple #[J 0, J 4]) (h := g1) (by kernel_rfl) ⟨xz, ?_⟩
        rw [find_no (fun j hj => hno j hj (by omega))]
def kF (S : St) (v : Nat) : Value := J (S v).1
def dF (S : St) (v : Nat) : Value := I (S v).2
theorem beq_nat (a b : Nat) : (Int.ofNat a == Int.ofNat b) = (a == b) := by
  rw [Bool.eq_iff_iff, beq_iff_eq, beq_iff_eq]
  exact ⟨Int.ofNat.inj, congrArg _⟩
end Go.Proofs.YtegcmgjldapnmaaDoor
