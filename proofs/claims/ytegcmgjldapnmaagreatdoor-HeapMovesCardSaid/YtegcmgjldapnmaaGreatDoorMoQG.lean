/- The reference's put and before. -/
import Derived.Test.YtegcmgjldapnmaaGreatDoorProg
import Derived.KernelRfl
import Derived.Test.YtegcmgjldapnmaaGreatDoorSyF
import Derived.Test.YtegcmgjldapnmaaGreatDoorMoQF
import Derived.Test.YtegcmgjldapnmaaGreatDoorMoQB
namespace Go.Proofs.YtegcmgjldapnmaaGreatDoor
open Go Go.Eng Nim Oct
set_option maxRecDepth 100000
set_option maxHeartbeats 8000000
theorem all_J (l : List Nat) : (l.map J).all scalar = true := List.all_eq_true.2 fun v hv => by obtain ⟨n, _, rfl⟩ := List.mem_map.1 hv; rfl
theorem orN {h : Hp} {rv : Value} {r : List Nat} (hr : ORd h rv (r.map J)) {k : Nat} (hk : k < r.length) : ∃ p, indexAddrOp Tryz.prog 22 rv (J k) = some p ∧ loadT Tryz.prog h 3 p = some (J r[k]) := rdN hr.2 hk
theorem osl_none {l : List Nat} {c : Nat} (h : ∃ q, Value.slice none l.length c = oslV q (l.map J).length) : l = [] ∧ c = 0 := by
  obtain ⟨q, h⟩ := h
  cases l with
  | nil => cases h; exact ⟨rfl, rfl⟩
  | cons x l => cases h
theorem put_of (lf m : Nat) (hlf : 20000 ≤ lf) (l : List Nat) (hl : l.length ≤ 1000) (n : Nat) (x : Value) (h : Hp) (hx : ORd h x (l.map J)) :
    ∃ v h', Ev lf (m + 1) 34 [x, J n] h = some (v, h') ∧ ORd h' v ((insN l n).map J) ∧ h.Ext h' := by
  refine fnS_ok (Q := fun v h' => ORd h' v ((insN l n).map J) ∧ h.Ext h') ?_
  have W := Sto.start h
  obtain ⟨xa, xc, hsh⟩ := hx.2.shape
  rw [List.length_map] at hsh
  have hox := hx
  subst hsh
  refine ok_go 1 ?_
  refine sy_test 0 (Int.ofNat n == 0) (by kernel_rfl) ?_ ?_
  · intro h0
    have h0 : n = 0 := Int.ofNat.inj (eq_of_beq h0)
    refine ok_go 0 ?_
    refine sy_done 0 (v := .slice xa l.length xc) (h := h) (by kernel_rfl) ?_
    exact ⟨by unfold insN; rw [if_pos h0]; exact hx, Hp.Ext.refl h⟩
  · intro h0
    have h0 : n ≠ 0 := fun e => by rw [e] at h0; cases h0
    refine ok_go 0 ?_
    refine sy_loop 0 lf h (α := Nat) (fun k => [(0, .slice xa l.length xc), (1, J n), (5, J k)]) (fun k g => k ≤ l.length ∧ (∀ j (_ : j < k) (hj : j < l.length), l[j] < n) ∧ g = h) (fun k _ => l.length - k) 0 (by kernel_rfl) (by kernel_rfl)
      ⟨by kernel_rfl, by kernel_rfl, by kernel_rfl, trivial⟩ (show l.length - 0 < lf by omega) ⟨Nat.zero_le _, fun j hj => absurd hj (by omega), rfl⟩ ?_
    rintro m1 k F1 g ⟨hk, hb, rfl⟩ ih
    have hw : IntKind.wrap .i64 (Int.ofNat (k + 1)) = Int.ofNat (k + 1) := wrap_nat (by omega)
    refine ok_go 2 ?_
    refine sy_test 0 (decide (Int.ofNat k < Int.ofNat l.length)) (by kernel_rfl) ?_ ?_
    · intro hkl
      have hkl : k < l.length := ok_nat hkl
      obtain ⟨p, hp1, hp2⟩ := orN hx hkl
      refine ok_go 2 ?_
      refine sy_load 0 (r := indexAddrOp Tryz.prog 22 (.slice xa l.length xc) (J k)) (h' := g) (by kernel_rfl) hp1 ?_
      refine ok_go 1 ?_
      refine sy_load 0 (r := loadT Tryz.prog g 3 p) (h' := g) (by kernel_rfl) hp2 ?_
      refine ok_go 4 ?_
      refine sy_test 0 (decide (Int.ofNat l[k] < Int.ofNat n)) (by kernel_rfl) ?_ ?_
      · intro hlt
        have hlt : l[k] < n := ok_nat hlt
        refine ok_go 1 ?_
        exact sy_next 0 _ g (by kernel_rfl) (by kernel_rfl) (ih (k + 1) _ g ⟨hkl, fun j hj h2 => by
          rcases Nat.lt_succ_iff_lt_or_eq.1 hj with h | rfl
          · exact hb j h h2
          · exact hlt, rfl⟩ (show l.length - (k + 1) < l.length - k by omega) ⟨by kernel_rfl, by kernel_rfl, (by kernel_rfl : _ = Value.int .i64 (IntKind.wrap .i64 (Int.ofNat (k + 1)))).trans (by rw [hw]), trivial⟩)
      · intro hlt
        have hge : n ≤ l[k] := no_nat hlt
        obtain ⟨e1, e2⟩ := tw_at (p := fun x => decide (x < n)) l k (fun j hj h2 => decide_eq_true (hb j hj h2)) hk (fun _ => decide_eq_false (by omega))
        have hins : insN l n = l.take k ++ n :: l.drop k := by unfold insN; rw [if_neg h0, e1, e2]
        rw [hins]
        obtain ⟨y, hy, hye⟩ := hx.hi (P := Tryz.prog) (t := 22) (e := 3) (by kernel_rfl) (by kernel_rfl) (j := k) (by rw [List.length_map]; exact hk)
        obtain ⟨z, hz, hze⟩ := hx.lo (P := Tryz.prog) (t := 22) (e := 3) (by kernel_rfl) (by kernel_rfl) (j := k) (by rw [List.length_map]; exact hk)
        rw [← List.map_take] at hye
        rw [← List.map_drop] at hze
        refine ok_go 0 ?_
        refine sy_any 0 (p := fun v => RdE g v ((l.take k).map J)) (h' := g) ?_ ?_
        · cases xa with
          | none =>
            obtain ⟨rfl, rfl⟩ := osl_none hox.1
            obtain rfl : k = 0 := Nat.le_zero.1 hk
            exact ⟨.slice none 0 0, fun _ _ => ⟨⟨_, _, rfl⟩, rfl⟩, by kernel_rfl⟩
          | some ra => exact ⟨y, hye, (by kernel_rfl : _ = (sliceOp Tryz.prog 22 (.slice (some ra) l.length xc) none (some (J k)) none).map (·, g)).trans (by rw [hy]; rfl)⟩
        clear hye hy y
        intro y hye
        obtain ⟨ya, yc, rfl⟩ := hye.now.1
        refine ok_go 0 ?_
        refine ow_apps (P := Tryz.prog) (t := 22) (e := 3) (l := []) (i := 0) (zs := []) 0 W slz32 hye (all_J _) (by simp; omega) (by kernel_rfl) fun g1 s1 j1 hs1 hc1 W => ?_
        obtain ⟨a1, c1, ho1⟩ : ∃ a c, oslV j1 (([] : List Value).length + ((l.take k).map J).length) = .slice a k c := by
          obtain ⟨a, c, e⟩ := osl_shape j1 (([] : List Value).length + ((l.take k).map J).length)
          exact ⟨a, c, by rw [e]; simp; omega⟩
        rw [ho1] at hs1
        subst hs1
        have hlk : (l.take k).length = k := by rw [List.length_take]; omega
        refine ow_new 0 W (AObj.cells [Value.int IntKind.i64 (Int.ofNat n)] 3 false) (fun q => Value.slice (some { block := q, off := 0 }) 1 2) (by kernel_rfl) fun g21 ng21 Wg21 => ?_
        have W := Wg21
        have W : Sto g g21 ((g1.next, .cells [J n] 3 false) :: ([] ++ oent j1 3 ((l.take k).map J))) := W
        refine ow_app (P := Tryz.prog) (t := 22) (e := 3) (z := 1) (c := k) (i := j1) 0 W slz32 (by rw [List.length_map, hlk, Nat.mul_one]) rfl rfl (by omega) (by rw [show oslV j1 k = .slice a1 k c1 from (by rw [← ho1]; simp; rw [Nat.min_eq_left hk])]; kernel_rfl) fun g3 s2 ng3 hs2 hc2 W => ?_
        obtain ⟨a2, c2, ho2⟩ := osl_shape g21.next (k + 1)
        rw [ho2] at hs2
        subst hs2
        refine ok_go 0 ?_
        replace hze : RdE g3 z ((l.drop k).map J) := hze.ext W.ext
        refine sy_any 0 (p := fun v => RdE g3 v ((l.drop k).map J)) (h' := g3) ?_ ?_
        · cases xa with
          | none =>
            obtain ⟨rfl, rfl⟩ := osl_none hox.1
            obtain rfl : k = 0 := Nat.le_zero.1 hk
            exact ⟨.slice none 0 0, fun _ _ => ⟨⟨_, _, rfl⟩, rfl⟩, by kernel_rfl⟩
          | some ra => exact ⟨z, hze, (by kernel_rfl : _ = (sliceOp Tryz.prog 22 (.slice (some ra) l.length xc) (some (J k)) none none).map (·, g3)).trans (by rw [hz]; rfl)⟩
        clear hze hz z
        intro z hze
        obtain ⟨za, zc, rfl⟩ := hze.now.1
        refine ok_go 0 ?_
        have W : Sto g g3 ([] ++ oent g21.next 3 ((l.take k ++ [n]).map J)) := by rw [List.map_append]; exact W
        have hl1 : ((l.take k ++ [n]).map J).length = k + 1 := by rw [List.length_map, List.length_append, hlk]; rfl
        refine ow_apps (P := Tryz.prog) (t := 22) (e := 3) (l := []) (i := g21.next) (zs := (l.take k ++ [n]).map J) 0 W slz32 hze (all_J _) (by rw [hl1, List.length_map, List.length_drop]; omega) (by rw [hl1, ho2]; kernel_rfl) fun g4 s3 j3 hs3 hc3 W => ?_
        refine ok_go 0 ?_
        rw [← List.map_append, List.append_assoc] at W
        refine sy_done 0 (v := s3) (h := g4) (by kernel_rfl) ⟨?_, W.ext⟩
        have hw4 := sto_ord W
        rw [show oslV j3 ((l.take k ++ ([n] ++ l.drop k)).map J).length = s3 from by rw [hs3, hl1]; exact congrArg (oslV j3) (by simp only [List.length_map, List.length_append, List.length_cons, List.length_nil, hlk, List.length_drop]; omega)] at hw4
        exact hw4
    · intro hkl
      have hkl : l.length ≤ k := no_nat hkl
      obtain ⟨e1, e2⟩ := tw_at (p := fun x => decide (x < n)) l k (fun j hj h2 => decide_eq_true (hb j hj h2)) hk (fun h => absurd h (by omega))
      have hins : insN l n = l.take k ++ n :: l.drop k := by unfold insN; rw [if_neg h0, e1, e2]
      rw [hins]
      obtain ⟨y, hy, hye⟩ := hx.hi (P := Tryz.prog) (t := 22) (e := 3) (by kernel_rfl) (by kernel_rfl) (j := k) (by rw [List.length_map]; exact hk)
      obtain ⟨z, hz, hze⟩ := hx.lo (P := Tryz.prog) (t := 22) (e := 3) (by kernel_rfl) (by kernel_rfl) (j := k) (by rw [List.length_map]; exact hk)
      rw [← List.map_take] at hye
      rw [← List.map_drop] at hze
      refine ok_go 7 ?_
      refine sy_any 0 (p := fun v => RdE g v ((l.take k).map J)) (h' := g) ?_ ?_
      · cases xa with
        | none =>
          obtain ⟨rfl, rfl⟩ := osl_none hox.1
          obtain rfl : k = 0 := Nat.le_zero.1 hk
          exact ⟨.slice none 0 0, fun _ _ => ⟨⟨_, _, rfl⟩, rfl⟩, by kernel_rfl⟩
        | some ra => exact ⟨y, hye, (by kernel_rfl : _ = (sliceOp Tryz.prog 22 (.slice (some ra) l.length xc) none (some (J k)) none).map (·, g)).trans (by rw [hy]; rfl)⟩
      clear hye hy y
      intro y hye
      obtain ⟨ya, yc, rfl⟩ := hye.now.1
      refine ok_go 0 ?_
      refine ow_apps (P := Tryz.prog) (t := 22) (e := 3) (l := []) (i := 0) (zs := []) 0 W slz32 hye (all_J _) (by simp; omega) (by kernel_rfl) fun g1 s1 j1 hs1 hc1 W => ?_
      obtain ⟨a1, c1, ho1⟩ : ∃ a c, oslV j1 (([] : List Value).length + ((l.take k).map J).length) = .slice a k c := by
        obtain ⟨a, c, e⟩ := osl_shape j1 (([] : List Value).length + ((l.take k).map J).length)
        exact ⟨a, c, by rw [e]; simp; omega⟩
      rw [ho1] at hs1
      subst hs1
      have hlk : (l.take k).length = k := by rw [List.length_take]; omega
      refine ow_new 0 W (AObj.cells [Value.int IntKind.i64 (Int.ofNat n)] 3 false) (fun q => Value.slice (some { block := q, off := 0 }) 1 2) (by kernel_rfl) fun g21 ng21 Wg21 => ?_
      have W := Wg21
      have W : Sto g g21 ((g1.next, .cells [J n] 3 false) :: ([] ++ oent j1 3 ((l.take k).map J))) := W
      refine ow_app (P := Tryz.prog) (t := 22) (e := 3) (z := 1) (c := k) (i := j1) 0 W slz32 (by rw [List.length_map, hlk, Nat.mul_one]) rfl rfl (by omega) (by rw [show oslV j1 k = .slice a1 k c1 from (by rw [← ho1]; simp; rw [Nat.min_eq_left hk])]; kernel_rfl) fun g3 s2 ng3 hs2 hc2 W => ?_
      obtain ⟨a2, c2, ho2⟩ := osl_shape g21.next (k + 1)
      rw [ho2] at hs2
      subst hs2
      refine ok_go 0 ?_
      replace hze : RdE g3 z ((l.drop k).map J) := hze.ext W.ext
      refine sy_any 0 (p := fun v => RdE g3 v ((l.drop k).map J)) (h' := g3) ?_ ?_
      · cases xa with
        | none =>
          obtain ⟨rfl, rfl⟩ := osl_none hox.1
          obtain rfl : k = 0 := Nat.le_zero.1 hk
          exact ⟨.slice none 0 0, fun _ _ => ⟨⟨_, _, rfl⟩, rfl⟩, by kernel_rfl⟩
        | some ra => exact ⟨z, hze, (by kernel_rfl : _ = (sliceOp Tryz.prog 22 (.slice (some ra) l.length xc) (some (J k)) none none).map (·, g3)).trans (by rw [hz]; rfl)⟩
      clear hze hz z
      intro z hze
      obtain ⟨za, zc, rfl⟩ := hze.now.1
      refine ok_go 0 ?_
      have W : Sto g g3 ([] ++ oent g21.next 3 ((l.take k ++ [n]).map J)) := by rw [List.map_append]; exact W
      have hl1 : ((l.take k ++ [n]).map J).length = k + 1 := by rw [List.length_map, List.length_append, hlk]; rfl
      refine ow_apps (P := Tryz.prog) (t := 22) (e := 3) (l := []) (i := g21.next) (zs := (l.take k ++ [n]).map J) 0 W slz32 hze (all_J _) (by rw [hl1, List.length_map, List.length_drop]; omega) (by rw [hl1, ho2]; kernel_rfl) fun g4 s3 j3 hs3 hc3 W => ?_
      refine ok_go 0 ?_
      rw [← List.map_append, List.append_assoc] at W
      refine sy_done 0 (v := s3) (h := g4) (by kernel_rfl) ⟨?_, W.ext⟩
      have hw4 := sto_ord W
      rw [show oslV j3 ((l.take k ++ ([n] ++ l.drop k)).map J).length = s3 from by rw [hs3, hl1]; exact congrArg (oslV j3) (by simp only [List.length_map, List.length_append, List.length_cons, List.length_nil, hlk, List.length_drop]; omega)] at hw4
      exact hw4
end Go.Proofs.YtegcmgjldapnmaaGreatDoor
namespace Go.Proofs.YtegcmgjldapnmaaGreatDoor
open Go Go.Eng Nim Oct
set_option maxRecDepth 100000
set_option maxHeartbeats 8000000
theorem before_of (lf m : Nat) (hlf : 20000 ≤ lf) (a b : List Nat) (ha : a.length ≤ 1000) (hb : b.length ≤ 1000) (x y : Value) (g : Hp) (hx : Rds g x (a.map J)) (hy : Rds g y (b.map J)) : Ev lf (m + 1) 35 [x, y] g = some (.bool (decide (lexC a b < 0)), g) := by
  refine fn_eq ?_
  obtain ⟨xa, xc, hxs⟩ := hx.shape
  obtain ⟨ya, yc, hys⟩ := hy.shape
  rw [List.length_map] at hxs hys
  subst hxs hys
  refine ok_go 0 ?_
  refine sy_loop 0 lf g (α := Nat) (fun k => [(0, .slice xa a.length xc), (1, .slice ya b.length yc), (5, J k)]) (fun k g' => k ≤ a.length ∧ k ≤ b.length ∧ a.take k = b.take k ∧ g' = g) (fun k _ => a.length - k) 0 (by kernel_rfl) (by kernel_rfl)
    ⟨by kernel_rfl, by kernel_rfl, by kernel_rfl, trivial⟩ (show a.length - 0 < lf by omega) ⟨Nat.zero_le _, Nat.zero_le _, rfl, rfl⟩ ?_
  rintro m1 k F1 g' ⟨hka, hkb, hpre, rfl⟩ ih
  have hw : IntKind.wrap .i64 (Int.ofNat (k + 1)) = Int.ofNat (k + 1) := wrap_nat (by omega)
  have hdr := lexC_drop k a b hka hkb hpre
  refine ok_go 2 ?_
  refine sy_test 0 (decide (Int.ofNat k < Int.ofNat a.length)) (by kernel_rfl) ?_ ?_
  · intro hl1
    have hl1 : k < a.length := ok_nat hl1
    obtain ⟨p, hp1, hp2⟩ := rdN hx hl1
    refine ok_go 6 ?_
    refine sy_test 0 (decide (Int.ofNat k < Int.ofNat b.length)) (by kernel_rfl) ?_ ?_
    · intro hl2
      have hl2 : k < b.length := ok_nat hl2
      obtain ⟨q, hq1, hq2⟩ := rdN hy hl2
      have hdr2 : lexC a b = lexC (a[k] :: a.drop (k + 1)) (b[k] :: b.drop (k + 1)) := by rw [hdr, List.drop_eq_getElem_cons hl1, List.drop_eq_getElem_cons hl2]
      have tx := List.take_succ_eq_append_getElem hl1
      have ty := List.take_succ_eq_append_getElem hl2
      generalize a[k] = u at *
      generalize b[k] = v at *
      have hdr3 : lexC a b = if u < v then -1 else if v < u then 1 else lexC (a.drop (k + 1)) (b.drop (k + 1)) := hdr2
      refine ok_go 0 ?_
      refine sy_load 0 (r := indexAddrOp Tryz.prog 22 (.slice xa a.length xc) (J k)) (h' := g') (by kernel_rfl) hp1 ?_
      refine ok_go 0 ?_
      refine sy_load 0 (r := loadT Tryz.prog g' 3 p) (h' := g') (by kernel_rfl) hp2 ?_
      refine ok_go 0 ?_
      refine sy_load 0 (r := indexAddrOp Tryz.prog 22 (.slice ya b.length yc) (J k)) (h' := g') (by kernel_rfl) hq1 ?_
      refine ok_go 0 ?_
      refine sy_load 0 (r := loadT Tryz.prog g' 3 q) (h' := g') (by kernel_rfl) hq2 ?_
      refine ok_go 1 ?_
      refine sy_test 0 (Int.ofNat u != Int.ofNat v) (by kernel_rfl) ?_ ?_
      · intro hne
        have hne : u ≠ v := fun h => by rw [h] at hne; simp at hne
        refine ok_go 0 ?_
        refine sy_load 0 (r := indexAddrOp Tryz.prog 22 (.slice xa a.length xc) (J k)) (h' := g') (by kernel_rfl) hp1 ?_
        refine ok_go 0 ?_
        refine sy_load 0 (r := loadT Tryz.prog g' 3 p) (h' := g') (by kernel_rfl) hp2 ?_
        refine ok_go 0 ?_
        refine sy_load 0 (r := indexAddrOp Tryz.prog 22 (.slice ya b.length yc) (J k)) (h' := g') (by kernel_rfl) hq1 ?_
        refine ok_go 0 ?_
        refine sy_load 0 (r := loadT Tryz.prog g' 3 q) (h' := g') (by kernel_rfl) hq2 ?_
        refine ok_go 1 ?_
        refine sy_done 0 (v := .bool (decide (Int.ofNat u < Int.ofNat v))) (h := g') (by kernel_rfl) ⟨?_, rfl⟩
        rw [hdr3]
        by_cases h1 : u < v
        · rw [if_pos h1, decide_eq_true (show Int.ofNat u < Int.ofNat v from Int.ofNat_lt.2 h1)]; rfl
        · rw [if_neg h1, if_pos (by omega), decide_eq_false (fun h => h1 (Int.ofNat_lt.1 h) : ¬ Int.ofNat u < Int.ofNat v)]; rfl
      · intro he
        have he : u = v := by
          have : (Int.ofNat u == Int.ofNat v) = true := by simpa [bne] using he
          exact Int.ofNat.inj (eq_of_beq this)
        refine ok_go 1 ?_
        exact sy_next 0 _ g' (by kernel_rfl) (by kernel_rfl) (ih (k + 1) _ g' ⟨hl1, hl2, by rw [tx, ty, hpre, he], rfl⟩ (show a.length - (k + 1) < a.length - k by omega) ⟨by kernel_rfl, by kernel_rfl, (by kernel_rfl : _ = Value.int .i64 (IntKind.wrap .i64 (Int.ofNat (k + 1)))).trans (by rw [hw]), trivial⟩)
    · intro hl2
      have hl2 : b.length ≤ k := no_nat hl2
      have hke : b.length = k := Nat.le_antisymm hl2 hkb
      rw [List.drop_eq_getElem_cons hl1, List.drop_eq_nil_of_le hl2] at hdr
      refine ok_go 3 ?_
      refine sy_done 0 (v := .bool (decide (Int.ofNat a.length < Int.ofNat b.length))) (h := g') (by kernel_rfl) ⟨?_, rfl⟩
      rw [hdr, decide_eq_false (fun h => by have := Int.ofNat_lt.1 h; omega : ¬ Int.ofNat a.length < Int.ofNat b.length)]
      rfl
  · intro hl1
    have hl1 : a.length ≤ k := no_nat hl1
    rw [List.drop_eq_nil_of_le hl1] at hdr
    refine ok_go 8 ?_
    refine sy_done 0 (v := .bool (decide (Int.ofNat a.length < Int.ofNat b.length))) (h := g') (by kernel_rfl) ⟨?_, rfl⟩
    rw [hdr]
    by_cases h2 : k < b.length
    · rw [List.drop_eq_getElem_cons h2, decide_eq_true (show Int.ofNat a.length < Int.ofNat b.length from Int.ofNat_lt.2 (by omega))]; rfl
    · rw [List.drop_eq_nil_of_le (by omega), decide_eq_false (fun h => by have := Int.ofNat_lt.1 h; omega : ¬ Int.ofNat a.length < Int.ofNat b.length)]; rfl
end Go.Proofs.YtegcmgjldapnmaaGreatDoor
namespace Go.Proofs.YtegcmgjldapnmaaGreatDoor.Oct
def insU (out : List (List Nat)) (p : List Nat) : List (List Nat) :=
  match out.dropWhile (fun r => decide (lexC r p < 0)) with
  | [] => out ++ [p]
  | r :: s => if lexC p r < 0 then out.takeWhile (fun r => decide (lexC r p < 0)) ++ p :: r :: s else out
abbrev Rise (l : List (List Nat)) : Prop := l.Pairwise fun a b => lexC a b < 0
theorem lexC_lt {a b c : List Nat} (h1 : lexC a b < 0) (h2 : lexC b c ≤ 0) : lexC a c < 0 := by
  have h3 := lexC_tr (Int.le_of_lt h1) h2
  rcases Int.lt_or_eq_of_le h3 with h | h
  · exact h
  · have := lexC_eq h
    subst this
    have := lexC_neg a b
    omega
theorem tw_all {α : Type} (p : α → Bool) : ∀ (l : List α), ∀ a ∈ l.takeWhile p, p a = true
  | [], a, ha => by cases ha
  | x :: l, a, ha => by
    rw [List.takeWhile_cons] at ha
    split at ha
    · rename_i hx
      rcases List.mem_cons.1 ha with rfl | h
      · exact hx
      · exact tw_all p l a h
    · cases ha
theorem dw_head {α : Type} (p : α → Bool) : ∀ (l : List α) {r : α} {s : List α}, l.dropWhile p = r :: s → p r = false
  | [], r, s, h => by cases h
  | x :: l, r, s, h => by
    rw [List.dropWhile_cons] at h
    split at h
    · exact dw_head p l h
    · rename_i hx
      cases h
      simpa using hx
theorem insU_spec {out : List (List Nat)} (h : Rise out) (p : List Nat) : Rise (insU out p) ∧ ∀ x, x ∈ insU out p ↔ x = p ∨ x ∈ out := by
  have hcat := List.takeWhile_append_dropWhile (p := fun r => decide (lexC r p < 0)) (l := out)
  have htw := tw_all (fun r => decide (lexC r p < 0)) out
  unfold insU
  split
  · rename_i hd
    rw [hd, List.append_nil] at hcat
    rw [hcat] at htw
    refine ⟨?_, fun x => by simp [or_comm]⟩
    show List.Pairwise _ _
    rw [List.pairwise_append]
    exact ⟨h, List.pairwise_singleton _ _, fun a ha b hb => by rw [List.mem_singleton.1 hb]; exact of_decide_eq_true (htw a ha)⟩
  · rename_i r s hd
    have hr : ¬ lexC r p < 0 := of_decide_eq_false (dw_head _ out hd)
    split
    · rename_i hp
      rw [hd] at hcat
      have h' : Rise (out.takeWhile (fun r => decide (lexC r p < 0)) ++ r :: s) := by rw [hcat]; exact h
      obtain ⟨h1, h2, h3⟩ := List.pairwise_append.1 h'
      constructor
      · show List.Pairwise _ _
        rw [List.pairwise_append]
        refine ⟨h1, List.pairwise_cons.2 ⟨fun b hb => ?_, h2⟩, fun a ha b hb => ?_⟩
        · rcases List.mem_cons.1 hb with rfl | hb
          · exact hp
          · exact lexC_lt hp (Int.le_of_lt ((List.pairwise_cons.1 h2).1 b hb))
        · rcases List.mem_cons.1 hb with rfl | hb
          · exact of_decide_eq_true (htw a ha)
          · exact h3 a ha b hb
      · intro x
        generalize out.takeWhile (fun r => decide (lexC r p < 0)) = t at *
        rw [← hcat]
        simp only [List.mem_append, List.mem_cons]
        constructor
        · rintro (h | h | h | h)
          · exact .inr (.inl h)
          · exact .inl h
          · exact .inr (.inr (.inl h))
          · exact .inr (.inr (.inr h))
        · rintro (h | h | h | h)
          · exact .inr (.inl h)
          · exact .inl h
          · exact .inr (.inr (.inl h))
          · exact .inr (.inr (.inr h))
    · rename_i hp
      refine ⟨h, fun x => ⟨.inr, ?_⟩⟩
      rintro (rfl | hx)
      · have hneg := lexC_neg r x
        have : r = x := lexC_eq (by omega)
        subst this
        rw [← hcat, hd]
        exact List.mem_append_right _ List.mem_cons_self
      · exact hx
theorem insU_all : ∀ (l out : List (List Nat)), Rise out → Rise (l.foldl insU out) ∧ ∀ x, x ∈ l.foldl insU out ↔ x ∈ out ∨ x ∈ l
  | [], out, h => ⟨h, fun x => by simp⟩
  | p :: l, out, h => by
    obtain ⟨h1, h2⟩ := insU_spec h p
    obtain ⟨h3, h4⟩ := insU_all l (insU out p) h1
    refine ⟨h3, fun x => ?_⟩
    rw [List.foldl_cons, h4 x, h2 x, List.mem_cons]
    constructor
    · rintro ((h | h) | h)
      · exact .inr (.inl h)
      · exact .inl h
      · exact .inr (.inr h)
    · rintro (h | h | h)
      · exact .inl (.inr h)
      · exact .inl (.inl h)
      · exact .inr h
theorem ddK_rise : ∀ {P : List (List Nat)}, P.Pairwise (fun a b => lexC a b ≤ 0) → Rise (ddK P)
  | [], _ => List.Pairwise.nil
  | [x], _ => List.pairwise_singleton _ _
  | x :: y :: r, h => by
    have ih := ddK_rise (P := y :: r) (List.pairwise_cons.1 h).2
    unfold ddK
    split
    · exact ih
    · rename_i hxy
      refine List.pairwise_cons.2 ⟨fun z hz => ?_, ih⟩
      have hz := mem_ddK.1 hz
      have h1 := (List.pairwise_cons.1 h).1 y List.mem_cons_self
      have h0 : lexC x y < 0 := by
        rcases Int.lt_or_eq_of_le h1 with h | h
        · exact h
        · exact absurd (lexC_eq h) hxy
      rcases List.mem_cons.1 hz with rfl | hz
      · exact h0
      · exact lexC_lt h0 ((List.pairwise_cons.1 (List.pairwise_cons.1 h).2).1 z hz)
theorem rise_uniq {a b : List (List Nat)} (ha : Rise a) (hb : Rise b) (h : ∀ x, x ∈ a ↔ x ∈ b) : a = b := by
  have nd : ∀ {l : List (List Nat)}, Rise l → l.Nodup := fun hl => hl.imp fun {u v} h e => by subst e; rw [lexC_self] at h; omega
  have hp : a.Perm b := (List.perm_ext_iff_of_nodup (nd ha) (nd hb)).2 h
  exact List.Perm.eq_of_pairwise (fun u v _ _ h1 h2 => by have := lexC_neg u v; omega) ha hb hp
theorem same_rows {C P : List (List Nat)} (hP : P.Perm C) (hs : P.Pairwise (fun a b => lexC a b ≤ 0)) : C.foldl insU [] = ddK P := by
  obtain ⟨h1, h2⟩ := insU_all C [] List.Pairwise.nil
  refine rise_uniq h1 (ddK_rise hs) fun x => ?_
  rw [h2 x, mem_ddK, hP.mem_iff]
  simp
end Go.Proofs.YtegcmgjldapnmaaGreatDoor.Oct
namespace Go.Proofs.YtegcmgjldapnmaaGreatDoor
open Go Go.Eng Nim Oct
theorem mrow_acc (d ns : List Nat) {i : Nat} (hi : i < ns.length) (p : Nat × Nat) : accR d (mrow ns i p) = accR d ns ^^^ gv d (ns.getD i 0) ^^^ gv d p.1 ^^^ gv d p.2 := by
  have hgd : ns.getD i 0 = ns[i] := by rw [List.getD_eq_getElem?_getD, List.getElem?_eq_getElem hi]; rfl
  unfold mrow
  rw [acc_perm d (srtL_perm _), acc_filt, acc_app, acc_erase d ns i hi, acc_cons, acc_cons, show accR d [] = 0 from rfl, Nat.xor_zero, ← Nat.xor_assoc, hgd]
theorem put_row (ns : List Nat) (i : Nat) (p : Nat × Nat) (r : List Nat) (hr : r.filter nz = [p.1, p.2].filter nz) : r.foldl insN ((ns.eraseIdx i).foldl insN []) = mrow ns i p := by
  obtain ⟨h1, h2⟩ := ins_all (ns.eraseIdx i) [] List.Pairwise.nil
  obtain ⟨h3, h4⟩ := ins_all r _ h1
  refine srt_uniq ?_ h3
  refine h4.trans ?_
  rw [List.filter_append, hr]
  refine List.Perm.append_right _ ?_
  rw [List.nil_append] at h2
  exact h2
end Go.Proofs.YtegcmgjldapnmaaGreatDoor
namespace Go.Proofs.YtegcmgjldapnmaaGreatDoor
open Go Go.Eng Nim Oct
set_option maxRecDepth 100000
set_option maxHeartbeats 8000000
def LRd (h : Hp) (x : Value) (rows : List (List Nat)) : Prop := ∃ vs : List Value, ORd h x vs ∧ vs.length = rows.length ∧ vs.all scalar = true ∧ ∀ (i : Nat) (rv : Value) (r : List Nat), vs[i]? = some rv → rows[i]? = some r → Rds h rv (r.map J)
theorem LRd.ext {h g : Hp} {x : Value} {rows : List (List Nat)} (k : LRd h x rows) (X : h.Ext g) : LRd g x rows := by
  obtain ⟨vs, h1, h2, h3, h4⟩ := k
  exact ⟨vs, h1.ext X, h2, h3, fun i rv r a b => (h4 i rv r a b).ext X⟩
theorem LRd.shape {h : Hp} {x : Value} {rows : List (List Nat)} (k : LRd h x rows) : ∃ a c, x = .slice a rows.length c := by
  obtain ⟨vs, ⟨⟨q, rfl⟩, _⟩, h2, _⟩ := k
  rw [h2]
  exact osl_shape q rows.length
theorem LRd.row {h : Hp} {x : Value} {rows : List (List Nat)} (k : LRd h x rows) {i : Nat} (hi : i < rows.length) : ∃ p rv, indexAddrOp Tryz.prog 24 x (J i) = some p ∧ ∀ g, h.Ext g → loadT Tryz.prog g 22 p = some rv ∧ Rds g rv (rows[i].map J) := by
  obtain ⟨vs, h1, h2, h3, h4⟩ := k
  have hv : i < vs.length := by omega
  have rd := fun g (X : h.Ext g) => (h1.ext X).2.read (kd := .i64) (k := i) (v := vs[i]) (t := 24) (e := 22) (P := Tryz.prog) (by kernel_rfl) (by kernel_rfl) (by kernel_rfl) (List.getElem?_eq_getElem hv)
  obtain ⟨p, e1, _⟩ := rd h (Hp.Ext.refl h)
  refine ⟨p, vs[i], e1, fun g X => ?_⟩
  obtain ⟨p', e3, e4⟩ := rd g X
  rw [e1] at e3
  cases e3
  exact ⟨e4, (h4 i _ _ (List.getElem?_eq_getElem hv) (List.getElem?_eq_getElem hi)).ext X⟩
theorem osl_none2 {n m c : Nat} (h : ∃ q, Value.slice none n c = oslV q m) : n = 0 ∧ c = 0 := by
  obtain ⟨q, h⟩ := h
  cases m with
  | zero => cases h; exact ⟨rfl, rfl⟩
  | succ m => cases h
theorem mrow_le {ns : List Nat} {i : Nat} {p : Nat × Nat} {M : Nat} (h : ∀ y ∈ ns, y ≤ M) (h1 : p.1 ≤ M) (h2 : p.2 ≤ M) : ∀ y ∈ mrow ns i p, y ≤ M := fun y hy => by
  unfold mrow at hy
  have hy := (List.mem_filter.1 ((srtL_perm _).mem_iff.1 hy)).1
  rcases List.mem_append.1 hy with hy | hy
  · exact h y (List.mem_of_mem_eraseIdx hy)
  · rcases List.mem_cons.1 hy with rfl | hy
    · exact h1
    · rw [List.mem_singleton.1 hy]; exact h2
theorem mrow_len (ns : List Nat) (i : Nat) (p : Nat × Nat) : (mrow ns i p).length ≤ ns.length + 2 := by
  unfold mrow
  rw [(srtL_perm _).length_eq]
  refine Nat.le_trans (List.length_filter_le _ _) ?_
  rw [List.length_append]
  have := List.length_eraseIdx_le ns i
  simp
  omega
theorem insU_at {rows : List (List Nat)} {r : List Nat} {k : Nat} (hk : k ≤ rows.length) (hb : ∀ j (_ : j < k) (hj : j < rows.length), lexC rows[j] r < 0) (he : ∀ h : k < rows.length, ¬ lexC rows[k] r < 0) :
    insU rows r = if h : k < rows.length then (if lexC r rows[k] < 0 then rows.take k ++ r :: rows.drop k else rows) else rows.take k ++ r :: rows.drop k := by
  obtain ⟨e1, e2⟩ := tw_at (p := fun x => decide (lexC x r < 0)) rows k (fun j hj h2 => decide_eq_true (hb j hj h2)) hk (fun h => decide_eq_false (he h))
  unfold insU
  rw [e1, e2]
  by_cases h : k < rows.length
  · rw [dif_pos h, List.drop_eq_getElem_cons h]
  · rw [dif_neg h, List.drop_eq_nil_of_le (by omega), List.take_of_length_le (by omega)]
def maxL (l : List Nat) : Nat := l.foldl max 0
theorem maxL_take {l : List Nat} {i : Nat} (h : i < l.length) : maxL (l.take (i + 1)) = max (maxL (l.take i)) l[i] := by
  unfold maxL
  rw [List.take_succ_eq_append_getElem h, List.foldl_append]
  rfl
theorem maxL_le {n : Nat} : ∀ (l : List Nat) (a : Nat), a ≤ n → (∀ x ∈ l, x ≤ n) → l.foldl max a ≤ n
  | [], a, h, _ => h
  | x :: l, a, h, hl => maxL_le l (max a x) (Nat.max_le.2 ⟨h, hl x List.mem_cons_self⟩) fun y hy => hl y (List.mem_cons_of_mem _ hy)
theorem max_ge : ∀ (l : List Nat) (a : Nat), a ≤ l.foldl max a ∧ ∀ x ∈ l, x ≤ l.foldl max a
  | [], a => ⟨Nat.le_refl _, fun x hx => by cases hx⟩
  | y :: l, a => by
    obtain ⟨h1, h2⟩ := max_ge l (max a y)
    refine ⟨by rw [List.foldl_cons]; omega, fun x hx => ?_⟩
    rw [List.foldl_cons]
    rcases List.mem_cons.1 hx with rfl | hx
    · omega
    · exact h2 x hx
theorem insU_len (out : List (List Nat)) (p : List Nat) : (insU out p).length ≤ out.length + 1 := by
  have hcat := congrArg List.length (List.takeWhile_append_dropWhile (p := fun r => decide (lexC r p < 0)) (l := out))
  rw [List.length_append] at hcat
  unfold insU
  split
  · simp
  · rename_i r s hd
    rw [hd, List.length_cons] at hcat
    split
    · simp only [List.length_append, List.length_cons]
      omega
    · omega
theorem insU_all_len : ∀ (l out : List (List Nat)), (l.foldl insU out).length ≤ out.length + l.length
  | [], out => by simp
  | p :: l, out => by
    have := insU_all_len l (insU out p)
    have := insU_len out p
    rw [List.foldl_cons, List.length_cons]
    omega
theorem insU_mem {out : List (List Nat)} {p r : List Nat} (h : r ∈ insU out p) : r = p ∨ r ∈ out := by
  have hcat := List.takeWhile_append_dropWhile (p := fun r => decide (lexC r p < 0)) (l := out)
  unfold insU at h
  split at h
  · rcases List.mem_append.1 h with h | h
    · exact .inr h
    · exact .inl (List.mem_singleton.1 h)
  · rename_i x s hd
    split at h
    · rw [hd] at hcat
      rcases List.mem_append.1 h with h | h
      · exact .inr (by rw [← hcat]; exact List.mem_append_left _ h)
      · rcases List.mem_cons.1 h with rfl | h
        · exact .inl rfl
        · exact .inr (by rw [← hcat]; exact List.mem_append_right _ h)
    · exact .inr h
theorem insU_all_mem : ∀ (l out : List (List Nat)) (r : List Nat), r ∈ l.foldl insU out → r ∈ out ∨ r ∈ l
  | [], out, r, h => .inl h
  | p :: l, out, r, h => by
    rcases insU_all_mem l (insU out p) r h with h | h
    · rcases insU_mem h with rfl | h
      · exact .inr List.mem_cons_self
      · exact .inl h
    · exact .inr (List.mem_cons_of_mem _ h)
theorem erase_take {l : List Nat} {i j : Nat} (hj : j < l.length) : ((l.take (j + 1)).eraseIdx i) = if j = i then (l.take j).eraseIdx i else (l.take j).eraseIdx i ++ [l[j]] := by
  rw [List.take_succ_eq_append_getElem hj]
  by_cases h : j = i
  · subst h
    rw [if_pos rfl, List.eraseIdx_append_of_length_le (by rw [List.length_take]; omega), List.length_take, Nat.min_eq_left (by omega), Nat.sub_self]
    rw [List.eraseIdx_of_length_le (l := l.take j) (by rw [List.length_take]; omega)]
    simp
  · rw [if_neg h]
    by_cases h2 : i < j
    · rw [List.eraseIdx_append_of_lt_length (by rw [List.length_take]; omega)]
    · rw [List.eraseIdx_append_of_length_le (by rw [List.length_take]; omega), List.eraseIdx_of_length_le (l := l.take j) (by rw [List.length_take]; omega), List.eraseIdx_of_length_le (by rw [List.length_take]; simp; omega)]
theorem rowL_filter (p : Nat × Nat) (h : p.1 = 0 → p.2 = 0) : (rowL p).filter nz = [p.1, p.2].filter nz := by
  obtain ⟨a, b⟩ := p
  unfold rowL
  dsimp only at *
  split
  · rename_i h0
    rw [h0, h h0]
    rfl
  · rename_i h0
    split
    · rename_i h1
      rw [h1]
      rfl
    · rfl
theorem ites_max (a b : Nat) : (if Int.ofNat a < Int.ofNat b then Int.ofNat b else Int.ofNat a) = Int.ofNat (max a b) := by
  by_cases h : a < b
  · rw [if_pos (show Int.ofNat a < Int.ofNat b from Int.ofNat_lt.2 h), Nat.max_eq_right (by omega)]
  · rw [if_neg (show ¬ Int.ofNat a < Int.ofNat b from fun hh => h (Int.ofNat_lt.1 hh)), Nat.max_eq_left (by omega)]
theorem rmov_of (lf m : Nat) (hlf : 20000 ≤ lf) (d : List Nat) (G : Good d) (ns : List Nat) (hn : ns.length ≤ 10) (h200 : ∀ n ∈ ns, n ≤ 200) (x : Value) (h : Hp) (hx : Rds h x (ns.map J))
    (rv : ∀ n h, n ≤ 2000 → ∃ v h', Ev lf (m + 3) 15 [.string (strL (codeS d)), J n] h = some (v, h') ∧ ∃ q, v = .slice (some ⟨q, 0, none⟩) (n + 1) (kc n) ∧ Sto h h' [(q, .cells (cellsF (n + 1) fun k => J (gv d k)) 3 (opn n))])
    (af : ∀ n h, n ≤ 2000 → ∃ v h', Ev lf (m + 3) 33 [.string (strL (codeS d)), J n] h = some (v, h') ∧ ∃ q vs L, v = oslV q vs.length ∧ RowsS L vs ((ops d 0 n).map rowL) ∧ Sto h h' (L ++ oent q 22 vs))
    (pt : ∀ (l : List Nat) (n : Nat) (x : Value) (h : Hp), l.length ≤ 1000 → ORd h x (l.map J) → ∃ v h', Ev lf (m + 3) 34 [x, J n] h = some (v, h') ∧ ORd h' v ((insN l n).map J) ∧ h.Ext h')
    (bf : ∀ (a b : List Nat) (x y : Value) (g : Hp), a.length ≤ 1000 → b.length ≤ 1000 → Rds g x (a.map J) → Rds g y (b.map J) → Ev lf (m + 3) 35 [x, y] g = some (.bool (decide (lexC a b < 0)), g)) :
    ∃ v h', Ev lf (m + 4) 7 [.string (strL (codeS d)), x] h = some (v, h') ∧ LRd h' v ((cands d ns ns.length).foldl insU []) ∧ h.Ext h' := by
  refine fnS_ok (Q := fun v h' => LRd h' v ((cands d ns ns.length).foldl insU []) ∧ h.Ext h') ?_
  have W := Sto.start h
  have hgD : ∀ i, ns.getD i 0 ≤ 200 := fun i => by
    rw [List.getD_eq_getElem?_getD]
    cases hi : ns[i]? with
    | none => exact Nat.zero_le _
    | some y => exact h200 y (List.mem_of_getElem? hi)
  obtain ⟨xa, xc, hxs⟩ := hx.shape
  rw [List.length_map] at hxs
  subst hxs
  refine ok_go 0 ?_
  refine sy_loop 0 lf h (α := Nat) (fun i => [(0, .string (strL (codeS d))), (1, .slice xa ns.length xc), (5, J (maxL (ns.take i))), (6, J i)]) (fun i g => i ≤ ns.length ∧ g = h) (fun i _ => ns.length - i) 0 (by kernel_rfl) (by kernel_rfl)
    ⟨by kernel_rfl, by kernel_rfl, by kernel_rfl, by kernel_rfl, trivial⟩ (show ns.length - 0 < lf by omega) ⟨Nat.zero_le _, rfl⟩ ?_
  rintro m1 i F1 g ⟨hi, rfl⟩ ih
  have hw : IntKind.wrap .i64 (Int.ofNat (i + 1)) = Int.ofNat (i + 1) := wrap_nat (by omega)
  refine ok_go 2 ?_
  refine sy_test 0 (decide (Int.ofNat i < Int.ofNat ns.length)) (by kernel_rfl) ?_ ?_
  · intro hlt
    have hlt : i < ns.length := ok_nat hlt
    obtain ⟨p, hp1, hp2⟩ := rdN hx hlt
    refine ok_go 0 ?_
    refine sy_load 0 (r := indexAddrOp Tryz.prog 22 (.slice xa ns.length xc) (J i)) (h' := g) (by kernel_rfl) hp1 ?_
    refine ok_go 0 ?_
    refine sy_load 0 (r := loadT Tryz.prog g 3 p) (h' := g) (by kernel_rfl) hp2 ?_
    refine ok_go 2 ?_
    exact sy_next 0 _ g (by kernel_rfl) (by kernel_rfl) (ih (i + 1) _ g ⟨hlt, rfl⟩ (show ns.length - (i + 1) < ns.length - i by omega) ⟨by kernel_rfl, by kernel_rfl, (by kernel_rfl : _ = Value.int .i64 (if Int.ofNat (maxL (ns.take i)) < Int.ofNat ns[i] then Int.ofNat ns[i] else Int.ofNat (maxL (ns.take i)))).trans (by rw [ites_max, maxL_take hlt]), (by kernel_rfl : _ = Value.int .i64 (IntKind.wrap .i64 (Int.ofNat (i + 1)))).trans (by rw [hw]), trivial⟩)
  intro hlt
  have hlt : i = ns.length := Nat.le_antisymm hi (no_nat hlt)
  subst hlt
  clear ih hi
  have hM : maxL (ns.take ns.length) ≤ 200 := maxL_le _ 0 (Nat.zero_le _) fun y hy => h200 y (List.mem_of_mem_take hy)
  have hMn : ∀ y ∈ ns, y ≤ maxL (ns.take ns.length) := by rw [List.take_length]; exact (max_ge ns 0).2
  generalize maxL (ns.take ns.length) = M at *
  obtain ⟨_, g1, e1, qv, rfl, W1⟩ := rv M g (by omega)
  have RV : Rds g1 (.slice (some ⟨qv, 0, none⟩) (M + 1) (kc M)) (cellsF (M + 1) fun k => J (gv d k)) := rd_cells (W1.lt 0 rfl) (W1.get 0 rfl)
  refine ok_go 0 ?_
  refine sy_call 0 (by kernel_rfl) e1 ?_
  have hx1 := hx.ext W1.ext
  have X1 := W1.ext
  clear e1 W1
  generalize hvv : Value.slice (some ⟨qv, 0, none⟩) (M + 1) (kc M) = vv at RV
  have hvs : ∃ a c, vv = .slice a (M + 1) c := ⟨_, _, hvv.symm⟩
  clear hvv
  obtain ⟨va, vc, rfl⟩ := hvs
  refine ok_go 0 ?_
  refine sy_loop 0 lf g1 (α := Nat × Value) (fun a => [(0, .string (strL (codeS d))), (1, .slice xa ns.length xc), (7, .slice va (M + 1) vc), (8, a.2), (9, J a.1)]) (fun a g' => a.1 ≤ ns.length ∧ LRd g' a.2 ((cands d ns a.1).foldl insU []) ∧ g1.Ext g') (fun a _ => ns.length - a.1) (0, .slice none 0 0) (by kernel_rfl) (by kernel_rfl)
    ⟨by kernel_rfl, by kernel_rfl, by kernel_rfl, by kernel_rfl, by kernel_rfl, trivial⟩ (show ns.length - 0 < lf by omega) ⟨Nat.zero_le _, ⟨[], ⟨⟨0, rfl⟩, .inl ⟨⟨none, rfl⟩, rfl⟩⟩, rfl, rfl, fun i rv r h1 h2 => by cases h1⟩, Hp.Ext.refl g1⟩ ?_
  rintro m2 ⟨i, out⟩ F2 gi ⟨hi, RO, Xi⟩ ihi
  dsimp only at hi RO Xi
  obtain ⟨oa0, oc0, rfl⟩ := RO.shape
  have hwi : IntKind.wrap .i64 (Int.ofNat (i + 1)) = Int.ofNat (i + 1) := wrap_nat (by omega)
  refine ok_go 2 ?_
  refine sy_test 0 (decide (Int.ofNat i < Int.ofNat ns.length)) (by kernel_rfl) ?_ ?_
  · intro hlt
    have hil : i < ns.length := ok_nat hlt
    have hx2 := hx1.ext Xi
    obtain ⟨p, hp1, hp2⟩ := rdN hx2 hil
    have hi200 : ns[i] ≤ 200 := h200 _ (List.getElem_mem hil)
    have hgd : ns.getD i 0 = ns[i] := by rw [List.getD_eq_getElem?_getD, List.getElem?_eq_getElem hil]; rfl
    obtain ⟨_, g2, e2, q, vs2, L2, rfl, R2, W2⟩ := af ns[i] gi (by omega)
    have AR : LRd g2 (oslV q vs2.length) ((ops d 0 ns[i]).map rowL) := by
      refine ⟨vs2, sto_ord W2, R2.len, List.all_eq_true.2 fun v hv => R2.sc v hv, fun j rv r a b => R2.row j rv r a b g2 (W2.hold.sub fun p hp => List.mem_append_left _ hp)⟩
    have X2 := W2.ext
    obtain ⟨la, lc, hlv⟩ := AR.shape
    rw [hlv] at e2 AR
    rw [List.length_map] at e2 AR hlv
    clear hlv W2 R2
    refine ok_go 0 ?_
    refine sy_load 0 (r := indexAddrOp Tryz.prog 22 (.slice xa ns.length xc) (J i)) (h' := gi) (by kernel_rfl) hp1 ?_
    refine ok_go 0 ?_
    refine sy_load 0 (r := loadT Tryz.prog gi 3 p) (h' := gi) (by kernel_rfl) hp2 ?_
    refine ok_go 0 ?_
    refine sy_call 0 (by kernel_rfl) e2 ?_
    refine ok_go 0 ?_
    have hopl : (ops d 0 ns[i]).length ≤ 808 := ops_808 G.most hi200
    have hcl : (cands d ns i).length ≤ 8080 := Nat.le_trans (cands_len G.most hgD i) (by omega)
    refine sy_loop 0 lf g2 (α := Nat × Value) (fun a => [(0, .string (strL (codeS d))), (1, .slice xa ns.length xc), (7, .slice va (M + 1) vc), (8, a.2), (9, J i), (10, .slice la (ops d 0 ns[i]).length lc), (11, J a.1)]) (fun a g' => a.1 ≤ (ops d 0 ns[i]).length ∧ LRd g' a.2 ((cands d ns i ++ ((ops d 0 ns[i]).take a.1).filterMap (mopt d ns i)).foldl insU []) ∧ g2.Ext g') (fun a _ => (ops d 0 ns[i]).length - a.1) (0, .slice oa0 ((cands d ns i).foldl insU []).length oc0) (by kernel_rfl) (by kernel_rfl)
      ⟨by kernel_rfl, by kernel_rfl, by kernel_rfl, by kernel_rfl, by kernel_rfl, by kernel_rfl, by kernel_rfl, trivial⟩ (show (ops d 0 ns[i]).length - 0 < lf by omega) ⟨Nat.zero_le _, by rw [List.take_zero, List.filterMap_nil, List.append_nil]; exact RO.ext X2, Hp.Ext.refl g2⟩ ?_
    clear RO e2
    rintro m3 ⟨k, out⟩ F3 gk ⟨hk, RO, Xk⟩ ihk
    dsimp only at hk RO Xk
    have hwk : IntKind.wrap .i64 (Int.ofNat (k + 1)) = Int.ofNat (k + 1) := wrap_nat (by omega)
    have hrl : ((cands d ns i ++ ((ops d 0 ns[i]).take k).filterMap (mopt d ns i)).foldl insU []).length ≤ 9000 := by
      refine Nat.le_trans (insU_all_len _ _) ?_
      have := List.length_filterMap_le (mopt d ns i) ((ops d 0 ns[i]).take k)
      rw [List.length_take] at this
      rw [List.length_append, List.length_nil]
      omega
    obtain ⟨oa, oc, rfl⟩ := RO.shape
    refine ok_go 2 ?_
    refine sy_test 0 (decide (Int.ofNat k < Int.ofNat (ops d 0 ns[i]).length)) (by kernel_rfl) ?_ ?_
    · intro hkl
      have hk1 : k < (ops d 0 ns[i]).length := ok_nat hkl
      have hstep : (cands d ns i ++ ((ops d 0 ns[i]).take (k + 1)).filterMap (mopt d ns i)).foldl insU [] = (mopt d ns i (ops d 0 ns[i])[k]).toList.foldl insU ((cands d ns i ++ ((ops d 0 ns[i]).take k).filterMap (mopt d ns i)).foldl insU []) := by
        rw [filt_snoc (List.getElem?_eq_getElem hk1), ← List.append_assoc, List.foldl_append]
      have hrow8 : ∀ r' ∈ (cands d ns i ++ ((ops d 0 ns[i]).take k).filterMap (mopt d ns i)).foldl insU [], r'.length ≤ 1000 := fun r' hr' => by
        rcases insU_all_mem _ _ r' hr' with h1 | h1
        · cases h1
        · have h2 : r' ∈ cands d ns (i + 1) := by
            rw [cands_succ, hgd]
            rcases List.mem_append.1 h1 with h1 | h1
            · exact List.mem_append_left _ h1
            · obtain ⟨p', hp', e⟩ := List.mem_filterMap.1 h1
              exact List.mem_append_right _ (List.mem_filterMap.2 ⟨p', List.mem_of_mem_take hp', e⟩)
          have := cands_row h2
          omega
      generalize hrows : (cands d ns i ++ ((ops d 0 ns[i]).take k).filterMap (mopt d ns i)).foldl insU [] = rows at *
      have hop : (ops d 0 ns[i])[k] ∈ ops d 0 ns[i] := List.getElem_mem hk1
      have hrowk : ((ops d 0 ns[i]).map rowL)[k]'(by rw [List.length_map]; exact hk1) = rowL (ops d 0 ns[i])[k] := by rw [List.getElem_map]
      have hpz := ops_zero hop
      have hplt := ops_lt hop
      generalize (ops d 0 ns[i])[k] = pk at *
      have AR2 := AR.ext Xk
      have hx3 := (hx2.ext X2).ext Xk
      refine ok_go 0 ?_
      refine sy_loop 0 lf gk (α := Nat × Value) (fun a => [(0, .string (strL (codeS d))), (1, .slice xa ns.length xc), (7, .slice va (M + 1) vc), (8, .slice oa rows.length oc), (9, J i), (10, .slice la (ops d 0 ns[i]).length lc), (11, J k), (12, a.2), (13, J a.1)]) (fun a g' => a.1 ≤ ns.length ∧ ORd g' a.2 ((((ns.take a.1).eraseIdx i).foldl insN []).map J) ∧ gk.Ext g') (fun a _ => ns.length - a.1) (0, .slice none 0 0) (by kernel_rfl) (by kernel_rfl)
        ⟨by kernel_rfl, by kernel_rfl, by kernel_rfl, by kernel_rfl, by kernel_rfl, by kernel_rfl, by kernel_rfl, by kernel_rfl, by kernel_rfl, trivial⟩ (show ns.length - 0 < lf by omega) ⟨Nat.zero_le _, ⟨⟨0, rfl⟩, .inl ⟨⟨none, rfl⟩, rfl⟩⟩, Hp.Ext.refl gk⟩ ?_
      rintro m4 ⟨j, pv⟩ F4 gj ⟨hj, RP, Xj⟩ ihj
      dsimp only at hj RP Xj
      have hwj : IntKind.wrap .i64 (Int.ofNat (j + 1)) = Int.ofNat (j + 1) := wrap_nat (by omega)
      refine ok_go 2 ?_
      refine sy_test 0 (decide (Int.ofNat j < Int.ofNat ns.length)) (by kernel_rfl) ?_ ?_
      · intro hjl
        have hjl : j < ns.length := ok_nat hjl
        refine ok_go 1 ?_
        refine sy_test 0 (Int.ofNat j != Int.ofNat i) (by kernel_rfl) ?_ ?_
        · intro hne
          have hne : j ≠ i := fun e => by rw [e] at hne; simp at hne
          obtain ⟨p, hp1, hp2⟩ := rdN (hx3.ext Xj) hjl
          obtain ⟨pv2, g5, e5, RP2, X5⟩ := pt _ ns[j] pv gj (by
            have : ((ns.take j).eraseIdx i).length ≤ 10 := Nat.le_trans (List.length_eraseIdx_le _ _) (by rw [List.length_take]; omega)
            obtain ⟨_, h2⟩ := ins_all ((ns.take j).eraseIdx i) [] List.Pairwise.nil
            have := h2.length_eq
            have := List.length_filter_le nz ((ns.take j).eraseIdx i)
            rw [List.nil_append] at *
            omega) RP
          refine ok_go 0 ?_
          refine sy_load 0 (r := indexAddrOp Tryz.prog 22 (.slice xa ns.length xc) (J j)) (h' := gj) (by kernel_rfl) hp1 ?_
          refine ok_go 0 ?_
          refine sy_load 0 (r := loadT Tryz.prog gj 3 p) (h' := gj) (by kernel_rfl) hp2 ?_
          refine ok_go 0 ?_
          refine sy_call 0 (by kernel_rfl) e5 ?_
          refine ok_go 1 ?_
          exact sy_next 0 _ g5 (by kernel_rfl) (by kernel_rfl) (ihj (j + 1, pv2) _ g5 ⟨hjl, by rw [erase_take hjl, if_neg hne, List.foldl_append]; exact RP2, Xj.trans X5⟩ (show ns.length - (j + 1) < ns.length - j by omega) ⟨by kernel_rfl, by kernel_rfl, by kernel_rfl, by kernel_rfl, by kernel_rfl, by kernel_rfl, by kernel_rfl, by kernel_rfl, (by kernel_rfl : _ = Value.int .i64 (IntKind.wrap .i64 (Int.ofNat (j + 1)))).trans (by rw [hwj]), trivial⟩)
        · intro hne
          have hne : j = i := by
            have : (Int.ofNat j == Int.ofNat i) = true := by simpa [bne] using hne
            exact Int.ofNat.inj (eq_of_beq this)
          refine ok_go 1 ?_
          exact sy_next 0 _ gj (by kernel_rfl) (by kernel_rfl) (ihj (j + 1, pv) _ gj ⟨hjl, by rw [erase_take hjl, if_pos hne]; exact RP, Xj⟩ (show ns.length - (j + 1) < ns.length - j by omega) ⟨by kernel_rfl, by kernel_rfl, by kernel_rfl, by kernel_rfl, by kernel_rfl, by kernel_rfl, by kernel_rfl, by kernel_rfl, (by kernel_rfl : _ = Value.int .i64 (IntKind.wrap .i64 (Int.ofNat (j + 1)))).trans (by rw [hwj]), trivial⟩)
      intro hjl
      have hjl : j = ns.length := Nat.le_antisymm hj (no_nat hjl)
      subst hjl
      rw [List.take_length] at RP
      clear ihj hj
      have hlb : ((ns.eraseIdx i).foldl insN []).length ≤ 10 := by
        have : (ns.eraseIdx i).length ≤ 10 := Nat.le_trans (List.length_eraseIdx_le _ _) hn
        obtain ⟨_, h2⟩ := ins_all (ns.eraseIdx i) [] List.Pairwise.nil
        have := h2.length_eq
        have := List.length_filter_le nz (ns.eraseIdx i)
        rw [List.nil_append] at *
        omega
      have hrow2 : (rowL pk).length ≤ 2 := by
        unfold rowL
        split
        · simp
        · split <;> simp
      have hput := put_row ns i pk (rowL pk) (rowL_filter pk hpz)
      obtain ⟨pr, rvk, hr1, RR⟩ := AR2.row (i := k) (by rw [List.length_map]; exact hk1)
      rw [hrowk] at RR
      obtain ⟨ra, rc, hrs⟩ := (RR gk (Hp.Ext.refl gk)).2.shape
      rw [List.length_map] at hrs
      subst hrs
      refine ok_go 0 ?_
      refine sy_loop 0 lf gj (α := Nat × Value) (fun a => [(0, .string (strL (codeS d))), (1, .slice xa ns.length xc), (7, .slice va (M + 1) vc), (8, .slice oa rows.length oc), (9, J i), (10, .slice la (ops d 0 ns[i]).length lc), (11, J k), (12, a.2), (14, J a.1)]) (fun a g' => a.1 ≤ (rowL pk).length ∧ ORd g' a.2 ((((rowL pk).take a.1).foldl insN ((ns.eraseIdx i).foldl insN [])).map J) ∧ gk.Ext g') (fun a _ => (rowL pk).length - a.1) (0, pv) (by kernel_rfl) (by kernel_rfl)
        ⟨by kernel_rfl, by kernel_rfl, by kernel_rfl, by kernel_rfl, by kernel_rfl, by kernel_rfl, by kernel_rfl, by kernel_rfl, by kernel_rfl, trivial⟩ (show (rowL pk).length - 0 < lf by omega) ⟨Nat.zero_le _, RP, Xj⟩ ?_
      rintro m5 ⟨j, pv⟩ F5 gq ⟨hj, RP, Xq⟩ ihj
      dsimp only at hj RP Xq
      have hwj : IntKind.wrap .i64 (Int.ofNat (j + 1)) = Int.ofNat (j + 1) := wrap_nat (by omega)
      obtain ⟨hrl2, hrr⟩ := RR gq Xq
      refine ok_go 0 ?_
      refine sy_load 0 (r := indexAddrOp Tryz.prog 24 (.slice la (ops d 0 ns[i]).length lc) (J k)) (h' := gq) (by kernel_rfl) hr1 ?_
      refine ok_go 0 ?_
      refine sy_load 0 (r := loadT Tryz.prog gq 22 pr) (h' := gq) (by kernel_rfl) hrl2 ?_
      refine ok_go 2 ?_
      refine sy_test 0 (decide (Int.ofNat j < Int.ofNat (rowL pk).length)) (by kernel_rfl) ?_ ?_
      · intro hjl
        have hjl : j < (rowL pk).length := ok_nat hjl
        obtain ⟨p, hp1, hp2⟩ := rdN hrr hjl
        obtain ⟨pv2, g5, e5, RP2, X5⟩ := pt _ (rowL pk)[j] pv gq (by
          obtain ⟨_, h2⟩ := ins_all ((rowL pk).take j) ((ns.eraseIdx i).foldl insN []) (ins_all (ns.eraseIdx i) [] List.Pairwise.nil).1
          have h3 := h2.length_eq
          have h4 := List.length_filter_le nz ((rowL pk).take j)
          rw [List.length_take] at h4
          rw [List.length_append] at h3
          omega) RP
        refine ok_go 0 ?_
        refine sy_load 0 (r := indexAddrOp Tryz.prog 24 (.slice la (ops d 0 ns[i]).length lc) (J k)) (h' := gq) (by kernel_rfl) hr1 ?_
        refine ok_go 0 ?_
        refine sy_load 0 (r := loadT Tryz.prog gq 22 pr) (h' := gq) (by kernel_rfl) hrl2 ?_
        refine ok_go 0 ?_
        refine sy_load 0 (r := indexAddrOp Tryz.prog 22 (.slice ra (rowL pk).length rc) (J j)) (h' := gq) (by kernel_rfl) hp1 ?_
        refine ok_go 0 ?_
        refine sy_load 0 (r := loadT Tryz.prog gq 3 p) (h' := gq) (by kernel_rfl) hp2 ?_
        refine ok_go 0 ?_
        refine sy_call 0 (by kernel_rfl) e5 ?_
        refine ok_go 1 ?_
        exact sy_next 0 _ g5 (by kernel_rfl) (by kernel_rfl) (ihj (j + 1, pv2) _ g5 ⟨hjl, by rw [List.take_succ_eq_append_getElem hjl, List.foldl_append]; exact RP2, Xq.trans X5⟩ (show (rowL pk).length - (j + 1) < (rowL pk).length - j by omega) ⟨by kernel_rfl, by kernel_rfl, by kernel_rfl, by kernel_rfl, by kernel_rfl, by kernel_rfl, by kernel_rfl, by kernel_rfl, (by kernel_rfl : _ = Value.int .i64 (IntKind.wrap .i64 (Int.ofNat (j + 1)))).trans (by rw [hwj]), trivial⟩)
      intro hjl
      have hjl : j = (rowL pk).length := Nat.le_antisymm hj (no_nat hjl)
      subst hjl
      rw [List.take_length, hput] at RP
      clear ihj hj hrl2 hrr RR hr1
      have hacc := mrow_acc d ns hil pk
      rw [hgd] at hacc
      have hmle := mrow_le (i := i) hMn (show pk.1 ≤ M by have := hMn _ (List.getElem_mem hil); omega) (show pk.2 ≤ M by have := hMn _ (List.getElem_mem hil); omega)
      have hml : (mrow ns i pk).length ≤ 12 := by have := mrow_len ns i pk; omega
      have hsome : accR d (mrow ns i pk) = 0 → (mopt d ns i pk).toList.foldl insU rows = insU rows (mrow ns i pk) := fun h0 => by
        unfold mopt
        rw [hgd, ← hacc, if_pos h0]
        rfl
      have hnone : accR d (mrow ns i pk) ≠ 0 → (mopt d ns i pk).toList.foldl insU rows = rows := fun h0 => by
        unfold mopt
        rw [hgd, ← hacc, if_neg h0]
        rfl
      clear hacc hput hrowk hpz hplt hlb hrow2
      generalize mrow ns i pk = r at *
      obtain ⟨pa, pc, hps⟩ := RP.2.shape
      rw [List.length_map] at hps
      subst hps
      have RVq := (RV.ext Xi).ext (X2.trans (Xk.trans Xq))
      refine ok_go 0 ?_
      refine sy_loop 0 lf gq (α := Nat) (fun a => [(0, .string (strL (codeS d))), (1, .slice xa ns.length xc), (7, .slice va (M + 1) vc), (8, .slice oa rows.length oc), (9, J i), (10, .slice la (ops d 0 ns[i]).length lc), (11, J k), (12, .slice pa r.length pc), (15, J (accR d (r.take a))), (16, J a)]) (fun a g' => a ≤ r.length ∧ g' = gq) (fun a _ => r.length - a) 0 (by kernel_rfl) (by kernel_rfl)
        ⟨by kernel_rfl, by kernel_rfl, by kernel_rfl, by kernel_rfl, by kernel_rfl, by kernel_rfl, by kernel_rfl, by kernel_rfl, by kernel_rfl, by kernel_rfl, trivial⟩ (show r.length - 0 < lf by omega) ⟨Nat.zero_le _, rfl⟩ ?_
      rintro m6 j F6 g ⟨hj, rfl⟩ ihj
      have hwj : IntKind.wrap .i64 (Int.ofNat (j + 1)) = Int.ofNat (j + 1) := wrap_nat (by omega)
      refine ok_go 2 ?_
      refine sy_test 0 (decide (Int.ofNat j < Int.ofNat r.length)) (by kernel_rfl) ?_ ?_
      · intro hjl
        have hjl : j < r.length := ok_nat hjl
        obtain ⟨p, hp1, hp2⟩ := rdN RP.2 hjl
        have hn2 := hmle _ (List.getElem_mem hjl)
        obtain ⟨q2, hq1, hq2⟩ := RVq.read (kd := .i64) (k := r[j]) (v := J (gv d r[j])) (t := 22) (e := 3) (P := Tryz.prog) (by kernel_rfl) (by kernel_rfl) (by kernel_rfl) (cellsF_get (by omega))
        have ha := accR_12 d (r.take j) fun y hy => by have := hmle y (List.mem_of_mem_take hy); omega
        have hg := gv_12 d r[j] (by omega)
        have hxx : xorI (Int.ofNat (accR d (r.take j))) (Int.ofNat (gv d r[j])) = Int.ofNat (accR d (r.take (j + 1))) := by rw [accR_take d r hjl]; exact xor_nat (by omega) (by omega)
        refine ok_go 0 ?_
        refine sy_load 0 (r := indexAddrOp Tryz.prog 22 (.slice pa r.length pc) (J j)) (h' := g) (by kernel_rfl) hp1 ?_
        refine ok_go 0 ?_
        refine sy_load 0 (r := loadT Tryz.prog g 3 p) (h' := g) (by kernel_rfl) hp2 ?_
        refine ok_go 0 ?_
        refine sy_load 0 (r := indexAddrOp Tryz.prog 22 (.slice va (M + 1) vc) (J r[j])) (h' := g) (by kernel_rfl) hq1 ?_
        refine ok_go 0 ?_
        refine sy_load 0 (r := loadT Tryz.prog g 3 q2) (h' := g) (by kernel_rfl) hq2 ?_
        refine ok_go 2 ?_
        exact sy_next 0 _ g (by kernel_rfl) (by kernel_rfl) (ihj (j + 1) _ g ⟨hjl, rfl⟩ (show r.length - (j + 1) < r.length - j by omega) ⟨by kernel_rfl, by kernel_rfl, by kernel_rfl, by kernel_rfl, by kernel_rfl, by kernel_rfl, by kernel_rfl, by kernel_rfl, (by kernel_rfl : _ = Value.int .i64 (xorI (Int.ofNat (accR d (r.take j))) (Int.ofNat (gv d r[j])))).trans (by rw [hxx]), (by kernel_rfl : _ = Value.int .i64 (IntKind.wrap .i64 (Int.ofNat (j + 1)))).trans (by rw [hwj]), trivial⟩)
      intro hjl
      have hjl : j = r.length := Nat.le_antisymm hj (no_nat hjl)
      subst hjl
      clear ihj hj
      rw [List.take_length]
      have ROq := RO.ext Xq
      refine ok_go 0 ?_
      refine sy_loop 0 lf g (α := Nat) (fun a => [(0, .string (strL (codeS d))), (1, .slice xa ns.length xc), (7, .slice va (M + 1) vc), (8, .slice oa rows.length oc), (9, J i), (10, .slice la (ops d 0 ns[i]).length lc), (11, J k), (12, .slice pa r.length pc), (15, J (accR d r)), (17, J a)]) (fun a g' => a ≤ rows.length ∧ (∀ j (_ : j < a) (hj : j < rows.length), lexC rows[j] r < 0) ∧ g' = g) (fun a _ => rows.length - a) 0 (by kernel_rfl) (by kernel_rfl)
        ⟨by kernel_rfl, by kernel_rfl, by kernel_rfl, by kernel_rfl, by kernel_rfl, by kernel_rfl, by kernel_rfl, by kernel_rfl, by kernel_rfl, by kernel_rfl, trivial⟩ (show rows.length - 0 < lf by omega) ⟨Nat.zero_le _, fun j hj => absurd hj (by omega), rfl⟩ ?_
      clear RO
      rintro m7 at_ F7 g ⟨hal, hab, rfl⟩ iha
      have RO := ROq
      have Xg := Xq
      have hwa : IntKind.wrap .i64 (Int.ofNat (at_ + 1)) = Int.ofNat (at_ + 1) := wrap_nat (by omega)
      refine ok_go 2 ?_
      refine sy_test 0 (decide (Int.ofNat at_ < Int.ofNat rows.length)) (by kernel_rfl) ?_ ?_
      · intro hlt
        have hlt : at_ < rows.length := ok_nat hlt
        obtain ⟨p, rv2, hp1, hp2⟩ := RO.row hlt
        obtain ⟨hp3, hp4⟩ := hp2 g (Hp.Ext.refl g)
        have h8 := hrow8 _ (List.getElem_mem hlt)
        obtain ⟨ba, bc, hbs⟩ := hp4.shape
        subst hbs
        have eb := bf rows[at_] r _ _ g h8 (by omega) hp4 RP.2
        refine ok_go 2 ?_
        refine sy_load 0 (r := indexAddrOp Tryz.prog 24 (.slice oa rows.length oc) (J at_)) (h' := g) (by kernel_rfl) hp1 ?_
        refine ok_go 1 ?_
        refine sy_load 0 (r := loadT Tryz.prog g 22 p) (h' := g) (by kernel_rfl) hp3 ?_
        refine ok_go 2 ?_
        refine sy_call 0 (by kernel_rfl) eb ?_
        refine ok_go 1 ?_
        refine sy_test 0 (decide (lexC rows[at_] r < 0)) (by kernel_rfl) ?_ ?_
        · intro hb
          have hb := of_decide_eq_true hb
          refine ok_go 1 ?_
          exact sy_next 0 _ g (by kernel_rfl) (by kernel_rfl) (iha (at_ + 1) _ g ⟨hlt, fun j hj h2 => by
            rcases Nat.lt_succ_iff_lt_or_eq.1 hj with h | rfl
            · exact hab j h h2
            · exact hb, rfl⟩ (show rows.length - (at_ + 1) < rows.length - at_ by omega) ⟨by kernel_rfl, by kernel_rfl, by kernel_rfl, by kernel_rfl, by kernel_rfl, by kernel_rfl, by kernel_rfl, by kernel_rfl, by kernel_rfl, (by kernel_rfl : _ = Value.int .i64 (IntKind.wrap .i64 (Int.ofNat (at_ + 1)))).trans (by rw [hwa]), trivial⟩)
        · intro hb
          have hb := of_decide_eq_false hb
          have hiu := insU_at hal hab (fun _ => hb)
          rw [dif_pos hlt] at hiu
          have eb2 := bf r rows[at_] _ _ g (by omega) h8 RP.2 hp4
          refine ok_go 1 ?_
          refine sy_test 0 (Int.ofNat (accR d r) != 0) (by kernel_rfl) ?_ ?_
          · intro h0
            have h0 : accR d r ≠ 0 := fun e => by rw [e] at h0; simp at h0
            refine ok_go 8 ?_
            exact sy_next 0 _ g (by kernel_rfl) (by kernel_rfl) (ihk (k + 1, .slice oa rows.length oc) _ g ⟨hk1, by dsimp only; rw [hstep, hnone h0]; exact RO, Xk.trans Xg⟩ (show (ops d 0 ns[i]).length - (k + 1) < (ops d 0 ns[i]).length - k by omega) ⟨by kernel_rfl, by kernel_rfl, by kernel_rfl, by kernel_rfl, by kernel_rfl, by kernel_rfl, (by kernel_rfl : _ = Value.int .i64 (IntKind.wrap .i64 (Int.ofNat (k + 1)))).trans (by rw [hwk]), trivial⟩)
          · intro h0
            have h0 : accR d r = 0 := by
              have : (Int.ofNat (accR d r) == 0) = true := by simpa [bne] using h0
              exact Int.ofNat.inj (eq_of_beq this)
            refine ok_go 6 ?_
            refine sy_yes 0 (b := decide (Int.ofNat at_ < Int.ofNat rows.length)) (by kernel_rfl) (decide_eq_true (Int.ofNat_lt.2 hlt)) ?_
            refine ok_go 3 ?_
            refine sy_load 0 (r := indexAddrOp Tryz.prog 24 (.slice oa rows.length oc) (J at_)) (h' := g) (by kernel_rfl) hp1 ?_
            refine ok_go 1 ?_
            refine sy_load 0 (r := loadT Tryz.prog g 22 p) (h' := g) (by kernel_rfl) hp3 ?_
            refine ok_go 1 ?_
            refine sy_call 0 (by kernel_rfl) eb2 ?_
            refine ok_go 5 ?_
            refine sy_test 0 (!decide (lexC r rows[at_] < 0)) (by kernel_rfl) ?_ ?_
            · intro hb2
              have hb2 : ¬ lexC r rows[at_] < 0 := by simpa using hb2
              rw [if_neg hb2] at hiu
              refine ok_go 1 ?_
              exact sy_next 0 _ g (by kernel_rfl) (by kernel_rfl) (ihk (k + 1, .slice oa rows.length oc) _ g ⟨hk1, by dsimp only; rw [hstep, hsome h0, hiu]; exact RO, Xk.trans Xg⟩ (show (ops d 0 ns[i]).length - (k + 1) < (ops d 0 ns[i]).length - k by omega) ⟨by kernel_rfl, by kernel_rfl, by kernel_rfl, by kernel_rfl, by kernel_rfl, by kernel_rfl, (by kernel_rfl : _ = Value.int .i64 (IntKind.wrap .i64 (Int.ofNat (k + 1)))).trans (by rw [hwk]), trivial⟩)
            · intro hb2
              have hb2 : lexC r rows[at_] < 0 := by simpa using hb2
              rw [if_pos hb2] at hiu
              have hins : insU rows r = rows.take at_ ++ r :: rows.drop at_ := hiu
              obtain ⟨vs, hov, hvl, hvs, hvr⟩ := RO
              have hox := hov
              obtain ⟨y, hy, hye⟩ := hov.hi (P := Tryz.prog) (t := 24) (e := 22) (by kernel_rfl) (by kernel_rfl) (j := at_) (by omega)
              obtain ⟨z, hz, hze⟩ := hov.lo (P := Tryz.prog) (t := 24) (e := 22) (by kernel_rfl) (by kernel_rfl) (j := at_) (by omega)
              have hvt : (vs.take at_).all scalar = true := List.all_eq_true.2 fun v hv => List.all_eq_true.1 hvs v (List.mem_of_mem_take hv)
              have hvd : (vs.drop at_).all scalar = true := List.all_eq_true.2 fun v hv => List.all_eq_true.1 hvs v (List.mem_of_mem_drop hv)
              have hvtl : (vs.take at_).length = at_ := by rw [List.length_take]; omega
              have W := Sto.start g
              refine ok_go 0 ?_
              refine sy_any 0 (p := fun v => RdE g v (vs.take at_)) (h' := g) ?_ ?_
              · cases oa with
                | none =>
                  obtain ⟨hr0, rfl⟩ := osl_none2 hox.1
                  obtain rfl : at_ = 0 := by omega
                  obtain rfl : rows = [] := List.eq_nil_of_length_eq_zero hr0
                  exact ⟨.slice none 0 0, fun _ _ => ⟨⟨_, _, rfl⟩, rfl⟩, by kernel_rfl⟩
                | some ra => exact ⟨y, hye, (by kernel_rfl : _ = (sliceOp Tryz.prog 24 (.slice (some ra) rows.length oc) none (some (J at_)) none).map (·, g)).trans (by rw [hy]; rfl)⟩
              clear hye hy y
              intro y hye
              obtain ⟨ya, yc, rfl⟩ := hye.now.1
              rw [hvtl] at hye ⊢
              refine ok_go 0 ?_
              refine ow_apps (P := Tryz.prog) (t := 24) (e := 22) (l := []) (i := 0) (zs := []) 0 W slz31 hye hvt (by rw [hvtl]; simp; omega) (by kernel_rfl) fun g1' s1 j1 hs1 hc1 W => ?_
              obtain ⟨a1, c1, ho1⟩ : ∃ a c, oslV j1 (([] : List Value).length + (vs.take at_).length) = .slice a at_ c := by
                obtain ⟨a, c, e⟩ := osl_shape j1 (([] : List Value).length + (vs.take at_).length)
                exact ⟨a, c, by rw [e, hvtl]; simp⟩
              rw [ho1] at hs1
              subst hs1
              refine ow_new 0 W (AObj.cells [Value.slice pa (List.length r) pc] 22 false) (fun q => Value.slice (some { block := q, off := 0 }) 1 2) (by kernel_rfl) fun g21 ng21 Wg21 => ?_
              have W := Wg21
              have W : Sto g g21 ((g1'.next, .cells [.slice pa r.length pc] 22 false) :: ([] ++ oent j1 22 (vs.take at_))) := W
              refine ow_app (P := Tryz.prog) (t := 24) (e := 22) (z := 1) (c := at_) (i := j1) 0 W slz31 (by rw [hvtl, Nat.mul_one]) rfl rfl (by omega) (by rw [show oslV j1 at_ = .slice a1 at_ c1 from (by rw [← ho1, hvtl]; simp)]; kernel_rfl) fun g3 s2 ng3 hs2 hc2 W => ?_
              obtain ⟨a2, c2, ho2⟩ := osl_shape g21.next (at_ + 1)
              rw [ho2] at hs2
              subst hs2
              refine ok_go 0 ?_
              replace hze : RdE g3 z (vs.drop at_) := hze.ext W.ext
              refine sy_any 0 (p := fun v => RdE g3 v (vs.drop at_)) (h' := g3) ?_ ?_
              · cases oa with
                | none =>
                  obtain ⟨hr0, rfl⟩ := osl_none2 hox.1
                  obtain rfl : at_ = 0 := by omega
                  obtain rfl : rows = [] := List.eq_nil_of_length_eq_zero hr0
                  obtain rfl : vs = [] := List.eq_nil_of_length_eq_zero hvl
                  exact ⟨.slice none 0 0, fun _ _ => ⟨⟨_, _, rfl⟩, rfl⟩, by kernel_rfl⟩
                | some ra => exact ⟨z, hze, (by kernel_rfl : _ = (sliceOp Tryz.prog 24 (.slice (some ra) rows.length oc) (some (J at_)) none none).map (·, g3)).trans (by rw [hz]; rfl)⟩
              clear hze hz z
              intro z hze
              obtain ⟨za, zc, rfl⟩ := hze.now.1
              refine ok_go 0 ?_
              have W : Sto g g3 ([] ++ oent g21.next 22 (vs.take at_ ++ [.slice pa r.length pc])) := W
              have hl1 : (vs.take at_ ++ [Value.slice pa r.length pc]).length = at_ + 1 := by rw [List.length_append, hvtl]; rfl
              refine ow_apps (P := Tryz.prog) (t := 24) (e := 22) (l := []) (i := g21.next) (zs := vs.take at_ ++ [.slice pa r.length pc]) 0 W slz31 hze hvd (by rw [hl1, List.length_drop]; omega) (by rw [hl1, ho2]; kernel_rfl) fun g4 s3 j3 hs3 hc3 W => ?_
              have X4 : g.Ext g4 := W.ext
              have hw4 := sto_ord W
              rw [List.append_assoc] at hw4
              have hlen4 : (vs.take at_ ++ ([Value.slice pa r.length pc] ++ vs.drop at_)).length = (insU rows r).length := by
                rw [hins]
                simp only [List.length_append, List.length_cons, List.length_nil, List.length_take, List.length_drop, hvl]
                omega
              have RN : LRd g4 s3 (insU rows r) := by
                refine ⟨vs.take at_ ++ ([.slice pa r.length pc] ++ vs.drop at_), ?_, hlen4, ?_, ?_⟩
                · rw [show s3 = oslV j3 (vs.take at_ ++ ([Value.slice pa r.length pc] ++ vs.drop at_)).length from by rw [hs3, hl1]; exact congrArg (oslV j3) (by simp only [List.length_append, List.length_cons, List.length_nil, hvtl, List.length_drop]; omega)]
                  exact hw4
                · rw [List.all_append, List.all_append, hvt, hvd]; rfl
                · intro k rv r' hk1 hk2
                  rw [hins] at hk2
                  have hrl : (rows.take at_).length = at_ := by rw [List.length_take]; omega
                  rcases Nat.lt_trichotomy k at_ with hlt | rfl | hgt
                  · rw [List.getElem?_append_left (by omega), List.getElem?_take, if_pos hlt] at hk1 hk2
                    exact (hvr k rv r' hk1 hk2).ext X4
                  · rw [List.getElem?_append_right (by omega), hvtl, Nat.sub_self] at hk1
                    rw [List.getElem?_append_right (by omega), hrl, Nat.sub_self] at hk2
                    cases hk1
                    cases hk2
                    exact RP.2.ext X4
                  · rw [List.getElem?_append_right (by omega), hvtl, show k - at_ = (k - at_ - 1) + 1 by omega] at hk1
                    rw [List.getElem?_append_right (by omega), hrl, show k - at_ = (k - at_ - 1) + 1 by omega] at hk2
                    simp only [List.cons_append, List.nil_append, List.getElem?_cons_succ, List.getElem?_drop] at hk1 hk2
                    exact (hvr _ rv r' hk1 hk2).ext X4
              clear hlen4 hw4
              obtain ⟨na, nc, rfl⟩ := RN.shape
              refine ok_go 1 ?_
              exact sy_next 0 _ g4 (by kernel_rfl) (by kernel_rfl) (ihk (k + 1, .slice na (insU rows r).length nc) _ g4 ⟨hk1, by dsimp only; rw [hstep, hsome h0]; exact RN, Xk.trans (Xg.trans X4)⟩ (show (ops d 0 ns[i]).length - (k + 1) < (ops d 0 ns[i]).length - k by omega) ⟨by kernel_rfl, by kernel_rfl, by kernel_rfl, by kernel_rfl, by kernel_rfl, by kernel_rfl, (by kernel_rfl : _ = Value.int .i64 (IntKind.wrap .i64 (Int.ofNat (k + 1)))).trans (by rw [hwk]), trivial⟩)
      · intro hlt
        have hlt : at_ = rows.length := Nat.le_antisymm hal (no_nat hlt)
        have hiu := insU_at hal hab (fun h => absurd h (by omega))
        rw [dif_neg (by omega)] at hiu
        refine ok_go 8 ?_
        refine sy_test 0 (Int.ofNat (accR d r) != 0) (by kernel_rfl) ?_ ?_
        · intro h0
          have h0 : accR d r ≠ 0 := fun e => by rw [e] at h0; simp at h0
          refine ok_go 8 ?_
          exact sy_next 0 _ g (by kernel_rfl) (by kernel_rfl) (ihk (k + 1, .slice oa rows.length oc) _ g ⟨hk1, by dsimp only; rw [hstep, hnone h0]; exact RO, Xk.trans Xg⟩ (show (ops d 0 ns[i]).length - (k + 1) < (ops d 0 ns[i]).length - k by omega) ⟨by kernel_rfl, by kernel_rfl, by kernel_rfl, by kernel_rfl, by kernel_rfl, by kernel_rfl, (by kernel_rfl : _ = Value.int .i64 (IntKind.wrap .i64 (Int.ofNat (k + 1)))).trans (by rw [hwk]), trivial⟩)
        · intro h0
          have h0 : accR d r = 0 := by
            have : (Int.ofNat (accR d r) == 0) = true := by simpa [bne] using h0
            exact Int.ofNat.inj (eq_of_beq this)
          refine ok_go 6 ?_
          refine sy_no 0 (b := decide (Int.ofNat at_ < Int.ofNat rows.length)) (by kernel_rfl) (decide_eq_false (fun h => by have := Int.ofNat_lt.1 h; omega)) ?_
          have hins : insU rows r = rows.take at_ ++ r :: rows.drop at_ := hiu
          obtain ⟨vs, hov, hvl, hvs, hvr⟩ := RO
          have hox := hov
          obtain ⟨y, hy, hye⟩ := hov.hi (P := Tryz.prog) (t := 24) (e := 22) (by kernel_rfl) (by kernel_rfl) (j := at_) (by omega)
          obtain ⟨z, hz, hze⟩ := hov.lo (P := Tryz.prog) (t := 24) (e := 22) (by kernel_rfl) (by kernel_rfl) (j := at_) (by omega)
          have hvt : (vs.take at_).all scalar = true := List.all_eq_true.2 fun v hv => List.all_eq_true.1 hvs v (List.mem_of_mem_take hv)
          have hvd : (vs.drop at_).all scalar = true := List.all_eq_true.2 fun v hv => List.all_eq_true.1 hvs v (List.mem_of_mem_drop hv)
          have hvtl : (vs.take at_).length = at_ := by rw [List.length_take]; omega
          have W := Sto.start g
          refine ok_go 10 ?_
          refine sy_any 0 (p := fun v => RdE g v (vs.take at_)) (h' := g) ?_ ?_
          · cases oa with
            | none =>
              obtain ⟨hr0, rfl⟩ := osl_none2 hox.1
              obtain rfl : at_ = 0 := by omega
              obtain rfl : rows = [] := List.eq_nil_of_length_eq_zero hr0
              exact ⟨.slice none 0 0, fun _ _ => ⟨⟨_, _, rfl⟩, rfl⟩, by kernel_rfl⟩
            | some ra => exact ⟨y, hye, (by kernel_rfl : _ = (sliceOp Tryz.prog 24 (.slice (some ra) rows.length oc) none (some (J at_)) none).map (·, g)).trans (by rw [hy]; rfl)⟩
          clear hye hy y
          intro y hye
          obtain ⟨ya, yc, rfl⟩ := hye.now.1
          rw [hvtl] at hye ⊢
          refine ok_go 0 ?_
          refine ow_apps (P := Tryz.prog) (t := 24) (e := 22) (l := []) (i := 0) (zs := []) 0 W slz31 hye hvt (by rw [hvtl]; simp; omega) (by kernel_rfl) fun g1' s1 j1 hs1 hc1 W => ?_
          obtain ⟨a1, c1, ho1⟩ : ∃ a c, oslV j1 (([] : List Value).length + (vs.take at_).length) = .slice a at_ c := by
            obtain ⟨a, c, e⟩ := osl_shape j1 (([] : List Value).length + (vs.take at_).length)
            exact ⟨a, c, by rw [e, hvtl]; simp⟩
          rw [ho1] at hs1
          subst hs1
          refine ow_new 0 W (AObj.cells [Value.slice pa (List.length r) pc] 22 false) (fun q => Value.slice (some { block := q, off := 0 }) 1 2) (by kernel_rfl) fun g21 ng21 Wg21 => ?_
          have W := Wg21
          have W : Sto g g21 ((g1'.next, .cells [.slice pa r.length pc] 22 false) :: ([] ++ oent j1 22 (vs.take at_))) := W
          refine ow_app (P := Tryz.prog) (t := 24) (e := 22) (z := 1) (c := at_) (i := j1) 0 W slz31 (by rw [hvtl, Nat.mul_one]) rfl rfl (by omega) (by rw [show oslV j1 at_ = .slice a1 at_ c1 from (by rw [← ho1, hvtl]; simp)]; kernel_rfl) fun g3 s2 ng3 hs2 hc2 W => ?_
          obtain ⟨a2, c2, ho2⟩ := osl_shape g21.next (at_ + 1)
          rw [ho2] at hs2
          subst hs2
          refine ok_go 0 ?_
          replace hze : RdE g3 z (vs.drop at_) := hze.ext W.ext
          refine sy_any 0 (p := fun v => RdE g3 v (vs.drop at_)) (h' := g3) ?_ ?_
          · cases oa with
            | none =>
              obtain ⟨hr0, rfl⟩ := osl_none2 hox.1
              obtain rfl : at_ = 0 := by omega
              obtain rfl : rows = [] := List.eq_nil_of_length_eq_zero hr0
              obtain rfl : vs = [] := List.eq_nil_of_length_eq_zero hvl
              exact ⟨.slice none 0 0, fun _ _ => ⟨⟨_, _, rfl⟩, rfl⟩, by kernel_rfl⟩
            | some ra => exact ⟨z, hze, (by kernel_rfl : _ = (sliceOp Tryz.prog 24 (.slice (some ra) rows.length oc) (some (J at_)) none none).map (·, g3)).trans (by rw [hz]; rfl)⟩
          clear hze hz z
          intro z hze
          obtain ⟨za, zc, rfl⟩ := hze.now.1
          refine ok_go 0 ?_
          have W : Sto g g3 ([] ++ oent g21.next 22 (vs.take at_ ++ [.slice pa r.length pc])) := W
          have hl1 : (vs.take at_ ++ [Value.slice pa r.length pc]).length = at_ + 1 := by rw [List.length_append, hvtl]; rfl
          refine ow_apps (P := Tryz.prog) (t := 24) (e := 22) (l := []) (i := g21.next) (zs := vs.take at_ ++ [.slice pa r.length pc]) 0 W slz31 hze hvd (by rw [hl1, List.length_drop]; omega) (by rw [hl1, ho2]; kernel_rfl) fun g4 s3 j3 hs3 hc3 W => ?_
          have X4 : g.Ext g4 := W.ext
          have hw4 := sto_ord W
          rw [List.append_assoc] at hw4
          have hlen4 : (vs.take at_ ++ ([Value.slice pa r.length pc] ++ vs.drop at_)).length = (insU rows r).length := by
            rw [hins]
            simp only [List.length_append, List.length_cons, List.length_nil, List.length_take, List.length_drop, hvl]
            omega
          have RN : LRd g4 s3 (insU rows r) := by
            refine ⟨vs.take at_ ++ ([.slice pa r.length pc] ++ vs.drop at_), ?_, hlen4, ?_, ?_⟩
            · rw [show s3 = oslV j3 (vs.take at_ ++ ([Value.slice pa r.length pc] ++ vs.drop at_)).length from by rw [hs3, hl1]; exact congrArg (oslV j3) (by simp only [List.length_append, List.length_cons, List.length_nil, hvtl, List.length_drop]; omega)]
              exact hw4
            · rw [List.all_append, List.all_append, hvt, hvd]; rfl
            · intro k rv r' hk1 hk2
              rw [hins] at hk2
              have hrl : (rows.take at_).length = at_ := by rw [List.length_take]; omega
              rcases Nat.lt_trichotomy k at_ with hlt | rfl | hgt
              · rw [List.getElem?_append_left (by omega), List.getElem?_take, if_pos hlt] at hk1 hk2
                exact (hvr k rv r' hk1 hk2).ext X4
              · rw [List.getElem?_append_right (by omega), hvtl, Nat.sub_self] at hk1
                rw [List.getElem?_append_right (by omega), hrl, Nat.sub_self] at hk2
                cases hk1
                cases hk2
                exact RP.2.ext X4
              · rw [List.getElem?_append_right (by omega), hvtl, show k - at_ = (k - at_ - 1) + 1 by omega] at hk1
                rw [List.getElem?_append_right (by omega), hrl, show k - at_ = (k - at_ - 1) + 1 by omega] at hk2
                simp only [List.cons_append, List.nil_append, List.getElem?_cons_succ, List.getElem?_drop] at hk1 hk2
                exact (hvr _ rv r' hk1 hk2).ext X4
          clear hlen4 hw4
          obtain ⟨na, nc, rfl⟩ := RN.shape
          refine ok_go 1 ?_
          exact sy_next 0 _ g4 (by kernel_rfl) (by kernel_rfl) (ihk (k + 1, .slice na (insU rows r).length nc) _ g4 ⟨hk1, by dsimp only; rw [hstep, hsome h0]; exact RN, Xk.trans (Xg.trans X4)⟩ (show (ops d 0 ns[i]).length - (k + 1) < (ops d 0 ns[i]).length - k by omega) ⟨by kernel_rfl, by kernel_rfl, by kernel_rfl, by kernel_rfl, by kernel_rfl, by kernel_rfl, (by kernel_rfl : _ = Value.int .i64 (IntKind.wrap .i64 (Int.ofNat (k + 1)))).trans (by rw [hwk]), trivial⟩)
    · intro hkl
      have hkl : k = (ops d 0 ns[i]).length := Nat.le_antisymm hk (no_nat hkl)
      subst hkl
      rw [List.take_length] at RO ⊢
      refine ok_go 1 ?_
      exact sy_next 0 _ gk (by kernel_rfl) (by kernel_rfl) (ihi (i + 1, .slice oa ((cands d ns i ++ (ops d 0 ns[i]).filterMap (mopt d ns i)).foldl insU []).length oc) _ gk ⟨hil, by rw [cands_succ, hgd]; exact RO, Xi.trans (X2.trans Xk)⟩ (show ns.length - (i + 1) < ns.length - i by omega) ⟨by kernel_rfl, by kernel_rfl, by kernel_rfl, by kernel_rfl, (by kernel_rfl : _ = Value.int .i64 (IntKind.wrap .i64 (Int.ofNat (i + 1)))).trans (by rw [hwi]), trivial⟩)
  · intro hlt
    have hil : i = ns.length := Nat.le_antisymm hi (no_nat hlt)
    subst hil
    refine ok_go 0 ?_
    exact sy_done 0 (v := .slice oa0 ((cands d ns ns.length).foldl insU []).length oc0) (h := gi) (by kernel_rfl) ⟨RO, X1.trans Xi⟩
end Go.Proofs.YtegcmgjldapnmaaGreatDoor
namespace Go.Proofs.YtegcmgjldapnmaaGreatDoor
open Go Go.Eng Nim Oct
set_option maxRecDepth 100000
set_option maxHeartbeats 8000000
theorem rdI0 {h : Hp} {rv : Value} {zs : List Int} (hr : Rds h rv (zs.map I)) {k : Nat} (hk : k < zs.length) : ∃ p, indexAddrOp Tryz.prog 22 rv (J k) = some p ∧ loadT Tryz.prog h 3 p = some (I zs[k]) :=
  hr.read (e := 3) (by kernel_rfl) (by kernel_rfl) (by kernel_rfl) (by rw [List.getElem?_map, List.getElem?_eq_getElem hk]; rfl)
theorem mov_bad (lf m : Nat) (hlf : 20000 ≤ lf) (hsm : lf < 2 ^ 62) (d : List Nat) (zs : List Int) (hz : zs.length ≤ 1000) (hb : 10 < zs.length ∨ zs.any badN = true) (x : Value) (h : Hp) (hx : Rds h x (zs.map I))
    (ck : ∀ h, ∃ v h', Ev lf (m + 3) 13 [.string (strL (codeS d))] h = some (v, h') ∧ v = J 0 ∧ h.Ext h') :
    ∃ v h', Ev lf (m + 4) 6 [.string (strL (codeS d)), x] h = some (v, h') ∧ v = .tuple #[.slice none 0 0, J (if 10 < zs.length then 2 else 1)] ∧ h.Ext h' := by
  refine fnS_ok (Q := fun v h' => v = .tuple #[.slice none 0 0, J (if 10 < zs.length then 2 else 1)] ∧ h.Ext h') ?_
  have W := Sto.start h
  obtain ⟨xa, xc, hxs⟩ := hx.shape
  rw [List.length_map] at hxs
  subst hxs
  refine ow_new 0 W (AObj.cells [Value.slice xa (List.length zs) xc] 22 false) (fun q => Value.pointer (some { block := q, off := 0 })) (by kernel_rfl) fun g1 ng1 Wg1 => ?_
  have W := Wg1
  obtain ⟨y1, q1, ec1, rc1⟩ := ck (g1)
  refine sy_call 0 (by kernel_rfl) ec1 ?_
  obtain ⟨rfl, X1⟩ := rc1
  have W := W.call X1
  refine ow_load (P := Tryz.prog) (T := 22) (off := 0) 2 0 W rfl rfl (by kernel_rfl) (by kernel_rfl) ?_
  refine ok_go 2 ?_
  by_cases h10 : 10 < zs.length
  · rw [if_pos h10]
    refine sy_yes 0 (b := decide (Int.ofNat zs.length > 10)) (by kernel_rfl) (decide_eq_true (by show (10 : Int) < (zs.length : Int); omega)) ?_
    refine ok_go 1 ?_
    exact sy_done 0 (v := .tuple #[.slice none 0 0, J 2]) (h := q1) (by kernel_rfl) ⟨rfl, W.ext⟩
  · rw [if_neg h10]
    refine sy_no 0 (b := decide (Int.ofNat zs.length > 10)) (by kernel_rfl) (decide_eq_false (by show ¬ (10 : Int) < (zs.length : Int); omega)) ?_
    have hb1 := has_bad lf m zs (by omega) hsm _ q1 (hx.ext W.ext)
    rw [hb.resolve_left h10] at hb1
    refine ow_load (P := Tryz.prog) (T := 22) (off := 0) 0 0 W rfl rfl (by kernel_rfl) (by kernel_rfl) ?_
    refine sy_call 0 (by kernel_rfl) hb1 ?_
    refine ok_go 2 ?_
    exact sy_done 0 (v := .tuple #[.slice none 0 0, J 1]) (h := q1) (by kernel_rfl) ⟨rfl, W.ext⟩
theorem good_ns {zs : List Int} (h : ¬ zs.any badN = true) : ∃ ns : List Nat, zs = ns.map Int.ofNat ∧ ∀ n ∈ ns, n ≤ 200 := by
  have h1 : ∀ z ∈ zs, 0 ≤ z ∧ z ≤ 200 := fun z hz => by
    have := fun hb => h (List.any_eq_true.2 ⟨z, hz, hb⟩)
    unfold badN at this
    simp at this
    omega
  refine ⟨zs.map Int.toNat, ?_, fun n hn => ?_⟩
  · rw [List.map_map]
    exact (List.map_id zs).symm.trans (List.map_congr_left fun z hz => by have := (h1 z hz).1; simp; omega)
  · obtain ⟨z, hz, rfl⟩ := List.mem_map.1 hn
    have := h1 z hz
    omega
def wrp (z : Int) : Int := IntKind.wrap .i64 ((IntKind.wrap .u64 z).tmod 25)
def OwnV (q n m : Nat) (v : Value) : Prop := (n = 0 ∧ m = 0 ∧ v = .slice none 0 0) ∨ (0 < n ∧ v = .slice (some ⟨q, 0, none⟩) m (2 * n + 1))
theorem OwnV.rds {q n m : Nat} {v : Value} (k : OwnV q n m v) {fs : List Int} (hl : fs.length = n) (hm : m ≤ n) {h g : Hp} (W : Sto h g (oent q 3 (fs.map I))) : Rds g v ((fs.take m).map I) := by
  rcases k with ⟨rfl, rfl, rfl⟩ | ⟨hn, rfl⟩
  · exact .inl ⟨⟨_, rfl⟩, by rw [List.take_zero]; rfl⟩
  · have hc : (q, AObj.cells (fs.map I) 3 true) ∈ oent q 3 (fs.map I) := by
      cases fs with
      | nil => simp at hl; omega
      | cons a r => exact List.mem_singleton.2 rfl
    obtain ⟨h1, h2⟩ := W.hold _ hc
    refine .inr ⟨q, 0, _, by rw [List.length_map, List.length_take, hl, Nat.min_eq_left hm], fun _ => ⟨h1, ?_⟩⟩
    unfold loadN
    rw [h2]
    show takeN _ (List.drop 0 (fs.map I)) = _
    rw [List.drop_zero, List.map_take, List.length_take, List.length_map, hl, Nat.min_eq_left hm]
    exact takeN_ok m _ (by rw [List.length_map, hl]; exact hm)
theorem ddK_len : ∀ l : List (List Nat), (ddK l).length ≤ l.length
  | [] => Nat.le_refl _
  | [_] => Nat.le_refl _
  | x :: y :: r => by
    have ih := ddK_len (y :: r)
    unfold ddK
    split
    · exact Nat.le_trans ih (by simp)
    · exact Nat.succ_le_succ ih
theorem lawA (l : List Nat) (hl : ∀ n ∈ l, n < 256) (zs : List Int) (hzs : zs.length < 2 ^ 63) (xa : Option Addr) (xc m : Nat) (h : Hp) (hx : Rds h (.slice xa zs.length xc) (zs.map I)) (hwf : WfS (.slice xa zs.length xc))
    (cd : ∀ (l : List Nat) (h : Hp), (∀ n ∈ l, n < 256) → ∃ v h', Ev 100000 m 5 [.string (strL l)] h = some (v, h') ∧ v = .string (strL (codeS (codeD l))) ∧ h.Ext h')
    (mb : ∀ (d : List Nat) (zs : List Int) (x : Value) (h : Hp), Good d → zs.length ≤ 1000 → (10 < zs.length ∨ zs.any badN = true) → Rds h x (zs.map I) → ∃ v h', Ev 100000 m 6 [.string (strL (codeS d)), x] h = some (v, h') ∧ v = .tuple #[.slice none 0 0, J (if 10 < zs.length then 2 else 1)] ∧ h.Ext h')
    (mo : ∀ (d ns : List Nat) (x : Value) (h : Hp), Good d → ns.length ≤ 10 → (∀ n ∈ ns, n ≤ 200) → Rds h x (ns.map J) → ∃ v h', Ev 100000 m 6 [.string (strL (codeS d)), x] h = some (v, h') ∧ MovR h (cands d ns ns.length) v h')
    (rm : ∀ (d ns : List Nat) (x : Value) (h : Hp), Good d → ns.length ≤ 10 → (∀ n ∈ ns, n ≤ 200) → Rds h x (ns.map J) → ∃ v h', Ev 100000 m 7 [.string (strL (codeS d)), x] h = some (v, h') ∧ LRd h' v ((cands d ns ns.length).foldl insU []) ∧ h.Ext h')
    (sa : ∀ (zs : List Int) (x y : Value) (h : Hp), zs.length < 100000 → Rds h x (zs.map I) → Rds h y (zs.map I) → Ev 100000 m 8 [x, y] h = some (.bool true, h))
    (aw : ∀ h, Ev 100000 m 9 [] h = some (.bool true, h)) :
    ∃ H, Ev 100000 (m + 1) 3 [.string (strL l), .slice xa zs.length xc] h = some (.bool true, H) := by
  refine fn_val ?_
  have W := Sto.start h
  have G := codeD_good l
  have cdl := cd l
  clear cd
  generalize codeD l = d at *
  obtain ⟨K, hK, hK1, hK12⟩ : ∃ K : Nat, (if (12 : Int) < Int.ofNat zs.length then (12 : Int) else Int.ofNat zs.length) = Int.ofNat K ∧ K ≤ zs.length ∧ K ≤ 12 := by
    by_cases h20 : 12 < zs.length
    · exact ⟨12, if_pos (by show (12 : Int) < (zs.length : Int); omega), by omega, Nat.le_refl _⟩
    · exact ⟨zs.length, if_neg (by show ¬ (12 : Int) < (zs.length : Int); omega), Nat.le_refl _, by omega⟩
  refine ok_go 0 ?_
  obtain ⟨_, q1, e1, rfl, X1⟩ := cdl h hl
  refine sy_call 0 (by kernel_rfl) e1 ?_
  have W := W.call X1
  obtain ⟨y, hy1, hy2⟩ := cut_row hwf (hx.ext W.ext) (K := K) (by rw [List.length_map]; exact hK1)
  rw [← List.map_take] at hy2
  have hy1 : sliceOp Tryz.prog 22 (.slice xa zs.length xc) none (some (.int .i64 (Int.ofNat K))) none = some y := hy1
  rw [← hK] at hy1
  refine ok_go 2 ?_
  refine sy_any 0 (p := fun y => Rds q1 y ((zs.take K).map I)) (h' := q1) ?_ ?_
  · cases xa with
    | none =>
      obtain ⟨h1, h2⟩ := hwf
      obtain rfl : zs = [] := List.eq_nil_of_length_eq_zero h1
      subst h2
      exact ⟨.slice none 0 0, .inl ⟨⟨_, rfl⟩, by rw [List.take_nil]; rfl⟩, by kernel_rfl⟩
    | some ra =>
      refine ⟨y, hy2, (by kernel_rfl : _ = (sliceOp Tryz.prog 22 (.slice (some ra) zs.length xc) none (some (.int .i64 (if (12 : Int) < Int.ofNat zs.length then (12 : Int) else Int.ofNat zs.length))) none).map (·, q1)).trans ?_⟩
      rw [hy1]
      rfl
  intro y hy2
  obtain ⟨ya, yc, rfl⟩ := hy2.shape
  refine ok_go 0 ?_
  refine ow_rds 0 W slz32 hy2 (List.all_eq_true.2 fun x hx => by obtain ⟨y, _, rfl⟩ := List.mem_map.1 hx; rfl) (by rw [List.length_map, List.length_take]; omega) (by kernel_rfl) fun g2 sl2 ng2 hsl2 hsc2 W => ?_
  have hfl : (zs.take K).length = K := by rw [List.length_take]; omega
  obtain ⟨oa, oc, hos, hOV⟩ : ∃ oa oc, sl2 = .slice oa K oc ∧ OwnV q1.next K K (.slice oa K oc) := by
    rw [hsl2, List.length_map, hfl]
    cases K with
    | zero => exact ⟨none, 0, rfl, .inl ⟨rfl, rfl, rfl⟩⟩
    | succ K => exact ⟨_, _, rfl, .inr ⟨Nat.succ_pos K, rfl⟩⟩
  clear hsl2 hy1 hy2
  subst hos
  generalize zs.take K = fs at *
  refine ok_go 0 ?_
  refine sy_loop 0 100000 g2 (α := Nat × List Int × Nat × Option Addr × Nat) (fun x => [(5, .string (strL (codeS d))), (6, .slice x.2.2.2.1 x.2.2.1 x.2.2.2.2), (7, J x.1)]) (fun x g => x.1 ≤ 2 ∧ x.2.1.length = K ∧ x.2.2.1 ≤ K ∧ OwnV q1.next K x.2.2.1 (.slice x.2.2.2.1 x.2.2.1 x.2.2.2.2) ∧ Sto h g (oent q1.next 3 (x.2.1.map I))) (fun x _ => 2 - x.1) (0, fs, K, oa, oc) (by kernel_rfl) (by kernel_rfl)
    ⟨by kernel_rfl, by kernel_rfl, by kernel_rfl, trivial⟩ (show 2 - 0 < 100000 by decide) ⟨Nat.zero_le 2, hfl, Nat.le_refl _, hOV, W⟩ ?_
  clear W e1 hfl hOV X1
  rintro m1 ⟨kk, fs, M, oa, oc⟩ F1 g ⟨hkk, hfl, hMK, hOV, W⟩ ih
  dsimp only at hkk hfl hMK hOV W
  have hw : IntKind.wrap .i64 (Int.ofNat (kk + 1)) = Int.ofNat (kk + 1) := wrap_nat (by omega)
  refine ok_go 1 ?_
  refine sy_test 0 (decide (Int.ofNat kk < 2)) (by kernel_rfl) ?_ ?_
  · intro hk2
    have hk2 : kk < 2 := ok_nat (b := 2) hk2
    have hRO := hOV.rds hfl hMK W
    have hml : (fs.take M).length = M := by rw [List.length_take]; omega
    have tail : ∀ (t : SA) g', g.Ext g' → True := fun _ _ _ => trivial
    by_cases hbad : 10 < (fs.take M).length ∨ (fs.take M).any badN = true
    · obtain ⟨_, g3, e3, rfl, X3⟩ := mb d (fs.take M) _ g G (by omega) hbad hRO
      rw [hml] at e3
      refine ok_go 0 ?_
      refine sy_call 0 (by kernel_rfl) e3 ?_
      have W := W.call X3
      have hRO := hRO.ext X3
      refine ok_go 2 ?_
      refine sy_loop 0 100000 g3 (α := Nat) (fun j => [(5, .string (strL (codeS d))), (6, .slice oa M oc), (7, J kk), (8, .slice none 0 0), (9, J (if 10 < M then 2 else 1)), (10, J (if ((fs.take M).take j).any badN then 1 else 0)), (11, J j)]) (fun j g' => j ≤ M ∧ g' = g3) (fun j _ => M - j) 0 (by kernel_rfl) (by kernel_rfl)
        ⟨by kernel_rfl, by kernel_rfl, by kernel_rfl, by kernel_rfl, by kernel_rfl, by kernel_rfl, by kernel_rfl, trivial⟩ (show M - 0 < 100000 by omega) ⟨Nat.zero_le M, rfl⟩ ?_
      rintro m2 j F2 gw ⟨hj, rfl⟩ ihw
      have hwj : IntKind.wrap .i64 (Int.ofNat (j + 1)) = Int.ofNat (j + 1) := wrap_nat (by omega)
      refine ok_go 2 ?_
      refine sy_test 0 (decide (Int.ofNat j < Int.ofNat M)) (by kernel_rfl) ?_ ?_
      · intro hjM
        have hjM : j < M := ok_nat hjM
        obtain ⟨p, hp1, hp2⟩ := rdI0 hRO (show j < (fs.take M).length by omega)
        have hst : ((fs.take M).take (j + 1)).any badN = (((fs.take M).take j).any badN || badN (fs.take M)[j]) := by
          rw [List.take_succ_eq_append_getElem (by omega), List.any_append]
          simp
        refine ok_go 0 ?_
        refine sy_load 0 (r := indexAddrOp Tryz.prog 22 (.slice oa M oc) (J j)) (h' := gw) (by kernel_rfl) hp1 ?_
        refine ok_go 0 ?_
        refine sy_load 0 (r := loadT Tryz.prog gw 3 p) (h' := gw) (by kernel_rfl) hp2 ?_
        refine ok_go 1 ?_
        generalize (fs.take M)[j] = z at *
        by_cases hz0 : z < 0
        · refine sy_yes 0 (b := decide (z < 0)) (by kernel_rfl) (decide_eq_true hz0) ?_
          refine ok_go 7 ?_
          exact sy_next 0 _ gw (by kernel_rfl) (by kernel_rfl) (ihw (j + 1) _ gw ⟨hjM, rfl⟩ (show M - (j + 1) < M - j by omega) ⟨by kernel_rfl, by kernel_rfl, by kernel_rfl, by kernel_rfl, by kernel_rfl, (by kernel_rfl : _ = Value.int .i64 1).trans (by rw [hst, show badN z = true from by unfold badN; rw [decide_eq_true hz0]; rfl, Bool.or_true]; rfl), (by kernel_rfl : _ = Value.int .i64 (IntKind.wrap .i64 (Int.ofNat (j + 1)))).trans (by rw [hwj]), trivial⟩)
        · refine sy_no 0 (b := decide (z < 0)) (by kernel_rfl) (decide_eq_false hz0) ?_
          refine ok_go 2 ?_
          refine sy_load 0 (r := indexAddrOp Tryz.prog 22 (.slice oa M oc) (J j)) (h' := gw) (by kernel_rfl) hp1 ?_
          refine ok_go 1 ?_
          refine sy_load 0 (r := loadT Tryz.prog gw 3 p) (h' := gw) (by kernel_rfl) hp2 ?_
          refine ok_go 3 ?_
          by_cases hz2 : z > 200
          · refine sy_yes 0 (b := decide (z > 200)) (by kernel_rfl) (decide_eq_true hz2) ?_
            refine ok_go 1 ?_
            exact sy_next 0 _ gw (by kernel_rfl) (by kernel_rfl) (ihw (j + 1) _ gw ⟨hjM, rfl⟩ (show M - (j + 1) < M - j by omega) ⟨by kernel_rfl, by kernel_rfl, by kernel_rfl, by kernel_rfl, by kernel_rfl, (by kernel_rfl : _ = Value.int .i64 1).trans (by rw [hst, show badN z = true from by unfold badN; rw [decide_eq_true hz2, Bool.or_true], Bool.or_true]; rfl), (by kernel_rfl : _ = Value.int .i64 (IntKind.wrap .i64 (Int.ofNat (j + 1)))).trans (by rw [hwj]), trivial⟩)
          · refine sy_no 0 (b := decide (z > 200)) (by kernel_rfl) (decide_eq_false hz2) ?_
            refine ok_go 1 ?_
            exact sy_next 0 _ gw (by kernel_rfl) (by kernel_rfl) (ihw (j + 1) _ gw ⟨hjM, rfl⟩ (show M - (j + 1) < M - j by omega) ⟨by kernel_rfl, by kernel_rfl, by kernel_rfl, by kernel_rfl, by kernel_rfl, (by kernel_rfl : _ = J (if ((fs.take M).take j).any badN then 1 else 0)).trans (by rw [hst, show badN z = false from by unfold badN; rw [decide_eq_false hz0, decide_eq_false hz2]; rfl, Bool.or_false]), (by kernel_rfl : _ = Value.int .i64 (IntKind.wrap .i64 (Int.ofNat (j + 1)))).trans (by rw [hwj]), trivial⟩)
      intro hjM
      have hjM : j = M := Nat.le_antisymm hj (no_nat hjM)
      subst hjM
      clear ihw hj
      rw [List.take_of_length_le (l := fs.take j) (Nat.le_of_eq hml)]
      refine ok_go 2 ?_
      by_cases h10 : 10 < j
      · refine sy_yes 0 (b := decide (Int.ofNat j > 10)) (by kernel_rfl) (decide_eq_true (by show (10 : Int) < (j : Int); omega)) ?_
        rw [if_pos h10]
        refine ok_go 10 ?_
        refine sy_loop 0 100000 gw (α := Nat × List Int) (fun x => [(5, .string (strL (codeS d))), (6, .slice oa j oc), (7, J kk), (14, J x.1)]) (fun x g' => x.1 ≤ j ∧ x.2.length = K ∧ Sto h g' (oent q1.next 3 (x.2.map I))) (fun x _ => j - x.1) (0, fs) (by kernel_rfl) (by kernel_rfl)
          ⟨by kernel_rfl, by kernel_rfl, by kernel_rfl, by kernel_rfl, trivial⟩ (show j - 0 < 100000 by omega) ⟨Nat.zero_le j, hfl, W⟩ ?_
        clear W hRO
        rintro m3 ⟨k, cur⟩ F3 gs ⟨hk, hcl, W⟩ ihs
        dsimp only at hk hcl W
        have hwk : IntKind.wrap .i64 (Int.ofNat (k + 1)) = Int.ofNat (k + 1) := wrap_nat (by omega)
        refine ok_go 2 ?_
        refine sy_test 0 (decide (Int.ofNat k < Int.ofNat j)) (by kernel_rfl) ?_ ?_
        · intro hkj
          have hkj : k < j := ok_nat hkj
          obtain ⟨hK0, hov⟩ : 0 < K ∧ Value.slice oa j oc = .slice (some ⟨q1.next, 0, none⟩) j (2 * K + 1) := by
            rcases hOV with ⟨h1, h2, h3⟩ | h1
            · omega
            · exact h1
          cases hov
          have hkc : k < cur.length := by omega
          have hoe : ∀ c : List Int, c.length = K → oent q1.next 3 (c.map I) = [(q1.next, .cells (c.map I) 3 true)] := fun c hc => by
            cases c with
            | nil => simp at hc; omega
            | cons a r => rfl
          rw [hoe cur hcl] at W
          have hci : (cur.map I)[k]? = some (I cur[k]) := by rw [List.getElem?_map, List.getElem?_eq_getElem hkc]; rfl
          refine ok_go 0 ?_
          refine sy_load 0 (r := indexAddrOp Tryz.prog 22 (.slice (some ⟨q1.next, 0, none⟩) j (2 * K + 1)) (J k)) (h' := gs) (v := ptr q1.next k) (by kernel_rfl) (idxS0 (e := 3) (by kernel_rfl) (by kernel_rfl) hkj) ?_
          refine ok_go 0 ?_
          refine ow_load (P := Tryz.prog) (T := 3) (off := k) 0 0 W rfl hci (by kernel_rfl) (by kernel_rfl) ?_
          refine ok_go 3 ?_
          refine sy_load 0 (r := indexAddrOp Tryz.prog 22 (.slice (some ⟨q1.next, 0, none⟩) j (2 * K + 1)) (J k)) (h' := gs) (v := ptr q1.next k) (by kernel_rfl) (idxS0 (e := 3) (by kernel_rfl) (by kernel_rfl) hkj) ?_
          refine ok_go 0 ?_
          refine ow_store (P := Tryz.prog) (T := 3) (off := k) (v := I (wrp cur[k])) 0 0 W rfl (by rw [List.length_map]; exact hkc) (by kernel_rfl) rfl (by kernel_rfl) fun gs2 ngs2 W2 => ?_
          have W2 : Sto h gs2 [(q1.next, .cells ((cur.map I).set k (I (wrp cur[k]))) 3 true)] := W2
          rw [← List.map_set, ← hoe (cur.set k (wrp cur[k])) (by rw [List.length_set]; exact hcl)] at W2
          refine ok_go 1 ?_
          exact sy_next 0 _ gs2 (by kernel_rfl) (by kernel_rfl) (ihs (k + 1, cur.set k (wrp cur[k])) _ gs2 ⟨hkj, by dsimp only; rw [List.length_set]; exact hcl, W2⟩ (show j - (k + 1) < j - k by omega) ⟨by kernel_rfl, by kernel_rfl, by kernel_rfl, (by kernel_rfl : _ = Value.int .i64 (IntKind.wrap .i64 (Int.ofNat (k + 1)))).trans (by rw [hwk]), trivial⟩)
        intro hkj
        clear ihs
        obtain ⟨M4, hM4, hM4j⟩ : ∃ M4 : Nat, (if (4 : Int) < Int.ofNat j then (4 : Int) else Int.ofNat j) = Int.ofNat M4 ∧ M4 ≤ j := by
          by_cases h20 : 4 < j
          · exact ⟨4, if_pos (by show (4 : Int) < (j : Int); omega), by omega⟩
          · exact ⟨j, if_neg (by show ¬ (4 : Int) < (j : Int); omega), Nat.le_refl _⟩
        refine ok_go 2 ?_
        refine sy_any 0 (p := fun y => OwnV q1.next K M4 y) (h' := gs) ?_ ?_
        · rcases hOV with ⟨h1, h2, h3⟩ | ⟨h1, h2⟩
          · cases h3
            obtain rfl : M4 = 0 := by omega
            exact ⟨.slice none 0 0, .inl ⟨h1, rfl, rfl⟩, by kernel_rfl⟩
          · cases h2
            refine ⟨_, .inr ⟨h1, rfl⟩, (by kernel_rfl : _ = (sliceOp Tryz.prog 22 (.slice (some ⟨q1.next, 0, none⟩) j (2 * K + 1)) none (some (.int .i64 (if (4 : Int) < Int.ofNat j then (4 : Int) else Int.ofNat j))) none).map (·, gs)).trans ?_⟩
            rw [hM4]
            rw [show sliceOp Tryz.prog 22 (.slice (some ⟨q1.next, 0, none⟩) j (2 * K + 1)) none (some (.int .i64 (Int.ofNat M4))) none = _ from gl_hi (e := 3) (by kernel_rfl) (by kernel_rfl) (q := q1.next) (n := K) (m := j) (j := M4) (by omega) h1]
            rfl
        intro y hOV2
        obtain ⟨ya, yc, rfl⟩ : ∃ a c, y = .slice a M4 c := by
          rcases hOV2 with ⟨h1, rfl, h3⟩ | ⟨h1, h2⟩
          · exact ⟨_, _, h3⟩
          · exact ⟨_, _, h2⟩
        refine ok_go 1 ?_
        exact sy_next 0 _ gs (by kernel_rfl) (by kernel_rfl) (ih (kk + 1, cur, M4, ya, yc) _ gs ⟨hk2, hcl, by dsimp only; omega, hOV2, W⟩ (show 2 - (kk + 1) < 2 - kk by omega) ⟨by kernel_rfl, by kernel_rfl, (by kernel_rfl : _ = Value.int .i64 (IntKind.wrap .i64 (Int.ofNat (kk + 1)))).trans (by rw [hw]), trivial⟩)
      · refine sy_no 0 (b := decide (Int.ofNat j > 10)) (by kernel_rfl) (decide_eq_false (by show ¬ (10 : Int) < (j : Int); omega)) ?_
        rw [if_neg h10, hbad.resolve_left (by omega), if_pos rfl]
        refine ok_go 10 ?_
        refine sy_loop 0 100000 gw (α := Nat × List Int) (fun x => [(5, .string (strL (codeS d))), (6, .slice oa j oc), (7, J kk), (14, J x.1)]) (fun x g' => x.1 ≤ j ∧ x.2.length = K ∧ Sto h g' (oent q1.next 3 (x.2.map I))) (fun x _ => j - x.1) (0, fs) (by kernel_rfl) (by kernel_rfl)
          ⟨by kernel_rfl, by kernel_rfl, by kernel_rfl, by kernel_rfl, trivial⟩ (show j - 0 < 100000 by omega) ⟨Nat.zero_le j, hfl, W⟩ ?_
        clear W hRO
        rintro m3 ⟨k, cur⟩ F3 gs ⟨hk, hcl, W⟩ ihs
        dsimp only at hk hcl W
        have hwk : IntKind.wrap .i64 (Int.ofNat (k + 1)) = Int.ofNat (k + 1) := wrap_nat (by omega)
        refine ok_go 2 ?_
        refine sy_test 0 (decide (Int.ofNat k < Int.ofNat j)) (by kernel_rfl) ?_ ?_
        · intro hkj
          have hkj : k < j := ok_nat hkj
          obtain ⟨hK0, hov⟩ : 0 < K ∧ Value.slice oa j oc = .slice (some ⟨q1.next, 0, none⟩) j (2 * K + 1) := by
            rcases hOV with ⟨h1, h2, h3⟩ | h1
            · omega
            · exact h1
          cases hov
          have hkc : k < cur.length := by omega
          have hoe : ∀ c : List Int, c.length = K → oent q1.next 3 (c.map I) = [(q1.next, .cells (c.map I) 3 true)] := fun c hc => by
            cases c with
            | nil => simp at hc; omega
            | cons a r => rfl
          rw [hoe cur hcl] at W
          have hci : (cur.map I)[k]? = some (I cur[k]) := by rw [List.getElem?_map, List.getElem?_eq_getElem hkc]; rfl
          refine ok_go 0 ?_
          refine sy_load 0 (r := indexAddrOp Tryz.prog 22 (.slice (some ⟨q1.next, 0, none⟩) j (2 * K + 1)) (J k)) (h' := gs) (v := ptr q1.next k) (by kernel_rfl) (idxS0 (e := 3) (by kernel_rfl) (by kernel_rfl) hkj) ?_
          refine ok_go 0 ?_
          refine ow_load (P := Tryz.prog) (T := 3) (off := k) 0 0 W rfl hci (by kernel_rfl) (by kernel_rfl) ?_
          refine ok_go 3 ?_
          refine sy_load 0 (r := indexAddrOp Tryz.prog 22 (.slice (some ⟨q1.next, 0, none⟩) j (2 * K + 1)) (J k)) (h' := gs) (v := ptr q1.next k) (by kernel_rfl) (idxS0 (e := 3) (by kernel_rfl) (by kernel_rfl) hkj) ?_
          refine ok_go 0 ?_
          refine ow_store (P := Tryz.prog) (T := 3) (off := k) (v := I (wrp cur[k])) 0 0 W rfl (by rw [List.length_map]; exact hkc) (by kernel_rfl) rfl (by kernel_rfl) fun gs2 ngs2 W2 => ?_
          have W2 : Sto h gs2 [(q1.next, .cells ((cur.map I).set k (I (wrp cur[k]))) 3 true)] := W2
          rw [← List.map_set, ← hoe (cur.set k (wrp cur[k])) (by rw [List.length_set]; exact hcl)] at W2
          refine ok_go 1 ?_
          exact sy_next 0 _ gs2 (by kernel_rfl) (by kernel_rfl) (ihs (k + 1, cur.set k (wrp cur[k])) _ gs2 ⟨hkj, by dsimp only; rw [List.length_set]; exact hcl, W2⟩ (show j - (k + 1) < j - k by omega) ⟨by kernel_rfl, by kernel_rfl, by kernel_rfl, (by kernel_rfl : _ = Value.int .i64 (IntKind.wrap .i64 (Int.ofNat (k + 1)))).trans (by rw [hwk]), trivial⟩)
        intro hkj
        clear ihs
        obtain ⟨M4, hM4, hM4j⟩ : ∃ M4 : Nat, (if (4 : Int) < Int.ofNat j then (4 : Int) else Int.ofNat j) = Int.ofNat M4 ∧ M4 ≤ j := by
          by_cases h20 : 4 < j
          · exact ⟨4, if_pos (by show (4 : Int) < (j : Int); omega), by omega⟩
          · exact ⟨j, if_neg (by show ¬ (4 : Int) < (j : Int); omega), Nat.le_refl _⟩
        refine ok_go 2 ?_
        refine sy_any 0 (p := fun y => OwnV q1.next K M4 y) (h' := gs) ?_ ?_
        · rcases hOV with ⟨h1, h2, h3⟩ | ⟨h1, h2⟩
          · cases h3
            obtain rfl : M4 = 0 := by omega
            exact ⟨.slice none 0 0, .inl ⟨h1, rfl, rfl⟩, by kernel_rfl⟩
          · cases h2
            refine ⟨_, .inr ⟨h1, rfl⟩, (by kernel_rfl : _ = (sliceOp Tryz.prog 22 (.slice (some ⟨q1.next, 0, none⟩) j (2 * K + 1)) none (some (.int .i64 (if (4 : Int) < Int.ofNat j then (4 : Int) else Int.ofNat j))) none).map (·, gs)).trans ?_⟩
            rw [hM4]
            rw [show sliceOp Tryz.prog 22 (.slice (some ⟨q1.next, 0, none⟩) j (2 * K + 1)) none (some (.int .i64 (Int.ofNat M4))) none = _ from gl_hi (e := 3) (by kernel_rfl) (by kernel_rfl) (q := q1.next) (n := K) (m := j) (j := M4) (by omega) h1]
            rfl
        intro y hOV2
        obtain ⟨ya, yc, rfl⟩ : ∃ a c, y = .slice a M4 c := by
          rcases hOV2 with ⟨h1, rfl, h3⟩ | ⟨h1, h2⟩
          · exact ⟨_, _, h3⟩
          · exact ⟨_, _, h2⟩
        refine ok_go 1 ?_
        exact sy_next 0 _ gs (by kernel_rfl) (by kernel_rfl) (ih (kk + 1, cur, M4, ya, yc) _ gs ⟨hk2, hcl, by dsimp only; omega, hOV2, W⟩ (show 2 - (kk + 1) < 2 - kk by omega) ⟨by kernel_rfl, by kernel_rfl, (by kernel_rfl : _ = Value.int .i64 (IntKind.wrap .i64 (Int.ofNat (kk + 1)))).trans (by rw [hw]), trivial⟩)
    · obtain ⟨ns, hns, h200⟩ := good_ns (fun h => hbad (.inr h))
      have hnb : ¬ (fs.take M).any badN = true := fun h => hbad (.inr h)
      have hnl : ns.length = M := by rw [hns, List.length_map] at hml; exact hml
      have hM10 : M ≤ 10 := by have := fun h => hbad (.inl h); omega
      obtain ⟨_, g3, e3, X3, out, ws, rows, P, rfl, hout, hlen, hrow, hP, hsort, hrows⟩ := mo d ns _ g G (by omega) h200 (by rw [hns] at hRO; rw [List.map_map] at hRO; exact hRO)
      obtain ⟨la, lc, hsh⟩ := hout.shape
      subst hsh
      have hgD : ∀ i, ns.getD i 0 ≤ 200 := fun i => by
        rw [List.getD_eq_getElem?_getD]
        cases hi : ns[i]? with
        | none => exact Nat.zero_le _
        | some y => exact h200 y (List.mem_of_getElem? hi)
      have hcd := cands_len (d := d) (ns := ns) G.most hgD ns.length
      have hwl : ws.length ≤ 8080 := by
        rw [hlen, hrows]
        refine Nat.le_trans (ddK_len P) ?_
        rw [hP.length_eq]
        omega
      have hrl : ∀ r ∈ rows, r.length ≤ 12 := fun r hr => by
        have := cands_row (hP.mem_iff.1 (mem_ddK.1 (by rw [← hrows]; exact hr)))
        omega
      have W := W.call X3
      have hRO := hRO.ext X3
      refine ok_go 0 ?_
      refine sy_call 0 (by kernel_rfl) e3 ?_
      refine ok_go 2 ?_
      refine sy_loop 0 100000 g3 (α := Nat) (fun j => [(5, .string (strL (codeS d))), (6, .slice oa M oc), (7, J kk), (8, .slice la ws.length lc), (9, J 0), (10, J (if ((fs.take M).take j).any badN then 1 else 0)), (11, J j)]) (fun j g' => j ≤ M ∧ g' = g3) (fun j _ => M - j) 0 (by kernel_rfl) (by kernel_rfl)
        ⟨by kernel_rfl, by kernel_rfl, by kernel_rfl, by kernel_rfl, by kernel_rfl, by kernel_rfl, by kernel_rfl, trivial⟩ (show M - 0 < 100000 by omega) ⟨Nat.zero_le M, rfl⟩ ?_
      rintro m2 j F2 gw ⟨hj, rfl⟩ ihw
      have hwj : IntKind.wrap .i64 (Int.ofNat (j + 1)) = Int.ofNat (j + 1) := wrap_nat (by omega)
      refine ok_go 2 ?_
      refine sy_test 0 (decide (Int.ofNat j < Int.ofNat M)) (by kernel_rfl) ?_ ?_
      · intro hjM
        have hjM : j < M := ok_nat hjM
        obtain ⟨p, hp1, hp2⟩ := rdI0 hRO (show j < (fs.take M).length by omega)
        have hst : ((fs.take M).take (j + 1)).any badN = (((fs.take M).take j).any badN || badN (fs.take M)[j]) := by
          rw [List.take_succ_eq_append_getElem (by omega), List.any_append]
          simp
        refine ok_go 0 ?_
        refine sy_load 0 (r := indexAddrOp Tryz.prog 22 (.slice oa M oc) (J j)) (h' := gw) (by kernel_rfl) hp1 ?_
        refine ok_go 0 ?_
        refine sy_load 0 (r := loadT Tryz.prog gw 3 p) (h' := gw) (by kernel_rfl) hp2 ?_
        refine ok_go 1 ?_
        generalize (fs.take M)[j] = z at *
        by_cases hz0 : z < 0
        · refine sy_yes 0 (b := decide (z < 0)) (by kernel_rfl) (decide_eq_true hz0) ?_
          refine ok_go 7 ?_
          exact sy_next 0 _ gw (by kernel_rfl) (by kernel_rfl) (ihw (j + 1) _ gw ⟨hjM, rfl⟩ (show M - (j + 1) < M - j by omega) ⟨by kernel_rfl, by kernel_rfl, by kernel_rfl, by kernel_rfl, by kernel_rfl, (by kernel_rfl : _ = Value.int .i64 1).trans (by rw [hst, show badN z = true from by unfold badN; rw [decide_eq_true hz0]; rfl, Bool.or_true]; rfl), (by kernel_rfl : _ = Value.int .i64 (IntKind.wrap .i64 (Int.ofNat (j + 1)))).trans (by rw [hwj]), trivial⟩)
        · refine sy_no 0 (b := decide (z < 0)) (by kernel_rfl) (decide_eq_false hz0) ?_
          refine ok_go 2 ?_
          refine sy_load 0 (r := indexAddrOp Tryz.prog 22 (.slice oa M oc) (J j)) (h' := gw) (by kernel_rfl) hp1 ?_
          refine ok_go 1 ?_
          refine sy_load 0 (r := loadT Tryz.prog gw 3 p) (h' := gw) (by kernel_rfl) hp2 ?_
          refine ok_go 3 ?_
          by_cases hz2 : z > 200
          · refine sy_yes 0 (b := decide (z > 200)) (by kernel_rfl) (decide_eq_true hz2) ?_
            refine ok_go 1 ?_
            exact sy_next 0 _ gw (by kernel_rfl) (by kernel_rfl) (ihw (j + 1) _ gw ⟨hjM, rfl⟩ (show M - (j + 1) < M - j by omega) ⟨by kernel_rfl, by kernel_rfl, by kernel_rfl, by kernel_rfl, by kernel_rfl, (by kernel_rfl : _ = Value.int .i64 1).trans (by rw [hst, show badN z = true from by unfold badN; rw [decide_eq_true hz2, Bool.or_true], Bool.or_true]; rfl), (by kernel_rfl : _ = Value.int .i64 (IntKind.wrap .i64 (Int.ofNat (j + 1)))).trans (by rw [hwj]), trivial⟩)
          · refine sy_no 0 (b := decide (z > 200)) (by kernel_rfl) (decide_eq_false hz2) ?_
            refine ok_go 1 ?_
            exact sy_next 0 _ gw (by kernel_rfl) (by kernel_rfl) (ihw (j + 1) _ gw ⟨hjM, rfl⟩ (show M - (j + 1) < M - j by omega) ⟨by kernel_rfl, by kernel_rfl, by kernel_rfl, by kernel_rfl, by kernel_rfl, (by kernel_rfl : _ = J (if ((fs.take M).take j).any badN then 1 else 0)).trans (by rw [hst, show badN z = false from by unfold badN; rw [decide_eq_false hz0, decide_eq_false hz2]; rfl, Bool.or_false]), (by kernel_rfl : _ = Value.int .i64 (IntKind.wrap .i64 (Int.ofNat (j + 1)))).trans (by rw [hwj]), trivial⟩)
      intro hjM
      have hjM : j = M := Nat.le_antisymm hj (no_nat hjM)
      subst hjM
      clear ihw hj
      rw [List.take_of_length_le (l := fs.take j) (Nat.le_of_eq hml)]
      rw [show (fs.take j).any badN = false from Bool.eq_false_iff.2 hnb]
      have h10 : ¬ 10 < j := by omega
      refine ok_go 2 ?_
      refine sy_no 0 (b := decide (Int.ofNat j > 10)) (by kernel_rfl) (decide_eq_false (by show ¬ (10 : Int) < (j : Int); omega)) ?_
      refine ok_go 2 ?_
      obtain ⟨v4, g4, e4, R4, X4⟩ := rm d ns _ gw G (by omega) h200 (by rw [hns] at hRO; rw [List.map_map] at hRO; exact hRO)
      refine sy_call 0 (by kernel_rfl) e4 ?_
      have W := W.call X4
      have hRO := hRO.ext X4
      rw [same_rows hP hsort, ← hrows] at R4
      obtain ⟨wa, wc, rfl⟩ := R4.shape
      have hout := hout.ext X4
      have hrow : ∀ (k : Nat) (w : Value) (r : List Nat), ws[k]? = some w → rows[k]? = some r → Rds g4 w (r.map J) := fun k w r a b => (hrow k w r a b).ext X4
      rw [← hlen]
      refine ok_go 10 ?_
      refine sy_no 0 (b := Int.ofNat ws.length != Int.ofNat ws.length) (by kernel_rfl) (bne_self_eq_false _) ?_
      refine ok_go 0 ?_
      refine sy_loop 0 100000 g4 (α := Nat) (fun x => [(5, .string (strL (codeS d))), (6, .slice oa j oc), (7, J kk), (8, .slice la ws.length lc), (12, .slice wa ws.length wc), (13, J x)]) (fun x g' => x ≤ ws.length ∧ g' = g4) (fun x _ => ws.length - x) 0 (by kernel_rfl) (by kernel_rfl)
        ⟨by kernel_rfl, by kernel_rfl, by kernel_rfl, by kernel_rfl, by kernel_rfl, by kernel_rfl, trivial⟩ (show ws.length - 0 < 100000 by omega) ⟨Nat.zero_le _, rfl⟩ ?_
      rintro m4 c F4 gc ⟨hc, rfl⟩ ihc
      have hwc : IntKind.wrap .i64 (Int.ofNat (c + 1)) = Int.ofNat (c + 1) := wrap_nat (by omega)
      refine ok_go 2 ?_
      refine sy_test 0 (decide (Int.ofNat c < Int.ofNat ws.length)) (by kernel_rfl) ?_ ?_
      · intro hcl2
        have hcl2 : c < ws.length := ok_nat hcl2
        obtain ⟨p1, hp1, hp2⟩ := hout.read (kd := .i64) (k := c) (v := ws[c]) (t := 24) (e := 22) (P := Tryz.prog) (by kernel_rfl) (by kernel_rfl) (by kernel_rfl) (List.getElem?_eq_getElem hcl2)
        obtain ⟨p2, rv2, hp3, hp4⟩ := R4.row (i := c) (by omega)
        rw [← hlen] at hp3
        obtain ⟨hp5, hp6⟩ := hp4 gc (Hp.Ext.refl gc)
        have hr1 := hrow c ws[c] rows[c] (List.getElem?_eq_getElem hcl2) (List.getElem?_eq_getElem (by omega))
        have hm : ∀ r : List Nat, r.map J = (r.map Int.ofNat).map I := fun r => by rw [List.map_map]; rfl
        have hrl8 := hrl rows[c] (List.getElem_mem _)
        rw [hm] at hr1 hp6
        have e8 := sa _ _ _ gc (by rw [List.length_map]; omega) hr1 hp6
        refine ok_go 0 ?_
        refine sy_load 0 (r := indexAddrOp Tryz.prog 24 (.slice la ws.length lc) (J c)) (h' := gc) (by kernel_rfl) hp1 ?_
        refine ok_go 0 ?_
        refine sy_load 0 (r := loadT Tryz.prog gc 22 p1) (h' := gc) (by kernel_rfl) hp2 ?_
        refine ok_go 0 ?_
        refine sy_load 0 (r := indexAddrOp Tryz.prog 24 (.slice wa ws.length wc) (J c)) (h' := gc) (by kernel_rfl) hp3 ?_
        refine ok_go 0 ?_
        refine sy_load 0 (r := loadT Tryz.prog gc 22 p2) (h' := gc) (by kernel_rfl) hp5 ?_
        refine ok_go 0 ?_
        refine sy_call 0 (by kernel_rfl) e8 ?_
        refine ok_go 3 ?_
        exact sy_next 0 _ gc (by kernel_rfl) (by kernel_rfl) (ihc (c + 1) _ gc ⟨hcl2, rfl⟩ (show ws.length - (c + 1) < ws.length - c by omega) ⟨by kernel_rfl, by kernel_rfl, by kernel_rfl, by kernel_rfl, by kernel_rfl, (by kernel_rfl : _ = Value.int .i64 (IntKind.wrap .i64 (Int.ofNat (c + 1)))).trans (by rw [hwc]), trivial⟩)
      intro hcl2
      clear ihc
      refine ok_go 0 ?_
      refine sy_loop 0 100000 gc (α := Nat × List Int) (fun x => [(5, .string (strL (codeS d))), (6, .slice oa j oc), (7, J kk), (14, J x.1)]) (fun x g' => x.1 ≤ j ∧ x.2.length = K ∧ Sto h g' (oent q1.next 3 (x.2.map I))) (fun x _ => j - x.1) (0, fs) (by kernel_rfl) (by kernel_rfl)
        ⟨by kernel_rfl, by kernel_rfl, by kernel_rfl, by kernel_rfl, trivial⟩ (show j - 0 < 100000 by omega) ⟨Nat.zero_le j, hfl, W⟩ ?_
      clear W hRO
      rintro m3 ⟨k, cur⟩ F3 gs ⟨hk, hcl, W⟩ ihs
      dsimp only at hk hcl W
      have hwk : IntKind.wrap .i64 (Int.ofNat (k + 1)) = Int.ofNat (k + 1) := wrap_nat (by omega)
      refine ok_go 2 ?_
      refine sy_test 0 (decide (Int.ofNat k < Int.ofNat j)) (by kernel_rfl) ?_ ?_
      · intro hkj
        have hkj : k < j := ok_nat hkj
        obtain ⟨hK0, hov⟩ : 0 < K ∧ Value.slice oa j oc = .slice (some ⟨q1.next, 0, none⟩) j (2 * K + 1) := by
          rcases hOV with ⟨h1, h2, h3⟩ | h1
          · omega
          · exact h1
        cases hov
        have hkc : k < cur.length := by omega
        have hoe : ∀ c : List Int, c.length = K → oent q1.next 3 (c.map I) = [(q1.next, .cells (c.map I) 3 true)] := fun c hc => by
          cases c with
          | nil => simp at hc; omega
          | cons a r => rfl
        rw [hoe cur hcl] at W
        have hci : (cur.map I)[k]? = some (I cur[k]) := by rw [List.getElem?_map, List.getElem?_eq_getElem hkc]; rfl
        refine ok_go 0 ?_
        refine sy_load 0 (r := indexAddrOp Tryz.prog 22 (.slice (some ⟨q1.next, 0, none⟩) j (2 * K + 1)) (J k)) (h' := gs) (v := ptr q1.next k) (by kernel_rfl) (idxS0 (e := 3) (by kernel_rfl) (by kernel_rfl) hkj) ?_
        refine ok_go 0 ?_
        refine ow_load (P := Tryz.prog) (T := 3) (off := k) 0 0 W rfl hci (by kernel_rfl) (by kernel_rfl) ?_
        refine ok_go 3 ?_
        refine sy_load 0 (r := indexAddrOp Tryz.prog 22 (.slice (some ⟨q1.next, 0, none⟩) j (2 * K + 1)) (J k)) (h' := gs) (v := ptr q1.next k) (by kernel_rfl) (idxS0 (e := 3) (by kernel_rfl) (by kernel_rfl) hkj) ?_
        refine ok_go 0 ?_
        refine ow_store (P := Tryz.prog) (T := 3) (off := k) (v := I (wrp cur[k])) 0 0 W rfl (by rw [List.length_map]; exact hkc) (by kernel_rfl) rfl (by kernel_rfl) fun gs2 ngs2 W2 => ?_
        have W2 : Sto h gs2 [(q1.next, .cells ((cur.map I).set k (I (wrp cur[k]))) 3 true)] := W2
        rw [← List.map_set, ← hoe (cur.set k (wrp cur[k])) (by rw [List.length_set]; exact hcl)] at W2
        refine ok_go 1 ?_
        exact sy_next 0 _ gs2 (by kernel_rfl) (by kernel_rfl) (ihs (k + 1, cur.set k (wrp cur[k])) _ gs2 ⟨hkj, by dsimp only; rw [List.length_set]; exact hcl, W2⟩ (show j - (k + 1) < j - k by omega) ⟨by kernel_rfl, by kernel_rfl, by kernel_rfl, (by kernel_rfl : _ = Value.int .i64 (IntKind.wrap .i64 (Int.ofNat (k + 1)))).trans (by rw [hwk]), trivial⟩)
      intro hkj
      clear ihs
      obtain ⟨M4, hM4, hM4j⟩ : ∃ M4 : Nat, (if (4 : Int) < Int.ofNat j then (4 : Int) else Int.ofNat j) = Int.ofNat M4 ∧ M4 ≤ j := by
        by_cases h20 : 4 < j
        · exact ⟨4, if_pos (by show (4 : Int) < (j : Int); omega), by omega⟩
        · exact ⟨j, if_neg (by show ¬ (4 : Int) < (j : Int); omega), Nat.le_refl _⟩
      refine ok_go 2 ?_
      refine sy_any 0 (p := fun y => OwnV q1.next K M4 y) (h' := gs) ?_ ?_
      · rcases hOV with ⟨h1, h2, h3⟩ | ⟨h1, h2⟩
        · cases h3
          obtain rfl : M4 = 0 := by omega
          exact ⟨.slice none 0 0, .inl ⟨h1, rfl, rfl⟩, by kernel_rfl⟩
        · cases h2
          refine ⟨_, .inr ⟨h1, rfl⟩, (by kernel_rfl : _ = (sliceOp Tryz.prog 22 (.slice (some ⟨q1.next, 0, none⟩) j (2 * K + 1)) none (some (.int .i64 (if (4 : Int) < Int.ofNat j then (4 : Int) else Int.ofNat j))) none).map (·, gs)).trans ?_⟩
          rw [hM4]
          rw [show sliceOp Tryz.prog 22 (.slice (some ⟨q1.next, 0, none⟩) j (2 * K + 1)) none (some (.int .i64 (Int.ofNat M4))) none = _ from gl_hi (e := 3) (by kernel_rfl) (by kernel_rfl) (q := q1.next) (n := K) (m := j) (j := M4) (by omega) h1]
          rfl
      intro y hOV2
      obtain ⟨ya, yc, rfl⟩ : ∃ a c, y = .slice a M4 c := by
        rcases hOV2 with ⟨h1, rfl, h3⟩ | ⟨h1, h2⟩
        · exact ⟨_, _, h3⟩
        · exact ⟨_, _, h2⟩
      refine ok_go 1 ?_
      exact sy_next 0 _ gs (by kernel_rfl) (by kernel_rfl) (ih (kk + 1, cur, M4, ya, yc) _ gs ⟨hk2, hcl, by dsimp only; omega, hOV2, W⟩ (show 2 - (kk + 1) < 2 - kk by omega) ⟨by kernel_rfl, by kernel_rfl, (by kernel_rfl : _ = Value.int .i64 (IntKind.wrap .i64 (Int.ofNat (kk + 1)))).trans (by rw [hw]), trivial⟩)
  · intro hk2
    refine ok_go 0 ?_
    refine sy_call 0 (by kernel_rfl) (aw g) ?_
    refine ok_go 0 ?_
    exact sy_done 0 (v := .bool true) (h := g) (by kernel_rfl) rfl
end Go.Proofs.YtegcmgjldapnmaaGreatDoor
namespace Go.Proofs.YtegcmgjldapnmaaGreatDoor
open Go Go.Eng Nim Oct
set_option maxRecDepth 100000
theorem moves_up (k : Nat) (d : List Nat) (G : Good d) (ns : List Nat) (x : Value) (h : Hp) (hn : ns.length ≤ 10) (h200 : ∀ n ∈ ns, n ≤ 200) (hx : Rds h x (ns.map J)) : ∃ v h', Ev 100000 (k + 25) 6 [.string (strL (codeS d)), x] h = some (v, h') ∧ MovR h (cands d ns ns.length) v h' :=
  mov_of 100000 k (by decide) (by decide) d G ns hn h200 x h hx
    (fun h => (upV (k + 20) d G).ck h |> fun ⟨v, h', a, b, c⟩ => ⟨v, h', a, b, c⟩)
    (fun n h hn => (upV (k + 20) d G).ls n h hn)
    (fun x g hx => by
      have hx' : Rds g x ((ns.map Int.ofNat).map I) := by rw [List.map_map]; exact hx
      have := has_bad 100000 (k + 21) (ns.map Int.ofNat) (by rw [List.length_map]; omega) (by decide) x g hx'
      rw [show (ns.map Int.ofNat).any badN = false from List.any_eq_false.2 fun z hz => by
        obtain ⟨n, hn, rfl⟩ := List.mem_map.1 hz
        have := h200 n hn
        unfold badN
        simp
        omega] at this
      exact this)
    (fun h => digits_of d G.lt G.most 100000 (k + 23) (by decide) h)
    (fun xa j xc n h => moves_of xa j xc n 100000 (k + 23) h)
    (fun x y g hx hy => without_of 100000 (k + 23) (by decide) d ns (by omega) h200 x y g hx hy)
theorem said3 (l : List Nat) (hl : ∀ n ∈ l, n < 256) (zs : List Int) (hzs : zs.length < 2 ^ 63) (xa : Option Addr) (xc : Nat) (h : Hp) (hx : Rds h (.slice xa zs.length xc) (zs.map I)) (hwf : WfS (.slice xa zs.length xc)) : ∃ H, evInv Tryz.prog orc 100000 1000 (.fn 3 [.string (strL l), .slice xa zs.length xc]) h = some (.bool true, H) :=
  lawA l hl zs hzs xa xc 999 h hx hwf (fun l h hl => code_of l hl 100000 998 (by decide) h)
    (fun d zs x h G hz hb hx => mov_bad 100000 995 (by decide) (by decide) d zs hz hb x h hx fun h => (upV 994 d G).ck h |> fun ⟨v, h', a, b, c⟩ => ⟨v, h', a, b, c⟩)
    (fun d ns x h G h1 h2 h3 => moves_up 974 d G ns x h h1 h2 h3)
    (fun d ns x h G h1 h2 h3 => rmov_of 100000 995 (by decide) d G ns h1 h2 x h h3
      (fun n h hn => rvalues_of d G.lt G.most n hn 100000 997 (by decide) h fun k h hk => after_of d G.lt G.most k hk 100000 996 (by decide) h)
      (fun n h hn => after_of d G.lt G.most n hn 100000 997 (by decide) h)
      (fun l n x h hl hx => put_of 100000 997 (by decide) l hl n x h hx)
      (fun a b x y g ha hb hx hy => before_of 100000 997 (by decide) a b ha hb x y g hx hy))
    (fun zs x y h hz hx hy => same_of zs 100000 998 hz (by decide) x y h hx hy)
    (fun _ => rfl)
end Go.Proofs.YtegcmgjldapnmaaGreatDoor
