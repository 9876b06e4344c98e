/- GrfQB: contracts and laws of GraphH, GraphI, GraphJ, AppA, GraphG, GraphL, GraphM, GraphN, GraphQ. -/
import Derived.Test.YtegcmgjldapnmaaDoorProg
import Derived.KernelRfl
import Derived.Test.YtegcmgjldapnmaaDoorSyF
import Derived.Test.YtegcmgjldapnmaaDoorGrfQA
namespace Go.Proofs.YtegcmgjldapnmaaDoor
open Go Go.Eng Nim
set_option maxRecDepth 100000
set_option maxHeartbeats 4000000
/-- A row of a graph of n vertices. -/
def Row (n : Nat) (r : List Nat) (b : Nat) : Prop := r.Pairwise (· < ·) ∧ ∀ x ∈ r, x < n ∧ x < b
/-- While the rows of a graph are made. -/
structure InG (h : Hp) (n ob ib : Nat) (vs : Nat → Value) (R : Nat → List Nat) (g : Hp) : Prop where
  ext : h.Ext g
  hb : h.next ≤ ob
  oi : ob ≤ ib
  lt : ib < g.next
  get : g.get ob = some (.cells (cellsF n vs) 32 false)
  rows : ∀ u, u < n → OpenSl g 3 (vs u) ((R u).map J)
  nat : ∀ u, u < n → ∀ j, (j ≤ ob ∨ j = ib) → ∀ m c, vs u ≠ .slice (some ⟨j, 0, none⟩) m c
  sep : ∀ u w, u < n → w < n → u ≠ w → Sep (vs u) (vs w)
theorem u69 : Tryd.prog.underlying 69 = some (.slice 4) := by kernel_rfl
theorem Gr.rowEI {h : Hp} {v : Value} {g : List (List Int)} (hg : Gr h v g) {i : Nat} (hi : i < g.length) : ∃ p rv, indexAddrOp Tryd.prog 31 v (J i) = some p ∧ (∀ k, h.Ext k → loadT Tryd.prog k 32 p = some rv) ∧ Rds h rv (g[i].map I) := by
  obtain ⟨vs, h1, h2, h3⟩ := hg
  obtain ⟨rv, h4, h5⟩ := h3 i g[i] (List.getElem?_eq_getElem hi)
  obtain ⟨p, h6, h7⟩ := h1.read (kd := .i64) u31 z32 agg32 h4
  refine ⟨p, rv, h6, fun k kx => ?_, h5⟩
  obtain ⟨p', h8, h9⟩ := (h1.ext kx).read (kd := .i64) u31 z32 agg32 h4
  rw [h6] at h8
  cases h8
  exact h9
/-- A block more. -/
theorem InG.newI {h : Hp} {n ob ib : Nat} {vs : Nat → Value} {R : Nat → List Nat} {g : Hp} (H : InG h n ob ib vs R g) (o : AObj) : InG h n ob g.next vs R (g.new o) := by
  have h1 := H.lt
  have h2 := H.oi
  refine ⟨H.ext.trans (Hp.Ext.new _ _), H.hb, by omega, Nat.lt_succ_self _, (Hp.Ext.new g o).at_ (by omega) H.get, fun u hu => (H.rows u hu).ext (Hp.Ext.new g o).next (fun j hj _ => (Hp.Ext.new g o).get j hj), fun u hu j hj m c hc => ?_, H.sep⟩
  rcases hj with hj | hj
  · exact H.nat u hu j (.inl hj) m c hc
  · have := OpenSl.blk (H.rows u hu) hc
    omega
theorem agg4 : isAggT Tryd.prog 4 = some false := by kernel_rfl
theorem z4 : sizeT Tryd.prog 4 = some 1 := by kernel_rfl
theorem idx69 {b N c v : Nat} (hv : v < N) : indexAddrOp Tryd.prog 69 (.slice (some ⟨b, 0, none⟩) N c) (J v) = some (ptr b v) := by
  rw [idxSl u69 z4 hv, Nat.zero_add, Nat.mul_one]
theorem idx31 {b N c v : Nat} (hv : v < N) : indexAddrOp Tryd.prog 31 (.slice (some ⟨b, 0, none⟩) N c) (J v) = some (ptr b v) := by
  rw [idxSl u31 z32 hv, Nat.zero_add, Nat.mul_one]
def updR (R : Nat → List Nat) (i : Nat) (r : List Nat) : Nat → List Nat := fun u => if u = i then r else R u
theorem updR_eq {R : Nat → List Nat} {i : Nat} {r : List Nat} : updR R i r i = r := if_pos rfl
theorem updR_ne {R : Nat → List Nat} {i u : Nat} {r : List Nat} (h : u ≠ i) : updR R i r u = R u := if_neg h
theorem InG.putI {h : Hp} {n ob ib : Nat} {vs : Nat → Value} {R : Nat → List Nat} {g : Hp} (H : InG h n ob ib vs R g) (hne : ob ≠ ib) (o : AObj) : InG h n ob ib vs R (g.put ib o) := by
  have h1 := H.hb
  have h2 := H.oi
  refine ⟨H.ext.put (by omega) o, H.hb, H.oi, H.lt, (Hp.get_put_ne hne).trans H.get, fun u hu => (H.rows u hu).ext (Nat.le_refl _) (fun j hj ⟨m, c, hc⟩ => Hp.get_put_ne (fun hji => H.nat u hu j (.inr hji) m c hc)), H.nat, H.sep⟩
theorem InG.app {h : Hp} {n ob ib : Nat} {vs : Nat → Value} {R : Nat → List Nat} {g : Hp} (H : InG h n ob ib vs R g) {i : Nat} (hi : i < n) (z : Nat) (hne : ob ≠ ib) (hl : (R i).length < 1000) :
    ∃ l' g' g'', appendOp Tryd.prog (g.new (.cells [J z] 3 false)) 32 (vs i) (.slice (some ⟨g.next, 0, none⟩) 1 2) = some (l', g') ∧ storeT Tryd.prog g' 32 (ptr ob i) l' = some g'' ∧ InG h n ob ib (updF vs i l') (updR R i (R i ++ [z])) g'' ∧ g''.get ib = g.get ib := by
  obtain ⟨l', g', e1, e2, e3, e4, e5⟩ := append1 slT (H.rows i hi) (v := J z) rfl (by rw [List.length_map]; omega)
  have h1 := H.hb
  have h2 := H.oi
  have h3 := H.lt
  have ho : g'.get ob = some (.cells (cellsF n vs) 32 false) := (e4 ob (by omega) (H.nat i hi ob (.inl (Nat.le_refl _)))).trans H.get
  have hi2 : g'.get ib = g.get ib := e4 ib (by omega) (H.nat i hi ib (.inr rfl))
  have hsc : scalar l' = true := by
    rcases e2 with ⟨rfl, _⟩ | ⟨_, rfl, _⟩ <;> rfl
  refine ⟨l', g', g'.put ob (.cells ((cellsF n vs).set i l') 32 false), e1, store1 z32 hsc ho (by rw [cellsF_len]; exact hi), ?_, (Hp.get_put_ne (Ne.symm hne)).trans hi2⟩
  have keep : ∀ u, u < n → u ≠ i → OpenSl g' 3 (vs u) ((R u).map J) := fun u hu hui => (H.rows u hu).ext e3 (fun j hj ⟨m, c, hc⟩ => e4 j hj (fun m' c' hc' => H.sep i u hi hu (Ne.symm hui) j m' c' m c hc' hc))
  have nat' : ∀ u, u < n → ∀ j, (j ≤ ob ∨ j = ib) → ∀ m c, updF vs i l' u ≠ .slice (some ⟨j, 0, none⟩) m c := by
    intro u hu j hj m c
    unfold updF
    split
    · exact e5 j (by omega) m c
    · exact H.nat u hu j hj m c
  refine ⟨Hp.Ext.put ⟨by have := H.ext.next; omega, fun j hj => (e4 j (by have := H.ext.next; omega) (H.nat i hi j (.inl (by omega)))).trans (H.ext.get j hj)⟩ (by omega) _, H.hb, H.oi, by show ib < g'.next; omega, by rw [cellsF_set]; exact get_put _ _ _, fun u hu => ?_, nat', fun u w hu hw huw => ?_⟩
  · have : OpenSl g' 3 (updF vs i l' u) ((updR R i (R i ++ [z]) u).map J) := by
      unfold updF updR
      split
      · rw [List.map_append]; exact e2
      · rename_i hui; exact keep u hu hui
    exact this.ext (Nat.le_refl _) (fun j hj ⟨m, c, hc⟩ => Hp.get_put_ne (fun hji => nat' u hu j (.inl (by omega)) m c hc))
  · unfold updF
    intro j m c m' c' h4 h5
    split at h4
    · split at h5
      · omega
      · exact e5 j (by have := OpenSl.blk (H.rows w hw) h5; omega) m c h4
    · split at h5
      · exact e5 j (by have := OpenSl.blk (H.rows u hu) h4; omega) m' c' h5
      · exact H.sep u w hu hw huw j m c m' c' h4 h5
theorem s26 (l : List (List Int)) (most lf n : Nat) (hm1 : 1 ≤ most) (hm : most ≤ 200) (hlf : 300 ≤ lf) (hll : l.length < 2 ^ 63) (hrow : ∀ r ∈ l, r.length < 2 ^ 63) (v : Value) (h : Hp) (hg : Gr h v l) :
    ∃ x H, Ev lf (n+1) 26 [v, J most] h = some (x, H) ∧ h.Ext H ∧ ∃ G : List (List Nat), Gr H x (gI G) ∧ 1 ≤ G.length ∧ G.length ≤ most ∧ ∀ i, (grow G i).Pairwise (· < ·) ∧ ∀ t ∈ grow G i, t < G.length := by
  obtain ⟨a, c, hsh⟩ := hg.shape
  subst hsh
  refine fnS_ok (Q := fun x H => h.Ext H ∧ ∃ G : List (List Nat), Gr H x (gI G) ∧ 1 ≤ G.length ∧ G.length ≤ most ∧ ∀ i, (grow G i).Pairwise (· < ·) ∧ ∀ t ∈ grow G i, t < G.length) ?_
  obtain ⟨N, hN1, hN2, hNl, hN⟩ : ∃ N : Nat, 1 ≤ N ∧ N ≤ most ∧ (N ≤ l.length ∨ N = 1) ∧ (if (if Int.ofNat most < Int.ofNat l.length then Int.ofNat most else Int.ofNat l.length) > 1 then (if Int.ofNat most < Int.ofNat l.length then Int.ofNat most else Int.ofNat l.length) else 1) = Int.ofNat N := by
    refine ⟨max 1 (min most l.length), by omega, by omega, by omega, ?_⟩
    simp only [Int.ofNat_eq_natCast]
    (repeat' split) <;> omega
  refine sy_call 2 (r := some (.int .i64 (if (if Int.ofNat most < Int.ofNat l.length then Int.ofNat most else Int.ofNat l.length) > 1 then (if Int.ofNat most < Int.ofNat l.length then Int.ofNat most else Int.ofNat l.length) else 1), h)) (v := J N) (h' := h) (by kernel_rfl) (by rw [hN]) ?_
  refine ok_go 0 ?_
  refine sy_call 0 (r := makeSliceOp Tryd.prog h 31 (J N) (J N)) (v := .slice (some ⟨h.next, 0, none⟩) N (2 * N)) (h' := h.new (.cells (zeros [.slice none 0 0] N) 32 false)) (by kernel_rfl) (makeSl (z := .slice none 0 0) (inf := (Tryd.prog.info? 32).get!) u31 (by kernel_rfl) (by kernel_rfl) (by kernel_rfl) (by kernel_rfl) (by kernel_rfl) (by omega)) ?_
  have H0 : InG h N h.next h.next (fun _ => .slice none 0 0) (fun _ => []) (h.new (.cells (zeros [.slice none 0 0] N) 32 false)) := by
    refine ⟨Hp.Ext.new _ _, Nat.le_refl _, Nat.le_refl _, Nat.lt_succ_self _, by rw [zeros_one]; exact get_new _ _, fun u _ => .inl ⟨rfl, rfl⟩, fun u _ j _ m c hc => (by cases hc), fun u w _ _ _ j m c m' c' hc => (by cases hc)⟩
  generalize hh0 : h.new (.cells (zeros [.slice none 0 0] N) 32 false) = h0 at H0
  clear hh0
  refine ok_go 0 ?_
  refine sy_loop 0 lf h0 (α := Nat) (fun s => [(0, .slice a l.length c), (5, J N), (6, .slice (some ⟨h.next, 0, none⟩) N (2 * N)), (7, J s)]) (fun s g => s ≤ N ∧ ∃ ib vs R, InG h N h.next ib vs R g ∧ (∀ u, u < N → s ≤ u → R u = []) ∧ ∀ u, u < N → (R u).Pairwise (· < ·) ∧ ∀ t ∈ R u, t < N) (fun s _ => N - s) 0 (by kernel_rfl) (by kernel_rfl) ⟨by kernel_rfl, by kernel_rfl, by kernel_rfl, by kernel_rfl, trivial⟩ (show N - 0 < lf by omega) ⟨Nat.zero_le _, _, _, _, H0, fun _ _ _ => rfl, fun _ _ => ⟨List.Pairwise.nil, fun t ht => (by cases ht)⟩⟩ ?_
  rintro m1 i f1 g1 ⟨hi, ib, vs, R, H1, hR0, hR⟩ ih1
  have fin : ∃ G : List (List Nat), Gr g1 (.slice (some ⟨h.next, 0, none⟩) N (2 * N)) (gI G) ∧ 1 ≤ G.length ∧ G.length ≤ most ∧ ∀ i, (grow G i).Pairwise (· < ·) ∧ ∀ t ∈ grow G i, t < G.length := by
    refine ⟨(List.range N).map R, ⟨cellsF N vs, ?_, by simp [cellsF, gI], fun u r hr => ?_⟩, by simpa using hN1, by simpa using hN2, fun u => ?_⟩
    · refine .inr ⟨h.next, 0, _, by rw [cellsF_len], fun _ => ⟨by have := H1.lt; have := H1.oi; omega, ?_⟩⟩
      unfold loadN
      rw [H1.get]
      exact takeN_all _
    · have hu : u < N := by
        have := (List.getElem?_eq_some_iff.1 hr).1
        simpa [gI] using this
      have hr' : r = (R u).map Int.ofNat := by
        simp only [gI, List.map_map, List.getElem?_map, List.getElem?_range hu, Option.map_some, Option.some.injEq] at hr
        exact hr.symm
      refine ⟨vs u, cellsF_get hu, ?_⟩
      rw [hr', List.map_map]
      exact (H1.rows u hu).rd
    · have hg : grow ((List.range N).map R) u = if u < N then R u else [] := by
        unfold grow
        by_cases hu : u < N
        · simp [List.getD_eq_getElem?_getD, hu]
        · simp [List.getD_eq_getElem?_getD, hu]
      rw [hg]
      by_cases hu : u < N
      · rw [if_pos hu]; simpa using hR u hu
      · rw [if_neg hu]; exact ⟨List.Pairwise.nil, fun t ht => by cases ht⟩
  refine ok_go 1 ?_
  refine sy_test 0 (decide (Int.ofNat i < Int.ofNat N)) (by kernel_rfl) ?_ ?_
  · intro hlt
    have hlt := ok_nat hlt
    refine ok_go 6 ?_
    refine sy_test 0 (decide (Int.ofNat i < Int.ofNat l.length)) (by kernel_rfl) ?_ ?_
    · intro hlt2
      have hlt2 := ok_nat hlt2
      obtain ⟨p, rv, e1, e2, hr⟩ := hg.rowEI hlt2
      obtain ⟨ra, rc, hrs⟩ := hr.shape
      rw [List.length_map] at hrs
      subst hrs
      have hlr := hrow l[i] (List.getElem_mem hlt2)
      have hlt1 := H1.lt
      have hoi := H1.oi
      refine ok_go 0 ?_
      refine sy_call 0 (r := makeSliceOp Tryd.prog g1 69 (J N) (J N)) (v := .slice (some ⟨g1.next, 0, none⟩) N (2 * N)) (h' := g1.new (.cells (zeros [.bool false] N) 4 false)) (by kernel_rfl) (makeSl (z := .bool false) (inf := (Tryd.prog.info? 4).get!) u69 (by kernel_rfl) (by kernel_rfl) (by kernel_rfl) (by kernel_rfl) (by kernel_rfl) (by omega)) ?_
      have H2 : InG h N h.next g1.next vs R (g1.new (.cells (zeros [.bool false] N) 4 false)) := H1.newI _
      have B2 : (g1.new (.cells (zeros [.bool false] N) 4 false)).get g1.next = some (.cells (cellsF N fun u => .bool ((fun _ => false) u)) 4 false) := by rw [zeros_one]; exact get_new _ _
      generalize hh2 : g1.new (.cells (zeros [.bool false] N) 4 false) = g2 at H2 B2
      clear hh2
      generalize hbk : g1.next = bk at H2 B2 ⊢
      have hbo : h.next ≠ bk := by have := H1.hb; omega
      refine ok_go 0 ?_
      refine sy_loop 0 lf g2 (α := Nat) (fun s => [(0, .slice a l.length c), (5, J N), (6, .slice (some ⟨h.next, 0, none⟩) N (2 * N)), (7, J i), (8, .slice (some ⟨bk, 0, none⟩) N (2 * N)), (9, J s)]) (fun s g => s ≤ 8 ∧ InG h N h.next bk vs R g ∧ ∃ fb : Nat → Bool, g.get bk = some (.cells (cellsF N fun u => .bool (fb u)) 4 false)) (fun s _ => 8 - s) 0 (by kernel_rfl) (by kernel_rfl) ⟨by kernel_rfl, by kernel_rfl, by kernel_rfl, by kernel_rfl, by kernel_rfl, by kernel_rfl, trivial⟩ (show 8 - 0 < lf by omega) ⟨Nat.zero_le _, H2, _, B2⟩ ?_
      rintro m2 k f2 g3 ⟨hk8, H3, fb, B3⟩ ih2
      refine ok_go 0 ?_
      refine sy_load 0 (r := indexAddrOp Tryd.prog 31 (.slice a l.length c) (J i)) (h' := g3) (by kernel_rfl) e1 ?_
      refine ok_go 0 ?_
      refine sy_load 0 (r := loadT Tryd.prog g3 32 p) (h' := g3) (by kernel_rfl) (e2 _ H3.ext) ?_
      refine ok_go 2 ?_
      refine sy_test 0 (decide (Int.ofNat k < Int.ofNat l[i].length)) (by kernel_rfl) ?_ ?_
      · intro hkl
        have hkl := ok_nat hkl
        refine ok_go 3 ?_
        refine sy_test 0 (decide (Int.ofNat k < 8)) (by kernel_rfl) ?_ ?_
        · intro hk
          have hk : k < 8 := by have := of_decide_eq_true hk; simp at this; omega
          obtain ⟨q, e3, e4⟩ := row_get (hr.ext H3.ext) hkl
          refine ok_go 0 ?_
          refine sy_load 0 (r := indexAddrOp Tryd.prog 31 (.slice a l.length c) (J i)) (h' := g3) (by kernel_rfl) e1 ?_
          refine ok_go 0 ?_
          refine sy_load 0 (r := loadT Tryd.prog g3 32 p) (h' := g3) (by kernel_rfl) (e2 _ H3.ext) ?_
          refine ok_go 0 ?_
          refine sy_load 0 (r := indexAddrOp Tryd.prog 32 (.slice ra l[i].length rc) (J k)) (h' := g3) (by kernel_rfl) e3 ?_
          refine ok_go 0 ?_
          refine sy_load 0 (r := loadT Tryd.prog g3 3 q) (h' := g3) (by kernel_rfl) e4 ?_
          obtain ⟨M, hM⟩ : ∃ M, N = M + 1 := ⟨N - 1, by omega⟩
          have hw0 : 0 ≤ IntKind.wrap .u64 l[i][k] := by
            show 0 ≤ l[i][k] % 2 ^ 64
            exact Int.emod_nonneg _ (by decide)
          have hwN : IntKind.wrap .u64 (Int.ofNat N) = Int.ofNat (M + 1) := by
            rw [← hM]
            show Int.ofNat N % 2 ^ 64 = Int.ofNat N
            exact Int.emod_eq_of_lt (by simp) (by simp; omega)
          refine sy_call 1 (r := some (.int .u64 (IntKind.wrap .u64 (Int.ofNat N)), g3)) (v := .int .u64 (Int.ofNat (M + 1))) (h' := g3) (by kernel_rfl) (by rw [hwN]) ?_
          obtain ⟨y, hy, ey⟩ : ∃ y, y < N ∧ (IntKind.wrap .u64 l[i][k]).tmod (Int.ofNat (M + 1)) = Int.ofNat y := by
            obtain ⟨u, hu⟩ := Int.eq_ofNat_of_zero_le hw0
            refine ⟨u % (M + 1), by rw [hM]; exact Nat.mod_lt _ (Nat.succ_pos M), ?_⟩
            rw [hu]
            rfl
          refine ok_go 1 ?_
          refine sy_load 0 (r := indexAddrOp Tryd.prog 69 (.slice (some ⟨bk, 0, none⟩) N (2 * N)) (.int .u64 ((IntKind.wrap .u64 l[i][k]).tmod (Int.ofNat (M + 1))))) (h' := g3) (by kernel_rfl) (by rw [ey]; exact (idxSl u69 z4 hy).trans (by rw [Nat.zero_add, Nat.mul_one])) ?_
          refine ok_go 0 ?_
          refine sy_store 0 (r := storeT Tryd.prog g3 4 (ptr bk y) (.bool true)) (by kernel_rfl) (store1 z4 rfl B3 (by rw [cellsF_len]; exact hy)) ?_
          refine ok_go 1 ?_
          refine sy_next 0 _ (g3.put bk (.cells ((cellsF N fun u => .bool (fb u)).set y (.bool true)) 4 false)) (by kernel_rfl) (by kernel_rfl) (ih2 (k + 1) _ _ ⟨hk, H3.putI hbo _, fun u => if u = y then true else fb u, ?_⟩ (show 8 - (k + 1) < 8 - k by omega) ⟨by kernel_rfl, by kernel_rfl, by kernel_rfl, by kernel_rfl, by kernel_rfl, (by kernel_rfl : _ = Value.int .i64 (IntKind.wrap .i64 (Int.ofNat (k + 1)))).trans (by rw [wrap_nat (by omega)]), trivial⟩)
          rw [get_put, cellsF_set]
          refine congrArg (fun x => some (AObj.cells x 4 false)) (cellsF_congr fun u _ => ?_)
          show (if u = y then Value.bool true else Value.bool (fb u)) = Value.bool (if u = y then true else fb u)
          by_cases huy : u = y
          · rw [if_pos huy, if_pos huy]
          · rw [if_neg huy, if_neg huy]
        · intro _
          refine ok_go 0 ?_
          refine sy_loop 0 lf g3 (α := Nat) (fun s => [(0, .slice a l.length c), (5, J N), (6, .slice (some ⟨h.next, 0, none⟩) N (2 * N)), (7, J i), (8, .slice (some ⟨bk, 0, none⟩) N (2 * N)), (10, J s)]) (fun s g => s ≤ N ∧ ∃ vs R, InG h N h.next bk vs R g ∧ g.get bk = some (.cells (cellsF N fun u => .bool (fb u)) 4 false) ∧ (∀ u, u < N → i + 1 ≤ u → R u = []) ∧ (∀ u, u < N → (R u).Pairwise (· < ·) ∧ ∀ t ∈ R u, t < N) ∧ (∀ t ∈ R i, t < s) ∧ (R i).length ≤ s) (fun s _ => N - s) 0 (by kernel_rfl) (by kernel_rfl) ⟨by kernel_rfl, by kernel_rfl, by kernel_rfl, by kernel_rfl, by kernel_rfl, by kernel_rfl, trivial⟩ (show N - 0 < lf by omega) ⟨Nat.zero_le _, vs, R, H3, B3, fun u hu hiu => hR0 u hu (by omega), hR, by rw [hR0 i hlt (Nat.le_refl _)]; exact fun t ht => (by cases ht), by rw [hR0 i hlt (Nat.le_refl _)]; exact Nat.le_refl _⟩ ?_
          rintro m3 w f3 g5 ⟨hw, vs5, R5, H5, B5, q1, q2, q3, q4⟩ ih3
          refine ok_go 1 ?_
          refine sy_test 0 (decide (Int.ofNat w < Int.ofNat N)) (by kernel_rfl) ?_ ?_
          · intro hwl
            have hwl := ok_nat hwl
            refine ok_go 0 ?_
            refine sy_load 0 (r := indexAddrOp Tryd.prog 69 (.slice (some ⟨bk, 0, none⟩) N (2 * N)) (J w)) (h' := g5) (by kernel_rfl) (idx69 hwl) ?_
            refine ok_go 0 ?_
            refine sy_load 0 (r := loadT Tryd.prog g5 4 (ptr bk w)) (h' := g5) (by kernel_rfl) (load1 agg4 B5 (cellsF_get hwl)) ?_
            refine ok_go 0 ?_
            refine sy_test 0 (fb w) (by kernel_rfl) ?_ ?_
            · intro _
              obtain ⟨l', g6, g7, e6, e7, H7, B7⟩ := H5.app hlt w hbo (by omega)
              refine ok_go 0 ?_
              refine sy_load 0 (r := indexAddrOp Tryd.prog 31 (.slice (some ⟨h.next, 0, none⟩) N (2 * N)) (J i)) (h' := g5) (by kernel_rfl) (idx31 hlt) ?_
              refine ok_go 0 ?_
              refine sy_load 0 (r := loadT Tryd.prog g5 32 (ptr h.next i)) (h' := g5) (by kernel_rfl) (load1 agg32 H5.get (cellsF_get hlt)) ?_
              refine ok_go 1 ?_
              refine sy_call 0 (r := appendOp Tryd.prog (g5.new (.cells [J w] 3 false)) 32 (vs5 i) (.slice (some ⟨g5.next, 0, none⟩) 1 2)) (v := l') (h' := g6) (by kernel_rfl) e6 ?_
              refine ok_go 0 ?_
              refine sy_load 0 (r := indexAddrOp Tryd.prog 31 (.slice (some ⟨h.next, 0, none⟩) N (2 * N)) (J i)) (h' := g6) (by kernel_rfl) (idx31 hlt) ?_
              refine ok_go 0 ?_
              refine sy_store 0 (r := storeT Tryd.prog g6 32 (ptr h.next i) l') (by kernel_rfl) e7 ?_
              refine ok_go 1 ?_
              refine sy_next 0 _ g7 (by kernel_rfl) (by kernel_rfl) (ih3 (w + 1) _ g7 ⟨hwl, _, _, H7, B7.trans B5, fun u hu hiu => ?_, fun u hu => ?_, fun t ht => ?_, ?_⟩ (show N - (w + 1) < N - w by omega) ⟨by kernel_rfl, by kernel_rfl, by kernel_rfl, by kernel_rfl, by kernel_rfl, (by kernel_rfl : _ = Value.int .i64 (IntKind.wrap .i64 (Int.ofNat (w + 1)))).trans (by rw [wrap_nat (by omega)]), trivial⟩)
              · rw [updR_ne (by omega)]; exact q1 u hu hiu
              · by_cases hui : u = i
                · subst hui
                  rw [updR_eq]
                  refine ⟨List.pairwise_append.2 ⟨(q2 u hu).1, List.pairwise_singleton _ _, fun t ht z hz => ?_⟩, fun t ht => ?_⟩
                  · rw [List.mem_singleton.1 hz]; exact q3 t ht
                  · rcases List.mem_append.1 ht with ht | ht
                    · exact (q2 u hu).2 t ht
                    · rw [List.mem_singleton.1 ht]; exact hwl
                · rw [updR_ne hui]; exact q2 u hu
              · rw [updR_eq] at ht
                rcases List.mem_append.1 ht with ht | ht
                · have := q3 t ht; omega
                · rw [List.mem_singleton.1 ht]; exact Nat.lt_succ_self _
              · rw [updR_eq, List.length_append]; simp; exact q4
            · intro _
              refine ok_go 1 ?_
              exact sy_next 0 _ g5 (by kernel_rfl) (by kernel_rfl) (ih3 (w + 1) _ g5 ⟨hwl, _, _, H5, B5, q1, q2, fun t ht => by have := q3 t ht; omega, by omega⟩ (show N - (w + 1) < N - w by omega) ⟨by kernel_rfl, by kernel_rfl, by kernel_rfl, by kernel_rfl, by kernel_rfl, (by kernel_rfl : _ = Value.int .i64 (IntKind.wrap .i64 (Int.ofNat (w + 1)))).trans (by rw [wrap_nat (by omega)]), trivial⟩)
          · intro hwl
            refine ok_go 1 ?_
            exact sy_next 0 _ g5 (by kernel_rfl) (by kernel_rfl) (ih1 (i + 1) _ g5 ⟨hlt, _, _, _, H5, q1, q2⟩ (show N - (i + 1) < N - i by omega) ⟨by kernel_rfl, by kernel_rfl, by kernel_rfl, (by kernel_rfl : _ = Value.int .i64 (IntKind.wrap .i64 (Int.ofNat (i + 1)))).trans (by rw [wrap_nat (by omega)]), trivial⟩)
      · intro _
        refine ok_go 3 ?_
        refine sy_loop 0 lf g3 (α := Nat) (fun s => [(0, .slice a l.length c), (5, J N), (6, .slice (some ⟨h.next, 0, none⟩) N (2 * N)), (7, J i), (8, .slice (some ⟨bk, 0, none⟩) N (2 * N)), (10, J s)]) (fun s g => s ≤ N ∧ ∃ vs R, InG h N h.next bk vs R g ∧ g.get bk = some (.cells (cellsF N fun u => .bool (fb u)) 4 false) ∧ (∀ u, u < N → i + 1 ≤ u → R u = []) ∧ (∀ u, u < N → (R u).Pairwise (· < ·) ∧ ∀ t ∈ R u, t < N) ∧ (∀ t ∈ R i, t < s) ∧ (R i).length ≤ s) (fun s _ => N - s) 0 (by kernel_rfl) (by kernel_rfl) ⟨by kernel_rfl, by kernel_rfl, by kernel_rfl, by kernel_rfl, by kernel_rfl, by kernel_rfl, trivial⟩ (show N - 0 < lf by omega) ⟨Nat.zero_le _, vs, R, H3, B3, fun u hu hiu => hR0 u hu (by omega), hR, by rw [hR0 i hlt (Nat.le_refl _)]; exact fun t ht => (by cases ht), by rw [hR0 i hlt (Nat.le_refl _)]; exact Nat.le_refl _⟩ ?_
        rintro m3 w f3 g5 ⟨hw, vs5, R5, H5, B5, q1, q2, q3, q4⟩ ih3
        refine ok_go 1 ?_
        refine sy_test 0 (decide (Int.ofNat w < Int.ofNat N)) (by kernel_rfl) ?_ ?_
        · intro hwl
          have hwl := ok_nat hwl
          refine ok_go 0 ?_
          refine sy_load 0 (r := indexAddrOp Tryd.prog 69 (.slice (some ⟨bk, 0, none⟩) N (2 * N)) (J w)) (h' := g5) (by kernel_rfl) (idx69 hwl) ?_
          refine ok_go 0 ?_
          refine sy_load 0 (r := loadT Tryd.prog g5 4 (ptr bk w)) (h' := g5) (by kernel_rfl) (load1 agg4 B5 (cellsF_get hwl)) ?_
          refine ok_go 0 ?_
          refine sy_test 0 (fb w) (by kernel_rfl) ?_ ?_
          · intro _
            obtain ⟨l', g6, g7, e6, e7, H7, B7⟩ := H5.app hlt w hbo (by omega)
            refine ok_go 0 ?_
            refine sy_load 0 (r := indexAddrOp Tryd.prog 31 (.slice (some ⟨h.next, 0, none⟩) N (2 * N)) (J i)) (h' := g5) (by kernel_rfl) (idx31 hlt) ?_
            refine ok_go 0 ?_
            refine sy_load 0 (r := loadT Tryd.prog g5 32 (ptr h.next i)) (h' := g5) (by kernel_rfl) (load1 agg32 H5.get (cellsF_get hlt)) ?_
            refine ok_go 1 ?_
            refine sy_call 0 (r := appendOp Tryd.prog (g5.new (.cells [J w] 3 false)) 32 (vs5 i) (.slice (some ⟨g5.next, 0, none⟩) 1 2)) (v := l') (h' := g6) (by kernel_rfl) e6 ?_
            refine ok_go 0 ?_
            refine sy_load 0 (r := indexAddrOp Tryd.prog 31 (.slice (some ⟨h.next, 0, none⟩) N (2 * N)) (J i)) (h' := g6) (by kernel_rfl) (idx31 hlt) ?_
            refine ok_go 0 ?_
            refine sy_store 0 (r := storeT Tryd.prog g6 32 (ptr h.next i) l') (by kernel_rfl) e7 ?_
            refine ok_go 1 ?_
            refine sy_next 0 _ g7 (by kernel_rfl) (by kernel_rfl) (ih3 (w + 1) _ g7 ⟨hwl, _, _, H7, B7.trans B5, fun u hu hiu => ?_, fun u hu => ?_, fun t ht => ?_, ?_⟩ (show N - (w + 1) < N - w by omega) ⟨by kernel_rfl, by kernel_rfl, by kernel_rfl, by kernel_rfl, by kernel_rfl, (by kernel_rfl : _ = Value.int .i64 (IntKind.wrap .i64 (Int.ofNat (w + 1)))).trans (by rw [wrap_nat (by omega)]), trivial⟩)
            · rw [updR_ne (by omega)]; exact q1 u hu hiu
            · by_cases hui : u = i
              · subst hui
                rw [updR_eq]
                refine ⟨List.pairwise_append.2 ⟨(q2 u hu).1, List.pairwise_singleton _ _, fun t ht z hz => ?_⟩, fun t ht => ?_⟩
                · rw [List.mem_singleton.1 hz]; exact q3 t ht
                · rcases List.mem_append.1 ht with ht | ht
                  · exact (q2 u hu).2 t ht
                  · rw [List.mem_singleton.1 ht]; exact hwl
              · rw [updR_ne hui]; exact q2 u hu
            · rw [updR_eq] at ht
              rcases List.mem_append.1 ht with ht | ht
              · have := q3 t ht; omega
              · rw [List.mem_singleton.1 ht]; exact Nat.lt_succ_self _
            · rw [updR_eq, List.length_append]; simp; exact q4
          · intro _
            refine ok_go 1 ?_
            exact sy_next 0 _ g5 (by kernel_rfl) (by kernel_rfl) (ih3 (w + 1) _ g5 ⟨hwl, _, _, H5, B5, q1, q2, fun t ht => by have := q3 t ht; omega, by omega⟩ (show N - (w + 1) < N - w by omega) ⟨by kernel_rfl, by kernel_rfl, by kernel_rfl, by kernel_rfl, by kernel_rfl, (by kernel_rfl : _ = Value.int .i64 (IntKind.wrap .i64 (Int.ofNat (w + 1)))).trans (by rw [wrap_nat (by omega)]), trivial⟩)
        · intro hwl
          refine ok_go 1 ?_
          exact sy_next 0 _ g5 (by kernel_rfl) (by kernel_rfl) (ih1 (i + 1) _ g5 ⟨hlt, _, _, _, H5, q1, q2⟩ (show N - (i + 1) < N - i by omega) ⟨by kernel_rfl, by kernel_rfl, by kernel_rfl, (by kernel_rfl : _ = Value.int .i64 (IntKind.wrap .i64 (Int.ofNat (i + 1)))).trans (by rw [wrap_nat (by omega)]), trivial⟩)
    · intro _
      refine ok_go 0 ?_
      exact sy_done 0 (v := .slice (some ⟨h.next, 0, none⟩) N (2 * N)) (h := g1) (by kernel_rfl) ⟨H1.ext, fin⟩
  · intro _
    refine ok_go 5 ?_
    exact sy_done 0 (v := .slice (some ⟨h.next, 0, none⟩) N (2 * N)) (h := g1) (by kernel_rfl) ⟨H1.ext, fin⟩
end Go.Proofs.YtegcmgjldapnmaaDoor
namespace Go.Proofs.YtegcmgjldapnmaaDoor
open Go Go.Eng Nim
set_option maxRecDepth 100000
set_option maxHeartbeats 8000000
theorem play_some {G : List (List Nat)} {S : St} {i b : Nat} (hb : bestP G S i = some b) : b ∈ grow G i ∧ S b = wantP S i := by
  unfold bestP at hb
  exact ⟨List.mem_of_find?_eq_some hb, of_decide_eq_true (List.find?_some (p := fun t => decide (S t = wantP S i)) hb)⟩
theorem play_none {G : List (List Nat)} (hG : ∀ i t, t ∈ grow G i → t < G.length) {i : Nat} (hi : i < G.length) (hb : bestP G (refS G (G.length + 1)) i = none) : grow G i = [] := by
  refine Classical.byContradiction fun hne => ?_
  have hno : ∀ t ∈ grow G i, refS G (G.length + 1) t ≠ wantP (refS G (G.length + 1)) i := by
    intro t ht
    unfold bestP at hb
    rw [List.find?_eq_none] at hb
    simpa using hb t ht
  have F := fin_refS (G := G) (G.length + 1)
  have V := inv_refS (G := G) (G.length + 1)
  have hk := V.k i
  by_cases h2 : (refS G (G.length + 1) i).1 = 2
  · have st := still_end hG i hi h2
    have h1 : ∃ t ∈ grow G i, (refS G (G.length + 1) t).1 ≠ 1 := by
      refine Classical.byContradiction fun hc => ?_
      rw [all1_iff.2 fun t ht => Classical.byContradiction fun h => hc ⟨t, ht, h⟩] at st
      exact absurd st.2 (by decide)
    obtain ⟨t, ht, h3⟩ := h1
    have h4 : (refS G (G.length + 1) t).1 ≠ 0 := fun h => by
      rw [won0_iff.2 ⟨t, ht, h⟩] at st
      exact absurd st.1 (by decide)
    have h5 := V.k t
    refine hno t ht ?_
    rw [V.dr t (by omega), wantP, if_pos h2]
  · by_cases h0 : (refS G (G.length + 1) i).1 = 0
    · obtain ⟨t, ht, e⟩ := F.l2 i h0 hne
      exact hno t ht (by rw [e, wantP, if_neg h2, h0])
    · have h1 : (refS G (G.length + 1) i).1 = 1 := by omega
      obtain ⟨t, ht, e⟩ := F.w1 i h1
      exact hno t ht (by rw [e, wantP, if_neg h2, h1])
theorem play_draw {G : List (List Nat)} (hG : ∀ i t, t ∈ grow G i → t < G.length) {i t : Nat} (hi : i < G.length) (h2 : (refS G (G.length + 1) i).1 = 2) (ht : t ∈ grow G i) : (refS G (G.length + 1) t).1 ≠ 0 := fun h => by
  have st := still_end hG i hi h2
  rw [won0_iff.2 ⟨t, ht, h⟩] at st
  exact absurd st.1 (by decide)
/-- Reading the outcomes. -/
theorem rd_at {h : Hp} {v : Value} {N i : Nat} {f : Nat → Value} (hr : Rds h v (cellsF N f)) (hi : i < N) {x : Value} (hx : f i = x) : ∃ p, indexAddrOp Tryd.prog 32 v (J i) = some p ∧ loadT Tryd.prog h 3 p = some x :=
  hr.read u32 z3 aggI (by rw [cellsF_get hi, hx])
theorem wrap_small {x : Int} (h0 : 0 ≤ x) (h1 : x < 2 ^ 62) : IntKind.wrap .i64 x = x := by
  obtain ⟨m, rfl⟩ := Int.eq_ofNat_of_zero_le h0
  exact wrap_nat (by omega)
theorem s7 (lf n : Nat) (hlf : 300 ≤ lf) (v : Value) (h : Hp) (x : Value) (H : Hp) (G : List (List Nat)) (e26 : Ev lf n 26 [v, J 30] h = some (x, H)) (hx : Gr H x (gI G)) (hN : G.length ≤ 30)
   (hG : ∀ i t, t ∈ grow G i → t < G.length) (hrl : ∀ i, (grow G i).length < lf) (hsm : lf < 2 ^ 62)
   (e21 : ∃ y H', Ev lf n 21 [x] H = some (y, H') ∧ ∃ ka kb, y = .tuple #[ka, kb, J 0] ∧ H.Ext H' ∧ Rds H' ka (cellsF G.length (kF (refS G (G.length + 1)))) ∧ Rds H' kb (cellsF G.length (dF (refS G (G.length + 1)))))
   (e22 : ∀ i X, i < G.length → H.Ext X → ∃ y X', Ev lf n 22 [x, J i] X = some (y, X') ∧ X.Ext X' ∧ y = (match bestP G (refS G (G.length + 1)) i with | some t => .tuple #[J t, J 0] | none => .tuple #[J 0, J 4]))
   (aw : ∀ h, Ev lf n 14 [] h = some (.bool true, h)) : ∃ H, Ev lf (n + 1) 7 [v] h = some (.bool true, H) := by
  obtain ⟨a, c, hsh⟩ := hx.shape
  rw [gI_len] at hsh
  subst hsh
  obtain ⟨y, H1, e21, ka, kb, rfl, X1, rka, rkb⟩ := e21
  obtain ⟨aa, ac, hsa⟩ := rka.shape
  rw [cellsF_len] at hsa
  subst hsa
  obtain ⟨ba, bc, hsb⟩ := rkb.shape
  rw [cellsF_len] at hsb
  subst hsb
  have FI := fin_refS (G := G) (G.length + 1)
  have VI := inv_refS (G := G) (G.length + 1)
  have hemp := fun i (hi : grow G i = []) => refS_empty hi G.length
  have hnone := fun i (hi : i < G.length) hb => play_none hG hi (i := i) hb
  have hdraw := fun i t (hi : i < G.length) h2 ht => play_draw hG hi (i := i) (t := t) h2 ht
  generalize hF : refS G (G.length + 1) = F at *
  refine fn_val ?_
  refine ok_go 0 ?_
  refine sy_call 0 (by kernel_rfl) e26 ?_
  refine ok_go 0 ?_
  refine sy_call 0 (by kernel_rfl) e21 ?_
  refine ok_go 13 ?_
  refine sy_no 0 (b := Int.ofNat G.length != Int.ofNat G.length) (by kernel_rfl) (by simp) ?_
  refine ok_go 8 ?_
  refine sy_no 0 (b := Int.ofNat G.length != Int.ofNat G.length) (by kernel_rfl) (by simp) ?_
  refine ok_go 0 ?_
  refine sy_loop 0 lf H1 (α := Nat) (fun s => [(3, .slice a G.length c), (4, .slice aa G.length ac), (5, .slice ba G.length bc), (7, J s)]) (fun s g => s ≤ G.length ∧ H1.Ext g) (fun s _ => G.length - s) 0 (by kernel_rfl) (by kernel_rfl) ⟨by kernel_rfl, by kernel_rfl, by kernel_rfl, by kernel_rfl, trivial⟩ (show G.length - 0 < lf by omega) ⟨Nat.zero_le _, Hp.Ext.refl _⟩ ?_
  rintro m1 i f1 g1 ⟨hi, X2⟩ ih1
  refine ok_go 2 ?_
  refine sy_test 0 (decide (Int.ofNat i < Int.ofNat G.length)) (by kernel_rfl) ?_ ?_
  · intro hlt
    have hlt := ok_nat hlt
    have hrli := hrl i
    obtain ⟨y, g2, e22, X3, rfl⟩ := e22 i g1 hlt (X1.trans X2)
    obtain ⟨p, rv, e1, e2, hr⟩ := hx.rowE hlt
    have X4 := X2.trans X3
    have X5 := X1.trans X4
    have e2 := e2 g2 X5
    have hr := hr.ext X5
    have ra4 := rka.ext X4
    have rb4 := rkb.ext X4
    obtain ⟨ra, rc, hrs⟩ := hr.shape
    rw [List.length_map] at hrs
    subst hrs
    cases hb : bestP G F i with
    | none =>
      have hrow := hnone i hlt hb
      have hFi := hemp i hrow
      rw [hb] at e22
      refine ok_go 0 ?_
      refine sy_call 0 (by kernel_rfl) e22 ?_
      refine ok_go 2 ?_
      refine sy_load 0 (r := indexAddrOp Tryd.prog 31 (.slice a G.length c) (J i)) (h' := g2) (by kernel_rfl) e1 ?_
      refine ok_go 0 ?_
      refine sy_load 0 (r := loadT Tryd.prog g2 32 p) (h' := g2) (by kernel_rfl) e2 ?_
      refine ok_go 2 ?_
      refine sy_yes 0 (b := Int.ofNat (grow G i).length == 0) (by kernel_rfl) (by rw [hrow]; rfl) ?_
      obtain ⟨q1, u1, w1⟩ := rd_at (f := kF F) ra4 hlt (x := J 0) (by show J _ = J _; rw [hFi])
      refine ok_go 4 ?_
      refine sy_load 0 (r := indexAddrOp Tryd.prog 32 (.slice aa G.length ac) (J i)) (h' := g2) (by kernel_rfl) u1 ?_
      refine ok_go 1 ?_
      refine sy_load 0 (r := loadT Tryd.prog g2 3 q1) (h' := g2) (by kernel_rfl) w1 ?_
      obtain ⟨q2, u2, w2⟩ := rd_at (f := dF F) rb4 hlt (x := I 0) (by show I _ = I _; rw [hFi])
      refine ok_go 6 ?_
      refine sy_load 0 (r := indexAddrOp Tryd.prog 32 (.slice ba G.length bc) (J i)) (h' := g2) (by kernel_rfl) u2 ?_
      refine ok_go 1 ?_
      refine sy_load 0 (r := loadT Tryd.prog g2 3 q2) (h' := g2) (by kernel_rfl) w2 ?_
      refine ok_go 5 ?_
      exact sy_next 0 _ g2 (by kernel_rfl) (by kernel_rfl) (ih1 (i + 1) _ g2 ⟨hlt, X4⟩ (show G.length - (i + 1) < G.length - i by omega) ⟨by kernel_rfl, by kernel_rfl, by kernel_rfl, (by kernel_rfl : _ = Value.int .i64 (IntKind.wrap .i64 (Int.ofNat (i + 1)))).trans (by rw [wrap_nat (by omega)]), trivial⟩)
    | some b =>
      have hbs := play_some hb
      have hne : grow G i ≠ [] := fun hc => by rw [hc] at hbs; cases hbs.1
      have hbl := hG i b hbs.1
      rw [hb] at e22
      have hkd := VI.k i
      rcases (by omega : (F i).1 = 0 ∨ (F i).1 = 1 ∨ (F i).1 = 2) with hk | hk | hk
      · refine ok_go 0 ?_
        refine sy_call 0 (by kernel_rfl) e22 ?_
        refine ok_go 2 ?_
        refine sy_load 0 (r := indexAddrOp Tryd.prog 31 (.slice a G.length c) (J i)) (h' := g2) (by kernel_rfl) e1 ?_
        refine ok_go 0 ?_
        refine sy_load 0 (r := loadT Tryd.prog g2 32 p) (h' := g2) (by kernel_rfl) e2 ?_
        refine ok_go 2 ?_
        refine sy_no 0 (b := Int.ofNat (grow G i).length == 0) (by kernel_rfl) (by cases hc : (Int.ofNat (grow G i).length == 0) with | false => rfl | true => exact absurd (List.eq_nil_of_length_eq_zero (Int.ofNat.inj (eq_of_beq hc))) hne) ?_
        refine ok_go 2 ?_
        refine sy_loop 0 lf g2 (α := Nat × Bool) (fun s => [(3, .slice a G.length c), (4, .slice aa G.length ac), (5, .slice ba G.length bc), (7, J i), (8, J b), (10, .bool s.2), (11, J s.1)]) (fun s g => g = g2 ∧ s.1 ≤ (grow G i).length ∧ True) (fun s _ => (grow G i).length - s.1) (0, false) (by kernel_rfl) (by kernel_rfl) ⟨by kernel_rfl, by kernel_rfl, by kernel_rfl, by kernel_rfl, by kernel_rfl, by kernel_rfl, by kernel_rfl, trivial⟩ (show (grow G i).length - 0 < lf by omega) ⟨rfl, Nat.zero_le _, trivial⟩ ?_
        rintro m2 ⟨k, dr⟩ f2 g3 ⟨rfl, hkl, hdr⟩ ih2
        dsimp only at hkl hdr
        refine ok_go 0 ?_
        refine sy_load 0 (r := indexAddrOp Tryd.prog 31 (.slice a G.length c) (J i)) (h' := g3) (by kernel_rfl) e1 ?_
        refine ok_go 0 ?_
        refine sy_load 0 (r := loadT Tryd.prog g3 32 p) (h' := g3) (by kernel_rfl) e2 ?_
        refine ok_go 2 ?_
        refine sy_test 0 (decide (Int.ofNat k < Int.ofNat (grow G i).length)) (by kernel_rfl) ?_ ?_
        · intro hkt
          have hkt := ok_nat hkt
          obtain ⟨q, e3, e4⟩ := rowN_get hr hkt
          have htm := List.getElem_mem hkt
          have htn := hG i (grow G i)[k] htm
          refine ok_go 0 ?_
          refine sy_load 0 (r := indexAddrOp Tryd.prog 31 (.slice a G.length c) (J i)) (h' := g3) (by kernel_rfl) e1 ?_
          refine ok_go 0 ?_
          refine sy_load 0 (r := loadT Tryd.prog g3 32 p) (h' := g3) (by kernel_rfl) e2 ?_
          refine ok_go 0 ?_
          refine sy_load 0 (r := indexAddrOp Tryd.prog 32 (.slice ra (grow G i).length rc) (J k)) (h' := g3) (by kernel_rfl) e3 ?_
          refine ok_go 0 ?_
          refine sy_load 0 (r := loadT Tryd.prog g3 3 q) (h' := g3) (by kernel_rfl) e4 ?_
          have hl1 := FI.l1 i hk _ htm
          cases dr with
          | true =>
            obtain ⟨q3, u3, w3⟩ := rd_at (f := kF F) ra4 hlt (x := J 0) (by show J _ = J _; rw [hk])
            refine ok_go 6 ?_
            refine sy_load 0 (r := indexAddrOp Tryd.prog 32 (.slice aa G.length ac) (J i)) (h' := g3) (by kernel_rfl) u3 ?_
            refine ok_go 0 ?_
            refine sy_load 0 (r := loadT Tryd.prog g3 3 q3) (h' := g3) (by kernel_rfl) w3 ?_
            obtain ⟨q4, u4, w4⟩ := rd_at (f := kF F) ra4 htn (x := J 1) (by show J _ = J _; rw [hl1.1])
            refine ok_go 4 ?_
            refine sy_load 0 (r := indexAddrOp Tryd.prog 32 (.slice aa G.length ac) (J (grow G i)[k])) (h' := g3) (by kernel_rfl) u4 ?_
            refine ok_go 1 ?_
            refine sy_load 0 (r := loadT Tryd.prog g3 3 q4) (h' := g3) (by kernel_rfl) w4 ?_
            obtain ⟨q5, u5, w5⟩ := rd_at (f := dF F) rb4 htn (x := I (F (grow G i)[k]).2) (rfl)
            refine ok_go 6 ?_
            refine sy_load 0 (r := indexAddrOp Tryd.prog 32 (.slice ba G.length bc) (J (grow G i)[k])) (h' := g3) (by kernel_rfl) u5 ?_
            refine ok_go 1 ?_
            refine sy_load 0 (r := loadT Tryd.prog g3 3 q5) (h' := g3) (by kernel_rfl) w5 ?_
            obtain ⟨q6, u6, w6⟩ := rd_at (f := dF F) rb4 hlt (x := I (F i).2) (rfl)
            refine ok_go 3 ?_
            refine sy_load 0 (r := indexAddrOp Tryd.prog 32 (.slice ba G.length bc) (J i)) (h' := g3) (by kernel_rfl) u6 ?_
            refine ok_go 1 ?_
            refine sy_load 0 (r := loadT Tryd.prog g3 3 q6) (h' := g3) (by kernel_rfl) w6 ?_
            refine ok_go 5 ?_
            refine sy_no 0 (b := decide ((F (grow G i)[k]).2 ≥ (F i).2)) (by kernel_rfl) (decide_eq_false (by omega)) ?_
            obtain ⟨q7, u7, w7⟩ := rd_at (f := kF F) ra4 hlt (x := J 0) (by show J _ = J _; rw [hk])
            refine ok_go 2 ?_
            refine sy_load 0 (r := indexAddrOp Tryd.prog 32 (.slice aa G.length ac) (J i)) (h' := g3) (by kernel_rfl) u7 ?_
            refine ok_go 1 ?_
            refine sy_load 0 (r := loadT Tryd.prog g3 3 q7) (h' := g3) (by kernel_rfl) w7 ?_
            refine ok_go 13 ?_
            exact sy_next 0 _ g3 (by kernel_rfl) (by kernel_rfl) (ih2 (k + 1, true) _ g3 ⟨rfl, hkt, trivial⟩ (show (grow G i).length - (k + 1) < (grow G i).length - k by omega) ⟨by kernel_rfl, by kernel_rfl, by kernel_rfl, by kernel_rfl, by kernel_rfl, by kernel_rfl, (by kernel_rfl : _ = Value.int .i64 (IntKind.wrap .i64 (Int.ofNat (k + 1)))).trans (by rw [wrap_nat (by omega)]), trivial⟩)

          | false =>
            obtain ⟨q8, u8, w8⟩ := rd_at (f := kF F) ra4 htn (x := J 1) (by show J _ = J _; rw [hl1.1])
            refine ok_go 3 ?_
            refine sy_load 0 (r := indexAddrOp Tryd.prog 32 (.slice aa G.length ac) (J (grow G i)[k])) (h' := g3) (by kernel_rfl) u8 ?_
            refine ok_go 1 ?_
            refine sy_load 0 (r := loadT Tryd.prog g3 3 q8) (h' := g3) (by kernel_rfl) w8 ?_
            obtain ⟨q3, u3, w3⟩ := rd_at (f := kF F) ra4 hlt (x := J 0) (by show J _ = J _; rw [hk])
            refine ok_go 3 ?_
            refine sy_load 0 (r := indexAddrOp Tryd.prog 32 (.slice aa G.length ac) (J i)) (h' := g3) (by kernel_rfl) u3 ?_
            refine ok_go 0 ?_
            refine sy_load 0 (r := loadT Tryd.prog g3 3 q3) (h' := g3) (by kernel_rfl) w3 ?_
            obtain ⟨q4, u4, w4⟩ := rd_at (f := kF F) ra4 htn (x := J 1) (by show J _ = J _; rw [hl1.1])
            refine ok_go 4 ?_
            refine sy_load 0 (r := indexAddrOp Tryd.prog 32 (.slice aa G.length ac) (J (grow G i)[k])) (h' := g3) (by kernel_rfl) u4 ?_
            refine ok_go 1 ?_
            refine sy_load 0 (r := loadT Tryd.prog g3 3 q4) (h' := g3) (by kernel_rfl) w4 ?_
            obtain ⟨q5, u5, w5⟩ := rd_at (f := dF F) rb4 htn (x := I (F (grow G i)[k]).2) (rfl)
            refine ok_go 6 ?_
            refine sy_load 0 (r := indexAddrOp Tryd.prog 32 (.slice ba G.length bc) (J (grow G i)[k])) (h' := g3) (by kernel_rfl) u5 ?_
            refine ok_go 1 ?_
            refine sy_load 0 (r := loadT Tryd.prog g3 3 q5) (h' := g3) (by kernel_rfl) w5 ?_
            obtain ⟨q6, u6, w6⟩ := rd_at (f := dF F) rb4 hlt (x := I (F i).2) (rfl)
            refine ok_go 3 ?_
            refine sy_load 0 (r := indexAddrOp Tryd.prog 32 (.slice ba G.length bc) (J i)) (h' := g3) (by kernel_rfl) u6 ?_
            refine ok_go 1 ?_
            refine sy_load 0 (r := loadT Tryd.prog g3 3 q6) (h' := g3) (by kernel_rfl) w6 ?_
            refine ok_go 5 ?_
            refine sy_no 0 (b := decide ((F (grow G i)[k]).2 ≥ (F i).2)) (by kernel_rfl) (decide_eq_false (by omega)) ?_
            obtain ⟨q7, u7, w7⟩ := rd_at (f := kF F) ra4 hlt (x := J 0) (by show J _ = J _; rw [hk])
            refine ok_go 2 ?_
            refine sy_load 0 (r := indexAddrOp Tryd.prog 32 (.slice aa G.length ac) (J i)) (h' := g3) (by kernel_rfl) u7 ?_
            refine ok_go 1 ?_
            refine sy_load 0 (r := loadT Tryd.prog g3 3 q7) (h' := g3) (by kernel_rfl) w7 ?_
            refine ok_go 13 ?_
            exact sy_next 0 _ g3 (by kernel_rfl) (by kernel_rfl) (ih2 (k + 1, false) _ g3 ⟨rfl, hkt, trivial⟩ (show (grow G i).length - (k + 1) < (grow G i).length - k by omega) ⟨by kernel_rfl, by kernel_rfl, by kernel_rfl, by kernel_rfl, by kernel_rfl, by kernel_rfl, (by kernel_rfl : _ = Value.int .i64 (IntKind.wrap .i64 (Int.ofNat (k + 1)))).trans (by rw [wrap_nat (by omega)]), trivial⟩)


        · intro hkt
          have hkt := no_nat hkt
          have hdi := VI.di i (by omega)
          have hw := hbs.2
          unfold wantP at hw
          rw [if_neg (by omega)] at hw
          have hw1 : (F b).1 = 1 - (F i).1 := by rw [hw]
          have hw2 : (F b).2 = (F i).2 - 1 := by rw [hw]
          obtain ⟨q9, u9, w9⟩ := rd_at (f := kF F) ra4 hlt (x := J 0) (by show J _ = J _; rw [hk])
          refine ok_go 0 ?_
          refine sy_load 0 (r := indexAddrOp Tryd.prog 32 (.slice aa G.length ac) (J i)) (h' := g3) (by kernel_rfl) u9 ?_
          refine ok_go 0 ?_
          refine sy_load 0 (r := loadT Tryd.prog g3 3 q9) (h' := g3) (by kernel_rfl) w9 ?_
          obtain ⟨q10, u10, w10⟩ := rd_at (f := dF F) rb4 hbl (x := I (F b).2) (rfl)
          refine ok_go 4 ?_
          refine sy_load 0 (r := indexAddrOp Tryd.prog 32 (.slice ba G.length bc) (J b)) (h' := g3) (by kernel_rfl) u10 ?_
          refine ok_go 0 ?_
          refine sy_load 0 (r := loadT Tryd.prog g3 3 q10) (h' := g3) (by kernel_rfl) w10 ?_
          obtain ⟨q11, u11, w11⟩ := rd_at (f := dF F) rb4 hlt (x := I (F i).2) (rfl)
          refine ok_go 1 ?_
          refine sy_load 0 (r := indexAddrOp Tryd.prog 32 (.slice ba G.length bc) (J i)) (h' := g3) (by kernel_rfl) u11 ?_
          refine ok_go 0 ?_
          refine sy_load 0 (r := loadT Tryd.prog g3 3 q11) (h' := g3) (by kernel_rfl) w11 ?_
          refine ok_go 1 ?_
          refine sy_no 0 (b := IntKind.wrap .i64 ((F b).2 + 1) != (F i).2) (by kernel_rfl) (by rw [hw2, wrap_small (by omega) (by omega), show (F i).2 - 1 + 1 = (F i).2 by omega]; simp) ?_
          refine ok_go 1 ?_
          exact sy_next 0 _ g3 (by kernel_rfl) (by kernel_rfl) (ih1 (i + 1) _ g3 ⟨hlt, X4⟩ (show G.length - (i + 1) < G.length - i by omega) ⟨by kernel_rfl, by kernel_rfl, by kernel_rfl, (by kernel_rfl : _ = Value.int .i64 (IntKind.wrap .i64 (Int.ofNat (i + 1)))).trans (by rw [wrap_nat (by omega)]), trivial⟩)
      · refine ok_go 0 ?_
        refine sy_call 0 (by kernel_rfl) e22 ?_
        refine ok_go 2 ?_
        refine sy_load 0 (r := indexAddrOp Tryd.prog 31 (.slice a G.length c) (J i)) (h' := g2) (by kernel_rfl) e1 ?_
        refine ok_go 0 ?_
        refine sy_load 0 (r := loadT Tryd.prog g2 32 p) (h' := g2) (by kernel_rfl) e2 ?_
        refine ok_go 2 ?_
        refine sy_no 0 (b := Int.ofNat (grow G i).length == 0) (by kernel_rfl) (by cases hc : (Int.ofNat (grow G i).length == 0) with | false => rfl | true => exact absurd (List.eq_nil_of_length_eq_zero (Int.ofNat.inj (eq_of_beq hc))) hne) ?_
        refine ok_go 2 ?_
        refine sy_loop 0 lf g2 (α := Nat × Bool) (fun s => [(3, .slice a G.length c), (4, .slice aa G.length ac), (5, .slice ba G.length bc), (7, J i), (8, J b), (10, .bool s.2), (11, J s.1)]) (fun s g => g = g2 ∧ s.1 ≤ (grow G i).length ∧ True) (fun s _ => (grow G i).length - s.1) (0, false) (by kernel_rfl) (by kernel_rfl) ⟨by kernel_rfl, by kernel_rfl, by kernel_rfl, by kernel_rfl, by kernel_rfl, by kernel_rfl, by kernel_rfl, trivial⟩ (show (grow G i).length - 0 < lf by omega) ⟨rfl, Nat.zero_le _, trivial⟩ ?_
        rintro m2 ⟨k, dr⟩ f2 g3 ⟨rfl, hkl, hdr⟩ ih2
        dsimp only at hkl hdr
        refine ok_go 0 ?_
        refine sy_load 0 (r := indexAddrOp Tryd.prog 31 (.slice a G.length c) (J i)) (h' := g3) (by kernel_rfl) e1 ?_
        refine ok_go 0 ?_
        refine sy_load 0 (r := loadT Tryd.prog g3 32 p) (h' := g3) (by kernel_rfl) e2 ?_
        refine ok_go 2 ?_
        refine sy_test 0 (decide (Int.ofNat k < Int.ofNat (grow G i).length)) (by kernel_rfl) ?_ ?_
        · intro hkt
          have hkt := ok_nat hkt
          obtain ⟨q, e3, e4⟩ := rowN_get hr hkt
          have htm := List.getElem_mem hkt
          have htn := hG i (grow G i)[k] htm
          refine ok_go 0 ?_
          refine sy_load 0 (r := indexAddrOp Tryd.prog 31 (.slice a G.length c) (J i)) (h' := g3) (by kernel_rfl) e1 ?_
          refine ok_go 0 ?_
          refine sy_load 0 (r := loadT Tryd.prog g3 32 p) (h' := g3) (by kernel_rfl) e2 ?_
          refine ok_go 0 ?_
          refine sy_load 0 (r := indexAddrOp Tryd.prog 32 (.slice ra (grow G i).length rc) (J k)) (h' := g3) (by kernel_rfl) e3 ?_
          refine ok_go 0 ?_
          refine sy_load 0 (r := loadT Tryd.prog g3 3 q) (h' := g3) (by kernel_rfl) e4 ?_
          cases dr with
          | true =>
            obtain ⟨q12, u12, w12⟩ := rd_at (f := kF F) ra4 hlt (x := J 1) (by show J _ = J _; rw [hk])
            refine ok_go 6 ?_
            refine sy_load 0 (r := indexAddrOp Tryd.prog 32 (.slice aa G.length ac) (J i)) (h' := g3) (by kernel_rfl) u12 ?_
            refine ok_go 0 ?_
            refine sy_load 0 (r := loadT Tryd.prog g3 3 q12) (h' := g3) (by kernel_rfl) w12 ?_
            obtain ⟨q13, u13, w13⟩ := rd_at (f := kF F) ra4 hlt (x := J 1) (by show J _ = J _; rw [hk])
            refine ok_go 12 ?_
            refine sy_load 0 (r := indexAddrOp Tryd.prog 32 (.slice aa G.length ac) (J i)) (h' := g3) (by kernel_rfl) u13 ?_
            refine ok_go 1 ?_
            refine sy_load 0 (r := loadT Tryd.prog g3 3 q13) (h' := g3) (by kernel_rfl) w13 ?_
            refine ok_go 13 ?_
            exact sy_next 0 _ g3 (by kernel_rfl) (by kernel_rfl) (ih2 (k + 1, true) _ g3 ⟨rfl, hkt, trivial⟩ (show (grow G i).length - (k + 1) < (grow G i).length - k by omega) ⟨by kernel_rfl, by kernel_rfl, by kernel_rfl, by kernel_rfl, by kernel_rfl, by kernel_rfl, (by kernel_rfl : _ = Value.int .i64 (IntKind.wrap .i64 (Int.ofNat (k + 1)))).trans (by rw [wrap_nat (by omega)]), trivial⟩)

          | false =>
            obtain ⟨q14, u14, w14⟩ := rd_at (f := kF F) ra4 htn (x := J (F (grow G i)[k]).1) (rfl)
            refine ok_go 3 ?_
            refine sy_load 0 (r := indexAddrOp Tryd.prog 32 (.slice aa G.length ac) (J (grow G i)[k])) (h' := g3) (by kernel_rfl) u14 ?_
            refine ok_go 1 ?_
            refine sy_load 0 (r := loadT Tryd.prog g3 3 q14) (h' := g3) (by kernel_rfl) w14 ?_
            obtain ⟨q12, u12, w12⟩ := rd_at (f := kF F) ra4 hlt (x := J 1) (by show J _ = J _; rw [hk])
            refine ok_go 3 ?_
            refine sy_load 0 (r := indexAddrOp Tryd.prog 32 (.slice aa G.length ac) (J i)) (h' := g3) (by kernel_rfl) u12 ?_
            refine ok_go 0 ?_
            refine sy_load 0 (r := loadT Tryd.prog g3 3 q12) (h' := g3) (by kernel_rfl) w12 ?_
            obtain ⟨q13, u13, w13⟩ := rd_at (f := kF F) ra4 hlt (x := J 1) (by show J _ = J _; rw [hk])
            refine ok_go 12 ?_
            refine sy_load 0 (r := indexAddrOp Tryd.prog 32 (.slice aa G.length ac) (J i)) (h' := g3) (by kernel_rfl) u13 ?_
            refine ok_go 1 ?_
            refine sy_load 0 (r := loadT Tryd.prog g3 3 q13) (h' := g3) (by kernel_rfl) w13 ?_
            refine ok_go 13 ?_
            exact sy_next 0 _ g3 (by kernel_rfl) (by kernel_rfl) (ih2 (k + 1, Int.ofNat (F (grow G i)[k]).1 == 2) _ g3 ⟨rfl, hkt, trivial⟩ (show (grow G i).length - (k + 1) < (grow G i).length - k by omega) ⟨by kernel_rfl, by kernel_rfl, by kernel_rfl, by kernel_rfl, by kernel_rfl, by kernel_rfl, (by kernel_rfl : _ = Value.int .i64 (IntKind.wrap .i64 (Int.ofNat (k + 1)))).trans (by rw [wrap_nat (by omega)]), trivial⟩)


        · intro hkt
          have hkt := no_nat hkt
          have hdi := VI.di i (by omega)
          have hw := hbs.2
          unfold wantP at hw
          rw [if_neg (by omega)] at hw
          have hw1 : (F b).1 = 1 - (F i).1 := by rw [hw]
          have hw2 : (F b).2 = (F i).2 - 1 := by rw [hw]
          obtain ⟨q15, u15, w15⟩ := rd_at (f := kF F) ra4 hlt (x := J 1) (by show J _ = J _; rw [hk])
          refine ok_go 0 ?_
          refine sy_load 0 (r := indexAddrOp Tryd.prog 32 (.slice aa G.length ac) (J i)) (h' := g3) (by kernel_rfl) u15 ?_
          refine ok_go 0 ?_
          refine sy_load 0 (r := loadT Tryd.prog g3 3 q15) (h' := g3) (by kernel_rfl) w15 ?_
          obtain ⟨q16, u16, w16⟩ := rd_at (f := kF F) ra4 hbl (x := J 0) (by show J _ = J _; rw [hw1, hk])
          refine ok_go 2 ?_
          refine sy_load 0 (r := indexAddrOp Tryd.prog 32 (.slice aa G.length ac) (J b)) (h' := g3) (by kernel_rfl) u16 ?_
          refine ok_go 0 ?_
          refine sy_load 0 (r := loadT Tryd.prog g3 3 q16) (h' := g3) (by kernel_rfl) w16 ?_
          obtain ⟨q17, u17, w17⟩ := rd_at (f := dF F) rb4 hbl (x := I (F b).2) (rfl)
          refine ok_go 4 ?_
          refine sy_load 0 (r := indexAddrOp Tryd.prog 32 (.slice ba G.length bc) (J b)) (h' := g3) (by kernel_rfl) u17 ?_
          refine ok_go 1 ?_
          refine sy_load 0 (r := loadT Tryd.prog g3 3 q17) (h' := g3) (by kernel_rfl) w17 ?_
          obtain ⟨q18, u18, w18⟩ := rd_at (f := dF F) rb4 hlt (x := I (F i).2) (rfl)
          refine ok_go 5 ?_
          refine sy_load 0 (r := indexAddrOp Tryd.prog 32 (.slice ba G.length bc) (J i)) (h' := g3) (by kernel_rfl) u18 ?_
          refine ok_go 1 ?_
          refine sy_load 0 (r := loadT Tryd.prog g3 3 q18) (h' := g3) (by kernel_rfl) w18 ?_
          refine ok_go 3 ?_
          refine sy_no 0 (b := IntKind.wrap .i64 ((F b).2 + 1) != (F i).2) (by kernel_rfl) (by rw [hw2, wrap_small (by omega) (by omega), show (F i).2 - 1 + 1 = (F i).2 by omega]; simp) ?_
          refine ok_go 1 ?_
          exact sy_next 0 _ g3 (by kernel_rfl) (by kernel_rfl) (ih1 (i + 1) _ g3 ⟨hlt, X4⟩ (show G.length - (i + 1) < G.length - i by omega) ⟨by kernel_rfl, by kernel_rfl, by kernel_rfl, (by kernel_rfl : _ = Value.int .i64 (IntKind.wrap .i64 (Int.ofNat (i + 1)))).trans (by rw [wrap_nat (by omega)]), trivial⟩)
      · refine ok_go 0 ?_
        refine sy_call 0 (by kernel_rfl) e22 ?_
        refine ok_go 2 ?_
        refine sy_load 0 (r := indexAddrOp Tryd.prog 31 (.slice a G.length c) (J i)) (h' := g2) (by kernel_rfl) e1 ?_
        refine ok_go 0 ?_
        refine sy_load 0 (r := loadT Tryd.prog g2 32 p) (h' := g2) (by kernel_rfl) e2 ?_
        refine ok_go 2 ?_
        refine sy_no 0 (b := Int.ofNat (grow G i).length == 0) (by kernel_rfl) (by cases hc : (Int.ofNat (grow G i).length == 0) with | false => rfl | true => exact absurd (List.eq_nil_of_length_eq_zero (Int.ofNat.inj (eq_of_beq hc))) hne) ?_
        refine ok_go 2 ?_
        refine sy_loop 0 lf g2 (α := Nat × Bool) (fun s => [(3, .slice a G.length c), (4, .slice aa G.length ac), (5, .slice ba G.length bc), (7, J i), (8, J b), (10, .bool s.2), (11, J s.1)]) (fun s g => g = g2 ∧ s.1 ≤ (grow G i).length ∧ s.2 = ((grow G i).take s.1).any fun t => (F t).1 == 2) (fun s _ => (grow G i).length - s.1) (0, false) (by kernel_rfl) (by kernel_rfl) ⟨by kernel_rfl, by kernel_rfl, by kernel_rfl, by kernel_rfl, by kernel_rfl, by kernel_rfl, by kernel_rfl, trivial⟩ (show (grow G i).length - 0 < lf by omega) ⟨rfl, Nat.zero_le _, rfl⟩ ?_
        rintro m2 ⟨k, dr⟩ f2 g3 ⟨rfl, hkl, hdr⟩ ih2
        dsimp only at hkl hdr
        refine ok_go 0 ?_
        refine sy_load 0 (r := indexAddrOp Tryd.prog 31 (.slice a G.length c) (J i)) (h' := g3) (by kernel_rfl) e1 ?_
        refine ok_go 0 ?_
        refine sy_load 0 (r := loadT Tryd.prog g3 32 p) (h' := g3) (by kernel_rfl) e2 ?_
        refine ok_go 2 ?_
        refine sy_test 0 (decide (Int.ofNat k < Int.ofNat (grow G i).length)) (by kernel_rfl) ?_ ?_
        · intro hkt
          have hkt := ok_nat hkt
          obtain ⟨q, e3, e4⟩ := rowN_get hr hkt
          have htm := List.getElem_mem hkt
          have htn := hG i (grow G i)[k] htm
          refine ok_go 0 ?_
          refine sy_load 0 (r := indexAddrOp Tryd.prog 31 (.slice a G.length c) (J i)) (h' := g3) (by kernel_rfl) e1 ?_
          refine ok_go 0 ?_
          refine sy_load 0 (r := loadT Tryd.prog g3 32 p) (h' := g3) (by kernel_rfl) e2 ?_
          refine ok_go 0 ?_
          refine sy_load 0 (r := indexAddrOp Tryd.prog 32 (.slice ra (grow G i).length rc) (J k)) (h' := g3) (by kernel_rfl) e3 ?_
          refine ok_go 0 ?_
          refine sy_load 0 (r := loadT Tryd.prog g3 3 q) (h' := g3) (by kernel_rfl) e4 ?_
          have hnz := hdraw i _ hlt hk htm
          have hst : ((grow G i).take (k + 1)).any (fun t => (F t).1 == 2) = (dr || (F (grow G i)[k]).1 == 2) := by
            rw [List.take_succ_eq_append_getElem hkt, List.any_append, ← hdr]
            simp only [List.any_cons, List.any_nil, Bool.or_false]
          cases dr with
          | true =>
            obtain ⟨q19, u19, w19⟩ := rd_at (f := kF F) ra4 hlt (x := J 2) (by show J _ = J _; rw [hk])
            refine ok_go 6 ?_
            refine sy_load 0 (r := indexAddrOp Tryd.prog 32 (.slice aa G.length ac) (J i)) (h' := g3) (by kernel_rfl) u19 ?_
            refine ok_go 0 ?_
            refine sy_load 0 (r := loadT Tryd.prog g3 3 q19) (h' := g3) (by kernel_rfl) w19 ?_
            obtain ⟨q20, u20, w20⟩ := rd_at (f := kF F) ra4 hlt (x := J 2) (by show J _ = J _; rw [hk])
            refine ok_go 12 ?_
            refine sy_load 0 (r := indexAddrOp Tryd.prog 32 (.slice aa G.length ac) (J i)) (h' := g3) (by kernel_rfl) u20 ?_
            refine ok_go 1 ?_
            refine sy_load 0 (r := loadT Tryd.prog g3 3 q20) (h' := g3) (by kernel_rfl) w20 ?_
            obtain ⟨q21, u21, w21⟩ := rd_at (f := kF F) ra4 htn (x := J (F (grow G i)[k]).1) (rfl)
            refine ok_go 6 ?_
            refine sy_load 0 (r := indexAddrOp Tryd.prog 32 (.slice aa G.length ac) (J (grow G i)[k])) (h' := g3) (by kernel_rfl) u21 ?_
            refine ok_go 1 ?_
            refine sy_load 0 (r := loadT Tryd.prog g3 3 q21) (h' := g3) (by kernel_rfl) w21 ?_
            refine ok_go 5 ?_
            refine sy_no 0 (b := Int.ofNat (F (grow G i)[k]).1 == 0) (by kernel_rfl) (by cases hc : (Int.ofNat (F (grow G i)[k]).1 == 0) with | false => rfl | true => exact absurd (Int.ofNat.inj (eq_of_beq hc)) hnz) ?_
            refine ok_go 1 ?_
            exact sy_next 0 _ g3 (by kernel_rfl) (by kernel_rfl) (ih2 (k + 1, true) _ g3 ⟨rfl, hkt, by rw [hst]; rfl⟩ (show (grow G i).length - (k + 1) < (grow G i).length - k by omega) ⟨by kernel_rfl, by kernel_rfl, by kernel_rfl, by kernel_rfl, by kernel_rfl, by kernel_rfl, (by kernel_rfl : _ = Value.int .i64 (IntKind.wrap .i64 (Int.ofNat (k + 1)))).trans (by rw [wrap_nat (by omega)]), trivial⟩)

          | false =>
            obtain ⟨q22, u22, w22⟩ := rd_at (f := kF F) ra4 htn (x := J (F (grow G i)[k]).1) (rfl)
            refine ok_go 3 ?_
            refine sy_load 0 (r := indexAddrOp Tryd.prog 32 (.slice aa G.length ac) (J (grow G i)[k])) (h' := g3) (by kernel_rfl) u22 ?_
            refine ok_go 1 ?_
            refine sy_load 0 (r := loadT Tryd.prog g3 3 q22) (h' := g3) (by kernel_rfl) w22 ?_
            obtain ⟨q19, u19, w19⟩ := rd_at (f := kF F) ra4 hlt (x := J 2) (by show J _ = J _; rw [hk])
            refine ok_go 3 ?_
            refine sy_load 0 (r := indexAddrOp Tryd.prog 32 (.slice aa G.length ac) (J i)) (h' := g3) (by kernel_rfl) u19 ?_
            refine ok_go 0 ?_
            refine sy_load 0 (r := loadT Tryd.prog g3 3 q19) (h' := g3) (by kernel_rfl) w19 ?_
            obtain ⟨q20, u20, w20⟩ := rd_at (f := kF F) ra4 hlt (x := J 2) (by show J _ = J _; rw [hk])
            refine ok_go 12 ?_
            refine sy_load 0 (r := indexAddrOp Tryd.prog 32 (.slice aa G.length ac) (J i)) (h' := g3) (by kernel_rfl) u20 ?_
            refine ok_go 1 ?_
            refine sy_load 0 (r := loadT Tryd.prog g3 3 q20) (h' := g3) (by kernel_rfl) w20 ?_
            obtain ⟨q21, u21, w21⟩ := rd_at (f := kF F) ra4 htn (x := J (F (grow G i)[k]).1) (rfl)
            refine ok_go 6 ?_
            refine sy_load 0 (r := indexAddrOp Tryd.prog 32 (.slice aa G.length ac) (J (grow G i)[k])) (h' := g3) (by kernel_rfl) u21 ?_
            refine ok_go 1 ?_
            refine sy_load 0 (r := loadT Tryd.prog g3 3 q21) (h' := g3) (by kernel_rfl) w21 ?_
            refine ok_go 5 ?_
            refine sy_no 0 (b := Int.ofNat (F (grow G i)[k]).1 == 0) (by kernel_rfl) (by cases hc : (Int.ofNat (F (grow G i)[k]).1 == 0) with | false => rfl | true => exact absurd (Int.ofNat.inj (eq_of_beq hc)) hnz) ?_
            refine ok_go 1 ?_
            exact sy_next 0 _ g3 (by kernel_rfl) (by kernel_rfl) (ih2 (k + 1, Int.ofNat (F (grow G i)[k]).1 == 2) _ g3 ⟨rfl, hkt, by rw [hst, Bool.false_or]; exact beq_nat _ 2⟩ (show (grow G i).length - (k + 1) < (grow G i).length - k by omega) ⟨by kernel_rfl, by kernel_rfl, by kernel_rfl, by kernel_rfl, by kernel_rfl, by kernel_rfl, (by kernel_rfl : _ = Value.int .i64 (IntKind.wrap .i64 (Int.ofNat (k + 1)))).trans (by rw [wrap_nat (by omega)]), trivial⟩)


        · intro hkt
          have hkt := no_nat hkt
          have hw := hbs.2
          unfold wantP at hw
          rw [if_pos hk] at hw
          have hdt : dr = true := by
            rw [hdr, List.take_of_length_le hkt, List.any_eq_true]
            exact ⟨b, hbs.1, by rw [hw]; rfl⟩
          subst hdt
          obtain ⟨q23, u23, w23⟩ := rd_at (f := kF F) ra4 hlt (x := J 2) (by show J _ = J _; rw [hk])
          refine ok_go 0 ?_
          refine sy_load 0 (r := indexAddrOp Tryd.prog 32 (.slice aa G.length ac) (J i)) (h' := g3) (by kernel_rfl) u23 ?_
          refine ok_go 0 ?_
          refine sy_load 0 (r := loadT Tryd.prog g3 3 q23) (h' := g3) (by kernel_rfl) w23 ?_
          obtain ⟨q24, u24, w24⟩ := rd_at (f := kF F) ra4 hbl (x := J 2) (by show J _ = J _; rw [hw])
          refine ok_go 10 ?_
          refine sy_load 0 (r := indexAddrOp Tryd.prog 32 (.slice aa G.length ac) (J b)) (h' := g3) (by kernel_rfl) u24 ?_
          refine ok_go 1 ?_
          refine sy_load 0 (r := loadT Tryd.prog g3 3 q24) (h' := g3) (by kernel_rfl) w24 ?_
          obtain ⟨q25, u25, w25⟩ := rd_at (f := dF F) rb4 hlt (x := I 0) (by show I _ = I _; rw [VI.dr i hk])
          refine ok_go 6 ?_
          refine sy_load 0 (r := indexAddrOp Tryd.prog 32 (.slice ba G.length bc) (J i)) (h' := g3) (by kernel_rfl) u25 ?_
          refine ok_go 1 ?_
          refine sy_load 0 (r := loadT Tryd.prog g3 3 q25) (h' := g3) (by kernel_rfl) w25 ?_
          refine ok_go 5 ?_
          exact sy_next 0 _ g3 (by kernel_rfl) (by kernel_rfl) (ih1 (i + 1) _ g3 ⟨hlt, X4⟩ (show G.length - (i + 1) < G.length - i by omega) ⟨by kernel_rfl, by kernel_rfl, by kernel_rfl, (by kernel_rfl : _ = Value.int .i64 (IntKind.wrap .i64 (Int.ofNat (i + 1)))).trans (by rw [wrap_nat (by omega)]), trivial⟩)
  · intro hlt
    refine ok_go 0 ?_
    refine sy_call 0 (by kernel_rfl) (aw g1) ?_
    refine ok_go 0 ?_
    exact sy_done 0 (v := .bool true) (h := g1) (by kernel_rfl) rfl
end Go.Proofs.YtegcmgjldapnmaaDoor
namespace Go.Proofs.YtegcmgjldapnmaaDoor
open Go Go.Eng Nim
set_option maxRecDepth 100000
theorem row_short : ∀ (r : List Nat) (a N : Nat), r.Pairwise (· < ·) → (∀ t ∈ r, a ≤ t ∧ t < N) → a ≤ N → r.length + a ≤ N
  | [], a, N, _, _, h => by simpa using h
  | t :: r, a, N, hp, hb, h => by
    obtain ⟨h1, h2⟩ := List.pairwise_cons.1 hp
    have ht := hb t (by simp)
    have := row_short r (t + 1) N h2 (fun u hu => ⟨h1 u hu, (hb u (by simp [hu])).2⟩) (by omega)
    simp only [List.length_cons]
    omega
structure Good (G : List (List Nat)) : Prop where
  l1 : 1 ≤ G.length
  l2 : G.length ≤ 200
  r : ∀ i, (grow G i).Pairwise (· < ·) ∧ ∀ t ∈ grow G i, t < G.length
theorem Good.len {G : List (List Nat)} (hG : Good G) (i : Nat) : (grow G i).length ≤ 200 := by
  have h2 := hG.l2
  have := row_short (grow G i) 0 G.length (hG.r i).1 (fun t ht => ⟨Nat.zero_le _, (hG.r i).2 t ht⟩) (Nat.zero_le _)
  omega
theorem grow_get {G : List (List Nat)} {i : Nat} (hi : i < G.length) : G[i] = grow G i := by
  simp [grow, List.getD_eq_getElem?_getD, List.getElem?_eq_getElem hi]
theorem Good.ok {G : List (List Nat)} (hG : Good G) : GrOK (gI G) := by
  refine ⟨by rw [gI_len]; exact hG.l1, by rw [gI_len]; exact hG.l2, fun r hr => ?_⟩
  rw [gI_len]
  obtain ⟨s, hs, rfl⟩ := List.mem_map.1 hr
  obtain ⟨i, hi, rfl⟩ := List.getElem_of_mem hs
  rw [grow_get hi]
  obtain ⟨hp, hb⟩ := hG.r i
  intro j hj _
  rw [List.length_map] at hj
  rw [List.getElem_map]
  refine ⟨by simp, by simpa using hb _ (List.getElem_mem hj), fun hp0 => ?_⟩
  rw [List.getElem_map]
  have := List.pairwise_iff_getElem.1 hp (j - 1) j (by omega) hj (by omega)
  simpa using this
theorem Good.short {G : List (List Nat)} (hG : Good G) : ∀ r ∈ gI G, r.length < 100000 := by
  intro r hr
  obtain ⟨s, hs, rfl⟩ := List.mem_map.1 hr
  obtain ⟨i, hi, rfl⟩ := List.getElem_of_mem hs
  rw [grow_get hi, List.length_map]
  have := hG.len i
  omega
theorem chk0 {G : List (List Nat)} (hG : Good G) (n : Nat) (x : Value) (X : Hp) (hx : Gr X x (gI G)) : Ev 100000 (n + 1) 20 [x] X = some (J 0, X) := by
  have h2 := hG.l2
  obtain ⟨y, X', e, rfl, hc⟩ := s20 (gI G) 100000 n (by rw [gI_len]; omega) hG.short x X hx (by decide)
  rcases hc with ⟨rfl, _⟩ | ⟨_, hc⟩
  · exact e
  · exact absurd hG.ok hc
theorem out39 {G : List (List Nat)} (hG : Good G) (n : Nat) (x : Value) (X : Hp) (hx : Gr X x (gI G)) : ∃ X', Ev 100000 (n + 1) 39 [x] X = some (.slice (some ⟨X.next, 0, none⟩) G.length (2 * G.length), X') ∧ X.Ext X' ∧ PS X.next G.length (refS G (G.length + 1)) X' := by
  obtain ⟨y, X', e, rfl, h1, h2⟩ := s39 G 100000 n hG.l2 (by decide) (by decide) (fun i => by have := hG.len i; omega) (fun i t ht => (hG.r i).2 t ht) x X hx
  exact ⟨X', e, h1, h2⟩
theorem out21 {G : List (List Nat)} (hG : Good G) (n : Nat) (x : Value) (X : Hp) (hx : Gr X x (gI G)) : ∃ y H', Ev 100000 (n + 2) 21 [x] X = some (y, H') ∧ ∃ ka kb, y = .tuple #[ka, kb, J 0] ∧ X.Ext H' ∧ Rds H' ka (cellsF G.length (kF (refS G (G.length + 1)))) ∧ Rds H' kb (cellsF G.length (dF (refS G (G.length + 1)))) := by
  obtain ⟨X', e, h1, h2⟩ := out39 hG n x X hx
  exact s21 G.length (refS G (G.length + 1)) 100000 (n + 1) hG.l2 (by decide) x X X' (chk0 hG n x X hx) e h1 h2
theorem out22 {G : List (List Nat)} (hG : Good G) (n : Nat) (x : Value) (X : Hp) (hx : Gr X x (gI G)) (i : Nat) (hi : i < G.length) : ∃ y X', Ev 100000 (n + 2) 22 [x, J i] X = some (y, X') ∧ X.Ext X' ∧ y = (match bestP G (refS G (G.length + 1)) i with | some t => .tuple #[J t, J 0] | none => .tuple #[J 0, J 4]) := by
  obtain ⟨X', e, h1, h2⟩ := out39 hG n x X hx
  have V := inv_refS (G := G) (G.length + 1)
  have hl := hG.l2
  refine s22 G (refS G (G.length + 1)) i 100000 (n + 1) hi V.k (fun t => ?_) hG.l2 (fun i => by have := hG.len i; omega) (by decide) (fun i t ht => (hG.r i).2 t ht) x X X' hx (chk0 hG n x X hx) e h1 h2
  by_cases h : (refS G (G.length + 1) t).1 = 2
  · rw [V.dr t h]; exact ⟨by decide, by decide⟩
  · have := V.di t h; omega
theorem run7 (v : Value) (l : List (List Int)) (h : Hp) (hg : Gr h v l) (hll : l.length < 2 ^ 63) (hrow : ∀ r ∈ l, r.length < 2 ^ 63) : ∃ H, Ev 100000 1000 7 [v] h = some (.bool true, H) := by
  obtain ⟨x, H, e26, X0, G, hx, h1, h30, hG⟩ := s26 l 30 100000 998 (by decide) (by decide) (by decide) hll hrow v h hg
  have hGd : Good G := ⟨h1, by omega, hG⟩
  exact s7 100000 999 (by decide) v h x H G e26 hx h30 (fun i t ht => (hG i).2 t ht) (fun i => by have := hGd.len i; omega) (by decide) (out21 hGd 997 x H hx)
    (fun i X hi k => out22 hGd 997 x X (hx.ext k) i hi) (fun h => rfl)
namespace heapPlays
theorem run (v : Value) (l : List (List Int)) {h : Hp} (hg : Gr h v l) (hll : l.length < 2 ^ 63) (hrow : ∀ r ∈ l, r.length < 2 ^ 63) : ∃ H, evInv Tryd.prog orc 100000 1000 (.fn 7 [v]) h = some (.bool true, H) := run7 v l h hg hll hrow
end heapPlays
end Go.Proofs.YtegcmgjldapnmaaDoor
namespace Go.Proofs.YtegcmgjldapnmaaDoor
open Go Go.Eng
set_option maxRecDepth 100000
set_option maxHeartbeats 8000000
theorem rds_elems {H : Hp} {x : Value} {vs : List Value} (hx : Rds H x vs) : lenV x = some vs.length ∧ elems H 1 vs.length x = some vs := by
  obtain ⟨a, c, hsh⟩ := hx.shape
  refine ⟨by rw [hsh]; rfl, ?_⟩
  rcases hx with ⟨⟨a, rfl⟩, rfl⟩ | ⟨i, off, c, rfl, hr⟩
  · rcases a with _ | ⟨i, off, _ | q⟩ <;> rfl
  · cases vs with
    | nil => rfl
    | cons v r => simp only [elems, List.length_cons, Nat.mul_one]; exact (hr (by simp)).2
/-- All of a slice appended to none: a block of its own. -/
theorem ow_rds {h H : Hp} {Q : Value → Hp → Prop} {l : List (Nat × AObj)} {P : Program} {t e : TypeId} (n : Nat) {s : SA} {vs : List Value} {x : Value} (W : Sto h H l) (hT : SlTz P t e 1) (hx : Rds H x vs) (hv : vs.all scalar = true) (hn : vs.length < 16777216)
    (he : askR (goS n s) = appendOp P H t (.slice none 0 0) x) (hq : ∀ H' sl, H.next ≤ H'.next → sl = oslV H.next vs.length → scalar sl = true → Sto h H' (l ++ oent H.next e vs) → Ok Q (askK (goS n s) sl H')) : Ok Q s := by
  obtain ⟨h1, h2⟩ := rds_elems hx
  cases vs with
  | nil =>
    obtain ⟨inf, hi1, hi2⟩ := hT.i
    obtain ⟨z, hz1, hz2⟩ := hT.zr
    refine sy_call n (he.trans (?_ : _ = some (.slice none 0 0, H))) rfl (hq H _ (Nat.le_refl _) rfl rfl (by simpa only [oent, List.append_nil] using W))
    simp only [List.length_nil] at h1 h2
    simp only [appendOp, hT.u, hT.s, hi1, hz1, h1, h2, hz2, hi2, List.all_nil]
  | cons v r =>
    obtain ⟨H', e1, e2, W'⟩ := append_sto (P := P) (t := t) (x := x) (i := 0) (n := 0) (m := r.length) (zs := []) (l := l) (by simpa only [oent, List.append_nil] using W) hT (by simp) (by simp) h1 h2 hv (by simp at hn; omega)
    rw [Nat.zero_add] at e1
    exact sy_call n (he.trans e1) rfl (hq H' _ (by omega) rfl rfl W')
end Go.Proofs.YtegcmgjldapnmaaDoor
namespace Go.Proofs.YtegcmgjldapnmaaDoor
open Go Go.Eng Nim
set_option maxRecDepth 100000
set_option maxHeartbeats 8000000
theorem slz32 : SlTz Tryd.prog 32 3 1 := ⟨by kernel_rfl, by kernel_rfl, ⟨_, rfl, by kernel_rfl⟩, ⟨_, rfl, by kernel_rfl⟩, by decide⟩
/-- One half of the state after i vertices of a round. -/
def midS (G : List (List Nat)) (S : St) (d : Int) (i : Nat) : St := fun u => if u < i then refAt G S d u else S u
theorem mid_zero (G : List (List Nat)) (S : St) (d : Int) : midS G S d 0 = S := funext fun u => if_neg (Nat.not_lt_zero u)
theorem mid_all {G : List (List Nat)} {S : St} {d : Int} {n u : Nat} (h : u < n) : midS G S d n u = refAt G S d u := if_pos h
theorem mid_same {G : List (List Nat)} {S : St} {d : Int} {i : Nat} (h : refAt G S d i = S i) : midS G S d (i + 1) = midS G S d i := funext fun u => by
  unfold midS
  by_cases h1 : u < i
  · rw [if_pos h1, if_pos (by omega)]
  · by_cases h2 : u = i
    · subst h2; rw [if_pos (by omega), if_neg h1, h]
    · rw [if_neg h1, if_neg (by omega)]
theorem mid_updk {G : List (List Nat)} {S : St} {d : Int} {i k : Nat} {e : Int} (h : refAt G S d i = (k, e)) : updF (kF (midS G S d i)) i (J k) = kF (midS G S d (i + 1)) := funext fun u => by
  unfold updF kF midS
  by_cases h2 : u = i
  · subst h2; rw [if_pos rfl, if_pos (by omega), h]
  · rw [if_neg h2]
    by_cases h1 : u < i
    · rw [if_pos h1, if_pos (by omega)]
    · rw [if_neg h1, if_neg (by omega)]
theorem mid_updd {G : List (List Nat)} {S : St} {d : Int} {i k : Nat} {e : Int} (h : refAt G S d i = (k, e)) : updF (dF (midS G S d i)) i (I e) = dF (midS G S d (i + 1)) := funext fun u => by
  unfold updF dF midS
  by_cases h2 : u = i
  · subst h2; rw [if_pos rfl, if_pos (by omega), h]
  · rw [if_neg h2]
    by_cases h1 : u < i
    · rw [if_pos h1, if_pos (by omega)]
    · rw [if_neg h1, if_neg (by omega)]
theorem won_take {S : St} {r : List Nat} {k : Nat} (hk : k < r.length) : won0 S (r.take (k + 1)) = (won0 S (r.take k) || (S r[k]).1 == 0) := by
  unfold won0
  rw [List.take_succ_eq_append_getElem hk, List.any_append]
  simp
theorem all_take {S : St} {r : List Nat} {k : Nat} (hk : k < r.length) : all1 S (r.take (k + 1)) = (all1 S (r.take k) && (S r[k]).1 == 1) := by
  unfold all1
  rw [List.take_succ_eq_append_getElem hk, List.all_append]
  simp
theorem kF_all {S : St} {N : Nat} : (cellsF N (kF S)).all scalar = true := by simp [cellsF, kF, scalar]
theorem osl_pos {q n : Nat} (h : 1 ≤ n) : oslV q n = .slice (some ⟨q, 0, none⟩) n (2 * n + 1) := by
  cases n with
  | zero => omega
  | succ n => rfl
theorem oent_pos {q n : Nat} {e : TypeId} {f : Nat → Value} (h : 1 ≤ n) : oent q e (cellsF n f) = [(q, .cells (cellsF n f) e true)] := by
  cases n with
  | zero => omega
  | succ n => rw [show cellsF (n + 1) f = (List.range (n + 1)).map f from rfl, List.range_succ_eq_map]; rfl
theorem s23 (G : List (List Nat)) (lf n : Nat) (hn1 : 1 ≤ G.length) (hn : G.length ≤ 200) (hlf : 300 ≤ lf) (hG : ∀ i t, t ∈ grow G i → t < G.length) (hrl : ∀ i, (grow G i).length ≤ 200) (v : Value) (h : Hp) (hg : Gr h v (gI G)) :
    ∃ x h', Ev lf (n+1) 23 [v] h = some (x, h') ∧ ∃ ka kb, x = .tuple #[ka, kb] ∧ h.Ext h' ∧ Rds h' ka (cellsF G.length (kF (refS G (G.length + 1)))) ∧ Rds h' kb (cellsF G.length (dF (refS G (G.length + 1)))) := by
  obtain ⟨a, c, hsh⟩ := hg.shape
  rw [gI_len] at hsh
  subst hsh
  refine fnS_ok (Q := fun x h' => ∃ ka kb, x = .tuple #[ka, kb] ∧ h.Ext h' ∧ Rds h' ka (cellsF G.length (kF (refS G (G.length + 1)))) ∧ Rds h' kb (cellsF G.length (dF (refS G (G.length + 1))))) ?_
  have W := Sto.start h
  refine ok_go 2 ?_
  refine ow_new 0 W (.cells (cellsF G.length fun _ => J 0) 3 false) (fun q => .slice (some ⟨q, 0, none⟩) G.length (2 * G.length)) ((by kernel_rfl : _ = makeSliceOp Tryd.prog h 32 (J G.length) (J G.length)).trans (by rw [← zeros_one]; exact makeSl (z := J 0) (inf := (Tryd.prog.info? 3).get!) u32 (by kernel_rfl) (by kernel_rfl) (by kernel_rfl) (by kernel_rfl) (by kernel_rfl) (by omega))) fun g1 ng1 W => ?_
  refine ok_go 0 ?_
  refine ow_new 0 W (.cells (cellsF G.length fun _ => J 0) 3 false) (fun q => .slice (some ⟨q, 0, none⟩) G.length (2 * G.length)) ((by kernel_rfl : _ = makeSliceOp Tryd.prog g1 32 (J G.length) (J G.length)).trans (by rw [← zeros_one]; exact makeSl (z := J 0) (inf := (Tryd.prog.info? 3).get!) u32 (by kernel_rfl) (by kernel_rfl) (by kernel_rfl) (by kernel_rfl) (by kernel_rfl) (by omega))) fun g2 ng2 W => ?_
  refine sy_need 0 [] [⟨some (Value.int IntKind.i64 (Int.ofNat (List.length G)), g1), Value.int IntKind.i64 (Int.ofNat (List.length G)), g1⟩] (by kernel_rfl) ⟨rfl, trivial⟩ ?_
  refine ok_go 0 ?_
  have W : Sto h g2 [(g1.next, .cells (cellsF G.length fun _ => J 0) 3 false), (h.next, .cells (cellsF G.length fun u => if u < 0 then J 2 else J 0) 3 false)] := by
    rw [cellsF_congr (f := fun u => if u < 0 then J 2 else J 0) (g := fun _ => J 0) fun u _ => if_neg (Nat.not_lt_zero u)]
    exact W
  refine sy_loop 0 lf g2 (α := Nat) (fun i => [(0, .slice a G.length c), (4, .slice (some ⟨h.next, 0, none⟩) G.length (2 * G.length)), (5, .slice (some ⟨g1.next, 0, none⟩) G.length (2 * G.length)), (6, J i)]) (fun i g => i ≤ G.length ∧ Sto h g [(g1.next, .cells (cellsF G.length fun _ => J 0) 3 false), (h.next, .cells (cellsF G.length fun u => if u < i then J 2 else J 0) 3 false)]) (fun i _ => G.length - i) 0 (by kernel_rfl) (by kernel_rfl)
    ⟨by kernel_rfl, by kernel_rfl, by kernel_rfl, by kernel_rfl, trivial⟩ (show G.length - 0 < lf by omega) ⟨Nat.zero_le _, W⟩ ?_
  rintro m1 i f1 g ⟨hi, W⟩ ih
  have hw : IntKind.wrap .i64 (Int.ofNat (i + 1)) = Int.ofNat (i + 1) := wrap_nat (by omega)
  refine ok_go 2 ?_
  refine sy_test 0 (decide (Int.ofNat i < Int.ofNat G.length)) (by kernel_rfl) ?_ ?_
  · intro hlt
    have hlt : i < G.length := ok_nat hlt
    refine ok_go 0 ?_
    refine sy_load 0 (r := indexAddrOp Tryd.prog 32 (.slice (some ⟨h.next, 0, none⟩) G.length (2 * G.length)) (J i)) (h' := g) (by kernel_rfl) (idxS0 (e := 3) (by kernel_rfl) (by kernel_rfl) hlt) ?_
    refine ok_go 0 ?_
    refine ow_storeF (P := Tryd.prog) (T := 3) (off := i) (v := J 2) 0 1 W rfl hlt (by kernel_rfl) (by kernel_rfl) (by kernel_rfl) fun g3 ng3 W => ?_
    have W : Sto h g3 [(g1.next, .cells (cellsF G.length fun _ => J 0) 3 false), (h.next, .cells (cellsF G.length fun u => if u < i + 1 then J 2 else J 0) 3 false)] := by
      rw [cellsF_congr (f := fun u => if u < i + 1 then J 2 else J 0) (g := updF (fun u => if u < i then J 2 else J 0) i (J 2)) fun u _ => by
        unfold updF
        by_cases h2 : u = i
        · rw [if_pos h2, if_pos (by omega)]
        · rw [if_neg h2]
          dsimp only
          by_cases h1 : u < i
          · rw [if_pos h1, if_pos (by omega)]
          · rw [if_neg h1, if_neg (by omega)]]
      exact W
    refine ok_go 1 ?_
    exact sy_next 0 _ g3 (by kernel_rfl) (by kernel_rfl) (ih (i + 1) _ g3 ⟨hlt, W⟩ (show G.length - (i + 1) < G.length - i by omega) ⟨by kernel_rfl, by kernel_rfl, by kernel_rfl, (by kernel_rfl : _ = Value.int .i64 (IntKind.wrap .i64 (Int.ofNat (i + 1)))).trans (by rw [hw]), trivial⟩)
  · intro hlt
    have hlt : i = G.length := Nat.le_antisymm hi (no_nat hlt)
    subst hlt
    have W : Sto h g [(g1.next, .cells (cellsF G.length (dF (refS G 0))) 3 false), (h.next, .cells (cellsF G.length (kF (refS G 0))) 3 false)] := by
      rw [cellsF_congr (f := kF (refS G 0)) (g := fun u => if u < G.length then J 2 else J 0) fun u hu => (if_pos hu).symm]
      exact W
    have hfb := W.lt 0 rfl
    generalize g1.next = fb at *
    generalize h.next = ob at *
    refine ok_go 0 ?_
    refine sy_loop 0 lf g (α := Nat × Nat × Nat × Bool) (fun x => [(0, .slice a G.length c), (4, .slice (some ⟨x.2.1, 0, none⟩) G.length (x.2.2.1)), (5, .slice (some ⟨fb, 0, none⟩) G.length (2 * G.length)), (7, J x.1)]) (fun x g => x.1 ≤ G.length + 1 ∧ Sto h g [(fb, .cells (cellsF G.length (dF (refS G x.1))) 3 false), (x.2.1, .cells (cellsF G.length (kF (refS G x.1))) 3 x.2.2.2)]) (fun x _ => G.length + 1 - x.1) (0, ob, 2 * G.length, false) (by kernel_rfl) (by kernel_rfl)
      ⟨by kernel_rfl, by kernel_rfl, by kernel_rfl, by kernel_rfl, trivial⟩ (show G.length + 1 - 0 < lf by omega) ⟨Nat.zero_le _, W⟩ ?_
    clear W hfb hw ih hi
    rintro m2 ⟨d, ob, cap, o⟩ f2 g ⟨hd, W⟩ ih
    dsimp only at hd W
    have hw : IntKind.wrap .i64 (Int.ofNat (d + 1)) = Int.ofNat (d + 1) := wrap_nat (by omega)
    refine ok_go 2 ?_
    refine sy_test 0 (decide (Int.ofNat d ≤ Int.ofNat G.length)) (by kernel_rfl) ?_ ?_
    · intro hdn
      have hdn : d ≤ G.length := Int.ofNat_le.1 (of_decide_eq_true hdn)
      generalize hS : refS G d = S at *
      have hSd : refS G (d + 1) = refAt G S d := by rw [← hS]; rfl
      refine ok_go 0 ?_
      refine ow_rds 0 W slz32 (rd_cells (c := cap) (W.lt 1 rfl) (W.get 1 rfl)) kF_all (by rw [cellsF_len]; omega) (by kernel_rfl) fun g3 sl ng3 hsl hsc W => ?_
      rw [cellsF_len, osl_pos hn1] at hsl
      rw [oent_pos hn1] at W
      subst hsl
      clear hsc
      have W := W.perm (l' := [(g.next, .cells (cellsF G.length (kF S)) 3 true), (fb, .cells (cellsF G.length (dF S)) 3 false), (ob, .cells (cellsF G.length (kF S)) 3 o)]) (List.perm_append_comm (l₁ := [(fb, AObj.cells (cellsF G.length (dF S)) 3 false), (ob, AObj.cells (cellsF G.length (kF S)) 3 o)]) (l₂ := [(g.next, AObj.cells (cellsF G.length (kF S)) 3 true)]))
      generalize g.next = nb at *
      refine ok_go 0 ?_
      refine sy_loop 0 lf g3 (α := Nat) (fun i => [(0, .slice a G.length c), (4, .slice (some ⟨ob, 0, none⟩) G.length (cap)), (5, .slice (some ⟨fb, 0, none⟩) G.length (2 * G.length)), (7, J d), (8, .slice (some ⟨nb, 0, none⟩) G.length (2 * G.length + 1)), (9, J i)]) (fun i g => i ≤ G.length ∧ Sto h g [(nb, .cells (cellsF G.length (kF (midS G S d i))) 3 true), (fb, .cells (cellsF G.length (dF (midS G S d i))) 3 false), (ob, .cells (cellsF G.length (kF S)) 3 o)]) (fun i _ => G.length - i) 0 (by kernel_rfl) (by kernel_rfl)
        ⟨by kernel_rfl, by kernel_rfl, by kernel_rfl, by kernel_rfl, by kernel_rfl, by kernel_rfl, trivial⟩ (show G.length - 0 < lf by omega) ⟨Nat.zero_le _, by rw [mid_zero]; exact W⟩ ?_
      clear W
      rintro m3 i f3 g4 ⟨hi, W⟩ ih3
      have hwi : IntKind.wrap .i64 (Int.ofNat (i + 1)) = Int.ofNat (i + 1) := wrap_nat (by omega)
      refine ok_go 2 ?_
      refine sy_test 0 (decide (Int.ofNat i < Int.ofNat G.length)) (by kernel_rfl) ?_ ?_
      · intro hlt
        have hlt : i < G.length := ok_nat hlt
        refine ok_go 0 ?_
        refine sy_load 0 (r := indexAddrOp Tryd.prog 32 (.slice (some ⟨ob, 0, none⟩) G.length (cap)) (J i)) (h' := g4) (by kernel_rfl) (idxS0 (e := 3) (by kernel_rfl) (by kernel_rfl) hlt) ?_
        refine ok_go 0 ?_
        refine ow_loadF (P := Tryd.prog) (T := 3) (off := i) 0 2 W rfl hlt (by kernel_rfl) (by kernel_rfl) ?_
        refine ok_go 1 ?_
        refine sy_test 0 (Int.ofNat (S i).1 != 2) (by kernel_rfl) ?_ ?_
        · intro h2
          have h2 : (S i).1 ≠ 2 := fun h => by rw [h] at h2; exact absurd h2 (by decide)
          refine ok_go 1 ?_
          exact sy_next 0 _ g4 (by kernel_rfl) (by kernel_rfl) (ih3 (i + 1) _ g4 ⟨hlt, by rw [mid_same (refAt_old h2)]; exact W⟩ (show G.length - (i + 1) < G.length - i by omega) ⟨by kernel_rfl, by kernel_rfl, by kernel_rfl, by kernel_rfl, by kernel_rfl, (by kernel_rfl : _ = Value.int .i64 (IntKind.wrap .i64 (Int.ofNat (i + 1)))).trans (by rw [hwi]), trivial⟩)
        · intro h2
          have h2 : (S i).1 = 2 := by
            have : ((S i).1 : Int) = 2 := by simpa [bne] using h2
            omega
          have hrow := (hg.ext W.ext).rowN hlt
          obtain ⟨p, rv, hp1, hp2, hr⟩ := hrow
          obtain ⟨ra, rc, hrs⟩ := hr.shape
          rw [List.length_map] at hrs
          subst hrs
          refine ok_go 0 ?_
          refine sy_loop 0 lf g4 (α := Nat × Bool × Bool) (fun x => [(0, .slice a G.length c), (4, .slice (some ⟨ob, 0, none⟩) G.length (cap)), (5, .slice (some ⟨fb, 0, none⟩) G.length (2 * G.length)), (7, J d), (8, .slice (some ⟨nb, 0, none⟩) G.length (2 * G.length + 1)), (9, J i), (10, .bool x.2.1), (11, .bool x.2.2), (12, J x.1)]) (fun x g => x.1 ≤ (grow G i).length ∧ g = g4 ∧ x.2.1 = won0 S ((grow G i).take x.1) ∧ x.2.2 = all1 S ((grow G i).take x.1)) (fun x _ => (grow G i).length - x.1) (0, false, true) (by kernel_rfl) (by kernel_rfl)
            ⟨by kernel_rfl, by kernel_rfl, by kernel_rfl, by kernel_rfl, by kernel_rfl, by kernel_rfl, by kernel_rfl, by kernel_rfl, by kernel_rfl, trivial⟩ (show (grow G i).length - 0 < lf by have := hrl i; omega) ⟨Nat.zero_le _, rfl, rfl, rfl⟩ ?_
          rintro m4 ⟨k, wo, lo⟩ f4 g5 ⟨hk, rfl, hwo, hlo⟩ ih4
          dsimp only at hk hwo hlo
          have hwk : IntKind.wrap .i64 (Int.ofNat (k + 1)) = Int.ofNat (k + 1) := wrap_nat (by have := hrl i; omega)
          refine ok_go 0 ?_
          refine sy_load 0 (r := indexAddrOp Tryd.prog 31 (.slice a G.length c) (J i)) (h' := g5) (by kernel_rfl) hp1 ?_
          refine ok_go 0 ?_
          refine sy_load 0 (r := loadT Tryd.prog g5 32 p) (h' := g5) (by kernel_rfl) hp2 ?_
          refine ok_go 2 ?_
          refine sy_test 0 (decide (Int.ofNat k < Int.ofNat (grow G i).length)) (by kernel_rfl) ?_ ?_
          · intro hkt
            have hkt : k < (grow G i).length := ok_nat hkt
            obtain ⟨q, hq1, hq2⟩ := hr.read (kd := .i64) (k := k) (v := J (grow G i)[k]) u32 z3 aggI (by rw [List.getElem?_map, List.getElem?_eq_getElem hkt]; rfl)
            have htn := hG i _ (List.getElem_mem hkt)
            cases wo with
            | true =>
              cases lo with
              | false =>
                refine ok_go 25 ?_
                exact sy_next 0 _ g5 (by kernel_rfl) (by kernel_rfl) (ih4 (k + 1, true, false) _ g5 ⟨hkt, rfl, by rw [won_take hkt, ← hwo]; rfl, by rw [all_take hkt, ← hlo]; rfl⟩ (show (grow G i).length - (k + 1) < (grow G i).length - k by omega) ⟨by kernel_rfl, by kernel_rfl, by kernel_rfl, by kernel_rfl, by kernel_rfl, by kernel_rfl, by kernel_rfl, by kernel_rfl, (by kernel_rfl : _ = Value.int .i64 (IntKind.wrap .i64 (Int.ofNat (k + 1)))).trans (by rw [hwk]), trivial⟩)
              | true =>
                refine ok_go 16 ?_
                refine sy_load 0 (r := indexAddrOp Tryd.prog 31 (.slice a G.length c) (J i)) (h' := g5) (by kernel_rfl) hp1 ?_
                refine ok_go 1 ?_
                refine sy_load 0 (r := loadT Tryd.prog g5 32 p) (h' := g5) (by kernel_rfl) hp2 ?_
                refine ok_go 2 ?_
                refine sy_load 0 (r := indexAddrOp Tryd.prog 32 (.slice ra (grow G i).length rc) (J k)) (h' := g5) (by kernel_rfl) hq1 ?_
                refine ok_go 1 ?_
                refine sy_load 0 (r := loadT Tryd.prog g5 3 q) (h' := g5) (by kernel_rfl) hq2 ?_
                refine ok_go 1 ?_
                refine sy_load 0 (r := indexAddrOp Tryd.prog 32 (.slice (some ⟨ob, 0, none⟩) G.length (cap)) (J (grow G i)[k])) (h' := g5) (by kernel_rfl) (idxS0 (e := 3) (by kernel_rfl) (by kernel_rfl) htn) ?_
                refine ok_go 1 ?_
                refine ow_loadF (P := Tryd.prog) (T := 3) (off := (grow G i)[k]) 0 2 W rfl htn (by kernel_rfl) (by kernel_rfl) ?_
                refine ok_go 4 ?_
                exact sy_next 0 _ g5 (by kernel_rfl) (by kernel_rfl) (ih4 (k + 1, true, (Int.ofNat (S (grow G i)[k]).1 == 1)) _ g5 ⟨hkt, rfl, by rw [won_take hkt, ← hwo]; rfl, by rw [all_take hkt, ← hlo]; exact beq_nat _ 1⟩ (show (grow G i).length - (k + 1) < (grow G i).length - k by omega) ⟨by kernel_rfl, by kernel_rfl, by kernel_rfl, by kernel_rfl, by kernel_rfl, by kernel_rfl, by kernel_rfl, by kernel_rfl, (by kernel_rfl : _ = Value.int .i64 (IntKind.wrap .i64 (Int.ofNat (k + 1)))).trans (by rw [hwk]), trivial⟩)
            | false =>
              refine ok_go 4 ?_
              refine sy_load 0 (r := indexAddrOp Tryd.prog 31 (.slice a G.length c) (J i)) (h' := g5) (by kernel_rfl) hp1 ?_
              refine ok_go 1 ?_
              refine sy_load 0 (r := loadT Tryd.prog g5 32 p) (h' := g5) (by kernel_rfl) hp2 ?_
              refine ok_go 2 ?_
              refine sy_load 0 (r := indexAddrOp Tryd.prog 32 (.slice ra (grow G i).length rc) (J k)) (h' := g5) (by kernel_rfl) hq1 ?_
              refine ok_go 1 ?_
              refine sy_load 0 (r := loadT Tryd.prog g5 3 q) (h' := g5) (by kernel_rfl) hq2 ?_
              refine ok_go 1 ?_
              refine sy_load 0 (r := indexAddrOp Tryd.prog 32 (.slice (some ⟨ob, 0, none⟩) G.length (cap)) (J (grow G i)[k])) (h' := g5) (by kernel_rfl) (idxS0 (e := 3) (by kernel_rfl) (by kernel_rfl) htn) ?_
              refine ok_go 1 ?_
              refine ow_loadF (P := Tryd.prog) (T := 3) (off := (grow G i)[k]) 0 2 W rfl htn (by kernel_rfl) (by kernel_rfl) ?_
              refine ok_go 3 ?_
              cases lo with
              | false =>
                refine ok_go 13 ?_
                exact sy_next 0 _ g5 (by kernel_rfl) (by kernel_rfl) (ih4 (k + 1, (Int.ofNat (S (grow G i)[k]).1 == 0), false) _ g5 ⟨hkt, rfl, by rw [won_take hkt, ← hwo]; exact beq_nat _ 0, by rw [all_take hkt, ← hlo]; rfl⟩ (show (grow G i).length - (k + 1) < (grow G i).length - k by omega) ⟨by kernel_rfl, by kernel_rfl, by kernel_rfl, by kernel_rfl, by kernel_rfl, by kernel_rfl, by kernel_rfl, by kernel_rfl, (by kernel_rfl : _ = Value.int .i64 (IntKind.wrap .i64 (Int.ofNat (k + 1)))).trans (by rw [hwk]), trivial⟩)
              | true =>
                refine ok_go 4 ?_
                refine sy_load 0 (r := indexAddrOp Tryd.prog 31 (.slice a G.length c) (J i)) (h' := g5) (by kernel_rfl) hp1 ?_
                refine ok_go 1 ?_
                refine sy_load 0 (r := loadT Tryd.prog g5 32 p) (h' := g5) (by kernel_rfl) hp2 ?_
                refine ok_go 2 ?_
                refine sy_load 0 (r := indexAddrOp Tryd.prog 32 (.slice ra (grow G i).length rc) (J k)) (h' := g5) (by kernel_rfl) hq1 ?_
                refine ok_go 1 ?_
                refine sy_load 0 (r := loadT Tryd.prog g5 3 q) (h' := g5) (by kernel_rfl) hq2 ?_
                refine ok_go 1 ?_
                refine sy_load 0 (r := indexAddrOp Tryd.prog 32 (.slice (some ⟨ob, 0, none⟩) G.length (cap)) (J (grow G i)[k])) (h' := g5) (by kernel_rfl) (idxS0 (e := 3) (by kernel_rfl) (by kernel_rfl) htn) ?_
                refine ok_go 1 ?_
                refine ow_loadF (P := Tryd.prog) (T := 3) (off := (grow G i)[k]) 0 2 W rfl htn (by kernel_rfl) (by kernel_rfl) ?_
                refine ok_go 4 ?_
                exact sy_next 0 _ g5 (by kernel_rfl) (by kernel_rfl) (ih4 (k + 1, (Int.ofNat (S (grow G i)[k]).1 == 0), (Int.ofNat (S (grow G i)[k]).1 == 1)) _ g5 ⟨hkt, rfl, by rw [won_take hkt, ← hwo]; exact beq_nat _ 0, by rw [all_take hkt, ← hlo]; exact beq_nat _ 1⟩ (show (grow G i).length - (k + 1) < (grow G i).length - k by omega) ⟨by kernel_rfl, by kernel_rfl, by kernel_rfl, by kernel_rfl, by kernel_rfl, by kernel_rfl, by kernel_rfl, by kernel_rfl, (by kernel_rfl : _ = Value.int .i64 (IntKind.wrap .i64 (Int.ofNat (k + 1)))).trans (by rw [hwk]), trivial⟩)
          · intro hkt
            have hkt : k = (grow G i).length := Nat.le_antisymm hk (no_nat hkt)
            subst hkt
            rw [List.take_length] at hwo hlo
            cases wo with
            | true =>
              have hr : refAt G S d i = (1, (d : Int)) := by rw [refAt_new h2, ← hwo]; rfl
              refine ok_go 1 ?_
              refine sy_load 0 (r := indexAddrOp Tryd.prog 32 (.slice (some ⟨nb, 0, none⟩) G.length (2 * G.length + 1)) (J i)) (h' := g5) (by kernel_rfl) (idxS0 (e := 3) (by kernel_rfl) (by kernel_rfl) hlt) ?_
              refine ok_go 0 ?_
              refine ow_storeF (P := Tryd.prog) (T := 3) (off := i) (v := J 1) 0 0 W rfl hlt (by kernel_rfl) (by kernel_rfl) (by kernel_rfl) fun g6 ng6 W => ?_
              refine ok_go 0 ?_
              refine sy_load 0 (r := indexAddrOp Tryd.prog 32 (.slice (some ⟨fb, 0, none⟩) G.length (2 * G.length)) (J i)) (h' := g6) (by kernel_rfl) (idxS0 (e := 3) (by kernel_rfl) (by kernel_rfl) hlt) ?_
              refine ok_go 0 ?_
              refine ow_storeF (P := Tryd.prog) (T := 3) (off := i) (v := J d) 0 1 W rfl hlt (by kernel_rfl) (by kernel_rfl) (by kernel_rfl) fun g7 ng7 W => ?_
              refine ok_go 1 ?_
              have W : Sto h g7 [(nb, .cells (cellsF G.length (kF (midS G S d (i + 1)))) 3 true), (fb, .cells (cellsF G.length (dF (midS G S d (i + 1)))) 3 false), (ob, .cells (cellsF G.length (kF S)) 3 o)] := by
                rw [← mid_updk hr, ← mid_updd hr]
                exact W
              exact sy_next 0 _ g7 (by kernel_rfl) (by kernel_rfl) (ih3 (i + 1) _ g7 ⟨hlt, W⟩ (show G.length - (i + 1) < G.length - i by omega) ⟨by kernel_rfl, by kernel_rfl, by kernel_rfl, by kernel_rfl, by kernel_rfl, (by kernel_rfl : _ = Value.int .i64 (IntKind.wrap .i64 (Int.ofNat (i + 1)))).trans (by rw [hwi]), trivial⟩)
            | false =>
              cases lo with
              | true =>
                have hr : refAt G S d i = (0, (d : Int)) := by rw [refAt_new h2, ← hwo, ← hlo]; rfl
                refine ok_go 2 ?_
                refine sy_load 0 (r := indexAddrOp Tryd.prog 32 (.slice (some ⟨nb, 0, none⟩) G.length (2 * G.length + 1)) (J i)) (h' := g5) (by kernel_rfl) (idxS0 (e := 3) (by kernel_rfl) (by kernel_rfl) hlt) ?_
                refine ok_go 0 ?_
                refine ow_storeF (P := Tryd.prog) (T := 3) (off := i) (v := J 0) 0 0 W rfl hlt (by kernel_rfl) (by kernel_rfl) (by kernel_rfl) fun g6 ng6 W => ?_
                refine ok_go 0 ?_
                refine sy_load 0 (r := indexAddrOp Tryd.prog 32 (.slice (some ⟨fb, 0, none⟩) G.length (2 * G.length)) (J i)) (h' := g6) (by kernel_rfl) (idxS0 (e := 3) (by kernel_rfl) (by kernel_rfl) hlt) ?_
                refine ok_go 0 ?_
                refine ow_storeF (P := Tryd.prog) (T := 3) (off := i) (v := J d) 0 1 W rfl hlt (by kernel_rfl) (by kernel_rfl) (by kernel_rfl) fun g7 ng7 W => ?_
                refine ok_go 1 ?_
                have W : Sto h g7 [(nb, .cells (cellsF G.length (kF (midS G S d (i + 1)))) 3 true), (fb, .cells (cellsF G.length (dF (midS G S d (i + 1)))) 3 false), (ob, .cells (cellsF G.length (kF S)) 3 o)] := by
                  rw [← mid_updk hr, ← mid_updd hr]
                  exact W
                exact sy_next 0 _ g7 (by kernel_rfl) (by kernel_rfl) (ih3 (i + 1) _ g7 ⟨hlt, W⟩ (show G.length - (i + 1) < G.length - i by omega) ⟨by kernel_rfl, by kernel_rfl, by kernel_rfl, by kernel_rfl, by kernel_rfl, (by kernel_rfl : _ = Value.int .i64 (IntKind.wrap .i64 (Int.ofNat (i + 1)))).trans (by rw [hwi]), trivial⟩)
              | false =>
                have hr : refAt G S d i = S i := by rw [refAt_new h2, ← hwo, ← hlo]; rfl
                refine ok_go 3 ?_
                exact sy_next 0 _ g5 (by kernel_rfl) (by kernel_rfl) (ih3 (i + 1) _ g5 ⟨hlt, by rw [mid_same hr]; exact W⟩ (show G.length - (i + 1) < G.length - i by omega) ⟨by kernel_rfl, by kernel_rfl, by kernel_rfl, by kernel_rfl, by kernel_rfl, (by kernel_rfl : _ = Value.int .i64 (IntKind.wrap .i64 (Int.ofNat (i + 1)))).trans (by rw [hwi]), trivial⟩)
      · intro hlt
        have hlt : i = G.length := Nat.le_antisymm hi (no_nat hlt)
        subst hlt
        refine ok_go 1 ?_
        have W := (W.take 2).perm (l' := [(fb, .cells (cellsF G.length (dF (refS G (d + 1)))) 3 false), (nb, .cells (cellsF G.length (kF (refS G (d + 1)))) 3 true)]) (by
          rw [hSd, cellsF_congr (f := dF (refAt G S d)) (g := dF (midS G S d G.length)) fun u hu => by unfold dF; rw [mid_all hu], cellsF_congr (f := kF (refAt G S d)) (g := kF (midS G S d G.length)) fun u hu => by unfold kF; rw [mid_all hu]]
          exact List.Perm.swap ..)
        exact sy_next 0 _ g4 (by kernel_rfl) (by kernel_rfl) (ih (d + 1, nb, 2 * G.length + 1, true) _ g4 ⟨by omega, W⟩ (show G.length + 1 - (d + 1) < G.length + 1 - d by omega) ⟨by kernel_rfl, by kernel_rfl, by kernel_rfl, (by kernel_rfl : _ = Value.int .i64 (IntKind.wrap .i64 (Int.ofNat (d + 1)))).trans (by rw [hw]), trivial⟩)
    · intro hdn
      have hdn : G.length < d := Nat.lt_of_not_le fun h => (of_decide_eq_false hdn) (Int.ofNat_le.2 h)
      obtain rfl : d = G.length + 1 := by omega
      refine ok_go 0 ?_
      refine sy_done 0 (v := Value.tuple { toList := [Value.slice (some { block := Prod.fst (Prod.snd (List.length G + 1, ob, cap, o)), off := 0 }) (List.length G) (Prod.fst (Prod.snd (Prod.snd (List.length G + 1, ob, cap, o)))), Value.slice (some { block := fb, off := 0 }) (List.length G) (2 * List.length G)] }) (h := g) (by kernel_rfl) ?_
      exact ⟨_, _, rfl, W.ext, rd_cells (W.lt 1 rfl) (W.get 1 rfl), rd_cells (W.lt 0 rfl) (W.get 0 rfl)⟩
end Go.Proofs.YtegcmgjldapnmaaDoor
namespace Go.Proofs.YtegcmgjldapnmaaDoor.Nim
/-- The best so far: among those that count, the first whose number is least. -/
def pkC (c : Nat → Bool) (f : Nat → Int) (b : Option Nat) (w : Nat) : Bool := c w && (match b with | none => true | some x => decide (f w < f x))
def pkS (c : Nat → Bool) (f : Nat → Int) (b : Option Nat) (w : Nat) : Option Nat := if pkC c f b w = true then some w else b
def pk (c : Nat → Bool) (f : Nat → Int) (r : List Nat) : Option Nat := r.foldl (pkS c f) none
theorem pk_take {c : Nat → Bool} {f : Nat → Int} {r : List Nat} {k : Nat} (hk : k < r.length) : pk c f (r.take (k + 1)) = pkS c f (pk c f (r.take k)) r[k] := by
  unfold pk
  rw [List.take_succ_eq_append_getElem hk, List.foldl_append]
  rfl
theorem pk_mem {c : Nat → Bool} {f : Nat → Int} {r : List Nat} {x : Nat} : ∀ k, k ≤ r.length → pk c f (r.take k) = some x → x ∈ r
  | 0, _, h => by cases h
  | k + 1, hk, h => by
    rw [pk_take (by omega)] at h
    unfold pkS at h
    split at h
    · injection h with h; subst h; exact List.getElem_mem _
    · exact pk_mem k (by omega) h
theorem pk_find {c : Nat → Bool} {f : Nat → Int} {m : Int} {r : List Nat} (hm : ∀ w ∈ r, c w = true → m ≤ f w) : ∀ k, k ≤ r.length →
    (∃ x, (r.take k).find? (fun w => c w && f w == m) = some x ∧ pk c f (r.take k) = some x) ∨ ((r.take k).find? (fun w => c w && f w == m) = none ∧ ∀ x, pk c f (r.take k) = some x → m < f x)
  | 0, _ => .inr ⟨rfl, fun x h => by cases h⟩
  | k + 1, hk => by
    have hk : k < r.length := hk
    have h1 := hm r[k] (List.getElem_mem hk)
    rw [pk_take hk, List.take_succ_eq_append_getElem hk, List.find?_append]
    rcases pk_find hm k (by omega) with ⟨x, e1, e2⟩ | ⟨e1, e2⟩
    · refine .inl ⟨x, by rw [e1]; rfl, ?_⟩
      rw [e2]
      have hx := List.find?_some e1
      rw [Bool.and_eq_true, beq_iff_eq] at hx
      unfold pkS
      rw [if_neg]
      intro hc
      unfold pkC at hc
      rw [Bool.and_eq_true] at hc
      have h2 := h1 hc.1
      have h3 := of_decide_eq_true hc.2
      omega
    · rw [e1]
      by_cases hg : (c r[k] && f r[k] == m) = true
      · refine .inl ⟨r[k], by simp only [Option.none_or, List.find?_cons, hg], ?_⟩
        rw [Bool.and_eq_true, beq_iff_eq] at hg
        unfold pkS
        rw [if_pos]
        unfold pkC
        rw [hg.1, Bool.true_and]
        cases hp : pk c f (r.take k) with
        | none => rfl
        | some x => have := e2 x hp; exact decide_eq_true (by omega)
      · refine .inr ⟨by simp only [Option.none_or, List.find?_cons, Bool.not_eq_true _ ▸ hg, List.find?_nil], fun x hx => ?_⟩
        unfold pkS at hx
        split at hx
        · rename_i hc
          injection hx with hx
          subst hx
          unfold pkC at hc
          rw [Bool.and_eq_true] at hc
          have h2 := h1 hc.1
          rw [Bool.and_eq_true, beq_iff_eq] at hg
          have : f r[k] ≠ m := fun h => hg ⟨hc.1, h⟩
          omega
        · exact e2 x hx
/-- What counts, and how much. -/
def cB (S : St) (i w : Nat) : Bool := if (S i).1 = 1 then (S w).1 == 0 else if (S i).1 = 2 then (S w).1 == 2 else true
def fB (S : St) (i w : Nat) : Int := if (S i).1 = 1 then (S w).2 else if (S i).1 = 2 then 0 else - (S w).2
end Go.Proofs.YtegcmgjldapnmaaDoor.Nim
namespace Go.Proofs.YtegcmgjldapnmaaDoor
open Go Go.Eng Nim
set_option maxRecDepth 100000
set_option maxHeartbeats 8000000
theorem find_same {p q : Nat → Bool} : ∀ {r : List Nat}, (∀ w ∈ r, p w = q w) → r.find? p = r.find? q
  | [], _ => rfl
  | w :: r, h => by
    rw [List.find?_cons, List.find?_cons, h w (by simp), find_same fun x hx => h x (by simp [hx])]
theorem best_pk {G : List (List Nat)} {d : Nat} (i : Nat) : pk (cB (refS G d) i) (fB (refS G d) i) (grow G i) = bestP G (refS G d) i := by
  have V := inv_refS (G := G) d
  have F := fin_refS (G := G) d
  generalize refS G d = S at *
  have hk := V.k i
  have out : ∀ m, (∀ w ∈ grow G i, cB S i w = true → m ≤ fB S i w) → (∀ w ∈ grow G i, (cB S i w && fB S i w == m) = decide (S w = wantP S i)) → ((∃ w ∈ grow G i, (cB S i w && fB S i w == m) = true) ∨ (∀ w, fB S i w ≤ m) ∨ grow G i = []) → pk (cB S i) (fB S i) (grow G i) = bestP G S i := by
    intro m hm hs he
    unfold bestP
    rw [← find_same hs]
    rcases pk_find hm (grow G i).length (Nat.le_refl _) with ⟨x, e1, e2⟩ | ⟨e1, e2⟩
    · rw [List.take_length] at e1 e2; rw [e1, e2]
    · rw [List.take_length] at e1 e2
      rw [e1]
      cases hp : pk (cB S i) (fB S i) (grow G i) with
      | none => rfl
      | some x =>
        have h1 := e2 x hp
        rcases he with ⟨w, hw, hg⟩ | h | h
        · rw [List.find?_eq_none] at e1
          exact absurd hg (e1 w hw)
        · have := h x; omega
        · rw [h] at hp; cases hp
  rcases (show (S i).1 = 1 ∨ (S i).1 = 2 ∨ (S i).1 = 0 by omega) with h1 | h1 | h1
  · have hc : ∀ w, cB S i w = ((S w).1 == 0) := fun w => by unfold cB; rw [if_pos h1]
    have hf : ∀ w, fB S i w = (S w).2 := fun w => by unfold fB; rw [if_pos h1]
    refine out ((S i).2 - 1) (fun w hw hcw => ?_) (fun w hw => ?_) ?_
    · rw [hc, beq_iff_eq] at hcw; rw [hf]; exact F.w2 i h1 w hw hcw
    · rw [hc, hf, Bool.eq_iff_iff, decide_eq_true_iff, Bool.and_eq_true, beq_iff_eq, beq_iff_eq]
      unfold wantP
      simp [h1, Prod.ext_iff]
    · obtain ⟨t, ht, e⟩ := F.w1 i h1
      exact .inl ⟨t, ht, by rw [hc, hf, e]; simp⟩
  · have hc : ∀ w, cB S i w = ((S w).1 == 2) := fun w => by unfold cB; rw [if_neg (by omega), if_pos h1]
    have hf : ∀ w, fB S i w = 0 := fun w => by unfold fB; rw [if_neg (by omega), if_pos h1]
    refine out 0 (fun w hw hcw => by rw [hf]; exact Int.le_refl _) (fun w hw => ?_) (.inr (.inl fun w => by rw [hf]; exact Int.le_refl _))
    rw [hc, hf, Bool.eq_iff_iff, decide_eq_true_iff, Bool.and_eq_true, beq_iff_eq, beq_iff_eq]
    unfold wantP
    simp only [h1]
    constructor
    · rintro ⟨h, _⟩; simpa using V.dr w h
    · intro h; exact ⟨by simpa using congrArg Prod.fst h, trivial⟩
  · have hc : ∀ w, cB S i w = true := fun w => by unfold cB; rw [if_neg (by omega), if_neg (by omega)]
    have hf : ∀ w, fB S i w = - (S w).2 := fun w => by unfold fB; rw [if_neg (by omega), if_neg (by omega)]
    refine out (- ((S i).2 - 1)) (fun w hw hcw => ?_) (fun w hw => ?_) ?_
    · rw [hf]; have := (F.l1 i h1 w hw).2; omega
    · have := (F.l1 i h1 w hw).1
      rw [hc, hf, Bool.eq_iff_iff, decide_eq_true_iff, Bool.true_and, beq_iff_eq]
      unfold wantP
      simp [h1, Prod.ext_iff, this]
    · by_cases hn : grow G i = []
      · exact .inr (.inr hn)
      · obtain ⟨t, ht, e⟩ := F.l2 i h1 hn
        exact .inl ⟨t, ht, by rw [hc, hf, e]; simp⟩
end Go.Proofs.YtegcmgjldapnmaaDoor
namespace Go.Proofs.YtegcmgjldapnmaaDoor.Nim
theorem pkS_lt {c : Nat → Bool} {f : Nat → Int} {w x : Nat} (hc : c w = true) (hl : f w < f x) : pkS c f (some x) w = some w := if_pos (by unfold pkC; rw [hc]; exact decide_eq_true hl)
theorem pkS_ge {c : Nat → Bool} {f : Nat → Int} {w x : Nat} (hl : ¬ f w < f x) : pkS c f (some x) w = some x := if_neg (by unfold pkC; intro h; rw [Bool.and_eq_true] at h; exact hl (of_decide_eq_true h.2))
end Go.Proofs.YtegcmgjldapnmaaDoor.Nim
namespace Go.Proofs.YtegcmgjldapnmaaDoor
open Go Go.Eng Nim
set_option maxRecDepth 100000
set_option maxHeartbeats 8000000
def bz : Option Nat → Int
  | none => -1
  | some x => Int.ofNat x
theorem s25 (G : List (List Nat)) (i : Nat) (hi : i < G.length) (lf n : Nat) (hn : G.length ≤ 200) (hlf : 300 ≤ lf) (hG : ∀ i t, t ∈ grow G i → t < G.length) (hrl : ∀ i, (grow G i).length ≤ 200) (v : Value) (h : Hp) (hg : Gr h v (gI G))
    (oc : ∃ x h', Ev lf n 23 [v] h = some (x, h') ∧ ∃ ka kb, x = .tuple #[ka, kb] ∧ h.Ext h' ∧ Rds h' ka (cellsF G.length (kF (refS G (G.length + 1)))) ∧ Rds h' kb (cellsF G.length (dF (refS G (G.length + 1))))) :
    ∃ x h', Ev lf (n+1) 25 [v, J i] h = some (x, h') ∧ h.Ext h' ∧ x = (match bestP G (refS G (G.length + 1)) i with | some t => .tuple #[J t, .bool true] | none => .tuple #[I (-1), .bool false]) := by
  obtain ⟨a, c, hsh⟩ := hg.shape
  rw [gI_len] at hsh
  subst hsh
  refine fnS_ok (Q := fun x h' => h.Ext h' ∧ x = (match bestP G (refS G (G.length + 1)) i with | some t => .tuple #[J t, .bool true] | none => .tuple #[I (-1), .bool false])) ?_
  have W := Sto.start h
  obtain ⟨_, q1, e1, ka, kb, rfl, X, hka, hkb⟩ := oc
  obtain ⟨aa, ac, has⟩ := hka.shape
  obtain ⟨ba, bc, hbs⟩ := hkb.shape
  rw [cellsF_len] at has hbs
  subst has hbs
  rw [← best_pk]
  generalize refS G (G.length + 1) = S at *
  have hrow := (hg.ext X).rowN hi
  obtain ⟨p, rv, hp1, hp2, hr⟩ := hrow
  obtain ⟨ra, rc, hrs⟩ := hr.shape
  rw [List.length_map] at hrs
  subst hrs
  refine ok_go 0 ?_
  refine sy_call 0 (by kernel_rfl) e1 ?_
  refine ok_go 2 ?_
  refine sy_loop 0 lf q1 (α := Nat × Option Nat) (fun x => [(0, .slice a G.length c), (1, J i), (6, .slice aa G.length ac), (7, .slice ba G.length bc), (8, I (bz x.2)), (9, J x.1)]) (fun x g => x.1 ≤ (grow G i).length ∧ g = q1 ∧ x.2 = pk (cB S i) (fB S i) ((grow G i).take x.1)) (fun x _ => (grow G i).length - x.1) (0, none) (by kernel_rfl) (by kernel_rfl)
    ⟨by kernel_rfl, by kernel_rfl, by kernel_rfl, by kernel_rfl, by kernel_rfl, by kernel_rfl, trivial⟩ (show (grow G i).length - 0 < lf by have := hrl i; omega) ⟨Nat.zero_le _, rfl, rfl⟩ ?_
  rintro m1 ⟨k, b⟩ f1 g ⟨hk, rfl, hb⟩ ih
  dsimp only at hk hb
  have hwk : IntKind.wrap .i64 (Int.ofNat (k + 1)) = Int.ofNat (k + 1) := wrap_nat (by have := hrl i; omega)
  refine ok_go 0 ?_
  refine sy_load 0 (r := indexAddrOp Tryd.prog 31 (.slice a G.length c) (J i)) (h' := g) (by kernel_rfl) hp1 ?_
  refine ok_go 0 ?_
  refine sy_load 0 (r := loadT Tryd.prog g 32 p) (h' := g) (by kernel_rfl) hp2 ?_
  refine ok_go 2 ?_
  refine sy_test 0 (decide (Int.ofNat k < Int.ofNat (grow G i).length)) (by kernel_rfl) ?_ ?_
  · intro hkt
    have hkt : k < (grow G i).length := ok_nat hkt
    obtain ⟨q, hq1, hq2⟩ := hr.read (kd := .i64) (k := k) (v := J (grow G i)[k]) u32 z3 aggI (by rw [List.getElem?_map, List.getElem?_eq_getElem hkt]; rfl)
    have htn := hG i _ (List.getElem_mem hkt)
    have hbn : ∀ x, b = some x → x < G.length := fun x hx => hG i x (pk_mem k hk (hb.symm.trans hx))
    have hbs := pk_take (c := cB S i) (f := fB S i) hkt
    rw [← hb] at hbs
    generalize (grow G i)[k] = w at *
    obtain ⟨pv, pv1, pv2⟩ := rd_at hka hi (x := J (S i).1) rfl
    obtain ⟨pw, pw1, pw2⟩ := rd_at hka htn (x := J (S w).1) rfl
    obtain ⟨pf, pf1, pf2⟩ := rd_at hkb htn (x := I (S w).2) rfl
    refine ok_go 0 ?_
    refine sy_load 0 (r := indexAddrOp Tryd.prog 31 (.slice a G.length c) (J i)) (h' := g) (by kernel_rfl) hp1 ?_
    refine ok_go 0 ?_
    refine sy_load 0 (r := loadT Tryd.prog g 32 p) (h' := g) (by kernel_rfl) hp2 ?_
    refine ok_go 0 ?_
    refine sy_load 0 (r := indexAddrOp Tryd.prog 32 (.slice ra (grow G i).length rc) (J k)) (h' := g) (by kernel_rfl) hq1 ?_
    refine ok_go 0 ?_
    refine sy_load 0 (r := loadT Tryd.prog g 3 q) (h' := g) (by kernel_rfl) hq2 ?_
    refine ok_go 0 ?_
    refine sy_load 0 (r := indexAddrOp Tryd.prog 32 (.slice aa G.length ac) (J i)) (h' := g) (by kernel_rfl) pv1 ?_
    refine ok_go 0 ?_
    refine sy_load 0 (r := loadT Tryd.prog g 3 pv) (h' := g) (by kernel_rfl) pv2 ?_
    refine ok_go 1 ?_
    refine sy_test 0 (Int.ofNat (S i).1 == 1) (by kernel_rfl) ?_ ?_
    · intro h1
      have h1 : (S i).1 = 1 := Int.ofNat.inj (eq_of_beq h1)
      refine ok_go 0 ?_
      refine sy_load 0 (r := indexAddrOp Tryd.prog 32 (.slice aa G.length ac) (J w)) (h' := g) (by kernel_rfl) pw1 ?_
      refine ok_go 0 ?_
      refine sy_load 0 (r := loadT Tryd.prog g 3 pw) (h' := g) (by kernel_rfl) pw2 ?_
      refine ok_go 1 ?_
      have hf : ∀ w, fB S i w = (S w).2 := fun w => by unfold fB; rw [if_pos h1]
      refine sy_test 0 (Int.ofNat (S w).1 == 0) (by kernel_rfl) ?_ ?_
      · intro h0
        have hc : cB S i w = true := by unfold cB; rw [if_pos h1]; rw [Int.ofNat.inj (eq_of_beq h0)]; rfl
        refine ok_go 3 ?_
        cases b with
        | none =>
          refine ok_go 14 ?_
          exact sy_next 0 _ g (by kernel_rfl) (by kernel_rfl) (ih (k + 1, some w) _ g ⟨hkt, rfl, hbs.symm ▸ (by unfold pkS pkC; rw [hc]; rfl)⟩ (show (grow G i).length - (k + 1) < (grow G i).length - k by omega) ⟨by kernel_rfl, by kernel_rfl, by kernel_rfl, by kernel_rfl, by kernel_rfl, (by kernel_rfl : _ = Value.int .i64 (IntKind.wrap .i64 (Int.ofNat (k + 1)))).trans (by rw [hwk]), trivial⟩)
        | some x =>
          obtain ⟨px, px1, px2⟩ := rd_at hkb (hbn x rfl) (x := I (S x).2) rfl
          refine ok_go 3 ?_
          refine sy_load 0 (r := indexAddrOp Tryd.prog 32 (.slice ba G.length bc) (J w)) (h' := g) (by kernel_rfl) pf1 ?_
          refine ok_go 1 ?_
          refine sy_load 0 (r := loadT Tryd.prog g 3 pf) (h' := g) (by kernel_rfl) pf2 ?_
          refine ok_go 3 ?_
          refine sy_load 0 (r := indexAddrOp Tryd.prog 32 (.slice ba G.length bc) (J x)) (h' := g) (by kernel_rfl) px1 ?_
          refine ok_go 1 ?_
          refine sy_load 0 (r := loadT Tryd.prog g 3 px) (h' := g) (by kernel_rfl) px2 ?_
          refine ok_go 5 ?_
          refine sy_test 0 (decide ((S w).2 < (S x).2)) (by kernel_rfl) ?_ ?_
          · intro hl
            have hl := of_decide_eq_true hl
            refine ok_go 1 ?_
            exact sy_next 0 _ g (by kernel_rfl) (by kernel_rfl) (ih (k + 1, some w) _ g ⟨hkt, rfl, hbs.symm ▸ (by exact (pkS_lt hc (by rw [hf, hf]; omega)).symm)⟩ (show (grow G i).length - (k + 1) < (grow G i).length - k by omega) ⟨by kernel_rfl, by kernel_rfl, by kernel_rfl, by kernel_rfl, by kernel_rfl, (by kernel_rfl : _ = Value.int .i64 (IntKind.wrap .i64 (Int.ofNat (k + 1)))).trans (by rw [hwk]), trivial⟩)
          · intro hl
            have hl := of_decide_eq_false hl
            refine ok_go 1 ?_
            exact sy_next 0 _ g (by kernel_rfl) (by kernel_rfl) (ih (k + 1, some x) _ g ⟨hkt, rfl, hbs.symm ▸ (by exact (pkS_ge (by rw [hf, hf]; omega)).symm)⟩ (show (grow G i).length - (k + 1) < (grow G i).length - k by omega) ⟨by kernel_rfl, by kernel_rfl, by kernel_rfl, by kernel_rfl, by kernel_rfl, (by kernel_rfl : _ = Value.int .i64 (IntKind.wrap .i64 (Int.ofNat (k + 1)))).trans (by rw [hwk]), trivial⟩)
      · intro h0
        have hc : cB S i w = false := by unfold cB; rw [if_pos h1]; rw [← h0]; exact (beq_nat _ 0).symm
        refine ok_go 6 ?_
        exact sy_next 0 _ g (by kernel_rfl) (by kernel_rfl) (ih (k + 1, b) _ g ⟨hkt, rfl, hbs.symm ▸ (by unfold pkS pkC; rw [hc]; rfl)⟩ (show (grow G i).length - (k + 1) < (grow G i).length - k by omega) ⟨by kernel_rfl, by kernel_rfl, by kernel_rfl, by kernel_rfl, by kernel_rfl, (by kernel_rfl : _ = Value.int .i64 (IntKind.wrap .i64 (Int.ofNat (k + 1)))).trans (by rw [hwk]), trivial⟩)
    · intro h1
      have h1 : (S i).1 ≠ 1 := fun h => by rw [h] at h1; exact absurd h1 (by decide)
      refine ok_go 1 ?_
      refine sy_test 0 (Int.ofNat (S i).1 == 2) (by kernel_rfl) ?_ ?_
      · intro h2
        have h2 : (S i).1 = 2 := Int.ofNat.inj (eq_of_beq h2)
        have hf : ∀ w, fB S i w = 0 := fun w => by unfold fB; rw [if_neg (by omega), if_pos h2]
        refine ok_go 0 ?_
        refine sy_load 0 (r := indexAddrOp Tryd.prog 32 (.slice aa G.length ac) (J w)) (h' := g) (by kernel_rfl) pw1 ?_
        refine ok_go 0 ?_
        refine sy_load 0 (r := loadT Tryd.prog g 3 pw) (h' := g) (by kernel_rfl) pw2 ?_
        refine ok_go 1 ?_
        refine sy_test 0 (Int.ofNat (S w).1 == 2) (by kernel_rfl) ?_ ?_
        · intro h0
          have hc : cB S i w = true := by unfold cB; rw [if_neg (by omega), if_pos h2]; rw [Int.ofNat.inj (eq_of_beq h0)]; rfl
          cases b with
          | none =>
            refine ok_go 5 ?_
            exact sy_next 0 _ g (by kernel_rfl) (by kernel_rfl) (ih (k + 1, some w) _ g ⟨hkt, rfl, hbs.symm ▸ (by unfold pkS pkC; rw [hc]; rfl)⟩ (show (grow G i).length - (k + 1) < (grow G i).length - k by omega) ⟨by kernel_rfl, by kernel_rfl, by kernel_rfl, by kernel_rfl, by kernel_rfl, (by kernel_rfl : _ = Value.int .i64 (IntKind.wrap .i64 (Int.ofNat (k + 1)))).trans (by rw [hwk]), trivial⟩)
          | some x =>
            refine ok_go 5 ?_
            exact sy_next 0 _ g (by kernel_rfl) (by kernel_rfl) (ih (k + 1, some x) _ g ⟨hkt, rfl, hbs.symm ▸ (by exact (pkS_ge (by rw [hf, hf]; omega)).symm)⟩ (show (grow G i).length - (k + 1) < (grow G i).length - k by omega) ⟨by kernel_rfl, by kernel_rfl, by kernel_rfl, by kernel_rfl, by kernel_rfl, (by kernel_rfl : _ = Value.int .i64 (IntKind.wrap .i64 (Int.ofNat (k + 1)))).trans (by rw [hwk]), trivial⟩)
        · intro h0
          have hc : cB S i w = false := by unfold cB; rw [if_neg (by omega), if_pos h2]; rw [← h0]; exact (beq_nat _ 2).symm
          refine ok_go 4 ?_
          exact sy_next 0 _ g (by kernel_rfl) (by kernel_rfl) (ih (k + 1, b) _ g ⟨hkt, rfl, hbs.symm ▸ (by unfold pkS pkC; rw [hc]; rfl)⟩ (show (grow G i).length - (k + 1) < (grow G i).length - k by omega) ⟨by kernel_rfl, by kernel_rfl, by kernel_rfl, by kernel_rfl, by kernel_rfl, (by kernel_rfl : _ = Value.int .i64 (IntKind.wrap .i64 (Int.ofNat (k + 1)))).trans (by rw [hwk]), trivial⟩)
      · intro h2
        have h2 : (S i).1 ≠ 2 := fun h => by rw [h] at h2; exact absurd h2 (by decide)
        have hf : ∀ w, fB S i w = - (S w).2 := fun w => by unfold fB; rw [if_neg h1, if_neg h2]
        have hc : cB S i w = true := by unfold cB; rw [if_neg h1, if_neg h2]
        cases b with
        | none =>
          refine ok_go 13 ?_
          exact sy_next 0 _ g (by kernel_rfl) (by kernel_rfl) (ih (k + 1, some w) _ g ⟨hkt, rfl, hbs.symm ▸ (by unfold pkS pkC; rw [hc]; rfl)⟩ (show (grow G i).length - (k + 1) < (grow G i).length - k by omega) ⟨by kernel_rfl, by kernel_rfl, by kernel_rfl, by kernel_rfl, by kernel_rfl, (by kernel_rfl : _ = Value.int .i64 (IntKind.wrap .i64 (Int.ofNat (k + 1)))).trans (by rw [hwk]), trivial⟩)
        | some x =>
          obtain ⟨px, px1, px2⟩ := rd_at hkb (hbn x rfl) (x := I (S x).2) rfl
          refine ok_go 4 ?_
          refine sy_load 0 (r := indexAddrOp Tryd.prog 32 (.slice ba G.length bc) (J w)) (h' := g) (by kernel_rfl) pf1 ?_
          refine ok_go 1 ?_
          refine sy_load 0 (r := loadT Tryd.prog g 3 pf) (h' := g) (by kernel_rfl) pf2 ?_
          refine ok_go 3 ?_
          refine sy_load 0 (r := indexAddrOp Tryd.prog 32 (.slice ba G.length bc) (J x)) (h' := g) (by kernel_rfl) px1 ?_
          refine ok_go 1 ?_
          refine sy_load 0 (r := loadT Tryd.prog g 3 px) (h' := g) (by kernel_rfl) px2 ?_
          refine ok_go 3 ?_
          refine sy_test 0 (decide ((S w).2 > (S x).2)) (by kernel_rfl) ?_ ?_
          · intro hl
            have hl := of_decide_eq_true hl
            refine ok_go 1 ?_
            exact sy_next 0 _ g (by kernel_rfl) (by kernel_rfl) (ih (k + 1, some w) _ g ⟨hkt, rfl, hbs.symm ▸ (by exact (pkS_lt hc (by rw [hf, hf]; omega)).symm)⟩ (show (grow G i).length - (k + 1) < (grow G i).length - k by omega) ⟨by kernel_rfl, by kernel_rfl, by kernel_rfl, by kernel_rfl, by kernel_rfl, (by kernel_rfl : _ = Value.int .i64 (IntKind.wrap .i64 (Int.ofNat (k + 1)))).trans (by rw [hwk]), trivial⟩)
          · intro hl
            have hl := of_decide_eq_false hl
            refine ok_go 1 ?_
            exact sy_next 0 _ g (by kernel_rfl) (by kernel_rfl) (ih (k + 1, some x) _ g ⟨hkt, rfl, hbs.symm ▸ (by exact (pkS_ge (by rw [hf, hf]; omega)).symm)⟩ (show (grow G i).length - (k + 1) < (grow G i).length - k by omega) ⟨by kernel_rfl, by kernel_rfl, by kernel_rfl, by kernel_rfl, by kernel_rfl, (by kernel_rfl : _ = Value.int .i64 (IntKind.wrap .i64 (Int.ofNat (k + 1)))).trans (by rw [hwk]), trivial⟩)
  · intro hkt
    have hkt : k = (grow G i).length := Nat.le_antisymm hk (no_nat hkt)
    subst hkt
    rw [List.take_length] at hb
    cases b with
    | none =>
      refine sy_done 1 (v := Value.tuple { toList := [Value.int IntKind.i64 (Int.negSucc 0), Value.bool false] }) (h := g) (by kernel_rfl) ?_
      exact ⟨X, by rw [← hb]; rfl⟩
    | some x =>
      refine ok_go 1 ?_
      refine sy_done 0 (v := .tuple #[J x, .bool (decide (Int.ofNat x ≥ 0))]) (h := g) (by kernel_rfl) ⟨X, ?_⟩
      rw [← hb]
      have : decide (Int.ofNat x ≥ 0) = true := decide_eq_true (Int.natCast_nonneg x)
      rw [this]
end Go.Proofs.YtegcmgjldapnmaaDoor
namespace Go.Proofs.YtegcmgjldapnmaaDoor
open Go Go.Eng Nim
set_option maxRecDepth 100000
set_option maxHeartbeats 8000000
theorem s24 (zs : List Int) (lf n : Nat) (hlf : zs.length < lf) (hsm : lf < 2 ^ 62) (x y : Value) (h : Hp) (hx : Rds h x (zs.map I)) (hy : Rds h y (zs.map I)) : Ev lf (n + 1) 24 [x, y] h = some (.bool true, h) := by
  refine fn_eq ?_
  obtain ⟨xa, xc, hxs⟩ := hx.shape
  obtain ⟨ya, yc, hys⟩ := hy.shape
  rw [List.length_map] at hxs hys
  subst hxs hys
  refine ok_go 3 ?_
  refine sy_no 0 (b := Int.ofNat zs.length != Int.ofNat zs.length) (by kernel_rfl) (bne_self_eq_false _) ?_
  refine ok_go 0 ?_
  refine sy_loop 0 lf h (α := Nat) (fun i => [(0, .slice xa zs.length xc), (1, .slice ya zs.length yc), (5, J i)]) (fun i g => i ≤ zs.length ∧ g = h) (fun i _ => zs.length - i) 0 (by kernel_rfl) (by kernel_rfl)
    ⟨by kernel_rfl, by kernel_rfl, by kernel_rfl, trivial⟩ (show zs.length - 0 < lf by omega) ⟨Nat.zero_le _, rfl⟩ ?_
  rintro m1 i f1 g ⟨hi, rfl⟩ ih
  have hw : IntKind.wrap .i64 (Int.ofNat (i + 1)) = Int.ofNat (i + 1) := wrap_nat (by omega)
  refine ok_go 2 ?_
  refine sy_test 0 (decide (Int.ofNat i < Int.ofNat zs.length)) (by kernel_rfl) ?_ ?_
  · intro hlt
    have hlt : i < zs.length := ok_nat hlt
    obtain ⟨p, hp1, hp2⟩ := row_get hx hlt
    obtain ⟨q, hq1, hq2⟩ := row_get hy hlt
    refine ok_go 0 ?_
    refine sy_load 0 (r := indexAddrOp Tryd.prog 32 (.slice xa zs.length xc) (J i)) (h' := g) (by kernel_rfl) hp1 ?_
    refine ok_go 0 ?_
    refine sy_load 0 (r := loadT Tryd.prog g 3 p) (h' := g) (by kernel_rfl) hp2 ?_
    refine ok_go 0 ?_
    refine sy_load 0 (r := indexAddrOp Tryd.prog 32 (.slice ya zs.length yc) (J i)) (h' := g) (by kernel_rfl) hq1 ?_
    refine ok_go 0 ?_
    refine sy_load 0 (r := loadT Tryd.prog g 3 q) (h' := g) (by kernel_rfl) hq2 ?_
    refine ok_go 1 ?_
    refine sy_no 0 (b := zs[i] != zs[i]) (by kernel_rfl) (bne_self_eq_false _) ?_
    refine ok_go 1 ?_
    exact sy_next 0 _ g (by kernel_rfl) (by kernel_rfl) (ih (i + 1) _ g ⟨hlt, rfl⟩ (show zs.length - (i + 1) < zs.length - i by omega) ⟨by kernel_rfl, by kernel_rfl, (by kernel_rfl : _ = Value.int .i64 (IntKind.wrap .i64 (Int.ofNat (i + 1)))).trans (by rw [hw]), trivial⟩)
  · intro _
    refine ok_go 0 ?_
    refine sy_done 0 (v := Value.bool true) (h := g) (by kernel_rfl) ?_
    exact ⟨rfl, rfl⟩
theorem kF_list (S : St) (N : Nat) : cellsF N (kF S) = ((List.range N).map fun v => Int.ofNat (S v).1).map I := by rw [List.map_map]; rfl
theorem dF_list (S : St) (N : Nat) : cellsF N (dF S) = ((List.range N).map fun v => (S v).2).map I := by rw [List.map_map]; rfl
theorem pair_of : ∀ (r : List Int), (∀ j (hj : j < r.length), j ≠ 0 → r[j - 1] < r[j]) → (∀ x ∈ r, 0 ≤ x) → (r.map Int.toNat).Pairwise (· < ·)
  | [], _, _ => List.Pairwise.nil
  | [x], _, _ => by simp
  | x :: y :: r, h, h0 => by
    have ih := pair_of (y :: r) (fun j hj hj0 => by
      cases j with
      | zero => exact absurd rfl hj0
      | succ j => exact h (j + 2) (by simpa using hj) (by omega)) (fun z hz => h0 z (List.mem_cons_of_mem _ hz))
    have hxy : x < y := h 1 (by simp) (by omega)
    have hx := h0 x (by simp)
    rw [List.map_cons, List.pairwise_cons]
    refine ⟨fun z hz => ?_, ih⟩
    rw [List.map_cons] at ih hz
    rw [List.pairwise_cons] at ih
    rcases List.mem_cons.1 hz with rfl | hz
    · omega
    · have := ih.1 z hz; omega
theorem good_of {g : List (List Int)} (K : GrOK g) : ∃ G, g = gI G ∧ Good G := by
  obtain ⟨h1, h2, h3⟩ := K
  have back : ∀ r ∈ g, (r.map Int.toNat).map Int.ofNat = r := fun r hr => by
    rw [List.map_map]
    refine (List.map_congr_left fun x hx => ?_).trans (List.map_id _)
    obtain ⟨j, hj, rfl⟩ := List.getElem_of_mem hx
    have := (h3 r hr j hj hj).1
    show Int.ofNat (r[j].toNat) = r[j]
    exact Int.toNat_of_nonneg this
  refine ⟨g.map (·.map Int.toNat), ?_, by rw [List.length_map]; exact h1, by rw [List.length_map]; exact h2, fun i => ?_⟩
  · unfold gI
    rw [List.map_map]
    exact ((List.map_congr_left fun r hr => back r hr).trans (List.map_id _)).symm
  · rw [List.length_map]
    by_cases hi : i < g.length
    · have e : grow (g.map (·.map Int.toNat)) i = g[i].map Int.toNat := by
        unfold grow
        rw [List.getD_eq_getElem?_getD, List.getElem?_map, List.getElem?_eq_getElem hi]
        rfl
      have hr := h3 g[i] (List.getElem_mem hi)
      have h0 : ∀ x ∈ g[i], 0 ≤ x ∧ x < Int.ofNat g.length := fun x hx => by
        obtain ⟨j, hj, rfl⟩ := List.getElem_of_mem hx
        exact ⟨(hr j hj hj).1, (hr j hj hj).2.1⟩
      rw [e]
      refine ⟨pair_of _ (fun j hj hj0 => (hr j hj hj).2.2 hj0) fun x hx => (h0 x hx).1, fun t ht => ?_⟩
      obtain ⟨x, hx, rfl⟩ := List.mem_map.1 ht
      obtain ⟨h4, h5⟩ := h0 x hx
      have h5 : x < (g.length : Int) := h5
      omega
    · have e : grow (g.map (·.map Int.toNat)) i = [] := by
        unfold grow
        rw [List.getD_eq_getElem?_getD, List.getElem?_eq_none (by rw [List.length_map]; omega)]
        rfl
      rw [e]
      exact ⟨List.Pairwise.nil, fun t ht => by cases ht⟩
end Go.Proofs.YtegcmgjldapnmaaDoor
namespace Go.Proofs.YtegcmgjldapnmaaDoor
open Go Go.Eng Nim
set_option maxRecDepth 100000
set_option maxHeartbeats 8000000
/-- What a slice that stands in an argument looks like. -/
def WfS : Value → Prop
  | .slice none n c => n = 0 ∧ c = 0
  | .slice (some a) n c => (a.spot = none ∧ n ≤ c / 2) ∨ (n = 0 ∧ c = 0)
  | _ => False
/-- A slice of slices of ints that may be read, and whose rows may be cut. -/
def GrK (h : Hp) (v : Value) (g : List (List Int)) : Prop := ∃ vs, Rds h v vs ∧ vs.length = g.length ∧ ∀ (i : Nat) (r : List Int), g[i]? = some r → ∃ rv, vs[i]? = some rv ∧ Rds h rv (r.map I) ∧ WfS rv
theorem GrK.gr {h : Hp} {v : Value} {g : List (List Int)} (K : GrK h v g) : Gr h v g := by
  obtain ⟨vs, h1, h2, h3⟩ := K
  exact ⟨vs, h1, h2, fun i r hr => by obtain ⟨rv, h4, h5, _⟩ := h3 i r hr; exact ⟨rv, h4, h5⟩⟩
theorem GrK.ext {h h' : Hp} {v : Value} {g : List (List Int)} (hg : GrK h v g) (k : h.Ext h') : GrK h' v g := by
  obtain ⟨vs, h1, h2, h3⟩ := hg
  exact ⟨vs, h1.ext k, h2, fun i r hr => by obtain ⟨rv, h4, h5, h6⟩ := h3 i r hr; exact ⟨rv, h4, h5.ext k, h6⟩⟩
theorem GrK.row {h : Hp} {v : Value} {g : List (List Int)} (hg : GrK h v g) {i : Nat} (hi : i < g.length) : ∃ p rv, indexAddrOp Tryd.prog 31 v (J i) = some p ∧ loadT Tryd.prog h 32 p = some rv ∧ Rds h rv (g[i].map I) ∧ WfS rv := by
  obtain ⟨vs, h1, h2, h3⟩ := hg
  obtain ⟨rv, h4, h5, h8⟩ := h3 i g[i] (List.getElem?_eq_getElem hi)
  obtain ⟨p, h6, h7⟩ := h1.read u31 z32 agg32 h4
  exact ⟨p, rv, h6, h7, h5, h8⟩
theorem takeN_take : ∀ {n : Nat} {l : List Value} {r : List Value}, takeN n l = some r → ∀ k, k ≤ n → takeN k l = some (r.take k)
  | _, _, _, _, 0, _ => by simp [takeN]
  | 0, _, _, _, k + 1, hk => absurd hk (by omega)
  | n + 1, [], _, h, k + 1, _ => by simp [takeN] at h
  | n + 1, v :: l, r, h, k + 1, hk => by
    unfold takeN at h
    split at h
    · rename_i l' hl'
      cases h
      unfold takeN
      rw [takeN_take hl' k (by omega)]
      rfl
    · cases h
theorem slice_val {i off len cap K : Nat} (h : K ≤ cap / 2) : ∃ c, sliceOp Tryd.prog 32 (.slice (some ⟨i, off, none⟩) len cap) none (some (J K)) none = some (.slice (some ⟨i, off, none⟩) K c) := by
  have hs : sizeT Tryd.prog 3 = some 1 := by kernel_rfl
  simp only [sliceOp, u32, hs, sliceV, Go.Eng.bound, Option.isSome_none, show natOf (J K) = some K from rfl, Bool.false_eq_true, if_false, Nat.ble_eq_true_of_le h, Nat.ble_eq_true_of_le (Nat.zero_le (cap / 2))]
  cases hb : Nat.beq (cap / 2) 0
  · cases hc : Nat.beq (cap % 2) 1
    · exact ⟨2 * (cap / 2), by simp⟩
    · exact ⟨2 * (cap / 2) + 1, by simp⟩
  · cases hc : Nat.beq (cap % 2) 1
    · exact ⟨0, by simp⟩
    · exact ⟨1, by simp⟩
theorem cut_row {h : Hp} {x : Value} {vs : List Value} (hw : WfS x) (hx : Rds h x vs) {K : Nat} (hK : K ≤ vs.length) : ∃ y, sliceOp Tryd.prog 32 x none (some (J K)) none = some y ∧ Rds h y (vs.take K) := by
  have hs : sizeT Tryd.prog 3 = some 1 := by kernel_rfl
  rcases hx with ⟨⟨a, rfl⟩, rfl⟩ | ⟨i, off, c, rfl, hr⟩
  · obtain rfl : K = 0 := by simpa using hK
    rcases a with _ | ⟨i, off, _ | q⟩
    · exact ⟨.slice none 0 0, rfl, .inl ⟨⟨_, rfl⟩, rfl⟩⟩
    · obtain ⟨c, e⟩ := slice_val (i := i) (off := off) (len := 0) (cap := 0) (K := 0) (Nat.zero_le _)
      exact ⟨_, e, .inr ⟨i, off, c, rfl, fun h => absurd rfl h⟩⟩
    · exact ⟨.slice (some ⟨i, off, some q⟩) 0 0, rfl, .inl ⟨⟨_, rfl⟩, rfl⟩⟩
  · have hc : vs.length ≤ c / 2 := by
      rcases hw with ⟨_, h⟩ | ⟨h, h2⟩
      · exact h
      · omega
    obtain ⟨c', e⟩ := slice_val (i := i) (off := off) (len := vs.length) (cap := c) (K := K) (Nat.le_trans hK hc)
    refine ⟨_, e, .inr ⟨i, off, c', by rw [List.length_take, Nat.min_eq_left hK], fun hne => ?_⟩⟩
    have hv : vs ≠ [] := fun h0 => by subst h0; simp at hne
    obtain ⟨h1, h2⟩ := hr hv
    refine ⟨h1, ?_⟩
    rw [List.length_take, Nat.min_eq_left hK]
    unfold loadN at h2 ⊢
    cases hg : h.get i with
    | none => rw [hg] at h2; cases h2
    | some o =>
      rw [hg] at h2
      cases o with
      | cells cs e opn => exact takeN_take h2 K hK
      | ro o cs e =>
        dsimp only at h2 ⊢
        cases hb : Nat.ble o off with
        | true => rw [hb] at h2; exact takeN_take h2 K hK
        | false => rw [hb] at h2; cases h2
      | fro cs e => exact takeN_take h2 K hK
      | _ => cases h2
/-- A row, wherever these blocks stand. -/
def RowV (L : List (Nat × AObj)) (rv : Value) (r : List Value) : Prop := ∀ H, Hold H L → Rds H rv r
theorem RowV.mono {L L' : List (Nat × AObj)} {rv : Value} {r : List Value} (R : RowV L rv r) (h : ∀ p ∈ L, p ∈ L') : RowV L' rv r := fun H K => R H (K.sub h)
structure RowsV (L : List (Nat × AObj)) (vs : List Value) (rows : List (List Value)) : Prop where
  len : vs.length = rows.length
  sc : ∀ v ∈ vs, scalar v = true
  row : ∀ (i : Nat) (rv : Value) (r : List Value), vs[i]? = some rv → rows[i]? = some r → RowV L rv r
theorem RowsV.snoc {L : List (Nat × AObj)} {vs : List Value} {rows : List (List Value)} (R : RowsV L vs rows) {L2 : List (Nat × AObj)} {rv : Value} {r : List Value} (hs : scalar rv = true) (hr : RowV L2 rv r) : RowsV (L2 ++ L) (vs ++ [rv]) (rows ++ [r]) := by
  refine ⟨by simp [R.len], fun v hv => ?_, fun i a b ha hb => ?_⟩
  · rcases List.mem_append.1 hv with h | h
    · exact R.sc v h
    · obtain rfl := List.mem_singleton.1 h; exact hs
  · rcases Nat.lt_or_ge i vs.length with h | h
    · rw [List.getElem?_append_left h] at ha
      rw [List.getElem?_append_left (by rw [← R.len]; exact h)] at hb
      exact (R.row i a b ha hb).mono fun p hp => List.mem_append_right _ hp
    · rw [List.getElem?_append_right h] at ha
      rw [List.getElem?_append_right (by rw [← R.len]; exact h)] at hb
      have hi : i - vs.length = 0 := by have := (List.getElem?_eq_some_iff.1 ha).1; simp at this; omega
      rw [hi] at ha
      rw [← R.len, hi] at hb
      cases ha
      cases hb
      exact hr.mono fun p hp => List.mem_append_left _ hp
theorem slz31 : SlTz Tryd.prog 31 32 1 := ⟨by kernel_rfl, by kernel_rfl, ⟨_, rfl, by kernel_rfl⟩, ⟨_, rfl, by kernel_rfl⟩, by decide⟩
theorem oent_row {q : Nat} {vs : List Value} : RowV (oent q 3 vs) (oslV q vs.length) vs := fun H K => osl_rd fun p hp => K p hp
theorem app_rowV {h H : Hp} {Q : Value → Hp → Prop} (n : Nat) {t : SA} {j q : Nat} {rv sl : Value} {L L2 : List (Nat × AObj)} {vs : List Value} {RR : List (List Value)} {r : List Value} (W : Sto h H ((j, .cells [rv] 32 false) :: (L2 ++ (L ++ oent q 32 vs)))) (hsl : sl = oslV q vs.length) (R : RowsV L vs RR) (hs : scalar rv = true) (hr : RowV L2 rv r) (hlen : RR.length < 100000)
    (he : askR (goS n t) = appendOp Tryd.prog H 31 sl (.slice (some ⟨j, 0, none⟩) 1 2)) (hq : ∀ H' sl2, sl2 = oslV H.next (vs ++ [rv]).length → scalar sl2 = true → RowsV (L2 ++ L) (vs ++ [rv]) (RR ++ [r]) → Sto h H' ((L2 ++ L) ++ oent H.next 32 (vs ++ [rv])) → Ok Q (askK (goS n t) sl2 H')) : Ok Q t := by
  rw [← List.append_assoc] at W
  refine ow_app (P := Tryd.prog) (t := 31) (e := 32) (z := 1) (c := vs.length) (i := q) n W slz31 (by rw [Nat.mul_one]) rfl (by simp [hs]) (by rw [R.len]; omega) (by rw [← hsl]; exact he) fun H' sl2 nH hsl2 hsc2 W2 => hq H' sl2 (by rw [hsl2, List.length_append]; rfl) hsc2 (R.snoc hs hr) W2
theorem rows_gr {H : Hp} {L : List (Nat × AObj)} {q : Nat} {vs : List Value} {g : List (List Int)} (R : RowsV L vs (g.map (·.map I))) (K : Hold H (L ++ oent q 32 vs)) : Gr H (oslV q vs.length) g := by
  refine ⟨vs, osl_rd fun p hp => K p (List.mem_append_right _ hp), by rw [R.len, List.length_map], fun i r hr => ?_⟩
  have hi : i < vs.length := by
    rw [R.len, List.length_map]
    exact (List.getElem?_eq_some_iff.1 hr).1
  exact ⟨vs[i], List.getElem?_eq_getElem hi, R.row i _ _ (List.getElem?_eq_getElem hi) (by rw [List.getElem?_map, hr]; rfl) H (K.sub fun p hp => List.mem_append_left _ hp)⟩
end Go.Proofs.YtegcmgjldapnmaaDoor
