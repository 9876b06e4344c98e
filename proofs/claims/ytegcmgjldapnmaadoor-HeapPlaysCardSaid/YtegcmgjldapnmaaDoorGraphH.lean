/- GraphH: contracts of functions. -/
import Derived.Test.YtegcmgjldapnmaaDoorProg
import Derived.KernelRfl
import Derived.Test.YtegcmgjldapnmaaDoorSyB
import Derived.Test.YtegcmgjldapnmaaDoorGraphF
namespace Go.Proofs.YtegcmgjldapnmaaDoor
open Go Go.Eng Nim
set_option maxRecDepth 100000
set_option maxHeartbeats 4000000
/-- A row of a graph of n vertices. -/
def Row (n : Nat) (r : List Nat) (b : Nat) : Prop := r.Pairwise (· < ·) ∧ ∀ x ∈ r, x < n ∧ x < b
/-- While the rows of a graph are made. -/
structure InG (h : Hp) (n ob ib : Nat) (vs : Nat → Value) (R : Nat → List Nat) (g : Hp) : Prop where
  ext : h.Ext g
  hb : h.next ≤ ob
  oi : ob ≤ ib
  lt : ib < g.next
  get : g.get ob = some (.cells (cellsF n vs) 32 false)
  rows : ∀ u, u < n → OpenSl g 3 (vs u) ((R u).map J)
  nat : ∀ u, u < n → ∀ j, (j ≤ ob ∨ j = ib) → ∀ m c, vs u ≠ .slice (some ⟨j, 0, none⟩) m c
  sep : ∀ u w, u < n → w < n → u ≠ w → Sep (vs u) (vs w)
theorem u69 : Tryd.prog.underlying 69 = some (.slice 4) := by kernel_rfl
theorem Gr.rowEI {h : Hp} {v : Value} {g : List (List Int)} (hg : Gr h v g) {i : Nat} (hi : i < g.length) : ∃ p rv, indexAddrOp Tryd.prog 31 v (J i) = some p ∧ (∀ k, h.Ext k → loadT Tryd.prog k 32 p = some rv) ∧ Rds h rv (g[i].map I) := by
  obtain ⟨vs, h1, h2, h3⟩ := hg
  obtain ⟨rv, h4, h5⟩ := h3 i g[i] (List.getElem?_eq_getElem hi)
  obtain ⟨p, h6, h7⟩ := h1.read (kd := .i64) u31 z32 agg32 h4
  refine ⟨p, rv, h6, fun k kx => ?_, h5⟩
  obtain ⟨p', h8, h9⟩ := (h1.ext kx).read (kd := .i64) u31 z32 agg32 h4
  rw [h6] at h8
  cases h8
  exact h9
/-- A block more. -/
theorem InG.newI {h : Hp} {n ob ib : Nat} {vs : Nat → Value} {R : Nat → List Nat} {g : Hp} (H : InG h n ob ib vs R g) (o : AObj) : InG h n ob g.next vs R (g.new o) := by
  have h1 := H.lt
  have h2 := H.oi
  refine ⟨H.ext.trans (Hp.Ext.new _ _), H.hb, by omega, Nat.lt_succ_self _, (Hp.Ext.new g o).at_ (by omega) H.get, fun u hu => (H.rows u hu).ext (Hp.Ext.new g o).next (fun j hj _ => (Hp.Ext.new g o).get j hj), fun u hu j hj m c hc => ?_, H.sep⟩
  rcases hj with hj | hj
  · exact H.nat u hu j (.inl hj) m c hc
  · have := OpenSl.blk (H.rows u hu) hc
    omega
theorem agg4 : isAggT Tryd.prog 4 = some false := by kernel_rfl
theorem z4 : sizeT Tryd.prog 4 = some 1 := by kernel_rfl
theorem idx69 {b N c v : Nat} (hv : v < N) : indexAddrOp Tryd.prog 69 (.slice (some ⟨b, 0, none⟩) N c) (J v) = some (ptr b v) := by
  rw [idxSl u69 z4 hv, Nat.zero_add, Nat.mul_one]
theorem idx31 {b N c v : Nat} (hv : v < N) : indexAddrOp Tryd.prog 31 (.slice (some ⟨b, 0, none⟩) N c) (J v) = some (ptr b v) := by
  rw [idxSl u31 z32 hv, Nat.zero_add, Nat.mul_one]
def updR (R : Nat → List Nat) (i : Nat) (r : List Nat) : Nat → List Nat := fun u => if u = i then r else R u
theorem updR_eq {R : Nat → List Nat} {i : Nat} {r : List Nat} : updR R i r i = r := if_pos rfl
theorem updR_ne {R : Nat → List Nat} {i u : Nat} {r : List Nat} (h : u ≠ i) : updR R i r u = R u := if_neg h
theorem InG.putI {h : Hp} {n ob ib : Nat} {vs : Nat → Value} {R : Nat → List Nat} {g : Hp} (H : InG h n ob ib vs R g) (hne : ob ≠ ib) (o : AObj) : InG h n ob ib vs R (g.put ib o) := by
  have h1 := H.hb
  have h2 := H.oi
  refine ⟨H.ext.put (by omega) o, H.hb, H.oi, H.lt, (Hp.get_put_ne hne).trans H.get, fun u hu => (H.rows u hu).ext (Nat.le_refl _) (fun j hj ⟨m, c, hc⟩ => Hp.get_put_ne (fun hji => H.nat u hu j (.inr hji) m c hc)), H.nat, H.sep⟩
theorem InG.app {h : Hp} {n ob ib : Nat} {vs : Nat → Value} {R : Nat → List Nat} {g : Hp} (H : InG h n ob ib vs R g) {i : Nat} (hi : i < n) (z : Nat) (hne : ob ≠ ib) (hl : (R i).length < 1000) :
    ∃ l' g' g'', appendOp Tryd.prog (g.new (.cells [J z] 3 false)) 32 (vs i) (.slice (some ⟨g.next, 0, none⟩) 1 2) = some (l', g') ∧ storeT Tryd.prog g' 32 (ptr ob i) l' = some g'' ∧ InG h n ob ib (updF vs i l') (updR R i (R i ++ [z])) g'' ∧ g''.get ib = g.get ib := by
  obtain ⟨l', g', e1, e2, e3, e4, e5⟩ := append1 slT (H.rows i hi) (v := J z) rfl (by rw [List.length_map]; omega)
  have h1 := H.hb
  have h2 := H.oi
  have h3 := H.lt
  have ho : g'.get ob = some (.cells (cellsF n vs) 32 false) := (e4 ob (by omega) (H.nat i hi ob (.inl (Nat.le_refl _)))).trans H.get
  have hi2 : g'.get ib = g.get ib := e4 ib (by omega) (H.nat i hi ib (.inr rfl))
  have hsc : scalar l' = true := by
    rcases e2 with ⟨rfl, _⟩ | ⟨_, rfl, _⟩ <;> rfl
  refine ⟨l', g', g'.put ob (.cells ((cellsF n vs).set i l') 32 false), e1, store1 z32 hsc ho (by rw [cellsF_len]; exact hi), ?_, (Hp.get_put_ne (Ne.symm hne)).trans hi2⟩
  have keep : ∀ u, u < n → u ≠ i → OpenSl g' 3 (vs u) ((R u).map J) := fun u hu hui => (H.rows u hu).ext e3 (fun j hj ⟨m, c, hc⟩ => e4 j hj (fun m' c' hc' => H.sep i u hi hu (Ne.symm hui) j m' c' m c hc' hc))
  have nat' : ∀ u, u < n → ∀ j, (j ≤ ob ∨ j = ib) → ∀ m c, updF vs i l' u ≠ .slice (some ⟨j, 0, none⟩) m c := by
    intro u hu j hj m c
    unfold updF
    split
    · exact e5 j (by omega) m c
    · exact H.nat u hu j hj m c
  refine ⟨Hp.Ext.put ⟨by have := H.ext.next; omega, fun j hj => (e4 j (by have := H.ext.next; omega) (H.nat i hi j (.inl (by omega)))).trans (H.ext.get j hj)⟩ (by omega) _, H.hb, H.oi, by show ib < g'.next; omega, by rw [cellsF_set]; exact get_put _ _ _, fun u hu => ?_, nat', fun u w hu hw huw => ?_⟩
  · have : OpenSl g' 3 (updF vs i l' u) ((updR R i (R i ++ [z]) u).map J) := by
      unfold updF updR
      split
      · rw [List.map_append]; exact e2
      · rename_i hui; exact keep u hu hui
    exact this.ext (Nat.le_refl _) (fun j hj ⟨m, c, hc⟩ => Hp.get_put_ne (fun hji => nat' u hu j (.inl (by omega)) m c hc))
  · unfold updF
    intro j m c m' c' h4 h5
    split at h4
    · split at h5
      · omega
      · exact e5 j (by have := OpenSl.blk (H.rows w hw) h5; omega) m c h4
    · split at h5
      · exact e5 j (by have := OpenSl.blk (H.rows u hu) h4; omega) m' c' h5
      · exact H.sep u w hu hw huw j m c m' c' h4 h5
theorem s26 (l : List (List Int)) (most lf n : Nat) (hm1 : 1 ≤ most) (hm : most ≤ 200) (hlf : 300 ≤ lf) (hll : l.length < 2 ^ 63) (hrow : ∀ r ∈ l, r.length < 2 ^ 63) (v : Value) (h : Hp) (hg : Gr h v l) :
    ∃ x H, Ev lf (n+1) 26 [v, J most] h = some (x, H) ∧ h.Ext H ∧ ∃ G : List (List Nat), Gr H x (gI G) ∧ 1 ≤ G.length ∧ G.length ≤ most ∧ ∀ i, (grow G i).Pairwise (· < ·) ∧ ∀ t ∈ grow G i, t < G.length := by
  obtain ⟨a, c, hsh⟩ := hg.shape
  subst hsh
  refine fnS_ok (Q := fun x H => h.Ext H ∧ ∃ G : List (List Nat), Gr H x (gI G) ∧ 1 ≤ G.length ∧ G.length ≤ most ∧ ∀ i, (grow G i).Pairwise (· < ·) ∧ ∀ t ∈ grow G i, t < G.length) ?_
  obtain ⟨N, hN1, hN2, hNl, hN⟩ : ∃ N : Nat, 1 ≤ N ∧ N ≤ most ∧ (N ≤ l.length ∨ N = 1) ∧ (if (if Int.ofNat most < Int.ofNat l.length then Int.ofNat most else Int.ofNat l.length) > 1 then (if Int.ofNat most < Int.ofNat l.length then Int.ofNat most else Int.ofNat l.length) else 1) = Int.ofNat N := by
    refine ⟨max 1 (min most l.length), by omega, by omega, by omega, ?_⟩
    simp only [Int.ofNat_eq_natCast]
    (repeat' split) <;> omega
  refine sy_call 2 (r := some (.int .i64 (if (if Int.ofNat most < Int.ofNat l.length then Int.ofNat most else Int.ofNat l.length) > 1 then (if Int.ofNat most < Int.ofNat l.length then Int.ofNat most else Int.ofNat l.length) else 1), h)) (v := J N) (h' := h) (by kernel_rfl) (by rw [hN]) ?_
  refine ok_go 0 ?_
  refine sy_call 0 (r := makeSliceOp Tryd.prog h 31 (J N) (J N)) (v := .slice (some ⟨h.next, 0, none⟩) N (2 * N)) (h' := h.new (.cells (zeros [.slice none 0 0] N) 32 false)) (by kernel_rfl) (makeSl (z := .slice none 0 0) (inf := (Tryd.prog.info? 32).get!) u31 (by kernel_rfl) (by kernel_rfl) (by kernel_rfl) (by kernel_rfl) (by kernel_rfl) (by omega)) ?_
  have H0 : InG h N h.next h.next (fun _ => .slice none 0 0) (fun _ => []) (h.new (.cells (zeros [.slice none 0 0] N) 32 false)) := by
    refine ⟨Hp.Ext.new _ _, Nat.le_refl _, Nat.le_refl _, Nat.lt_succ_self _, by rw [zeros_one]; exact get_new _ _, fun u _ => .inl ⟨rfl, rfl⟩, fun u _ j _ m c hc => (by cases hc), fun u w _ _ _ j m c m' c' hc => (by cases hc)⟩
  generalize hh0 : h.new (.cells (zeros [.slice none 0 0] N) 32 false) = h0 at H0
  clear hh0
  refine ok_go 0 ?_
  refine sy_loop 0 lf h0 (α := Nat) (fun s => [(0, .slice a l.length c), (5, J N), (6, .slice (some ⟨h.next, 0, none⟩) N (2 * N)), (7, J s)]) (fun s g => s ≤ N ∧ ∃ ib vs R, InG h N h.next ib vs R g ∧ (∀ u, u < N → s ≤ u → R u = []) ∧ ∀ u, u < N → (R u).Pairwise (· < ·) ∧ ∀ t ∈ R u, t < N) (fun s _ => N - s) 0 (by kernel_rfl) (by kernel_rfl) ⟨by kernel_rfl, by kernel_rfl, by kernel_rfl, by kernel_rfl, trivial⟩ (show N - 0 < lf by omega) ⟨Nat.zero_le _, _, _, _, H0, fun _ _ _ => rfl, fun _ _ => ⟨List.Pairwise.nil, fun t ht => (by cases ht)⟩⟩ ?_
  rintro m1 i f1 g1 ⟨hi, ib, vs, R, H1, hR0, hR⟩ ih1
  have fin : ∃ G : List (List Nat), Gr g1 (.slice (some ⟨h.next, 0, none⟩) N (2 * N)) (gI G) ∧ 1 ≤ G.length ∧ G.length ≤ most ∧ ∀ i, (grow G i).Pairwise (· < ·) ∧ ∀ t ∈ grow G i, t < G.length := by
    refine ⟨(List.range N).map R, ⟨cellsF N vs, ?_, by simp [cellsF, gI], fun u r hr => ?_⟩, by simpa using hN1, by simpa using hN2, fun u => ?_⟩
    · refine .inr ⟨h.next, 0, _, by rw [cellsF_len], fun _ => ⟨by have := H1.lt; have := H1.oi; omega, ?_⟩⟩
      unfold loadN
      rw [H1.get]
      exact takeN_all _
    · have hu : u < N := by
        have := (List.getElem?_eq_some_iff.1 hr).1
        simpa [gI] using this
      have hr' : r = (R u).map Int.ofNat := by
        simp only [gI, List.map_map, List.getElem?_map, List.getElem?_range hu, Option.map_some, Option.some.injEq] at hr
        exact hr.symm
      refine ⟨vs u, cellsF_get hu, ?_⟩
      rw [hr', List.map_map]
      exact (H1.rows u hu).rd
    · have hg : grow ((List.range N).map R) u = if u < N then R u else [] := by
        unfold grow
        by_cases hu : u < N
        · simp [List.getD_eq_getElem?_getD, hu]
        · simp [List.getD_eq_getElem?_getD, hu]
      rw [hg]
      by_cases hu : u < N
      · rw [if_pos hu]; simpa using hR u hu
      · rw [if_neg hu]; exact ⟨List.Pairwise.nil, fun t ht => by cases ht⟩
  refine ok_go 1 ?_
  refine sy_test 0 (decide (Int.ofNat i < Int.ofNat N)) (by kernel_rfl) ?_ ?_
  · intro hlt
    have hlt := ok_nat hlt
    refine ok_go 6 ?_
    refine sy_test 0 (decide (Int.ofNat i < Int.ofNat l.length)) (by kernel_rfl) ?_ ?_
    · intro hlt2
      have hlt2 := ok_nat hlt2
      obtain ⟨p, rv, e1, e2, hr⟩ := hg.rowEI hlt2
      obtain ⟨ra, rc, hrs⟩ := hr.shape
      rw [List.length_map] at hrs
      subst hrs
      have hlr := hrow l[i] (List.getElem_mem hlt2)
      have hlt1 := H1.lt
      have hoi := H1.oi
      refine ok_go 0 ?_
      refine sy_call 0 (r := makeSliceOp Tryd.prog g1 69 (J N) (J N)) (v := .slice (some ⟨g1.next, 0, none⟩) N (2 * N)) (h' := g1.new (.cells (zeros [.bool false] N) 4 false)) (by kernel_rfl) (makeSl (z := .bool false) (inf := (Tryd.prog.info? 4).get!) u69 (by kernel_rfl) (by kernel_rfl) (by kernel_rfl) (by kernel_rfl) (by kernel_rfl) (by omega)) ?_
      have H2 : InG h N h.next g1.next vs R (g1.new (.cells (zeros [.bool false] N) 4 false)) := H1.newI _
      have B2 : (g1.new (.cells (zeros [.bool false] N) 4 false)).get g1.next = some (.cells (cellsF N fun u => .bool ((fun _ => false) u)) 4 false) := by rw [zeros_one]; exact get_new _ _
      generalize hh2 : g1.new (.cells (zeros [.bool false] N) 4 false) = g2 at H2 B2
      clear hh2
      generalize hbk : g1.next = bk at H2 B2 ⊢
      have hbo : h.next ≠ bk := by have := H1.hb; omega
      refine ok_go 0 ?_
      refine sy_loop 0 lf g2 (α := Nat) (fun s => [(0, .slice a l.length c), (5, J N), (6, .slice (some ⟨h.next, 0, none⟩) N (2 * N)), (7, J i), (8, .slice (some ⟨bk, 0, none⟩) N (2 * N)), (9, J s)]) (fun s g => s ≤ 8 ∧ InG h N h.next bk vs R g ∧ ∃ fb : Nat → Bool, g.get bk = some (.cells (cellsF N fun u => .bool (fb u)) 4 false)) (fun s _ => 8 - s) 0 (by kernel_rfl) (by kernel_rfl) ⟨by kernel_rfl, by kernel_rfl, by kernel_rfl, by kernel_rfl, by kernel_rfl, by kernel_rfl, trivial⟩ (show 8 - 0 < lf by omega) ⟨Nat.zero_le _, H2, _, B2⟩ ?_
      rintro m2 k f2 g3 ⟨hk8, H3, fb, B3⟩ ih2
      refine ok_go 0 ?_
      refine sy_load 0 (r := indexAddrOp Tryd.prog 31 (.slice a l.length c) (J i)) (h' := g3) (by kernel_rfl) e1 ?_
      refine ok_go 0 ?_
      refine sy_load 0 (r := loadT Tryd.prog g3 32 p) (h' := g3) (by kernel_rfl) (e2 _ H3.ext) ?_
      refine ok_go 2 ?_
      refine sy_test 0 (decide (Int.ofNat k < Int.ofNat l[i].length)) (by kernel_rfl) ?_ ?_
      · intro hkl
        have hkl := ok_nat hkl
        refine ok_go 3 ?_
        refine sy_test 0 (decide (Int.ofNat k < 8)) (by kernel_rfl) ?_ ?_
        · intro hk
          have hk : k < 8 := by have := of_decide_eq_true hk; simp at this; omega
          obtain ⟨q, e3, e4⟩ := row_get (hr.ext H3.ext) hkl
          refine ok_go 0 ?_
          refine sy_load 0 (r := indexAddrOp Tryd.prog 31 (.slice a l.length c) (J i)) (h' := g3) (by kernel_rfl) e1 ?_
          refine ok_go 0 ?_
          refine sy_load 0 (r := loadT Tryd.prog g3 32 p) (h' := g3) (by kernel_rfl) (e2 _ H3.ext) ?_
          refine ok_go 0 ?_
          refine sy_load 0 (r := indexAddrOp Tryd.prog 32 (.slice ra l[i].length rc) (J k)) (h' := g3) (by kernel_rfl) e3 ?_
          refine ok_go 0 ?_
          refine sy_load 0 (r := loadT Tryd.prog g3 3 q) (h' := g3) (by kernel_rfl) e4 ?_
          obtain ⟨M, hM⟩ : ∃ M, N = M + 1 := ⟨N - 1, by omega⟩
          have hw0 : 0 ≤ IntKind.wrap .u64 l[i][k] := by
            show 0 ≤ l[i][k] % 2 ^ 64
            exact Int.emod_nonneg _ (by decide)
          have hwN : IntKind.wrap .u64 (Int.ofNat N) = Int.ofNat (M + 1) := by
            rw [← hM]
            show Int.ofNat N % 2 ^ 64 = Int.ofNat N
            exact Int.emod_eq_of_lt (by simp) (by simp; omega)
          refine sy_call 1 (r := some (.int .u64 (IntKind.wrap .u64 (Int.ofNat N)), g3)) (v := .int .u64 (Int.ofNat (M + 1))) (h' := g3) (by kernel_rfl) (by rw [hwN]) ?_
          obtain ⟨y, hy, ey⟩ : ∃ y, y < N ∧ (IntKind.wrap .u64 l[i][k]).tmod (Int.ofNat (M + 1)) = Int.ofNat y := by
            obtain ⟨u, hu⟩ := Int.eq_ofNat_of_zero_le hw0
            refine ⟨u % (M + 1), by rw [hM]; exact Nat.mod_lt _ (Nat.succ_pos M), ?_⟩
            rw [hu]
            rfl
          refine ok_go 1 ?_
          refine sy_load 0 (r := indexAddrOp Tryd.prog 69 (.slice (some ⟨bk, 0, none⟩) N (2 * N)) (.int .u64 ((IntKind.wrap .u64 l[i][k]).tmod (Int.ofNat (M + 1))))) (h' := g3) (by kernel_rfl) (by rw [ey]; exact (idxSl u69 z4 hy).trans (by rw [Nat.zero_add, Nat.mul_one])) ?_
          refine ok_go 0 ?_
          refine sy_store 0 (r := storeT Tryd.prog g3 4 (ptr bk y) (.bool true)) (by kernel_rfl) (store1 z4 rfl B3 (by rw [cellsF_len]; exact hy)) ?_
          refine ok_go 1 ?_
          refine sy_next 0 _ (g3.put bk (.cells ((cellsF N fun u => .bool (fb u)).set y (.bool true)) 4 false)) (by kernel_rfl) (by kernel_rfl) (ih2 (k + 1) _ _ ⟨hk, H3.putI hbo _, fun u => if u = y then true else fb u, ?_⟩ (show 8 - (k + 1) < 8 - k by omega) ⟨by kernel_rfl, by kernel_rfl, by kernel_rfl, by kernel_rfl, by kernel_rfl, (by kernel_rfl : _ = Value.int .i64 (IntKind.wrap .i64 (Int.ofNat (k + 1)))).trans (by rw [wrap_nat (by omega)]), trivial⟩)
          rw [get_put, cellsF_set]
          refine congrArg (fun x => some (AObj.cells x 4 false)) (cellsF_congr fun u _ => ?_)
          show (if u = y then Value.bool true else Value.bool (fb u)) = Value.bool (if u = y then true else fb u)
          by_cases huy : u = y
          · rw [if_pos huy, if_pos huy]
          · rw [if_neg huy, if_neg huy]
        · intro _
          refine ok_go 0 ?_
          refine sy_loop 0 lf g3 (α := Nat) (fun s => [(0, .slice a l.length c), (5, J N), (6, .slice (some ⟨h.next, 0, none⟩) N (2 * N)), (7, J i), (8, .slice (some ⟨bk, 0, none⟩) N (2 * N)), (10, J s)]) (fun s g => s ≤ N ∧ ∃ vs R, InG h N h.next bk vs R g ∧ g.get bk = some (.cells (cellsF N fun u => .bool (fb u)) 4 false) ∧ (∀ u, u < N → i + 1 ≤ u → R u = []) ∧ (∀ u, u < N → (R u).Pairwise (· < ·) ∧ ∀ t ∈ R u, t < N) ∧ (∀ t ∈ R i, t < s) ∧ (R i).length ≤ s) (fun s _ => N - s) 0 (by kernel_rfl) (by kernel_rfl) ⟨by kernel_rfl, by kernel_rfl, by kernel_rfl, by kernel_rfl, by kernel_rfl, by kernel_rfl, trivial⟩ (show N - 0 < lf by omega) ⟨Nat.zero_le _, vs, R, H3, B3, fun u hu hiu => hR0 u hu (by omega), hR, by rw [hR0 i hlt (Nat.le_refl _)]; exact fun t ht => (by cases ht), by rw [hR0 i hlt (Nat.le_refl _)]; exact Nat.le_refl _⟩ ?_
          rintro m3 w f3 g5 ⟨hw, vs5, R5, H5, B5, q1, q2, q3, q4⟩ ih3
          refine ok_go 1 ?_
          refine sy_test 0 (decide (Int.ofNat w < Int.ofNat N)) (by kernel_rfl) ?_ ?_
          · intro hwl
            have hwl := ok_nat hwl
            refine ok_go 0 ?_
            refine sy_load 0 (r := indexAddrOp Tryd.prog 69 (.slice (some ⟨bk, 0, none⟩) N (2 * N)) (J w)) (h' := g5) (by kernel_rfl) (idx69 hwl) ?_
            refine ok_go 0 ?_
            refine sy_load 0 (r := loadT Tryd.prog g5 4 (ptr bk w)) (h' := g5) (by kernel_rfl) (load1 agg4 B5 (cellsF_get hwl)) ?_
            refine ok_go 0 ?_
            refine sy_test 0 (fb w) (by kernel_rfl) ?_ ?_
            · intro _
              obtain ⟨l', g6, g7, e6, e7, H7, B7⟩ := H5.app hlt w hbo (by omega)
              refine ok_go 0 ?_
              refine sy_load 0 (r := indexAddrOp Tryd.prog 31 (.slice (some ⟨h.next, 0, none⟩) N (2 * N)) (J i)) (h' := g5) (by kernel_rfl) (idx31 hlt) ?_
              refine ok_go 0 ?_
              refine sy_load 0 (r := loadT Tryd.prog g5 32 (ptr h.next i)) (h' := g5) (by kernel_rfl) (load1 agg32 H5.get (cellsF_get hlt)) ?_
              refine ok_go 1 ?_
              refine sy_call 0 (r := appendOp Tryd.prog (g5.new (.cells [J w] 3 false)) 32 (vs5 i) (.slice (some ⟨g5.next, 0, none⟩) 1 2)) (v := l') (h' := g6) (by kernel_rfl) e6 ?_
              refine ok_go 0 ?_
              refine sy_load 0 (r := indexAddrOp Tryd.prog 31 (.slice (some ⟨h.next, 0, none⟩) N (2 * N)) (J i)) (h' := g6) (by kernel_rfl) (idx31 hlt) ?_
              refine ok_go 0 ?_
              refine sy_store 0 (r := storeT Tryd.prog g6 32 (ptr h.next i) l') (by kernel_rfl) e7 ?_
              refine ok_go 1 ?_
              refine sy_next 0 _ g7 (by kernel_rfl) (by kernel_rfl) (ih3 (w + 1) _ g7 ⟨hwl, _, _, H7, B7.trans B5, fun u hu hiu => ?_, fun u hu => ?_, fun t ht => ?_, ?_⟩ (show N - (w + 1) < N - w by omega) ⟨by kernel_rfl, by kernel_rfl, by kernel_rfl, by kernel_rfl, by kernel_rfl, (by kernel_rfl : _ = Value.int .i64 (IntKind.wrap .i64 (Int.ofNat (w + 1)))).trans (by rw [wrap_nat (by omega)]), trivial⟩)
              · rw [updR_ne (by omega)]; exact q1 u hu hiu
              · by_cases hui : u = i
                · subst hui
                  rw [updR_eq]
                  refine ⟨List.pairwise_append.2 ⟨(q2 u hu).1, List.pairwise_singleton _ _, fun t ht z hz => ?_⟩, fun t ht => ?_⟩
                  · rw [List.mem_singleton.1 hz]; exact q3 t ht
                  · rcases List.mem_append.1 ht with ht | ht
                    · exact (q2 u hu).2 t ht
                    · rw [List.mem_singleton.1 ht]; exact hwl
                · rw [updR_ne hui]; exact q2 u hu
              · rw [updR_eq] at ht
                rcases List.mem_append.1 ht with ht | ht
                · have := q3 t ht; omega
                · rw [List.mem_singleton.1 ht]; exact Nat.lt_succ_self _
              · rw [updR_eq, List.length_append]; simp; exact q4
            · intro _
              refine ok_go 1 ?_
              exact sy_next 0 _ g5 (by kernel_rfl) (by kernel_rfl) (ih3 (w + 1) _ g5 ⟨hwl, _, _, H5, B5, q1, q2, fun t ht => by have := q3 t ht; omega, by omega⟩ (show N - (w + 1) < N - w by omega) ⟨by kernel_rfl, by kernel_rfl, by kernel_rfl, by kernel_rfl, by kernel_rfl, (by kernel_rfl : _ = Value.int .i64 (IntKind.wrap .i64 (Int.ofNat (w + 1)))).trans (by rw [wrap_nat (by omega)]), trivial⟩)
          · intro hwl
            refine ok_go 1 ?_
            exact sy_next 0 _ g5 (by kernel_rfl) (by kernel_rfl) (ih1 (i + 1) _ g5 ⟨hlt, _, _, _, H5, q1, q2⟩ (show N - (i + 1) < N - i by omega) ⟨by kernel_rfl, by kernel_rfl, by kernel_rfl, (by kernel_rfl : _ = Value.int .i64 (IntKind.wrap .i64 (Int.ofNat (i + 1)))).trans (by rw [wrap_nat (by omega)]), trivial⟩)
      · intro _
        refine ok_go 3 ?_
        refine sy_loop 0 lf g3 (α := Nat) (fun s => [(0, .slice a l.length c), (5, J N), (6, .slice (some ⟨h.next, 0, none⟩) N (2 * N)), (7, J i), (8, .slice (some ⟨bk, 0, none⟩) N (2 * N)), (10, J s)]) (fun s g => s ≤ N ∧ ∃ vs R, InG h N h.next bk vs R g ∧ g.get bk = some (.cells (cellsF N fun u => .bool (fb u)) 4 false) ∧ (∀ u, u < N → i + 1 ≤ u → R u = []) ∧ (∀ u, u < N → (R u).Pairwise (· < ·) ∧ ∀ t ∈ R u, t < N) ∧ (∀ t ∈ R i, t < s) ∧ (R i).length ≤ s) (fun s _ => N - s) 0 (by kernel_rfl) (by kernel_rfl) ⟨by kernel_rfl, by kernel_rfl, by kernel_rfl, by kernel_rfl, by kernel_rfl, by kernel_rfl, trivial⟩ (show N - 0 < lf by omega) ⟨Nat.zero_le _, vs, R, H3, B3, fun u hu hiu => hR0 u hu (by omega), hR, by rw [hR0 i hlt (Nat.le_refl _)]; exact fun t ht => (by cases ht), by rw [hR0 i hlt (Nat.le_refl _)]; exact Nat.le_refl _⟩ ?_
        rintro m3 w f3 g5 ⟨hw, vs5, R5, H5, B5, q1, q2, q3, q4⟩ ih3
        refine ok_go 1 ?_
        refine sy_test 0 (decide (Int.ofNat w < Int.ofNat N)) (by kernel_rfl) ?_ ?_
        · intro hwl
          have hwl := ok_nat hwl
          refine ok_go 0 ?_
          refine sy_load 0 (r := indexAddrOp Tryd.prog 69 (.slice (some ⟨bk, 0, none⟩) N (2 * N)) (J w)) (h' := g5) (by kernel_rfl) (idx69 hwl) ?_
          refine ok_go 0 ?_
          refine sy_load 0 (r := loadT Tryd.prog g5 4 (ptr bk w)) (h' := g5) (by kernel_rfl) (load1 agg4 B5 (cellsF_get hwl)) ?_
          refine ok_go 0 ?_
          refine sy_test 0 (fb w) (by kernel_rfl) ?_ ?_
          · intro _
            obtain ⟨l', g6, g7, e6, e7, H7, B7⟩ := H5.app hlt w hbo (by omega)
            refine ok_go 0 ?_
            refine sy_load 0 (r := indexAddrOp Tryd.prog 31 (.slice (some ⟨h.next, 0, none⟩) N (2 * N)) (J i)) (h' := g5) (by kernel_rfl) (idx31 hlt) ?_
            refine ok_go 0 ?_
            refine sy_load 0 (r := loadT Tryd.prog g5 32 (ptr h.next i)) (h' := g5) (by kernel_rfl) (load1 agg32 H5.get (cellsF_get hlt)) ?_
            refine ok_go 1 ?_
            refine sy_call 0 (r := appendOp Tryd.prog (g5.new (.cells [J w] 3 false)) 32 (vs5 i) (.slice (some ⟨g5.next, 0, none⟩) 1 2)) (v := l') (h' := g6) (by kernel_rfl) e6 ?_
            refine ok_go 0 ?_
            refine sy_load 0 (r := indexAddrOp Tryd.prog 31 (.slice (some ⟨h.next, 0, none⟩) N (2 * N)) (J i)) (h' := g6) (by kernel_rfl) (idx31 hlt) ?_
            refine ok_go 0 ?_
            refine sy_store 0 (r := storeT Tryd.prog g6 32 (ptr h.next i) l') (by kernel_rfl) e7 ?_
            refine ok_go 1 ?_
            refine sy_next 0 _ g7 (by kernel_rfl) (by kernel_rfl) (ih3 (w + 1) _ g7 ⟨hwl, _, _, H7, B7.trans B5, fun u hu hiu => ?_, fun u hu => ?_, fun t ht => ?_, ?_⟩ (show N - (w + 1) < N - w by omega) ⟨by kernel_rfl, by kernel_rfl, by kernel_rfl, by kernel_rfl, by kernel_rfl, (by kernel_rfl : _ = Value.int .i64 (IntKind.wrap .i64 (Int.ofNat (w + 1)))).trans (by rw [wrap_nat (by omega)]), trivial⟩)
            · rw [updR_ne (by omega)]; exact q1 u hu hiu
            · by_cases hui : u = i
              · subst hui
                rw [updR_eq]
                refine ⟨List.pairwise_append.2 ⟨(q2 u hu).1, List.pairwise_singleton _ _, fun t ht z hz => ?_⟩, fun t ht => ?_⟩
                · rw [List.mem_singleton.1 hz]; exact q3 t ht
                · rcases List.mem_append.1 ht with ht | ht
                  · exact (q2 u hu).2 t ht
                  · rw [List.mem_singleton.1 ht]; exact hwl
              · rw [updR_ne hui]; exact q2 u hu
            · rw [updR_eq] at ht
              rcases List.mem_append.1 ht with ht | ht
              · have := q3 t ht; omega
              · rw [List.mem_singleton.1 ht]; exact Nat.lt_succ_self _
            · rw [updR_eq, List.length_append]; simp; exact q4
          · intro _
            refine ok_go 1 ?_
            exact sy_next 0 _ g5 (by kernel_rfl) (by kernel_rfl) (ih3 (w + 1) _ g5 ⟨hwl, _, _, H5, B5, q1, q2, fun t ht => by have := q3 t ht; omega, by omega⟩ (show N - (w + 1) < N - w by omega) ⟨by kernel_rfl, by kernel_rfl, by kernel_rfl, by kernel_rfl, by kernel_rfl, (by kernel_rfl : _ = Value.int .i64 (IntKind.wrap .i64 (Int.ofNat (w + 1)))).trans (by rw [wrap_nat (by omega)]), trivial⟩)
        · intro hwl
          refine ok_go 1 ?_
          exact sy_next 0 _ g5 (by kernel_rfl) (by kernel_rfl) (ih1 (i + 1) _ g5 ⟨hlt, _, _, _, H5, q1, q2⟩ (show N - (i + 1) < N - i by omega) ⟨by kernel_rfl, by kernel_rfl, by kernel_rfl, (by kernel_rfl : _ = Value.int .i64 (IntKind.wrap .i64 (Int.ofNat (i + 1)))).trans (by rw [wrap_nat (by omega)]), trivial⟩)
    · intro _
      refine ok_go 0 ?_
      exact sy_done 0 (v := .slice (some ⟨h.next, 0, none⟩) N (2 * N)) (h := g1) (by kernel_rfl) ⟨H1.ext, fin⟩
  · intro _
    refine ok_go 5 ?_
    exact sy_done 0 (v := .slice (some ⟨h.next, 0, none⟩) N (2 * N)) (h := g1) (by kernel_rfl) ⟨H1.ext, fin⟩
end Go.Proofs.YtegcmgjldapnmaaDoor
