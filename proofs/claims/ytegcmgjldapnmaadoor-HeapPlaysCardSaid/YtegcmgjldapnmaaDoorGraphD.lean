/- GraphD: contracts of functions. -/
import Derived.Test.YtegcmgjldapnmaaDoorProg
import Derived.KernelRfl
import Derived.Test.YtegcmgjldapnmaaDoorSyB
import Derived.Test.YtegcmgjldapnmaaDoorGraphC
namespace Go.Proofs.YtegcmgjldapnmaaDoor
open Go Go.Eng Nim
set_option maxRecDepth 100000
set_option maxHeartbeats 4000000
/-- A graph of numbers. -/
def gI (G : List (List Nat)) : List (List Int) := G.map (·.map Int.ofNat)
theorem gI_len (G : List (List Nat)) : (gI G).length = G.length := by simp [gI]
theorem Gr.rowN {h : Hp} {v : Value} {G : List (List Nat)} (hg : Gr h v (gI G)) {i : Nat} (hi : i < G.length) : ∃ p rv, indexAddrOp Tryd.prog 31 v (J i) = some p ∧ loadT Tryd.prog h 32 p = some rv ∧ Rds h rv ((grow G i).map J) := by
  obtain ⟨p, rv, e1, e2, e3⟩ := hg.row (i := i) (by rw [gI_len]; exact hi)
  refine ⟨p, rv, e1, e2, ?_⟩
  have : (gI G)[i]'(by rw [gI_len]; exact hi) = (grow G i).map Int.ofNat := by
    simp only [gI, List.getElem_map, grow, List.getD_eq_getElem?_getD, List.getElem?_eq_getElem hi, Option.getD_some]
  rw [this, List.map_map] at e3
  exact e3
theorem rowN_get {h : Hp} {rv : Value} {r : List Nat} (hr : Rds h rv (r.map J)) {k : Nat} (hk : k < r.length) : ∃ p, indexAddrOp Tryd.prog 32 rv (J k) = some p ∧ loadT Tryd.prog h 3 p = some (J r[k]) :=
  hr.read u32 z3 aggI (by rw [List.getElem?_map, List.getElem?_eq_getElem hk]; rfl)
/-- What holds while vertices are found. -/
structure InF (h : Hp) (n : Nat) (S : St) (l : Value) (zs : List Nat) (g : Hp) : Prop where
  ext : h.Ext g
  ps : PS h.next n S g
  sl : OpenSl g 3 l (zs.map J)
  ne : ∀ j, j ≤ h.next → ∀ m c, l ≠ .slice (some ⟨j, 0, none⟩) m c
theorem InF.app {h : Hp} {n : Nat} {S : St} {l : Value} {zs : List Nat} {g : Hp} (H : InF h n S l zs g) (v : Nat) (hn : zs.length < 1000) : ∃ l' g', appendOp Tryd.prog (g.new (.cells [J v] 3 false)) 32 l (.slice (some ⟨g.next, 0, none⟩) 1 2) = some (l', g') ∧ InF h n S l' (zs ++ [v]) g' := by
  obtain ⟨l', g', e1, e2, e3, e4, e5⟩ := append1 slT H.sl (v := J v) rfl (by rw [List.length_map]; omega)
  have hb := H.ps.lt
  refine ⟨l', g', e1, ⟨⟨by have := H.ext.next; omega, fun j hj => by rw [e4 j (by omega) (H.ne j (by omega))]; exact H.ext.get j hj⟩, ⟨by omega, by rw [e4 _ hb (H.ne _ (Nat.le_refl _))]; exact H.ps.get⟩, by rw [List.map_append]; exact e2, fun j hj => e5 j (by omega)⟩⟩
theorem InF.store {h : Hp} {n : Nat} {S : St} {l : Value} {zs : List Nat} {g : Hp} (H : InF h n S l zs g) {v k : Nat} {d : Int} (hv : v < n) : ∃ g', storeT Tryd.prog g 68 (ptr h.next (v * 2)) (.agg #[J k, I d]) = some g' ∧ InF h n (updS S v (k, d)) l zs g' := by
  obtain ⟨g', e1, e2, e3, e4⟩ := H.ps.store (v := v) (k := k) (d := d) hv
  refine ⟨g', e1, ⟨⟨by rw [e3]; exact H.ext.next, fun j hj => (e4 j (by omega)).trans (H.ext.get j hj)⟩, e2, H.sl.ext (by rw [e3]; exact Nat.le_refl _) (fun j _ ⟨m, c, hc⟩ => e4 j (fun hj => H.ne j (by omega) m c hc)), H.ne⟩⟩
theorem PS.congr {b n : Nat} {S S' : St} {h : Hp} (H : PS b n S h) (e : ∀ v, v < n → S v = S' v) : PS b n S' h := by
  refine ⟨H.lt, ?_⟩
  rw [H.get]
  refine congrArg (fun x => some (AObj.cells x 68 false)) (cellsF_congr fun q hq => ?_)
  unfold stF
  rw [e _ (by omega)]
theorem InF.congr {h : Hp} {n : Nat} {S S' : St} {l : Value} {zs : List Nat} {g : Hp} (H : InF h n S l zs g) (e : ∀ v, v < n → S v = S' v) : InF h n S' l zs g := ⟨H.ext, H.ps.congr e, H.sl, H.ne⟩
theorem wd {d : Nat} (h : d < 2 ^ 62) : IntKind.wrap .i64 (Int.ofNat d - 1) = (d : Int) - 1 := by
  cases d with
  | zero => decide
  | succ d => rw [sub1 (by omega)]; simp
theorem wonP_step (S : St) (d : Int) (r : List Nat) {k : Nat} (hk : k < r.length) : wonP S d (r.take (k + 1)) = (wonP S d (r.take k) || ((S r[k]).1 == 0 && (S r[k]).2 == d - 1)) := by
  unfold wonP
  rw [List.take_succ_eq_append_getElem hk, List.any_append]
  simp only [List.any_cons, List.any_nil, Bool.or_false]
/-- What is found among the first i vertices. -/
def foundL (G : List (List Nat)) (S : St) (d : Int) (i : Nat) : List Nat := (List.range i).filter (foundP G S d)
theorem foundL_succ (G : List (List Nat)) (S : St) (d : Int) (i : Nat) : foundL G S d (i + 1) = foundL G S d i ++ (if foundP G S d i = true then [i] else []) := by
  unfold foundL
  rw [List.range_succ, List.filter_append]
  congr 1
  simp only [List.filter_cons, List.filter_nil]
theorem foundL_len (G : List (List Nat)) (S : St) (d : Int) (i : Nat) : (foundL G S d i).length ≤ i := by
  have := List.length_filter_le (foundP G S d) (List.range i)
  simpa [foundL] using this
/-- The states while the found vertices are told. -/
def seqS (G : List (List Nat)) (S : St) (d : Int) (zs : List Nat) (f : Nat) : St := fun v => if v ∈ zs.take f then progAt G S d v else S v
theorem prog_found {G : List (List Nat)} {S : St} {d : Int} {v : Nat} (h : foundP G S d v = true) : (S v).1 = 2 ∧ progAt G S d v = ((if wonP S d (grow G v) = true then 1 else 0), d) := by
  refine ⟨?_, ?_⟩
  · unfold foundP at h
    rw [Bool.and_eq_true] at h
    exact eq_of_beq h.1
  · unfold progAt
    rw [if_pos h]
    split <;> rfl
theorem seq_won {G : List (List Nat)} {S : St} {d : Int} {zs : List Nat} (hz : ∀ v ∈ zs, foundP G S d v = true) (f : Nat) (r : List Nat) : wonP (seqS G S d zs f) d r = wonP S d r := by
  unfold wonP
  congr 1
  funext t
  unfold seqS
  split
  · rename_i hm
    have hp := prog_found (hz t (List.mem_of_mem_take hm))
    rw [hp.2, hp.1]
    have : (d == d - 1) = false := by simp; omega
    simp only [this, Bool.and_false]
    rfl
  · rfl
theorem seq_step {G : List (List Nat)} {S : St} {d : Int} {zs : List Nat} {f : Nat} (hf : f < zs.length) (u : Nat) : updS (seqS G S d zs f) zs[f] (progAt G S d zs[f]) u = seqS G S d zs (f + 1) u := by
  unfold updS seqS
  rw [List.take_succ_eq_append_getElem hf]
  by_cases h1 : u = zs[f]
  · have hm : zs[f] ∈ zs.take f ++ [zs[f]] := List.mem_append_right _ (List.mem_singleton.2 rfl)
    rw [if_pos h1, h1, if_pos hm]
  · rw [if_neg h1]
    simp only [List.mem_append, List.mem_singleton, h1, or_false]
theorem s39 (G : List (List Nat)) (lf n : Nat) (hn : G.length ≤ 200) (hlf : 300 ≤ lf) (hsm : lf < 2 ^ 62) (hrow : ∀ i, (grow G i).length < lf) (hG : ∀ i t, t ∈ grow G i → t < G.length) (v : Value) (h : Hp) (hg : Gr h v (gI G)) :
    ∃ x h', Ev lf (n+1) 39 [v] h = some (x, h') ∧ x = .slice (some ⟨h.next, 0, none⟩) G.length (2 * G.length) ∧ h.Ext h' ∧ PS h.next G.length (refS G (G.length + 1)) h' := by
  obtain ⟨a, c, hsh⟩ := hg.shape
  rw [gI_len] at hsh
  subst hsh
  refine fnS_ok (Q := fun x h' => x = .slice (some ⟨h.next, 0, none⟩) G.length (2 * G.length) ∧ h.Ext h' ∧ PS h.next G.length (refS G (G.length + 1)) h') ?_
  refine ok_go 1 ?_
  refine sy_call 0 (r := makeSliceOp Tryd.prog h 65 (J G.length) (J G.length)) (v := .slice (some ⟨h.next, 0, none⟩) G.length (2 * G.length)) (h' := h.new (.cells (zeros [J 0, I 0] G.length) 68 false)) (by kernel_rfl) (makeSl (z := .agg #[J 0, I 0]) (inf := (Tryd.prog.info? 68).get!) u65 (by kernel_rfl) (by kernel_rfl) (by kernel_rfl) (by kernel_rfl) (by kernel_rfl) (by omega)) ?_
  have P0 : PS h.next G.length (fun _ => (0, 0)) (h.new (.cells (zeros [J 0, I 0] G.length) 68 false)) := ⟨Nat.lt_succ_self _, by rw [zeros_two]; exact get_new _ _⟩
  have X0 : h.Ext (h.new (.cells (zeros [J 0, I 0] G.length) 68 false)) := Hp.Ext.new _ _
  generalize hh0 : h.new (.cells (zeros [J 0, I 0] G.length) 68 false) = h0 at P0 X0
  refine ok_go 1 ?_
  refine sy_loop 0 lf h0 (α := Nat) (fun s => [(0, .slice a G.length c), (3, .slice (some ⟨h.next, 0, none⟩) G.length (2 * G.length)), (24, J G.length), (25, J s)]) (fun s g => s ≤ G.length ∧ InF h G.length (fun v => if v < s then (2, 0) else (0, 0)) (.slice none 0 0) [] g) (fun s _ => G.length - s) 0 (by kernel_rfl) (by kernel_rfl) ⟨by kernel_rfl, by kernel_rfl, by kernel_rfl, by kernel_rfl, trivial⟩ (show G.length - 0 < lf by omega) ⟨Nat.zero_le _, X0, P0, .inl ⟨rfl, rfl⟩, fun j _ m c hc => by cases hc⟩ ?_
  rintro m1 i f1 g1 ⟨hi, H1⟩ ih1
  refine ok_go 1 ?_
  refine sy_test 0 (decide (Int.ofNat i < Int.ofNat G.length)) (by kernel_rfl) ?_ ?_
  · intro hlt
    have hlt := ok_nat hlt
    obtain ⟨g2, e2, H2⟩ := H1.store (v := i) (k := 2) (d := 0) hlt
    refine ok_go 1 ?_
    refine sy_load 0 (r := indexAddrOp Tryd.prog 65 (.slice (some ⟨h.next, 0, none⟩) G.length (2 * G.length)) (J i)) (h' := g1) (by kernel_rfl) (idx65 hlt) ?_
    refine ok_go 0 ?_
    refine sy_store 0 (r := storeT Tryd.prog g1 68 (ptr h.next (i * 2)) (.agg #[J 2, I 0])) (by kernel_rfl) e2 ?_
    refine ok_go 1 ?_
    refine sy_next 0 _ g2 (by kernel_rfl) (by kernel_rfl) (ih1 (i + 1) _ g2 ⟨hlt, H2.congr fun v _ => ?_⟩ (show G.length - (i + 1) < G.length - i by omega) ⟨by kernel_rfl, by kernel_rfl, by kernel_rfl, (by kernel_rfl : _ = Value.int .i64 (IntKind.wrap .i64 (Int.ofNat (i + 1)))).trans (by rw [wrap_nat (by omega)]), trivial⟩)
    show (if v = i then (2, 0) else if v < i then (2, 0) else (0, 0)) = (if v < i + 1 then ((2, 0) : Nat × Int) else (0, 0))
    by_cases h1 : v = i
    · rw [if_pos h1, if_pos (by omega)]
    · rw [if_neg h1]
      by_cases h2 : v < i
      · rw [if_pos h2, if_pos (by omega)]
      · rw [if_neg h2, if_neg (by omega)]
  · intro hlt
    have hlt := no_nat hlt
    have H1 : InF h G.length (refS G 0) (.slice none 0 0) [] g1 := H1.congr fun v hv => if_pos (by omega)
    refine ok_go 0 ?_
    refine sy_loop 0 lf g1 (α := Nat) (fun s => [(0, .slice a G.length c), (3, .slice (some ⟨h.next, 0, none⟩) G.length (2 * G.length)), (5, J s)]) (fun s g => s ≤ G.length + 1 ∧ InF h G.length (refS G s) (.slice none 0 0) [] g) (fun s _ => G.length + 1 - s) 0 (by kernel_rfl) (by kernel_rfl) ⟨by kernel_rfl, by kernel_rfl, by kernel_rfl, trivial⟩ (show G.length + 1 - 0 < lf by omega) ⟨Nat.zero_le _, H1⟩ ?_
    rintro m2 d f2 g2 ⟨hd, H2⟩ ih2
    refine ok_go 2 ?_
    refine sy_test 0 (decide (Int.ofNat d ≤ Int.ofNat G.length)) (by kernel_rfl) ?_ ?_
    · intro hlt
      have hdl : d ≤ G.length := by have := of_decide_eq_true hlt; simpa using this
      clear hlt
      have IV := inv_refS (G := G) d
      generalize hS : refS G d = S at H2 IV
      refine ok_go 1 ?_
      refine sy_loop 0 lf g2 (α := Nat × Value) (fun s => [(0, .slice a G.length c), (3, .slice (some ⟨h.next, 0, none⟩) G.length (2 * G.length)), (5, J d), (6, s.2), (39, .slice a G.length c), (40, J G.length), (41, J s.1)]) (fun s g => s.1 ≤ G.length ∧ InF h G.length S s.2 (foundL G S d s.1) g) (fun s _ => G.length - s.1) (0, .slice none 0 0) (by kernel_rfl) (by kernel_rfl) ⟨by kernel_rfl, by kernel_rfl, by kernel_rfl, by kernel_rfl, by kernel_rfl, by kernel_rfl, by kernel_rfl, trivial⟩ (show G.length - 0 < lf by omega) ⟨Nat.zero_le _, H2⟩ ?_
      rintro m3 ⟨i, fl⟩ f3 g3 ⟨hi, H3⟩ ih3
      dsimp only at hi H3
      refine ok_go 1 ?_
      refine sy_test 0 (decide (Int.ofNat i < Int.ofNat G.length)) (by kernel_rfl) ?_ ?_
      · intro hlt
        have hlt := ok_nat hlt
        obtain ⟨p, rv, e1, e2, hr⟩ := (hg.ext H3.ext).rowN hlt
        obtain ⟨ra, rc, hrs⟩ := hr.shape
        rw [List.length_map] at hrs
        subst hrs
        refine ok_go 0 ?_
        refine sy_load 0 (r := indexAddrOp Tryd.prog 31 (.slice a G.length c) (J i)) (h' := g3) (by kernel_rfl) e1 ?_
        refine ok_go 0 ?_
        refine sy_load 0 (r := loadT Tryd.prog g3 32 p) (h' := g3) (by kernel_rfl) e2 ?_
        refine ok_go 0 ?_
        refine sy_load 0 (r := indexAddrOp Tryd.prog 65 (.slice (some ⟨h.next, 0, none⟩) G.length (2 * G.length)) (J i)) (h' := g3) (by kernel_rfl) (idx65 hlt) ?_
        refine ok_go 1 ?_
        refine sy_load 0 (r := loadT Tryd.prog g3 3 (ptr h.next (i * 2 + 0))) (h' := g3) (by kernel_rfl) (H3.ps.kind hlt) ?_
        refine ok_go 1 ?_
        refine sy_test 0 (Int.ofNat (S i).1 != 2) (by kernel_rfl) ?_ ?_
        · intro hk
          have hk : (S i).1 ≠ 2 := fun hc => by rw [hc] at hk; cases hk
          have hf : foundP G S d i = false := by
            unfold foundP
            rw [show ((S i).1 == 2) = false by simpa using hk]
            rfl
          refine ok_go 1 ?_
          exact sy_next 0 _ g3 (by kernel_rfl) (by kernel_rfl) (ih3 (i + 1, fl) _ g3 ⟨hlt, by rw [foundL_succ, hf]; simpa using H3⟩ (show G.length - (i + 1) < G.length - i by omega) ⟨by kernel_rfl, by kernel_rfl, by kernel_rfl, by kernel_rfl, by kernel_rfl, by kernel_rfl, (by kernel_rfl : _ = Value.int .i64 (IntKind.wrap .i64 (Int.ofNat (i + 1)))).trans (by rw [wrap_nat (by omega)]), trivial⟩)
        · intro hk
          have hk : (S i).1 = 2 := by
            have : ¬ (Int.ofNat (S i).1 ≠ 2) := by simpa using hk
            have := Classical.not_not.1 this
            exact Int.ofNat.inj this
          refine ok_go 1 ?_
          refine sy_loop 0 lf g3 (α := Nat × Bool) (fun s => [(0, .slice a G.length c), (3, .slice (some ⟨h.next, 0, none⟩) G.length (2 * G.length)), (5, J d), (6, fl), (7, J i), (8, .slice ra (grow G i).length rc), (39, .slice a G.length c), (40, J G.length), (41, J i), (9, .bool s.2), (52, .slice ra (grow G i).length rc), (53, J (grow G i).length), (54, J s.1)]) (fun s g => g = g3 ∧ s.1 ≤ (grow G i).length ∧ s.2 = wonP S d ((grow G i).take s.1)) (fun s _ => (grow G i).length - s.1) (0, false) (by kernel_rfl) (by kernel_rfl) ⟨by kernel_rfl, by kernel_rfl, by kernel_rfl, by kernel_rfl, by kernel_rfl, by kernel_rfl, by kernel_rfl, by kernel_rfl, by kernel_rfl, by kernel_rfl, by kernel_rfl, by kernel_rfl, by kernel_rfl, trivial⟩ (show (grow G i).length - 0 < lf by have := hrow i; omega) ⟨rfl, Nat.zero_le _, rfl⟩ ?_
          rintro m4 ⟨k, wb⟩ f4 g4 ⟨rfl, hkl, hwb⟩ ih4
          dsimp only at hkl hwb
          refine ok_go 1 ?_
          refine sy_test 0 (decide (Int.ofNat k < Int.ofNat (grow G i).length)) (by kernel_rfl) ?_ ?_
          · intro hkt
            have hkt := ok_nat hkt
            have hrl := hrow i
            obtain ⟨q, e3, e4⟩ := rowN_get hr hkt
            have htn := hG i (grow G i)[k] (List.getElem_mem hkt)
            have hst := wonP_step S d (grow G i) hkt
            rw [← hwb] at hst
            refine ok_go 0 ?_
            refine sy_load 0 (r := indexAddrOp Tryd.prog 32 (.slice ra (grow G i).length rc) (J k)) (h' := g4) (by kernel_rfl) e3 ?_
            refine ok_go 0 ?_
            refine sy_load 0 (r := loadT Tryd.prog g4 3 q) (h' := g4) (by kernel_rfl) e4 ?_
            cases wb with
            | true =>
              refine ok_go 10 ?_
              exact sy_next 0 _ g4 (by kernel_rfl) (by kernel_rfl) (ih4 (k + 1, true) _ g4 ⟨rfl, hkt, by rw [hst]; rfl⟩ (show (grow G i).length - (k + 1) < (grow G i).length - k by omega) ⟨by kernel_rfl, by kernel_rfl, by kernel_rfl, by kernel_rfl, by kernel_rfl, by kernel_rfl, by kernel_rfl, by kernel_rfl, by kernel_rfl, by kernel_rfl, by kernel_rfl, by kernel_rfl, (by kernel_rfl : _ = Value.int .i64 (IntKind.wrap .i64 (Int.ofNat (k + 1)))).trans (by rw [wrap_nat (by omega)]), trivial⟩)
            | false =>
              refine ok_go 3 ?_
              refine sy_load 0 (r := indexAddrOp Tryd.prog 65 (.slice (some ⟨h.next, 0, none⟩) G.length (2 * G.length)) (J (grow G i)[k])) (h' := g4) (by kernel_rfl) (idx65 htn) ?_
              refine ok_go 3 ?_
              refine sy_load 0 (r := loadT Tryd.prog g4 3 (ptr h.next ((grow G i)[k] * 2 + 0))) (h' := g4) (by kernel_rfl) (H3.ps.kind htn) ?_
              refine ok_go 3 ?_
              refine sy_test 0 (Int.ofNat (S (grow G i)[k]).1 == 0) (by kernel_rfl) ?_ ?_
              · intro hz
                have hz : ((S (grow G i)[k]).1 == 0) = true := by
                  have : Int.ofNat (S (grow G i)[k]).1 = Int.ofNat 0 := eq_of_beq hz
                  rw [Int.ofNat.inj this]; rfl
                refine ok_go 2 ?_
                refine sy_load 0 (r := indexAddrOp Tryd.prog 65 (.slice (some ⟨h.next, 0, none⟩) G.length (2 * G.length)) (J (grow G i)[k])) (h' := g4) (by kernel_rfl) (idx65 htn) ?_
                refine ok_go 3 ?_
                refine sy_load 0 (r := loadT Tryd.prog g4 3 (ptr h.next ((grow G i)[k] * 2 + 1))) (h' := g4) (by kernel_rfl) (H3.ps.dist htn) ?_
                refine ok_go 9 ?_
                exact sy_next 0 _ g4 (by kernel_rfl) (by kernel_rfl) (ih4 (k + 1, (S (grow G i)[k]).2 == (d : Int) - 1) _ g4 ⟨rfl, hkt, by rw [hst, hz]; rfl⟩ (show (grow G i).length - (k + 1) < (grow G i).length - k by omega) ⟨by kernel_rfl, by kernel_rfl, by kernel_rfl, by kernel_rfl, by kernel_rfl, by kernel_rfl, by kernel_rfl, by kernel_rfl, by kernel_rfl, (by kernel_rfl : _ = Value.bool ((S (grow G i)[k]).2 == IntKind.wrap .i64 (Int.ofNat d - 1))).trans (by rw [wd (by omega)]), by kernel_rfl, by kernel_rfl, (by kernel_rfl : _ = Value.int .i64 (IntKind.wrap .i64 (Int.ofNat (k + 1)))).trans (by rw [wrap_nat (by omega)]), trivial⟩)
              · intro hz
                have hz : ((S (grow G i)[k]).1 == 0) = false := by
                  cases hc : (S (grow G i)[k]).1 == 0 with
                  | false => rfl
                  | true => rw [eq_of_beq hc] at hz; cases hz
                refine ok_go 11 ?_
                exact sy_next 0 _ g4 (by kernel_rfl) (by kernel_rfl) (ih4 (k + 1, false) _ g4 ⟨rfl, hkt, by rw [hst, hz]; rfl⟩ (show (grow G i).length - (k + 1) < (grow G i).length - k by omega) ⟨by kernel_rfl, by kernel_rfl, by kernel_rfl, by kernel_rfl, by kernel_rfl, by kernel_rfl, by kernel_rfl, by kernel_rfl, by kernel_rfl, by kernel_rfl, by kernel_rfl, by kernel_rfl, (by kernel_rfl : _ = Value.int .i64 (IntKind.wrap .i64 (Int.ofNat (k + 1)))).trans (by rw [wrap_nat (by omega)]), trivial⟩)
          · intro hkt
            have hkt := no_nat hkt
            rw [List.take_of_length_le hkt] at hwb
            cases wb with
            | true =>
              have hf : foundP G S d i = true := by
                unfold foundP
                rw [hk, ← hwb]
                rfl
              obtain ⟨l', g5, e5, H5⟩ := H3.app i (by have := foundL_len G S d i; omega)
              refine ok_go 2 ?_
              refine sy_call 0 (r := appendOp Tryd.prog (g4.new (.cells [J i] 3 false)) 32 fl (.slice (some ⟨g4.next, 0, none⟩) 1 2)) (v := l') (h' := g5) (by kernel_rfl) e5 ?_
              refine ok_go 1 ?_
              exact sy_next 0 _ g5 (by kernel_rfl) (by kernel_rfl) (ih3 (i + 1, l') _ g5 ⟨hlt, by rw [foundL_succ, hf]; simpa using H5⟩ (show G.length - (i + 1) < G.length - i by omega) ⟨by kernel_rfl, by kernel_rfl, by kernel_rfl, by kernel_rfl, by kernel_rfl, by kernel_rfl, (by kernel_rfl : _ = Value.int .i64 (IntKind.wrap .i64 (Int.ofNat (i + 1)))).trans (by rw [wrap_nat (by omega)]), trivial⟩)
            | false =>
              refine ok_go 2 ?_
              refine sy_loop 0 lf g4 (α := Nat × Int) (fun s => [(0, .slice a G.length c), (3, .slice (some ⟨h.next, 0, none⟩) G.length (2 * G.length)), (5, J d), (6, fl), (7, J i), (8, .slice ra (grow G i).length rc), (39, .slice a G.length c), (40, J G.length), (41, J i), (12, I s.2), (83, .slice ra (grow G i).length rc), (84, J (grow G i).length), (85, J s.1)]) (fun s g => g = g4 ∧ s.1 ≤ (grow G i).length ∧ s.2 = lastP S ((grow G i).take s.1) ∧ all1 S ((grow G i).take s.1) = true) (fun s _ => (grow G i).length - s.1) (0, -1) (by kernel_rfl) (by kernel_rfl) ⟨by kernel_rfl, by kernel_rfl, by kernel_rfl, by kernel_rfl, by kernel_rfl, by kernel_rfl, by kernel_rfl, by kernel_rfl, by kernel_rfl, by kernel_rfl, by kernel_rfl, by kernel_rfl, by kernel_rfl, trivial⟩ (show (grow G i).length - 0 < lf by have := hrow i; omega) ⟨rfl, Nat.zero_le _, rfl, rfl⟩ ?_
              rintro m5 ⟨k, la⟩ f5 g5 ⟨rfl, hkl, hla, hal⟩ ih5
              dsimp only at hkl hla hal
              refine ok_go 1 ?_
              refine sy_test 0 (decide (Int.ofNat k < Int.ofNat (grow G i).length)) (by kernel_rfl) ?_ ?_
              · intro hkt
                have hkt := ok_nat hkt
                have hrl := hrow i
                obtain ⟨q, e3, e4⟩ := rowN_get hr hkt
                have htn := hG i (grow G i)[k] (List.getElem_mem hkt)
                refine ok_go 0 ?_
                refine sy_load 0 (r := indexAddrOp Tryd.prog 32 (.slice ra (grow G i).length rc) (J k)) (h' := g5) (by kernel_rfl) e3 ?_
                refine ok_go 0 ?_
                refine sy_load 0 (r := loadT Tryd.prog g5 3 q) (h' := g5) (by kernel_rfl) e4 ?_
                refine ok_go 0 ?_
                refine sy_load 0 (r := indexAddrOp Tryd.prog 65 (.slice (some ⟨h.next, 0, none⟩) G.length (2 * G.length)) (J (grow G i)[k])) (h' := g5) (by kernel_rfl) (idx65 htn) ?_
                refine ok_go 1 ?_
                refine sy_load 0 (r := loadT Tryd.prog g5 3 (ptr h.next ((grow G i)[k] * 2 + 0))) (h' := g5) (by kernel_rfl) (H3.ps.kind htn) ?_
                refine ok_go 1 ?_
                refine sy_test 0 (Int.ofNat (S (grow G i)[k]).1 != 1) (by kernel_rfl) ?_ ?_
                · intro h1
                  have hf : foundP G S d i = false := by
                    have h2 : all1 S (grow G i) = false := by
                      cases hc : all1 S (grow G i) with
                      | false => rfl
                      | true => rw [all1_iff.1 hc _ (List.getElem_mem hkt)] at h1; cases h1
                    unfold foundP
                    rw [hk, ← hwb, h2]
                    rfl
                  refine ok_go 1 ?_
                  exact sy_next 0 _ g5 (by kernel_rfl) (by kernel_rfl) (ih3 (i + 1, fl) _ g5 ⟨hlt, by rw [foundL_succ, hf]; simpa using H3⟩ (show G.length - (i + 1) < G.length - i by omega) ⟨by kernel_rfl, by kernel_rfl, by kernel_rfl, by kernel_rfl, by kernel_rfl, by kernel_rfl, (by kernel_rfl : _ = Value.int .i64 (IntKind.wrap .i64 (Int.ofNat (i + 1)))).trans (by rw [wrap_nat (by omega)]), trivial⟩)
                · intro h1
                  refine ok_go 0 ?_
                  refine sy_load 0 (r := indexAddrOp Tryd.prog 65 (.slice (some ⟨h.next, 0, none⟩) G.length (2 * G.length)) (J (grow G i)[k])) (h' := g5) (by kernel_rfl) (idx65 htn) ?_
                  refine ok_go 1 ?_
                  refine sy_load 0 (r := loadT Tryd.prog g5 3 (ptr h.next ((grow G i)[k] * 2 + 1))) (h' := g5) (by kernel_rfl) (H3.ps.dist htn) ?_
                  have h1 : (S (grow G i)[k]).1 = 1 := by
                    have : ¬ (Int.ofNat (S (grow G i)[k]).1 ≠ 1) := by simpa using h1
                    have := Classical.not_not.1 this
                    exact Int.ofNat.inj this
                  have t1 : lastP S ((grow G i).take (k + 1)) = max (lastP S ((grow G i).take k)) (S (grow G i)[k]).2 := by
                    unfold lastP
                    rw [List.take_succ_eq_append_getElem hkt, List.foldl_append]
                    rfl
                  have t2 : all1 S ((grow G i).take (k + 1)) = true := by
                    unfold all1 at hal ⊢
                    rw [List.take_succ_eq_append_getElem hkt, List.all_append, hal]
                    simp [h1]
                  refine ok_go 2 ?_
                  exact sy_next 0 _ g5 (by kernel_rfl) (by kernel_rfl) (ih5 (k + 1, max la (S (grow G i)[k]).2) _ g5 ⟨rfl, hkt, by rw [t1, hla], t2⟩ (show (grow G i).length - (k + 1) < (grow G i).length - k by omega) ⟨by kernel_rfl, by kernel_rfl, by kernel_rfl, by kernel_rfl, by kernel_rfl, by kernel_rfl, by kernel_rfl, by kernel_rfl, by kernel_rfl, (by kernel_rfl : _ = Value.int .i64 (if (S (grow G i)[k]).2 > la then (S (grow G i)[k]).2 else la)).trans (by rw [Int.max_def]; congr 1; split <;> split <;> omega), by kernel_rfl, by kernel_rfl, (by kernel_rfl : _ = Value.int .i64 (IntKind.wrap .i64 (Int.ofNat (k + 1)))).trans (by rw [wrap_nat (by omega)]), trivial⟩)
              · intro hkt
                have hkt := no_nat hkt
                rw [List.take_of_length_le hkt] at hla hal
                refine ok_go 2 ?_
                refine sy_test 0 (la == IntKind.wrap .i64 (Int.ofNat d - 1)) (by kernel_rfl) ?_ ?_
                · intro hc
                  rw [wd (by omega)] at hc
                  have hf : foundP G S d i = true := by
                    unfold foundP
                    rw [hk, ← hwb, hal, ← hla, hc]
                    rfl
                  obtain ⟨l', g6, e5, H5⟩ := H3.app i (by have := foundL_len G S d i; omega)
                  refine ok_go 1 ?_
                  refine sy_call 0 (r := appendOp Tryd.prog (g5.new (.cells [J i] 3 false)) 32 fl (.slice (some ⟨g5.next, 0, none⟩) 1 2)) (v := l') (h' := g6) (by kernel_rfl) e5 ?_
                  refine ok_go 1 ?_
                  exact sy_next 0 _ g6 (by kernel_rfl) (by kernel_rfl) (ih3 (i + 1, l') _ g6 ⟨hlt, by rw [foundL_succ, hf]; simpa using H5⟩ (show G.length - (i + 1) < G.length - i by omega) ⟨by kernel_rfl, by kernel_rfl, by kernel_rfl, by kernel_rfl, by kernel_rfl, by kernel_rfl, (by kernel_rfl : _ = Value.int .i64 (IntKind.wrap .i64 (Int.ofNat (i + 1)))).trans (by rw [wrap_nat (by omega)]), trivial⟩)
                · intro hc
                  rw [wd (by omega)] at hc
                  have hf : foundP G S d i = false := by
                    unfold foundP
                    rw [hk, ← hwb, hal, ← hla, hc]
                    rfl
                  refine ok_go 1 ?_
                  exact sy_next 0 _ g5 (by kernel_rfl) (by kernel_rfl) (ih3 (i + 1, fl) _ g5 ⟨hlt, by rw [foundL_succ, hf]; simpa using H3⟩ (show G.length - (i + 1) < G.length - i by omega) ⟨by kernel_rfl, by kernel_rfl, by kernel_rfl, by kernel_rfl, by kernel_rfl, by kernel_rfl, (by kernel_rfl : _ = Value.int .i64 (IntKind.wrap .i64 (Int.ofNat (i + 1)))).trans (by rw [wrap_nat (by omega)]), trivial⟩)
      · intro hlt
        have hlt := no_nat hlt
        have hil : i = G.length := by omega
        subst hil
        have hzl := foundL_len G S d G.length
        have hzm : ∀ v, v ∈ foundL G S d G.length ↔ v < G.length ∧ foundP G S d v = true := fun v => by simp [foundL]
        generalize hzs : foundL G S d G.length = zs at H3 hzl hzm
        obtain ⟨fa, fc, hfl⟩ := H3.sl.shape
        rw [List.length_map] at hfl
        subst hfl
        have hzf : ∀ v ∈ zs, foundP G S d v = true := fun v hv => ((hzm v).1 hv).2
        have H4 : InF h G.length (seqS G S d zs 0) (.slice fa zs.length fc) zs g3 := H3.congr fun v _ => by simp [seqS]
        clear H3
        refine ok_go 1 ?_
        refine sy_loop 0 lf g3 (α := Nat) (fun s => [(0, .slice a G.length c), (3, .slice (some ⟨h.next, 0, none⟩) G.length (2 * G.length)), (5, J d), (112, .slice fa zs.length fc), (113, J zs.length), (114, J s)]) (fun s g => s ≤ zs.length ∧ InF h G.length (seqS G S d zs s) (.slice fa zs.length fc) zs g) (fun s _ => zs.length - s) 0 (by kernel_rfl) (by kernel_rfl) ⟨by kernel_rfl, by kernel_rfl, by kernel_rfl, by kernel_rfl, by kernel_rfl, by kernel_rfl, trivial⟩ (show zs.length - 0 < lf by omega) ⟨Nat.zero_le _, H4⟩ ?_
        rintro m6 f f6 g6 ⟨hfl, H6⟩ ih6
        refine ok_go 1 ?_
        refine sy_test 0 (decide (Int.ofNat f < Int.ofNat zs.length)) (by kernel_rfl) ?_ ?_
        · intro hlt
          have hlt := ok_nat hlt
          obtain ⟨q, e3, e4⟩ := rowN_get H6.sl.rd hlt
          have hzv := (hzm zs[f]).1 (List.getElem_mem hlt)
          obtain ⟨p, rv, e1, e2, hr⟩ := (hg.ext H6.ext).rowN hzv.1
          obtain ⟨ra, rc, hrs⟩ := hr.shape
          rw [List.length_map] at hrs
          subst hrs
          have hrl := hrow zs[f]
          refine ok_go 0 ?_
          refine sy_load 0 (r := indexAddrOp Tryd.prog 32 (.slice fa zs.length fc) (J f)) (h' := g6) (by kernel_rfl) e3 ?_
          refine ok_go 0 ?_
          refine sy_load 0 (r := loadT Tryd.prog g6 3 q) (h' := g6) (by kernel_rfl) e4 ?_
          refine ok_go 0 ?_
          refine sy_load 0 (r := indexAddrOp Tryd.prog 31 (.slice a G.length c) (J zs[f])) (h' := g6) (by kernel_rfl) e1 ?_
          refine ok_go 0 ?_
          refine sy_load 0 (r := loadT Tryd.prog g6 32 p) (h' := g6) (by kernel_rfl) e2 ?_
          refine ok_go 1 ?_
          refine sy_loop 0 lf g6 (α := Nat × Nat) (fun s => [(0, .slice a G.length c), (3, .slice (some ⟨h.next, 0, none⟩) G.length (2 * G.length)), (5, J d), (112, .slice fa zs.length fc), (113, J zs.length), (114, J f), (16, J zs[f]), (17, J s.2), (121, .slice ra (grow G zs[f]).length rc), (122, J (grow G zs[f]).length), (123, J s.1)]) (fun s g => g = g6 ∧ s.1 ≤ (grow G zs[f]).length ∧ s.2 = (if wonP (seqS G S d zs f) d ((grow G zs[f]).take s.1) = true then 1 else 0)) (fun s _ => (grow G zs[f]).length - s.1) (0, 0) (by kernel_rfl) (by kernel_rfl) ⟨by kernel_rfl, by kernel_rfl, by kernel_rfl, by kernel_rfl, by kernel_rfl, by kernel_rfl, by kernel_rfl, by kernel_rfl, by kernel_rfl, by kernel_rfl, by kernel_rfl, trivial⟩ (show (grow G zs[f]).length - 0 < lf by omega) ⟨rfl, Nat.zero_le _, rfl⟩ ?_
          rintro m7 ⟨k, kd⟩ f7 g7 ⟨rfl, hkl, hkd⟩ ih7
          dsimp only at hkl hkd
          refine ok_go 1 ?_
          refine sy_test 0 (decide (Int.ofNat k < Int.ofNat (grow G zs[f]).length)) (by kernel_rfl) ?_ ?_
          · intro hkt
            have hkt := ok_nat hkt
            obtain ⟨q', e5, e6⟩ := rowN_get hr hkt
            have htn := hG zs[f] (grow G zs[f])[k] (List.getElem_mem hkt)
            have hst := wonP_step (seqS G S d zs f) d (grow G zs[f]) hkt
            refine ok_go 0 ?_
            refine sy_load 0 (r := indexAddrOp Tryd.prog 32 (.slice ra (grow G zs[f]).length rc) (J k)) (h' := g7) (by kernel_rfl) e5 ?_
            refine ok_go 0 ?_
            refine sy_load 0 (r := loadT Tryd.prog g7 3 q') (h' := g7) (by kernel_rfl) e6 ?_
            refine ok_go 0 ?_
            refine sy_load 0 (r := indexAddrOp Tryd.prog 65 (.slice (some ⟨h.next, 0, none⟩) G.length (2 * G.length)) (J (grow G zs[f])[k])) (h' := g7) (by kernel_rfl) (idx65 htn) ?_
            refine ok_go 0 ?_
            refine sy_load 0 (r := loadT Tryd.prog g7 68 (ptr h.next ((grow G zs[f])[k] * 2))) (h' := g7) (by kernel_rfl) (H6.ps.both htn) ?_
            refine ok_go 2 ?_
            refine sy_call 0 (r := (pureOp Tryd.prog (rhoEq (.agg #[J (seqS G S d zs f (grow G zs[f])[k]).1, I (seqS G S d zs f (grow G zs[f])[k]).2]) (.agg #[J 0, I (IntKind.wrap .i64 (Int.ofNat d - 1))])) opEq).map (·, g7)) (by kernel_rfl) (eq68 _ _ _ _ _) ?_
            refine ok_go 0 ?_
            refine sy_test 0 (decide (Int.ofNat (seqS G S d zs f (grow G zs[f])[k]).1 = Int.ofNat 0 ∧ (seqS G S d zs f (grow G zs[f])[k]).2 = IntKind.wrap .i64 (Int.ofNat d - 1))) (by kernel_rfl) ?_ ?_
            · intro hc
              have hc := of_decide_eq_true hc
              rw [wd (by omega)] at hc
              have hcc : ((seqS G S d zs f (grow G zs[f])[k]).1 == 0 && (seqS G S d zs f (grow G zs[f])[k]).2 == (d : Int) - 1) = true := by
                rw [Int.ofNat.inj hc.1, hc.2]
                simp
              refine ok_go 1 ?_
              exact sy_next 0 _ g7 (by kernel_rfl) (by kernel_rfl) (ih7 (k + 1, 1) _ g7 ⟨rfl, hkt, by rw [hst, hcc, Bool.or_true]; rfl⟩ (show (grow G zs[f]).length - (k + 1) < (grow G zs[f]).length - k by omega) ⟨by kernel_rfl, by kernel_rfl, by kernel_rfl, by kernel_rfl, by kernel_rfl, by kernel_rfl, by kernel_rfl, by kernel_rfl, by kernel_rfl, by kernel_rfl, (by kernel_rfl : _ = Value.int .i64 (IntKind.wrap .i64 (Int.ofNat (k + 1)))).trans (by rw [wrap_nat (by omega)]), trivial⟩)
            · intro hc
              have hc := of_decide_eq_false hc
              rw [wd (by omega)] at hc
              have hcc : ((seqS G S d zs f (grow G zs[f])[k]).1 == 0 && (seqS G S d zs f (grow G zs[f])[k]).2 == (d : Int) - 1) = false := by
                cases hx : ((seqS G S d zs f (grow G zs[f])[k]).1 == 0 && (seqS G S d zs f (grow G zs[f])[k]).2 == (d : Int) - 1) with
                | false => rfl
                | true =>
                  rw [Bool.and_eq_true] at hx
                  exact absurd ⟨congrArg Int.ofNat (eq_of_beq hx.1), eq_of_beq hx.2⟩ hc
              refine ok_go 1 ?_
              exact sy_next 0 _ g7 (by kernel_rfl) (by kernel_rfl) (ih7 (k + 1, kd) _ g7 ⟨rfl, hkt, by rw [hst, hcc, Bool.or_false]; exact hkd⟩ (show (grow G zs[f]).length - (k + 1) < (grow G zs[f]).length - k by omega) ⟨by kernel_rfl, by kernel_rfl, by kernel_rfl, by kernel_rfl, by kernel_rfl, by kernel_rfl, by kernel_rfl, by kernel_rfl, by kernel_rfl, by kernel_rfl, (by kernel_rfl : _ = Value.int .i64 (IntKind.wrap .i64 (Int.ofNat (k + 1)))).trans (by rw [wrap_nat (by omega)]), trivial⟩)
          · intro hkt
            have hkt := no_nat hkt
            rw [List.take_of_length_le hkt, seq_won hzf] at hkd
            obtain ⟨g8, e8, H8⟩ := H6.store (v := zs[f]) (k := kd) (d := d) hzv.1
            have hpf := (prog_found hzv.2).2
            rw [← hkd] at hpf
            refine ok_go 1 ?_
            refine sy_load 0 (r := indexAddrOp Tryd.prog 65 (.slice (some ⟨h.next, 0, none⟩) G.length (2 * G.length)) (J zs[f])) (h' := g7) (by kernel_rfl) (idx65 hzv.1) ?_
            refine ok_go 0 ?_
            refine sy_store 0 (r := storeT Tryd.prog g7 68 (ptr h.next (zs[f] * 2)) (.agg #[J kd, I d])) (by kernel_rfl) e8 ?_
            refine ok_go 1 ?_
            exact sy_next 0 _ g8 (by kernel_rfl) (by kernel_rfl) (ih6 (f + 1) _ g8 ⟨hlt, H8.congr fun u _ => by rw [← hpf]; exact seq_step hlt u⟩ (show zs.length - (f + 1) < zs.length - f by omega) ⟨by kernel_rfl, by kernel_rfl, by kernel_rfl, by kernel_rfl, by kernel_rfl, (by kernel_rfl : _ = Value.int .i64 (IntKind.wrap .i64 (Int.ofNat (f + 1)))).trans (by rw [wrap_nat (by omega)]), trivial⟩)
        · intro hlt
          have hlt := no_nat hlt
          have hps : PS h.next G.length (refS G (d + 1)) g6 := H6.ps.congr fun u hu => by
            show _ = refAt G (refS G d) d u
            rw [hS, ← prog_ref IV u]
            unfold seqS
            rw [List.take_of_length_le hlt]
            by_cases hm : u ∈ zs
            · rw [if_pos hm]
            · rw [if_neg hm]
              unfold progAt
              rw [if_neg (fun hc => hm ((hzm u).2 ⟨hu, hc⟩))]
          refine ok_go 1 ?_
          exact sy_next 0 _ g6 (by kernel_rfl) (by kernel_rfl) (ih2 (d + 1) _ g6 ⟨by omega, H6.ext, hps, .inl ⟨rfl, rfl⟩, fun j _ m c hc => (by cases hc)⟩ (show G.length + 1 - (d + 1) < G.length + 1 - d by omega) ⟨by kernel_rfl, by kernel_rfl, (by kernel_rfl : _ = Value.int .i64 (IntKind.wrap .i64 (Int.ofNat (d + 1)))).trans (by rw [wrap_nat (by omega)]), trivial⟩)
    · intro hlt
      have hdl : d = G.length + 1 := by have := of_decide_eq_false hlt; simp at this; omega
      subst hdl
      refine ok_go 0 ?_
      exact sy_done 0 (v := .slice (some ⟨h.next, 0, none⟩) G.length (2 * G.length)) (h := g2) (by kernel_rfl) ⟨rfl, H2.ext, H2.ps⟩
end Go.Proofs.YtegcmgjldapnmaaDoor
