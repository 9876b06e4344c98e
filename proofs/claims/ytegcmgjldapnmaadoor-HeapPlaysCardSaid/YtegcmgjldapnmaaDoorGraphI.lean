/- GraphI: contracts of functions. -/
import Derived.Test.YtegcmgjldapnmaaDoorProg
import Derived.KernelRfl
import Derived.Test.YtegcmgjldapnmaaDoorSyB
import Derived.Test.YtegcmgjldapnmaaDoorGraphH
namespace Go.Proofs.YtegcmgjldapnmaaDoor
open Go Go.Eng Nim
set_option maxRecDepth 100000
set_option maxHeartbeats 8000000
theorem play_some {G : List (List Nat)} {S : St} {i b : Nat} (hb : bestP G S i = some b) : b ∈ grow G i ∧ S b = wantP S i := by
  unfold bestP at hb
  exact ⟨List.mem_of_find?_eq_some hb, of_decide_eq_true (List.find?_some (p := fun t => decide (S t = wantP S i)) hb)⟩
theorem play_none {G : List (List Nat)} (hG : ∀ i t, t ∈ grow G i → t < G.length) {i : Nat} (hi : i < G.length) (hb : bestP G (refS G (G.length + 1)) i = none) : grow G i = [] := by
  refine Classical.byContradiction fun hne => ?_
  have hno : ∀ t ∈ grow G i, refS G (G.length + 1) t ≠ wantP (refS G (G.length + 1)) i := by
    intro t ht
    unfold bestP at hb
    rw [List.find?_eq_none] at hb
    simpa using hb t ht
  have F := fin_refS (G := G) (G.length + 1)
  have V := inv_refS (G := G) (G.length + 1)
  have hk := V.k i
  by_cases h2 : (refS G (G.length + 1) i).1 = 2
  · have st := still_end hG i hi h2
    have h1 : ∃ t ∈ grow G i, (refS G (G.length + 1) t).1 ≠ 1 := by
      refine Classical.byContradiction fun hc => ?_
      rw [all1_iff.2 fun t ht => Classical.byContradiction fun h => hc ⟨t, ht, h⟩] at st
      exact absurd st.2 (by decide)
    obtain ⟨t, ht, h3⟩ := h1
    have h4 : (refS G (G.length + 1) t).1 ≠ 0 := fun h => by
      rw [won0_iff.2 ⟨t, ht, h⟩] at st
      exact absurd st.1 (by decide)
    have h5 := V.k t
    refine hno t ht ?_
    rw [V.dr t (by omega), wantP, if_pos h2]
  · by_cases h0 : (refS G (G.length + 1) i).1 = 0
    · obtain ⟨t, ht, e⟩ := F.l2 i h0 hne
      exact hno t ht (by rw [e, wantP, if_neg h2, h0])
    · have h1 : (refS G (G.length + 1) i).1 = 1 := by omega
      obtain ⟨t, ht, e⟩ := F.w1 i h1
      exact hno t ht (by rw [e, wantP, if_neg h2, h1])
theorem play_draw {G : List (List Nat)} (hG : ∀ i t, t ∈ grow G i → t < G.length) {i t : Nat} (hi : i < G.length) (h2 : (refS G (G.length + 1) i).1 = 2) (ht : t ∈ grow G i) : (refS G (G.length + 1) t).1 ≠ 0 := fun h => by
  have st := still_end hG i hi h2
  rw [won0_iff.2 ⟨t, ht, h⟩] at st
  exact absurd st.1 (by decide)
/-- Reading the outcomes. -/
theorem rd_at {h : Hp} {v : Value} {N i : Nat} {f : Nat → Value} (hr : Rds h v (cellsF N f)) (hi : i < N) {x : Value} (hx : f i = x) : ∃ p, indexAddrOp Tryd.prog 32 v (J i) = some p ∧ loadT Tryd.prog h 3 p = some x :=
  hr.read u32 z3 aggI (by rw [cellsF_get hi, hx])
theorem wrap_small {x : Int} (h0 : 0 ≤ x) (h1 : x < 2 ^ 62) : IntKind.wrap .i64 x = x := by
  obtain ⟨m, rfl⟩ := Int.eq_ofNat_of_zero_le h0
  exact wrap_nat (by omega)
theorem s7 (lf n : Nat) (hlf : 300 ≤ lf) (v : Value) (h : Hp) (x : Value) (H : Hp) (G : List (List Nat)) (e26 : Ev lf n 26 [v, J 30] h = some (x, H)) (hx : Gr H x (gI G)) (hN : G.length ≤ 30)
   (hG : ∀ i t, t ∈ grow G i → t < G.length) (hrl : ∀ i, (grow G i).length < lf) (hsm : lf < 2 ^ 62)
   (e21 : ∃ y H', Ev lf n 21 [x] H = some (y, H') ∧ ∃ ka kb, y = .tuple #[ka, kb, J 0] ∧ H.Ext H' ∧ Rds H' ka (cellsF G.length (kF (refS G (G.length + 1)))) ∧ Rds H' kb (cellsF G.length (dF (refS G (G.length + 1)))))
   (e22 : ∀ i X, i < G.length → H.Ext X → ∃ y X', Ev lf n 22 [x, J i] X = some (y, X') ∧ X.Ext X' ∧ y = (match bestP G (refS G (G.length + 1)) i with | some t => .tuple #[J t, J 0] | none => .tuple #[J 0, J 4]))
   (aw : ∀ h, Ev lf n 14 [] h = some (.bool true, h)) : ∃ H, Ev lf (n + 1) 7 [v] h = some (.bool true, H) := by
  obtain ⟨a, c, hsh⟩ := hx.shape
  rw [gI_len] at hsh
  subst hsh
  obtain ⟨y, H1, e21, ka, kb, rfl, X1, rka, rkb⟩ := e21
  obtain ⟨aa, ac, hsa⟩ := rka.shape
  rw [cellsF_len] at hsa
  subst hsa
  obtain ⟨ba, bc, hsb⟩ := rkb.shape
  rw [cellsF_len] at hsb
  subst hsb
  have FI := fin_refS (G := G) (G.length + 1)
  have VI := inv_refS (G := G) (G.length + 1)
  have hemp := fun i (hi : grow G i = []) => refS_empty hi G.length
  have hnone := fun i (hi : i < G.length) hb => play_none hG hi (i := i) hb
  have hdraw := fun i t (hi : i < G.length) h2 ht => play_draw hG hi (i := i) (t := t) h2 ht
  generalize hF : refS G (G.length + 1) = F at *
  refine fn_val ?_
  refine ok_go 0 ?_
  refine sy_call 0 (by kernel_rfl) e26 ?_
  refine ok_go 0 ?_
  refine sy_call 0 (by kernel_rfl) e21 ?_
  refine ok_go 13 ?_
  refine sy_no 0 (b := Int.ofNat G.length != Int.ofNat G.length) (by kernel_rfl) (by simp) ?_
  refine ok_go 8 ?_
  refine sy_no 0 (b := Int.ofNat G.length != Int.ofNat G.length) (by kernel_rfl) (by simp) ?_
  refine ok_go 0 ?_
  refine sy_loop 0 lf H1 (α := Nat) (fun s => [(3, .slice a G.length c), (4, .slice aa G.length ac), (5, .slice ba G.length bc), (7, J s)]) (fun s g => s ≤ G.length ∧ H1.Ext g) (fun s _ => G.length - s) 0 (by kernel_rfl) (by kernel_rfl) ⟨by kernel_rfl, by kernel_rfl, by kernel_rfl, by kernel_rfl, trivial⟩ (show G.length - 0 < lf by omega) ⟨Nat.zero_le _, Hp.Ext.refl _⟩ ?_
  rintro m1 i f1 g1 ⟨hi, X2⟩ ih1
  refine ok_go 2 ?_
  refine sy_test 0 (decide (Int.ofNat i < Int.ofNat G.length)) (by kernel_rfl) ?_ ?_
  · intro hlt
    have hlt := ok_nat hlt
    have hrli := hrl i
    obtain ⟨y, g2, e22, X3, rfl⟩ := e22 i g1 hlt (X1.trans X2)
    obtain ⟨p, rv, e1, e2, hr⟩ := hx.rowE hlt
    have X4 := X2.trans X3
    have X5 := X1.trans X4
    have e2 := e2 g2 X5
    have hr := hr.ext X5
    have ra4 := rka.ext X4
    have rb4 := rkb.ext X4
    obtain ⟨ra, rc, hrs⟩ := hr.shape
    rw [List.length_map] at hrs
    subst hrs
    cases hb : bestP G F i with
    | none =>
      have hrow := hnone i hlt hb
      have hFi := hemp i hrow
      rw [hb] at e22
      refine ok_go 0 ?_
      refine sy_call 0 (by kernel_rfl) e22 ?_
      refine ok_go 2 ?_
      refine sy_load 0 (r := indexAddrOp Tryd.prog 31 (.slice a G.length c) (J i)) (h' := g2) (by kernel_rfl) e1 ?_
      refine ok_go 0 ?_
      refine sy_load 0 (r := loadT Tryd.prog g2 32 p) (h' := g2) (by kernel_rfl) e2 ?_
      refine ok_go 2 ?_
      refine sy_yes 0 (b := Int.ofNat (grow G i).length == 0) (by kernel_rfl) (by rw [hrow]; rfl) ?_
      obtain ⟨q1, u1, w1⟩ := rd_at (f := kF F) ra4 hlt (x := J 0) (by show J _ = J _; rw [hFi])
      refine ok_go 4 ?_
      refine sy_load 0 (r := indexAddrOp Tryd.prog 32 (.slice aa G.length ac) (J i)) (h' := g2) (by kernel_rfl) u1 ?_
      refine ok_go 1 ?_
      refine sy_load 0 (r := loadT Tryd.prog g2 3 q1) (h' := g2) (by kernel_rfl) w1 ?_
      obtain ⟨q2, u2, w2⟩ := rd_at (f := dF F) rb4 hlt (x := I 0) (by show I _ = I _; rw [hFi])
      refine ok_go 6 ?_
      refine sy_load 0 (r := indexAddrOp Tryd.prog 32 (.slice ba G.length bc) (J i)) (h' := g2) (by kernel_rfl) u2 ?_
      refine ok_go 1 ?_
      refine sy_load 0 (r := loadT Tryd.prog g2 3 q2) (h' := g2) (by kernel_rfl) w2 ?_
      refine ok_go 5 ?_
      exact sy_next 0 _ g2 (by kernel_rfl) (by kernel_rfl) (ih1 (i + 1) _ g2 ⟨hlt, X4⟩ (show G.length - (i + 1) < G.length - i by omega) ⟨by kernel_rfl, by kernel_rfl, by kernel_rfl, (by kernel_rfl : _ = Value.int .i64 (IntKind.wrap .i64 (Int.ofNat (i + 1)))).trans (by rw [wrap_nat (by omega)]), trivial⟩)
    | some b =>
      have hbs := play_some hb
      have hne : grow G i ≠ [] := fun hc => by rw [hc] at hbs; cases hbs.1
      have hbl := hG i b hbs.1
      rw [hb] at e22
      have hkd := VI.k i
      rcases (by omega : (F i).1 = 0 ∨ (F i).1 = 1 ∨ (F i).1 = 2) with hk | hk | hk
      · refine ok_go 0 ?_
        refine sy_call 0 (by kernel_rfl) e22 ?_
        refine ok_go 2 ?_
        refine sy_load 0 (r := indexAddrOp Tryd.prog 31 (.slice a G.length c) (J i)) (h' := g2) (by kernel_rfl) e1 ?_
        refine ok_go 0 ?_
        refine sy_load 0 (r := loadT Tryd.prog g2 32 p) (h' := g2) (by kernel_rfl) e2 ?_
        refine ok_go 2 ?_
        refine sy_no 0 (b := Int.ofNat (grow G i).length == 0) (by kernel_rfl) (by cases hc : (Int.ofNat (grow G i).length == 0) with | false => rfl | true => exact absurd (List.eq_nil_of_length_eq_zero (Int.ofNat.inj (eq_of_beq hc))) hne) ?_
        refine ok_go 2 ?_
        refine sy_loop 0 lf g2 (α := Nat × Bool) (fun s => [(3, .slice a G.length c), (4, .slice aa G.length ac), (5, .slice ba G.length bc), (7, J i), (8, J b), (10, .bool s.2), (11, J s.1)]) (fun s g => g = g2 ∧ s.1 ≤ (grow G i).length ∧ True) (fun s _ => (grow G i).length - s.1) (0, false) (by kernel_rfl) (by kernel_rfl) ⟨by kernel_rfl, by kernel_rfl, by kernel_rfl, by kernel_rfl, by kernel_rfl, by kernel_rfl, by kernel_rfl, trivial⟩ (show (grow G i).length - 0 < lf by omega) ⟨rfl, Nat.zero_le _, trivial⟩ ?_
        rintro m2 ⟨k, dr⟩ f2 g3 ⟨rfl, hkl, hdr⟩ ih2
        dsimp only at hkl hdr
        refine ok_go 0 ?_
        refine sy_load 0 (r := indexAddrOp Tryd.prog 31 (.slice a G.length c) (J i)) (h' := g3) (by kernel_rfl) e1 ?_
        refine ok_go 0 ?_
        refine sy_load 0 (r := loadT Tryd.prog g3 32 p) (h' := g3) (by kernel_rfl) e2 ?_
        refine ok_go 2 ?_
        refine sy_test 0 (decide (Int.ofNat k < Int.ofNat (grow G i).length)) (by kernel_rfl) ?_ ?_
        · intro hkt
          have hkt := ok_nat hkt
          obtain ⟨q, e3, e4⟩ := rowN_get hr hkt
          have htm := List.getElem_mem hkt
          have htn := hG i (grow G i)[k] htm
          refine ok_go 0 ?_
          refine sy_load 0 (r := indexAddrOp Tryd.prog 31 (.slice a G.length c) (J i)) (h' := g3) (by kernel_rfl) e1 ?_
          refine ok_go 0 ?_
          refine sy_load 0 (r := loadT Tryd.prog g3 32 p) (h' := g3) (by kernel_rfl) e2 ?_
          refine ok_go 0 ?_
          refine sy_load 0 (r := indexAddrOp Tryd.prog 32 (.slice ra (grow G i).length rc) (J k)) (h' := g3) (by kernel_rfl) e3 ?_
          refine ok_go 0 ?_
          refine sy_load 0 (r := loadT Tryd.prog g3 3 q) (h' := g3) (by kernel_rfl) e4 ?_
          have hl1 := FI.l1 i hk _ htm
          cases dr with
          | true =>
            obtain ⟨q3, u3, w3⟩ := rd_at (f := kF F) ra4 hlt (x := J 0) (by show J _ = J _; rw [hk])
            refine ok_go 6 ?_
            refine sy_load 0 (r := indexAddrOp Tryd.prog 32 (.slice aa G.length ac) (J i)) (h' := g3) (by kernel_rfl) u3 ?_
            refine ok_go 0 ?_
            refine sy_load 0 (r := loadT Tryd.prog g3 3 q3) (h' := g3) (by kernel_rfl) w3 ?_
            obtain ⟨q4, u4, w4⟩ := rd_at (f := kF F) ra4 htn (x := J 1) (by show J _ = J _; rw [hl1.1])
            refine ok_go 4 ?_
            refine sy_load 0 (r := indexAddrOp Tryd.prog 32 (.slice aa G.length ac) (J (grow G i)[k])) (h' := g3) (by kernel_rfl) u4 ?_
            refine ok_go 1 ?_
            refine sy_load 0 (r := loadT Tryd.prog g3 3 q4) (h' := g3) (by kernel_rfl) w4 ?_
            obtain ⟨q5, u5, w5⟩ := rd_at (f := dF F) rb4 htn (x := I (F (grow G i)[k]).2) (rfl)
            refine ok_go 6 ?_
            refine sy_load 0 (r := indexAddrOp Tryd.prog 32 (.slice ba G.length bc) (J (grow G i)[k])) (h' := g3) (by kernel_rfl) u5 ?_
            refine ok_go 1 ?_
            refine sy_load 0 (r := loadT Tryd.prog g3 3 q5) (h' := g3) (by kernel_rfl) w5 ?_
            obtain ⟨q6, u6, w6⟩ := rd_at (f := dF F) rb4 hlt (x := I (F i).2) (rfl)
            refine ok_go 3 ?_
            refine sy_load 0 (r := indexAddrOp Tryd.prog 32 (.slice ba G.length bc) (J i)) (h' := g3) (by kernel_rfl) u6 ?_
            refine ok_go 1 ?_
            refine sy_load 0 (r := loadT Tryd.prog g3 3 q6) (h' := g3) (by kernel_rfl) w6 ?_
            refine ok_go 5 ?_
            refine sy_no 0 (b := decide ((F (grow G i)[k]).2 ≥ (F i).2)) (by kernel_rfl) (decide_eq_false (by omega)) ?_
            obtain ⟨q7, u7, w7⟩ := rd_at (f := kF F) ra4 hlt (x := J 0) (by show J _ = J _; rw [hk])
            refine ok_go 2 ?_
            refine sy_load 0 (r := indexAddrOp Tryd.prog 32 (.slice aa G.length ac) (J i)) (h' := g3) (by kernel_rfl) u7 ?_
            refine ok_go 1 ?_
            refine sy_load 0 (r := loadT Tryd.prog g3 3 q7) (h' := g3) (by kernel_rfl) w7 ?_
            refine ok_go 13 ?_
            exact sy_next 0 _ g3 (by kernel_rfl) (by kernel_rfl) (ih2 (k + 1, true) _ g3 ⟨rfl, hkt, trivial⟩ (show (grow G i).length - (k + 1) < (grow G i).length - k by omega) ⟨by kernel_rfl, by kernel_rfl, by kernel_rfl, by kernel_rfl, by kernel_rfl, by kernel_rfl, (by kernel_rfl : _ = Value.int .i64 (IntKind.wrap .i64 (Int.ofNat (k + 1)))).trans (by rw [wrap_nat (by omega)]), trivial⟩)

          | false =>
            obtain ⟨q8, u8, w8⟩ := rd_at (f := kF F) ra4 htn (x := J 1) (by show J _ = J _; rw [hl1.1])
            refine ok_go 3 ?_
            refine sy_load 0 (r := indexAddrOp Tryd.prog 32 (.slice aa G.length ac) (J (grow G i)[k])) (h' := g3) (by kernel_rfl) u8 ?_
            refine ok_go 1 ?_
            refine sy_load 0 (r := loadT Tryd.prog g3 3 q8) (h' := g3) (by kernel_rfl) w8 ?_
            obtain ⟨q3, u3, w3⟩ := rd_at (f := kF F) ra4 hlt (x := J 0) (by show J _ = J _; rw [hk])
            refine ok_go 3 ?_
            refine sy_load 0 (r := indexAddrOp Tryd.prog 32 (.slice aa G.length ac) (J i)) (h' := g3) (by kernel_rfl) u3 ?_
            refine ok_go 0 ?_
            refine sy_load 0 (r := loadT Tryd.prog g3 3 q3) (h' := g3) (by kernel_rfl) w3 ?_
            obtain ⟨q4, u4, w4⟩ := rd_at (f := kF F) ra4 htn (x := J 1) (by show J _ = J _; rw [hl1.1])
            refine ok_go 4 ?_
            refine sy_load 0 (r := indexAddrOp Tryd.prog 32 (.slice aa G.length ac) (J (grow G i)[k])) (h' := g3) (by kernel_rfl) u4 ?_
            refine ok_go 1 ?_
            refine sy_load 0 (r := loadT Tryd.prog g3 3 q4) (h' := g3) (by kernel_rfl) w4 ?_
            obtain ⟨q5, u5, w5⟩ := rd_at (f := dF F) rb4 htn (x := I (F (grow G i)[k]).2) (rfl)
            refine ok_go 6 ?_
            refine sy_load 0 (r := indexAddrOp Tryd.prog 32 (.slice ba G.length bc) (J (grow G i)[k])) (h' := g3) (by kernel_rfl) u5 ?_
            refine ok_go 1 ?_
            refine sy_load 0 (r := loadT Tryd.prog g3 3 q5) (h' := g3) (by kernel_rfl) w5 ?_
            obtain ⟨q6, u6, w6⟩ := rd_at (f := dF F) rb4 hlt (x := I (F i).2) (rfl)
            refine ok_go 3 ?_
            refine sy_load 0 (r := indexAddrOp Tryd.prog 32 (.slice ba G.length bc) (J i)) (h' := g3) (by kernel_rfl) u6 ?_
            refine ok_go 1 ?_
            refine sy_load 0 (r := loadT Tryd.prog g3 3 q6) (h' := g3) (by kernel_rfl) w6 ?_
            refine ok_go 5 ?_
            refine sy_no 0 (b := decide ((F (grow G i)[k]).2 ≥ (F i).2)) (by kernel_rfl) (decide_eq_false (by omega)) ?_
            obtain ⟨q7, u7, w7⟩ := rd_at (f := kF F) ra4 hlt (x := J 0) (by show J _ = J _; rw [hk])
            refine ok_go 2 ?_
            refine sy_load 0 (r := indexAddrOp Tryd.prog 32 (.slice aa G.length ac) (J i)) (h' := g3) (by kernel_rfl) u7 ?_
            refine ok_go 1 ?_
            refine sy_load 0 (r := loadT Tryd.prog g3 3 q7) (h' := g3) (by kernel_rfl) w7 ?_
            refine ok_go 13 ?_
            exact sy_next 0 _ g3 (by kernel_rfl) (by kernel_rfl) (ih2 (k + 1, false) _ g3 ⟨rfl, hkt, trivial⟩ (show (grow G i).length - (k + 1) < (grow G i).length - k by omega) ⟨by kernel_rfl, by kernel_rfl, by kernel_rfl, by kernel_rfl, by kernel_rfl, by kernel_rfl, (by kernel_rfl : _ = Value.int .i64 (IntKind.wrap .i64 (Int.ofNat (k + 1)))).trans (by rw [wrap_nat (by omega)]), trivial⟩)


        · intro hkt
          have hkt := no_nat hkt
          have hdi := VI.di i (by omega)
          have hw := hbs.2
          unfold wantP at hw
          rw [if_neg (by omega)] at hw
          have hw1 : (F b).1 = 1 - (F i).1 := by rw [hw]
          have hw2 : (F b).2 = (F i).2 - 1 := by rw [hw]
          obtain ⟨q9, u9, w9⟩ := rd_at (f := kF F) ra4 hlt (x := J 0) (by show J _ = J _; rw [hk])
          refine ok_go 0 ?_
          refine sy_load 0 (r := indexAddrOp Tryd.prog 32 (.slice aa G.length ac) (J i)) (h' := g3) (by kernel_rfl) u9 ?_
          refine ok_go 0 ?_
          refine sy_load 0 (r := loadT Tryd.prog g3 3 q9) (h' := g3) (by kernel_rfl) w9 ?_
          obtain ⟨q10, u10, w10⟩ := rd_at (f := dF F) rb4 hbl (x := I (F b).2) (rfl)
          refine ok_go 4 ?_
          refine sy_load 0 (r := indexAddrOp Tryd.prog 32 (.slice ba G.length bc) (J b)) (h' := g3) (by kernel_rfl) u10 ?_
          refine ok_go 0 ?_
          refine sy_load 0 (r := loadT Tryd.prog g3 3 q10) (h' := g3) (by kernel_rfl) w10 ?_
          obtain ⟨q11, u11, w11⟩ := rd_at (f := dF F) rb4 hlt (x := I (F i).2) (rfl)
          refine ok_go 1 ?_
          refine sy_load 0 (r := indexAddrOp Tryd.prog 32 (.slice ba G.length bc) (J i)) (h' := g3) (by kernel_rfl) u11 ?_
          refine ok_go 0 ?_
          refine sy_load 0 (r := loadT Tryd.prog g3 3 q11) (h' := g3) (by kernel_rfl) w11 ?_
          refine ok_go 1 ?_
          refine sy_no 0 (b := IntKind.wrap .i64 ((F b).2 + 1) != (F i).2) (by kernel_rfl) (by rw [hw2, wrap_small (by omega) (by omega), show (F i).2 - 1 + 1 = (F i).2 by omega]; simp) ?_
          refine ok_go 1 ?_
          exact sy_next 0 _ g3 (by kernel_rfl) (by kernel_rfl) (ih1 (i + 1) _ g3 ⟨hlt, X4⟩ (show G.length - (i + 1) < G.length - i by omega) ⟨by kernel_rfl, by kernel_rfl, by kernel_rfl, (by kernel_rfl : _ = Value.int .i64 (IntKind.wrap .i64 (Int.ofNat (i + 1)))).trans (by rw [wrap_nat (by omega)]), trivial⟩)
      · refine ok_go 0 ?_
        refine sy_call 0 (by kernel_rfl) e22 ?_
        refine ok_go 2 ?_
        refine sy_load 0 (r := indexAddrOp Tryd.prog 31 (.slice a G.length c) (J i)) (h' := g2) (by kernel_rfl) e1 ?_
        refine ok_go 0 ?_
        refine sy_load 0 (r := loadT Tryd.prog g2 32 p) (h' := g2) (by kernel_rfl) e2 ?_
        refine ok_go 2 ?_
        refine sy_no 0 (b := Int.ofNat (grow G i).length == 0) (by kernel_rfl) (by cases hc : (Int.ofNat (grow G i).length == 0) with | false => rfl | true => exact absurd (List.eq_nil_of_length_eq_zero (Int.ofNat.inj (eq_of_beq hc))) hne) ?_
        refine ok_go 2 ?_
        refine sy_loop 0 lf g2 (α := Nat × Bool) (fun s => [(3, .slice a G.length c), (4, .slice aa G.length ac), (5, .slice ba G.length bc), (7, J i), (8, J b), (10, .bool s.2), (11, J s.1)]) (fun s g => g = g2 ∧ s.1 ≤ (grow G i).length ∧ True) (fun s _ => (grow G i).length - s.1) (0, false) (by kernel_rfl) (by kernel_rfl) ⟨by kernel_rfl, by kernel_rfl, by kernel_rfl, by kernel_rfl, by kernel_rfl, by kernel_rfl, by kernel_rfl, trivial⟩ (show (grow G i).length - 0 < lf by omega) ⟨rfl, Nat.zero_le _, trivial⟩ ?_
        rintro m2 ⟨k, dr⟩ f2 g3 ⟨rfl, hkl, hdr⟩ ih2
        dsimp only at hkl hdr
        refine ok_go 0 ?_
        refine sy_load 0 (r := indexAddrOp Tryd.prog 31 (.slice a G.length c) (J i)) (h' := g3) (by kernel_rfl) e1 ?_
        refine ok_go 0 ?_
        refine sy_load 0 (r := loadT Tryd.prog g3 32 p) (h' := g3) (by kernel_rfl) e2 ?_
        refine ok_go 2 ?_
        refine sy_test 0 (decide (Int.ofNat k < Int.ofNat (grow G i).length)) (by kernel_rfl) ?_ ?_
        · intro hkt
          have hkt := ok_nat hkt
          obtain ⟨q, e3, e4⟩ := rowN_get hr hkt
          have htm := List.getElem_mem hkt
          have htn := hG i (grow G i)[k] htm
          refine ok_go 0 ?_
          refine sy_load 0 (r := indexAddrOp Tryd.prog 31 (.slice a G.length c) (J i)) (h' := g3) (by kernel_rfl) e1 ?_
          refine ok_go 0 ?_
          refine sy_load 0 (r := loadT Tryd.prog g3 32 p) (h' := g3) (by kernel_rfl) e2 ?_
          refine ok_go 0 ?_
          refine sy_load 0 (r := indexAddrOp Tryd.prog 32 (.slice ra (grow G i).length rc) (J k)) (h' := g3) (by kernel_rfl) e3 ?_
          refine ok_go 0 ?_
          refine sy_load 0 (r := loadT Tryd.prog g3 3 q) (h' := g3) (by kernel_rfl) e4 ?_
          cases dr with
          | true =>
            obtain ⟨q12, u12, w12⟩ := rd_at (f := kF F) ra4 hlt (x := J 1) (by show J _ = J _; rw [hk])
            refine ok_go 6 ?_
            refine sy_load 0 (r := indexAddrOp Tryd.prog 32 (.slice aa G.length ac) (J i)) (h' := g3) (by kernel_rfl) u12 ?_
            refine ok_go 0 ?_
            refine sy_load 0 (r := loadT Tryd.prog g3 3 q12) (h' := g3) (by kernel_rfl) w12 ?_
            obtain ⟨q13, u13, w13⟩ := rd_at (f := kF F) ra4 hlt (x := J 1) (by show J _ = J _; rw [hk])
            refine ok_go 12 ?_
            refine sy_load 0 (r := indexAddrOp Tryd.prog 32 (.slice aa G.length ac) (J i)) (h' := g3) (by kernel_rfl) u13 ?_
            refine ok_go 1 ?_
            refine sy_load 0 (r := loadT Tryd.prog g3 3 q13) (h' := g3) (by kernel_rfl) w13 ?_
            refine ok_go 13 ?_
            exact sy_next 0 _ g3 (by kernel_rfl) (by kernel_rfl) (ih2 (k + 1, true) _ g3 ⟨rfl, hkt, trivial⟩ (show (grow G i).length - (k + 1) < (grow G i).length - k by omega) ⟨by kernel_rfl, by kernel_rfl, by kernel_rfl, by kernel_rfl, by kernel_rfl, by kernel_rfl, (by kernel_rfl : _ = Value.int .i64 (IntKind.wrap .i64 (Int.ofNat (k + 1)))).trans (by rw [wrap_nat (by omega)]), trivial⟩)

          | false =>
            obtain ⟨q14, u14, w14⟩ := rd_at (f := kF F) ra4 htn (x := J (F (grow G i)[k]).1) (rfl)
            refine ok_go 3 ?_
            refine sy_load 0 (r := indexAddrOp Tryd.prog 32 (.slice aa G.length ac) (J (grow G i)[k])) (h' := g3) (by kernel_rfl) u14 ?_
            refine ok_go 1 ?_
            refine sy_load 0 (r := loadT Tryd.prog g3 3 q14) (h' := g3) (by kernel_rfl) w14 ?_
            obtain ⟨q12, u12, w12⟩ := rd_at (f := kF F) ra4 hlt (x := J 1) (by show J _ = J _; rw [hk])
            refine ok_go 3 ?_
            refine sy_load 0 (r := indexAddrOp Tryd.prog 32 (.slice aa G.length ac) (J i)) (h' := g3) (by kernel_rfl) u12 ?_
            refine ok_go 0 ?_
            refine sy_load 0 (r := loadT Tryd.prog g3 3 q12) (h' := g3) (by kernel_rfl) w12 ?_
            obtain ⟨q13, u13, w13⟩ := rd_at (f := kF F) ra4 hlt (x := J 1) (by show J _ = J _; rw [hk])
            refine ok_go 12 ?_
            refine sy_load 0 (r := indexAddrOp Tryd.prog 32 (.slice aa G.length ac) (J i)) (h' := g3) (by kernel_rfl) u13 ?_
            refine ok_go 1 ?_
            refine sy_load 0 (r := loadT Tryd.prog g3 3 q13) (h' := g3) (by kernel_rfl) w13 ?_
            refine ok_go 13 ?_
            exact sy_next 0 _ g3 (by kernel_rfl) (by kernel_rfl) (ih2 (k + 1, Int.ofNat (F (grow G i)[k]).1 == 2) _ g3 ⟨rfl, hkt, trivial⟩ (show (grow G i).length - (k + 1) < (grow G i).length - k by omega) ⟨by kernel_rfl, by kernel_rfl, by kernel_rfl, by kernel_rfl, by kernel_rfl, by kernel_rfl, (by kernel_rfl : _ = Value.int .i64 (IntKind.wrap .i64 (Int.ofNat (k + 1)))).trans (by rw [wrap_nat (by omega)]), trivial⟩)


        · intro hkt
          have hkt := no_nat hkt
          have hdi := VI.di i (by omega)
          have hw := hbs.2
          unfold wantP at hw
          rw [if_neg (by omega)] at hw
          have hw1 : (F b).1 = 1 - (F i).1 := by rw [hw]
          have hw2 : (F b).2 = (F i).2 - 1 := by rw [hw]
          obtain ⟨q15, u15, w15⟩ := rd_at (f := kF F) ra4 hlt (x := J 1) (by show J _ = J _; rw [hk])
          refine ok_go 0 ?_
          refine sy_load 0 (r := indexAddrOp Tryd.prog 32 (.slice aa G.length ac) (J i)) (h' := g3) (by kernel_rfl) u15 ?_
          refine ok_go 0 ?_
          refine sy_load 0 (r := loadT Tryd.prog g3 3 q15) (h' := g3) (by kernel_rfl) w15 ?_
          obtain ⟨q16, u16, w16⟩ := rd_at (f := kF F) ra4 hbl (x := J 0) (by show J _ = J _; rw [hw1, hk])
          refine ok_go 2 ?_
          refine sy_load 0 (r := indexAddrOp Tryd.prog 32 (.slice aa G.length ac) (J b)) (h' := g3) (by kernel_rfl) u16 ?_
          refine ok_go 0 ?_
          refine sy_load 0 (r := loadT Tryd.prog g3 3 q16) (h' := g3) (by kernel_rfl) w16 ?_
          obtain ⟨q17, u17, w17⟩ := rd_at (f := dF F) rb4 hbl (x := I (F b).2) (rfl)
          refine ok_go 4 ?_
          refine sy_load 0 (r := indexAddrOp Tryd.prog 32 (.slice ba G.length bc) (J b)) (h' := g3) (by kernel_rfl) u17 ?_
          refine ok_go 1 ?_
          refine sy_load 0 (r := loadT Tryd.prog g3 3 q17) (h' := g3) (by kernel_rfl) w17 ?_
          obtain ⟨q18, u18, w18⟩ := rd_at (f := dF F) rb4 hlt (x := I (F i).2) (rfl)
          refine ok_go 5 ?_
          refine sy_load 0 (r := indexAddrOp Tryd.prog 32 (.slice ba G.length bc) (J i)) (h' := g3) (by kernel_rfl) u18 ?_
          refine ok_go 1 ?_
          refine sy_load 0 (r := loadT Tryd.prog g3 3 q18) (h' := g3) (by kernel_rfl) w18 ?_
          refine ok_go 3 ?_
          refine sy_no 0 (b := IntKind.wrap .i64 ((F b).2 + 1) != (F i).2) (by kernel_rfl) (by rw [hw2, wrap_small (by omega) (by omega), show (F i).2 - 1 + 1 = (F i).2 by omega]; simp) ?_
          refine ok_go 1 ?_
          exact sy_next 0 _ g3 (by kernel_rfl) (by kernel_rfl) (ih1 (i + 1) _ g3 ⟨hlt, X4⟩ (show G.length - (i + 1) < G.length - i by omega) ⟨by kernel_rfl, by kernel_rfl, by kernel_rfl, (by kernel_rfl : _ = Value.int .i64 (IntKind.wrap .i64 (Int.ofNat (i + 1)))).trans (by rw [wrap_nat (by omega)]), trivial⟩)
      · refine ok_go 0 ?_
        refine sy_call 0 (by kernel_rfl) e22 ?_
        refine ok_go 2 ?_
        refine sy_load 0 (r := indexAddrOp Tryd.prog 31 (.slice a G.length c) (J i)) (h' := g2) (by kernel_rfl) e1 ?_
        refine ok_go 0 ?_
        refine sy_load 0 (r := loadT Tryd.prog g2 32 p) (h' := g2) (by kernel_rfl) e2 ?_
        refine ok_go 2 ?_
        refine sy_no 0 (b := Int.ofNat (grow G i).length == 0) (by kernel_rfl) (by cases hc : (Int.ofNat (grow G i).length == 0) with | false => rfl | true => exact absurd (List.eq_nil_of_length_eq_zero (Int.ofNat.inj (eq_of_beq hc))) hne) ?_
        refine ok_go 2 ?_
        refine sy_loop 0 lf g2 (α := Nat × Bool) (fun s => [(3, .slice a G.length c), (4, .slice aa G.length ac), (5, .slice ba G.length bc), (7, J i), (8, J b), (10, .bool s.2), (11, J s.1)]) (fun s g => g = g2 ∧ s.1 ≤ (grow G i).length ∧ s.2 = ((grow G i).take s.1).any fun t => (F t).1 == 2) (fun s _ => (grow G i).length - s.1) (0, false) (by kernel_rfl) (by kernel_rfl) ⟨by kernel_rfl, by kernel_rfl, by kernel_rfl, by kernel_rfl, by kernel_rfl, by kernel_rfl, by kernel_rfl, trivial⟩ (show (grow G i).length - 0 < lf by omega) ⟨rfl, Nat.zero_le _, rfl⟩ ?_
        rintro m2 ⟨k, dr⟩ f2 g3 ⟨rfl, hkl, hdr⟩ ih2
        dsimp only at hkl hdr
        refine ok_go 0 ?_
        refine sy_load 0 (r := indexAddrOp Tryd.prog 31 (.slice a G.length c) (J i)) (h' := g3) (by kernel_rfl) e1 ?_
        refine ok_go 0 ?_
        refine sy_load 0 (r := loadT Tryd.prog g3 32 p) (h' := g3) (by kernel_rfl) e2 ?_
        refine ok_go 2 ?_
        refine sy_test 0 (decide (Int.ofNat k < Int.ofNat (grow G i).length)) (by kernel_rfl) ?_ ?_
        · intro hkt
          have hkt := ok_nat hkt
          obtain ⟨q, e3, e4⟩ := rowN_get hr hkt
          have htm := List.getElem_mem hkt
          have htn := hG i (grow G i)[k] htm
          refine ok_go 0 ?_
          refine sy_load 0 (r := indexAddrOp Tryd.prog 31 (.slice a G.length c) (J i)) (h' := g3) (by kernel_rfl) e1 ?_
          refine ok_go 0 ?_
          refine sy_load 0 (r := loadT Tryd.prog g3 32 p) (h' := g3) (by kernel_rfl) e2 ?_
          refine ok_go 0 ?_
          refine sy_load 0 (r := indexAddrOp Tryd.prog 32 (.slice ra (grow G i).length rc) (J k)) (h' := g3) (by kernel_rfl) e3 ?_
          refine ok_go 0 ?_
          refine sy_load 0 (r := loadT Tryd.prog g3 3 q) (h' := g3) (by kernel_rfl) e4 ?_
          have hnz := hdraw i _ hlt hk htm
          have hst : ((grow G i).take (k + 1)).any (fun t => (F t).1 == 2) = (dr || (F (grow G i)[k]).1 == 2) := by
            rw [List.take_succ_eq_append_getElem hkt, List.any_append, ← hdr]
            simp only [List.any_cons, List.any_nil, Bool.or_false]
          cases dr with
          | true =>
            obtain ⟨q19, u19, w19⟩ := rd_at (f := kF F) ra4 hlt (x := J 2) (by show J _ = J _; rw [hk])
            refine ok_go 6 ?_
            refine sy_load 0 (r := indexAddrOp Tryd.prog 32 (.slice aa G.length ac) (J i)) (h' := g3) (by kernel_rfl) u19 ?_
            refine ok_go 0 ?_
            refine sy_load 0 (r := loadT Tryd.prog g3 3 q19) (h' := g3) (by kernel_rfl) w19 ?_
            obtain ⟨q20, u20, w20⟩ := rd_at (f := kF F) ra4 hlt (x := J 2) (by show J _ = J _; rw [hk])
            refine ok_go 12 ?_
            refine sy_load 0 (r := indexAddrOp Tryd.prog 32 (.slice aa G.length ac) (J i)) (h' := g3) (by kernel_rfl) u20 ?_
            refine ok_go 1 ?_
            refine sy_load 0 (r := loadT Tryd.prog g3 3 q20) (h' := g3) (by kernel_rfl) w20 ?_
            obtain ⟨q21, u21, w21⟩ := rd_at (f := kF F) ra4 htn (x := J (F (grow G i)[k]).1) (rfl)
            refine ok_go 6 ?_
            refine sy_load 0 (r := indexAddrOp Tryd.prog 32 (.slice aa G.length ac) (J (grow G i)[k])) (h' := g3) (by kernel_rfl) u21 ?_
            refine ok_go 1 ?_
            refine sy_load 0 (r := loadT Tryd.prog g3 3 q21) (h' := g3) (by kernel_rfl) w21 ?_
            refine ok_go 5 ?_
            refine sy_no 0 (b := Int.ofNat (F (grow G i)[k]).1 == 0) (by kernel_rfl) (by cases hc : (Int.ofNat (F (grow G i)[k]).1 == 0) with | false => rfl | true => exact absurd (Int.ofNat.inj (eq_of_beq hc)) hnz) ?_
            refine ok_go 1 ?_
            exact sy_next 0 _ g3 (by kernel_rfl) (by kernel_rfl) (ih2 (k + 1, true) _ g3 ⟨rfl, hkt, by rw [hst]; rfl⟩ (show (grow G i).length - (k + 1) < (grow G i).length - k by omega) ⟨by kernel_rfl, by kernel_rfl, by kernel_rfl, by kernel_rfl, by kernel_rfl, by kernel_rfl, (by kernel_rfl : _ = Value.int .i64 (IntKind.wrap .i64 (Int.ofNat (k + 1)))).trans (by rw [wrap_nat (by omega)]), trivial⟩)

          | false =>
            obtain ⟨q22, u22, w22⟩ := rd_at (f := kF F) ra4 htn (x := J (F (grow G i)[k]).1) (rfl)
            refine ok_go 3 ?_
            refine sy_load 0 (r := indexAddrOp Tryd.prog 32 (.slice aa G.length ac) (J (grow G i)[k])) (h' := g3) (by kernel_rfl) u22 ?_
            refine ok_go 1 ?_
            refine sy_load 0 (r := loadT Tryd.prog g3 3 q22) (h' := g3) (by kernel_rfl) w22 ?_
            obtain ⟨q19, u19, w19⟩ := rd_at (f := kF F) ra4 hlt (x := J 2) (by show J _ = J _; rw [hk])
            refine ok_go 3 ?_
            refine sy_load 0 (r := indexAddrOp Tryd.prog 32 (.slice aa G.length ac) (J i)) (h' := g3) (by kernel_rfl) u19 ?_
            refine ok_go 0 ?_
            refine sy_load 0 (r := loadT Tryd.prog g3 3 q19) (h' := g3) (by kernel_rfl) w19 ?_
            obtain ⟨q20, u20, w20⟩ := rd_at (f := kF F) ra4 hlt (x := J 2) (by show J _ = J _; rw [hk])
            refine ok_go 12 ?_
            refine sy_load 0 (r := indexAddrOp Tryd.prog 32 (.slice aa G.length ac) (J i)) (h' := g3) (by kernel_rfl) u20 ?_
            refine ok_go 1 ?_
            refine sy_load 0 (r := loadT Tryd.prog g3 3 q20) (h' := g3) (by kernel_rfl) w20 ?_
            obtain ⟨q21, u21, w21⟩ := rd_at (f := kF F) ra4 htn (x := J (F (grow G i)[k]).1) (rfl)
            refine ok_go 6 ?_
            refine sy_load 0 (r := indexAddrOp Tryd.prog 32 (.slice aa G.length ac) (J (grow G i)[k])) (h' := g3) (by kernel_rfl) u21 ?_
            refine ok_go 1 ?_
            refine sy_load 0 (r := loadT Tryd.prog g3 3 q21) (h' := g3) (by kernel_rfl) w21 ?_
            refine ok_go 5 ?_
            refine sy_no 0 (b := Int.ofNat (F (grow G i)[k]).1 == 0) (by kernel_rfl) (by cases hc : (Int.ofNat (F (grow G i)[k]).1 == 0) with | false => rfl | true => exact absurd (Int.ofNat.inj (eq_of_beq hc)) hnz) ?_
            refine ok_go 1 ?_
            exact sy_next 0 _ g3 (by kernel_rfl) (by kernel_rfl) (ih2 (k + 1, Int.ofNat (F (grow G i)[k]).1 == 2) _ g3 ⟨rfl, hkt, by rw [hst, Bool.false_or]; exact beq_nat _ 2⟩ (show (grow G i).length - (k + 1) < (grow G i).length - k by omega) ⟨by kernel_rfl, by kernel_rfl, by kernel_rfl, by kernel_rfl, by kernel_rfl, by kernel_rfl, (by kernel_rfl : _ = Value.int .i64 (IntKind.wrap .i64 (Int.ofNat (k + 1)))).trans (by rw [wrap_nat (by omega)]), trivial⟩)


        · intro hkt
          have hkt := no_nat hkt
          have hw := hbs.2
          unfold wantP at hw
          rw [if_pos hk] at hw
          have hdt : dr = true := by
            rw [hdr, List.take_of_length_le hkt, List.any_eq_true]
            exact ⟨b, hbs.1, by rw [hw]; rfl⟩
          subst hdt
          obtain ⟨q23, u23, w23⟩ := rd_at (f := kF F) ra4 hlt (x := J 2) (by show J _ = J _; rw [hk])
          refine ok_go 0 ?_
          refine sy_load 0 (r := indexAddrOp Tryd.prog 32 (.slice aa G.length ac) (J i)) (h' := g3) (by kernel_rfl) u23 ?_
          refine ok_go 0 ?_
          refine sy_load 0 (r := loadT Tryd.prog g3 3 q23) (h' := g3) (by kernel_rfl) w23 ?_
          obtain ⟨q24, u24, w24⟩ := rd_at (f := kF F) ra4 hbl (x := J 2) (by show J _ = J _; rw [hw])
          refine ok_go 10 ?_
          refine sy_load 0 (r := indexAddrOp Tryd.prog 32 (.slice aa G.length ac) (J b)) (h' := g3) (by kernel_rfl) u24 ?_
          refine ok_go 1 ?_
          refine sy_load 0 (r := loadT Tryd.prog g3 3 q24) (h' := g3) (by kernel_rfl) w24 ?_
          obtain ⟨q25, u25, w25⟩ := rd_at (f := dF F) rb4 hlt (x := I 0) (by show I _ = I _; rw [VI.dr i hk])
          refine ok_go 6 ?_
          refine sy_load 0 (r := indexAddrOp Tryd.prog 32 (.slice ba G.length bc) (J i)) (h' := g3) (by kernel_rfl) u25 ?_
          refine ok_go 1 ?_
          refine sy_load 0 (r := loadT Tryd.prog g3 3 q25) (h' := g3) (by kernel_rfl) w25 ?_
          refine ok_go 5 ?_
          exact sy_next 0 _ g3 (by kernel_rfl) (by kernel_rfl) (ih1 (i + 1) _ g3 ⟨hlt, X4⟩ (show G.length - (i + 1) < G.length - i by omega) ⟨by kernel_rfl, by kernel_rfl, by kernel_rfl, (by kernel_rfl : _ = Value.int .i64 (IntKind.wrap .i64 (Int.ofNat (i + 1)))).trans (by rw [wrap_nat (by omega)]), trivial⟩)
  · intro hlt
    refine ok_go 0 ?_
    refine sy_call 0 (by kernel_rfl) (aw g1) ?_
    refine ok_go 0 ?_
    exact sy_done 0 (v := .bool true) (h := g1) (by kernel_rfl) rfl
end Go.Proofs.YtegcmgjldapnmaaDoor
