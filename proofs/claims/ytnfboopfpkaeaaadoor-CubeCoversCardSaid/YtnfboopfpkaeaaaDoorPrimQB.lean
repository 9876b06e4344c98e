/- Prime implicants, where a function is not rising, the law; the table of the library. -/
import Derived.Test.YtnfboopfpkaeaaaDoorProg
import Derived.KernelRfl
import Derived.Test.YtnfboopfpkaeaaaDoorSyF
import Derived.Test.YtnfboopfpkaeaaaDoorPrimQA
import Derived.Test.YtnfboopfpkaeaaaDoorEngN
import Derived.Test.YtnfboopfpkaeaaaDoorRows
import Derived.ProofKit
import Derived.OpenShut
import Derived.LaidMore
import Derived.ChangeArms
namespace Go.Proofs.YtnfboopfpkaeaaaDoor
open Go Go.Eng Nim
set_option maxRecDepth 100000
set_option maxHeartbeats 4000000
theorem ag23 : isAggT Tryd.prog 23 = some true := by kernel_rfl
theorem OpenP.ext {h g : Hp} {e : TypeId} {l : Value} {ps : List (Nat × Nat)} (H : OpenP h e l ps) (k : h.Ext g) : OpenP g e l ps := by
  rcases H with H | ⟨i, rfl, h1, h2, h3⟩
  · exact .inl H
  · exact .inr ⟨i, rfl, h1, Nat.lt_of_lt_of_le h2 k.next, k.at_ h2 h3⟩
theorem pairs_of (lf k : Nat) (hlf : 5000 ≤ lf) (h : Hp) (l : Value) (ps : List (Nat × Nat)) (hps : ps.length ≤ 4200) (O : OpenP h 75 l ps) :
    ∃ v h', Ev lf (k + 1) 21 [l] h = some (v, h') ∧ OpenP h' 23 v ps ∧ h.Ext h' ∧ ∀ j, j < h.next → ∀ p q, v ≠ .slice (some ⟨j, 0, none⟩) p q := by
  refine fnS_ok (Q := fun v h' => OpenP h' 23 v ps ∧ h.Ext h' ∧ ∀ j, j < h.next → ∀ p q, v ≠ .slice (some ⟨j, 0, none⟩) p q) ?_
  obtain ⟨a, c, rfl⟩ := O.shape
  refine ok_go 1 ?_
  refine sy_loop 0 lf h (α := Nat × Value) (fun s => [(3, s.2), (6, .slice a ps.length c), (7, J ps.length), (8, J s.1)]) (fun s g => s.1 ≤ ps.length ∧ h.Ext g ∧ OpenP g 23 s.2 (ps.take s.1) ∧ ∀ j, j < h.next → ∀ p q, s.2 ≠ .slice (some ⟨j, 0, none⟩) p q) (fun s _ => ps.length - s.1) (0, .slice none 0 0) (by kernel_rfl) (by kernel_rfl) ⟨by kernel_rfl, by kernel_rfl, by kernel_rfl, by kernel_rfl, trivial⟩ (show ps.length - 0 < lf by omega) ⟨Nat.zero_le _, Hp.Ext.refl _, .inl ⟨rfl, rfl⟩, fun j _ p q hc => by cases hc⟩ ?_
  rintro m1 ⟨i, out⟩ f1 g ⟨hi, X, OU, far⟩ ih
  dsimp only at hi OU far
  refine ok_go 1 ?_
  refine sy_test 0 (decide (Int.ofNat i < Int.ofNat ps.length)) (by kernel_rfl) ?_ ?_
  · intro hlt
    have hlt := ok_nat hlt
    have hwi : IntKind.wrap .i64 (Int.ofNat (i + 1)) = Int.ofNat (i + 1) := wrap_nat (by omega)
    obtain ⟨q, e1, e2⟩ := (O.ext X).read s49 agP (k := i) (p := ps[i]) (List.getElem?_eq_getElem hlt)
    have htk : ps.take (i + 1) = ps.take i ++ [ps[i]] := by rw [List.take_add_one, List.getElem?_eq_getElem hlt]; rfl
    generalize ps[i] = p at e2 htk
    obtain ⟨pa, pb⟩ := p
    refine ok_go 0 ?_
    refine sy_load 0 (r := indexAddrOp Tryd.prog 49 (.slice a ps.length c) (J i)) (h' := g) (by kernel_rfl) e1 ?_
    refine ok_go 0 ?_
    refine sy_load 0 (r := loadT Tryd.prog g 75 q) (h' := g) (by kernel_rfl) e2 ?_
    let g1 : Hp := g.new (.cells [J 0, J 0] 75 false)
    let g2 : Hp := g1.put g.next (.cells [J pa, J pb] 75 false)
    have k1 : g1.get g.next = some (.cells [J 0, J 0] 75 false) := get_new _ _
    have k2 : g2.get g.next = some (.cells [J pa, J pb] 75 false) := get_put _ _ _
    have X2 : g.Ext g2 := ⟨Nat.le_succ _, fun j hj => by
      simp only [g2, g1, gn, gp]
      repeat (first | rw [if_pos (by omega)] | rw [if_neg (by omega)])⟩
    obtain ⟨oa, oc, hol⟩ := (OU.ext X2).shape
    obtain ⟨l', h5, e5, O5, y1, y2, y3⟩ := append2 s27 (OU.ext X2) (a := pa) (b := pb) (by rw [List.length_take]; omega)
    have hxn := (X.trans X2).next
    refine ok_go 1 ?_
    refine sy_store 0 (r := storeT Tryd.prog g1 75 (ptr g.next 0) (.agg #[J pa, J pb])) (h' := g2) (by kernel_rfl) (store2 szP k1 rfl) ?_
    refine ok_go 1 ?_
    refine sy_load 0 (r := loadT Tryd.prog g2 3 (ptr g.next 0)) (h' := g2) (v := J pa) (by kernel_rfl) (load1 agI k2 rfl) ?_
    refine ok_go 1 ?_
    refine sy_load 0 (r := loadT Tryd.prog g2 3 (ptr g.next 1)) (h' := g2) (v := J pb) (by kernel_rfl) (load1 agI k2 rfl) ?_
    refine ok_go 2 ?_
    refine sy_call 0 (r := appendOp Tryd.prog (g2.new (.cells [J pa, J pb] 23 false)) 27 out (.slice (some ⟨g2.next, 0, none⟩) 1 2)) (v := l') (h' := h5) (by subst hol; kernel_rfl) e5 ?_
    refine ok_go 1 ?_
    exact sy_next 0 _ h5 (by kernel_rfl) (by kernel_rfl) (ih (i + 1, l') _ h5 ⟨hlt, ⟨by omega, fun j hj => (y2 j (by omega) (far j hj)).trans ((X.trans X2).get j hj)⟩, by show OpenP h5 23 l' (ps.take (i + 1)); rw [htk]; exact O5, fun j hj => y3 j (by omega)⟩ (show ps.length - (i + 1) < ps.length - i by omega) ⟨by kernel_rfl, by kernel_rfl, by kernel_rfl, (by kernel_rfl : _ = Value.int .i64 (IntKind.wrap .i64 (Int.ofNat (i + 1)))).trans (by rw [hwi]), trivial⟩)
  · intro hlt
    have hlt := no_nat hlt
    have hil : i = ps.length := by omega
    rw [hil, List.take_length] at OU
    refine ok_go 0 ?_
    exact sy_done 0 (v := out) (h := g) (by kernel_rfl) ⟨OU, X, far⟩
theorem Primes_of (f : Nat → Bool) (n : Nat) (hn : n ≤ 6) (lf k b0 c : Nat) (h : Hp) (A : ArB b0 (2 ^ n) f h) (ck : ∀ a c h, Ev lf k 20 [.slice a (2 ^ n) c] h = some (J 0, h))
    (pr : ∀ bd h, ArB b0 (2 ^ n) f h → Dcd bd b0 (2 ^ n) c h → ∃ v h', Ev lf k 22 [ptr bd 0] h = some (v, h') ∧ OpenP h' 75 v (accP (prm f (2 ^ n) n) (2 ^ n)) ∧ Exc [b0, bd] h h' ∧ ArB b0 (2 ^ n) f h')
    (pa : ∀ l ps h, ps.length ≤ 4200 → OpenP h 75 l ps → ∃ v h', Ev lf k 21 [l] h = some (v, h') ∧ OpenP h' 23 v ps ∧ h.Ext h' ∧ ∀ j, j < h.next → ∀ p q, v ≠ .slice (some ⟨j, 0, none⟩) p q) :
    ∃ x h', Ev lf (k + 1) 7 [.slice (some ⟨b0, 0, none⟩) (2 ^ n) c] h = some (x, h') ∧ (∃ v, x = .tuple #[v, J 0] ∧ OpenP h' 23 v (accP (prm f (2 ^ n) n) (2 ^ n)) ∧ ∀ j, j < h.next → ∀ p q, v ≠ .slice (some ⟨j, 0, none⟩) p q) ∧ Exc [b0] h h' ∧ ArB b0 (2 ^ n) f h' := by
  have hp64 : 2 ^ n ≤ 64 := Nat.pow_le_pow_right (n := 2) (by decide) hn
  have hb0 := A.lt
  have ck := ck (some ⟨b0, 0, none⟩) c h
  refine fnS_ok (Q := fun x h' => (∃ v, x = .tuple #[v, J 0] ∧ OpenP h' 23 v (accP (prm f (2 ^ n) n) (2 ^ n)) ∧ ∀ j, j < h.next → ∀ p q, v ≠ .slice (some ⟨j, 0, none⟩) p q) ∧ Exc [b0] h h' ∧ ArB b0 (2 ^ n) f h') ?_
  have hlen := accP_len (prm f (2 ^ n) n) (2 ^ n) hp64
  generalize accP (prm f (2 ^ n) n) (2 ^ n) = ps at *
  generalize hN : 2 ^ n = N at *
  refine ok_go 0 ?_
  refine sy_call 0 (by kernel_rfl) ck ?_
  let H1 : Hp := h.new (.cells [.slice (some ⟨b0, 0, none⟩) N c, .map none] 53 false)
  have X1 : h.Ext H1 := Hp.Ext.new _ _
  have D1 : Dcd h.next b0 N c H1 := ⟨Nat.lt_succ_self _, .map none, false, get_new _ _⟩
  obtain ⟨v, h2, e2, O2, E2, A2⟩ := pr h.next H1 (A.ext X1) D1
  obtain ⟨v3, h3, e3, O3, X3, far⟩ := pa v ps h2 (by omega) O2
  have nE := E2.next
  have nX := X3.next
  have nH1 : H1.next = h.next + 1 := rfl
  refine ok_go 4 ?_
  refine sy_call 0 (r := Ev lf k 22 [ptr h.next 0] H1) (by kernel_rfl) e2 ?_
  refine ok_go 0 ?_
  refine sy_call 0 (by kernel_rfl) e3 ?_
  refine ok_go 0 ?_
  refine sy_done 0 (v := .tuple #[v3, J 0]) (h := h3) (by kernel_rfl) ⟨⟨v3, rfl, O3, fun j hj => far j (by omega)⟩, ⟨by omega, fun j hj hm => ?_⟩, A2.ext X3⟩
  have hm' : j ≠ b0 := by simpa using hm
  rw [X3.get j (by omega), E2.get j (by omega) (by simp; omega)]
  exact X1.get j hj
/-- The same without the first bits, as the reference says it. -/
theorem rprimes_of (f : Nat → Bool) (n : Nat) (hn : n ≤ 6) (lf k b0 c : Nat) (hlf : 300 ≤ lf) (h : Hp) (A : ArB b0 (2 ^ n) f h)
    (ri : ∀ m v h, m < 2 ^ n → v < 64 → ArB b0 (2 ^ n) f h → ∃ y h', Ev lf k 25 [.slice (some ⟨b0, 0, none⟩) (2 ^ n) c, .agg #[J m, J v]] h = some (y, h') ∧ y = .bool ((v &&& m == v) && al (im f m v) (2 ^ n)) ∧ h.Ext h') :
    ∃ v h', Ev lf (k + 1) 11 [.slice (some ⟨b0, 0, none⟩) (2 ^ n) c] h = some (v, h') ∧ OpenP h' 23 v (accP (prm f (2 ^ n) n) (2 ^ n)) ∧ h.Ext h' := by
  have hp64 : 2 ^ n ≤ 64 := Nat.pow_le_pow_right (n := 2) (by decide) hn
  have hlg : ∀ i, 2 ^ i < 2 ^ n → i < n := fun i hi => (Nat.pow_lt_pow_iff_right (by decide)).1 hi
  have hpw : ∀ i, i < n → 2 ^ i < 2 ^ n := fun i hi => Nat.pow_lt_pow_right (by decide) hi
  have hgl : ∀ i, i ≤ n → ¬ 2 ^ i < 2 ^ n → i = n := fun i hi h2 => by
    rcases Nat.lt_or_ge i n with h3 | h3
    · exact absurd ((Nat.pow_lt_pow_iff_right (by decide)).2 h3) h2
    · omega
  refine fnS_ok (Q := fun v h' => OpenP h' 23 v (accP (prm f (2 ^ n) n) (2 ^ n)) ∧ h.Ext h') ?_
  let pr := prm f (2 ^ n) n
  have hpr : ∀ m v, prm f (2 ^ n) n m v = (IM f (2 ^ n) m v && pb f (2 ^ n) m v n) := fun _ _ => rfl
  generalize hN : 2 ^ n = N at *
  refine ok_go 0 ?_
  refine sy_loop 0 lf h (α := Nat × Value) (fun s => [(0, .slice (some ⟨b0, 0, none⟩) N c), (3, s.2), (4, J s.1)]) (fun s g => s.1 ≤ N ∧ h.Ext g ∧ OpenP g 23 s.2 (accP (prm f N n) s.1) ∧ ∀ j, j < h.next → ∀ p q, s.2 ≠ .slice (some ⟨j, 0, none⟩) p q) (fun s _ => N - s.1) (0, .slice none 0 0) (by kernel_rfl) (by kernel_rfl) ⟨by kernel_rfl, by kernel_rfl, by kernel_rfl, trivial⟩ (show N - 0 < lf by omega) ⟨Nat.zero_le _, Hp.Ext.refl _, .inl ⟨rfl, rfl⟩, fun j _ p q hc => by cases hc⟩ ?_
  rintro m1 ⟨m, out⟩ f1 g ⟨hm, X, OU, far⟩ ih
  dsimp only at hm OU far
  refine ok_go 2 ?_
  refine sy_test 0 (decide (Int.ofNat m < Int.ofNat N)) (by kernel_rfl) ?_ ?_
  · intro hlt
    have hlt := ok_nat hlt
    have hwm : IntKind.wrap .i64 (Int.ofNat (m + 1)) = Int.ofNat (m + 1) := wrap_nat (by omega)
    have hal := accP_len (prm f N n) m (by omega)
    refine ok_go 0 ?_
    refine sy_loop 0 lf g (α := Nat × Value) (fun s => [(0, .slice (some ⟨b0, 0, none⟩) N c), (3, s.2), (4, J m), (5, J s.1)]) (fun s q => s.1 ≤ m + 1 ∧ h.Ext q ∧ OpenP q 23 s.2 (accP (prm f N n) m ++ rowP (prm f N n) m s.1) ∧ ∀ j, j < h.next → ∀ p q, s.2 ≠ .slice (some ⟨j, 0, none⟩) p q) (fun s _ => m + 1 - s.1) (0, out) (by kernel_rfl) (by kernel_rfl) ⟨by kernel_rfl, by kernel_rfl, by kernel_rfl, by kernel_rfl, trivial⟩ (show m + 1 - 0 < lf by omega) ⟨Nat.zero_le _, X, by show OpenP g 23 out (accP (prm f N n) m ++ rowP (prm f N n) m 0); rw [rowP, List.append_nil]; exact OU, far⟩ ?_
    rintro m2 ⟨v, out2⟩ f2 q ⟨hv, Xq, OV, far2⟩ ih2
    dsimp only at hv OV far2
    refine ok_go 1 ?_
    refine sy_test 0 (decide (Int.ofNat v ≤ Int.ofNat m)) (by kernel_rfl) ?_ ?_
    · intro hl2
      have hl2 : v ≤ m := by have := of_decide_eq_true hl2; simp at this; omega
      have hwv : IntKind.wrap .i64 (Int.ofNat (v + 1)) = Int.ofNat (v + 1) := wrap_nat (by omega)
      have hrl := rowP_len (prm f N n) m v
      obtain ⟨_, q1, e1, rfl, X1⟩ := ri m v q hlt (by omega) (A.ext Xq)
      have skip : prm f N n m v = false ∨ sub v m = false → rowP (prm f N n) m (v + 1) = rowP (prm f N n) m v := fun hs => by
        rw [rowP, if_neg]
        rcases hs with hs | hs
        · rw [hs, Bool.and_false]; decide
        · rw [hs, Bool.false_and]; decide
      refine ok_go 1 ?_
      refine sy_call 0 (by kernel_rfl) e1 ?_
      refine ok_go 1 ?_
      refine sy_test 0 (!((v &&& m == v) && al (im f m v) N)) (by kernel_rfl) ?_ ?_
      · intro hI
        have hI : ((v &&& m == v) && al (im f m v) N) = false := by rwa [Bool.not_eq_true'] at hI
        have hskip := skip (by
          cases hs : sub v m with
          | false => exact .inr rfl
          | true =>
            left
            have hs' : v &&& m = v := eq_of_beq hs
            rw [im_cq f N m v (by omega) hs'] at hI
            rw [hpr]
            unfold IM
            rw [hI]; rfl)
        refine ok_go 1 ?_
        exact sy_next 0 _ q1 (by kernel_rfl) (by kernel_rfl) (ih2 (v + 1, out2) _ q1 ⟨by show v + 1 ≤ m + 1; omega, Xq.trans X1, by show OpenP q1 23 out2 (_ ++ rowP _ m (v + 1)); rw [hskip]; exact OV.ext X1, far2⟩ (show m + 1 - (v + 1) < m + 1 - v by omega) ⟨by kernel_rfl, by kernel_rfl, by kernel_rfl, (by kernel_rfl : _ = Value.int .i64 (IntKind.wrap .i64 (Int.ofNat (v + 1)))).trans (by rw [hwv]), trivial⟩)
      · intro hI
        have hI : ((v &&& m == v) && al (im f m v) N) = true := by rwa [Bool.not_eq_false'] at hI
        have hs : v &&& m = v := by rw [Bool.and_eq_true] at hI; exact eq_of_beq hI.1
        have hIM : IM f N m v = true := by
          rw [im_cq f N m v (by omega) hs] at hI
          exact hI
        refine ok_go 0 ?_
        refine sy_loop 0 lf q1 (α := Nat) (fun i => [(0, .slice (some ⟨b0, 0, none⟩) N c), (3, out2), (4, J m), (5, J v), (6, .bool (pb f N m v i)), (7, J (2 ^ i))]) (fun i r => i ≤ n ∧ q1.Ext r) (fun i _ => n - i) 0 (by kernel_rfl) (by kernel_rfl) ⟨by kernel_rfl, by kernel_rfl, by kernel_rfl, by kernel_rfl, by kernel_rfl, by kernel_rfl, trivial⟩ (by omega) ⟨Nat.zero_le _, Hp.Ext.refl _⟩ ?_
        rintro m3 i f3 r ⟨hi, Xr⟩ ih3
        have Xhr := Xq.trans (X1.trans Xr)
        refine ok_go 2 ?_
        refine sy_test 0 (decide (Int.ofNat (2 ^ i) < Int.ofNat N)) (by kernel_rfl) ?_ ?_
        · intro hl3
          have hl3 := hlg i (ok_nat hl3)
          have hpi := hpw i hl3
          have hw2 : IntKind.i64.wrap (2 * Int.ofNat (2 ^ i)) = Int.ofNat (2 ^ (i + 1)) := by
            have h7 : 2 * Int.ofNat (2 ^ i) = Int.ofNat (2 ^ (i + 1)) := by rw [Nat.pow_succ, Nat.mul_comm]; rfl
            rw [h7, wrap_nat (by rw [Nat.pow_succ]; omega)]
          have hand : (andI (Int.ofNat m) (Int.ofNat (2 ^ i)) != 0) = !(m &&& 2 ^ i == 0) := by rw [and_nat (by omega)]; exact ne_int _ 0
          refine ok_go 2 ?_
          refine sy_test 0 (andI (Int.ofNat m) (Int.ofNat (2 ^ i)) != 0) (by kernel_rfl) ?_ ?_
          · intro hz
            have hz : (m &&& 2 ^ i == 0) = false := by rw [hand] at hz; simpa using hz
            have hl1 := les (a := m) (b := 2 ^ i) (by omega) (by omega)
            have hl2' := les (a := v) (b := 2 ^ i) (by omega) (by omega)
            have hn1 := not_gen (a := m) (b := 2 ^ i) (by omega) (by omega)
            have hn2 := not_gen (a := v) (b := 2 ^ i) (by omega) (by omega)
            obtain ⟨_, r1, e2, rfl, X2⟩ := ri (m ^^^ (m &&& 2 ^ i)) (v ^^^ (v &&& 2 ^ i)) r (by omega) (by omega) (A.ext Xhr)
            rw [im_cq f N _ _ (by omega) (sub_less hs)] at e2
            have hpb : pb f N m v (i + 1) = (pb f N m v i && !IM f N (m ^^^ (m &&& 2 ^ i)) (v ^^^ (v &&& 2 ^ i))) := by rw [pb, hz, Bool.false_or]
            refine ok_go 11 ?_
            refine sy_call 0 (r := Ev lf k 25 [.slice (some ⟨b0, 0, none⟩) N c, .agg #[.int .i64 (notI (Int.ofNat m) (Int.ofNat (2 ^ i))), .int .i64 (notI (Int.ofNat v) (Int.ofNat (2 ^ i)))]] r) (by kernel_rfl) (by rw [hn1, hn2]; exact e2) ?_
            refine ok_go 1 ?_
            refine sy_test 0 (al (cq f (m ^^^ (m &&& 2 ^ i)) (v ^^^ (v &&& 2 ^ i))) N && f (v ^^^ (v &&& 2 ^ i))) (by kernel_rfl) ?_ ?_
            · intro hI2
              refine ok_go 1 ?_
              exact sy_next 0 _ r1 (by kernel_rfl) (by kernel_rfl) (ih3 (i + 1) _ r1 ⟨hl3, Xr.trans X2⟩ (show n - (i + 1) < n - i by omega) ⟨by kernel_rfl, by kernel_rfl, by kernel_rfl, by kernel_rfl, (by kernel_rfl : _ = Value.bool false).trans (by rw [hpb]; unfold IM; rw [hI2, Bool.not_true, Bool.and_false]), (by kernel_rfl : _ = Value.int .i64 (IntKind.i64.wrap (2 * Int.ofNat (2 ^ i)))).trans (by rw [hw2]), trivial⟩)
            · intro hI2
              refine ok_go 1 ?_
              exact sy_next 0 _ r1 (by kernel_rfl) (by kernel_rfl) (ih3 (i + 1) _ r1 ⟨hl3, Xr.trans X2⟩ (show n - (i + 1) < n - i by omega) ⟨by kernel_rfl, by kernel_rfl, by kernel_rfl, by kernel_rfl, (by kernel_rfl : _ = Value.bool (pb f N m v i)).trans (by rw [hpb]; unfold IM; rw [hI2, Bool.not_false, Bool.and_true]), (by kernel_rfl : _ = Value.int .i64 (IntKind.i64.wrap (2 * Int.ofNat (2 ^ i)))).trans (by rw [hw2]), trivial⟩)
          · intro hz
            have hz : (m &&& 2 ^ i == 0) = true := by rw [hand] at hz; simpa using hz
            refine ok_go 11 ?_
            exact sy_next 0 _ r (by kernel_rfl) (by kernel_rfl) (ih3 (i + 1) _ r ⟨hl3, Xr⟩ (show n - (i + 1) < n - i by omega) ⟨by kernel_rfl, by kernel_rfl, by kernel_rfl, by kernel_rfl, (by kernel_rfl : _ = Value.bool (pb f N m v i)).trans (by rw [pb, hz, Bool.true_or, Bool.and_true]), (by kernel_rfl : _ = Value.int .i64 (IntKind.i64.wrap (2 * Int.ofNat (2 ^ i)))).trans (by rw [hw2]), trivial⟩)
        · intro hl3
          have hin := hgl i hi (fun hc => by have := no_nat hl3; omega)
          subst hin
          refine ok_go 0 ?_
          refine sy_test 0 (pb f N m v i) (by kernel_rfl) ?_ ?_
          · intro hp
            have hadd : rowP (prm f N i) m (v + 1) = rowP (prm f N i) m v ++ [(m, v)] := by
              rw [rowP, if_pos]
              rw [hpr, hIM, hp]
              show ((v &&& m == v) && _) = true
              rw [hs, beq_self_eq_true]; rfl
            have OR := OV.ext (X1.trans Xr)
            obtain ⟨oa, oc, hol⟩ := OR.shape
            obtain ⟨l', h5, e5, O5, y1, y2, y3⟩ := append2 s27 OR (a := m) (b := v) (by rw [List.length_append]; omega)
            have hxn := Xhr.next
            refine ok_go 2 ?_
            refine sy_call 0 (r := appendOp Tryd.prog (r.new (.cells [J m, J v] 23 false)) 27 out2 (.slice (some ⟨r.next, 0, none⟩) 1 2)) (v := l') (h' := h5) (by subst hol; kernel_rfl) e5 ?_
            refine ok_go 1 ?_
            exact sy_next 0 _ h5 (by kernel_rfl) (by kernel_rfl) (ih2 (v + 1, l') _ h5 ⟨by show v + 1 ≤ m + 1; omega, ⟨by omega, fun j hj => (y2 j (by omega) (far2 j hj)).trans (Xhr.get j hj)⟩, by show OpenP h5 23 l' (_ ++ rowP _ m (v + 1)); rw [hadd, ← List.append_assoc]; exact O5, fun j hj => y3 j (by omega)⟩ (show m + 1 - (v + 1) < m + 1 - v by omega) ⟨by kernel_rfl, by kernel_rfl, by kernel_rfl, (by kernel_rfl : _ = Value.int .i64 (IntKind.wrap .i64 (Int.ofNat (v + 1)))).trans (by rw [hwv]), trivial⟩)
          · intro hp
            have hskip := skip (.inl (by rw [hpr, hp, Bool.and_false]))
            refine ok_go 1 ?_
            exact sy_next 0 _ r (by kernel_rfl) (by kernel_rfl) (ih2 (v + 1, out2) _ r ⟨by show v + 1 ≤ m + 1; omega, Xhr, by show OpenP r 23 out2 (_ ++ rowP _ m (v + 1)); rw [hskip]; exact OV.ext (X1.trans Xr), far2⟩ (show m + 1 - (v + 1) < m + 1 - v by omega) ⟨by kernel_rfl, by kernel_rfl, by kernel_rfl, (by kernel_rfl : _ = Value.int .i64 (IntKind.wrap .i64 (Int.ofNat (v + 1)))).trans (by rw [hwv]), trivial⟩)
    · intro hl2
      have hvm : v = m + 1 := by have := of_decide_eq_false hl2; simp at this; omega
      subst hvm
      refine ok_go 1 ?_
      exact sy_next 0 _ q (by kernel_rfl) (by kernel_rfl) (ih (m + 1, out2) _ q ⟨hlt, Xq, OV, far2⟩ (show N - (m + 1) < N - m by omega) ⟨by kernel_rfl, by kernel_rfl, (by kernel_rfl : _ = Value.int .i64 (IntKind.wrap .i64 (Int.ofNat (m + 1)))).trans (by rw [hwm]), trivial⟩)
  · intro hlt
    have hlt := no_nat hlt
    have hmN : m = N := by omega
    subst hmN
    refine ok_go 0 ?_
    exact sy_done 0 (v := out) (h := g) (by kernel_rfl) ⟨OU, X⟩
/-- The operations of a piece of code, one after the other. -/
def opsIn : Code → List Oper
  | .region _ ops _ => ops.toList
  | .seq a b => opsIn a ++ opsIn b
  | .cond _ a b => opsIn a ++ opsIn b
  | .block _ b => opsIn b
  | .loop b => opsIn b
  | .scope b => opsIn b
  | _ => []
def isNeq (o : Oper) : Bool := match o.op with
  | .binOp .neq 23 _ _ _ => true
  | _ => false
noncomputable def neqOps : List Oper := match Tryd.prog.funcs[10]? with
  | some fn => match fn.body with
    | some b => (opsIn b).filter isNeq
    | none => []
  | none => []
noncomputable def neqOp : Oper := neqOps.headD { dst := none, op := .move (.const undef), type := 0, pos := "", after := #[], guard := none }
def isF : Option Value → Bool
  | some (.bool false) => true
  | _ => false
noncomputable def neqV (a b : Nat) : Option Value := pureOp Tryd.prog (smallFm (fun _ => .agg #[J a, J b]) neqOp).eval neqOp
theorem neq_fst : ∀ a, a < 64 → ∀ b, neqV a b = neqV 0 b
  | 0, _, b => by kernel_rfl
  | 1, _, b => by kernel_rfl
  | 2, _, b => by kernel_rfl
  | 3, _, b => by kernel_rfl
  | 4, _, b => by kernel_rfl
  | 5, _, b => by kernel_rfl
  | 6, _, b => by kernel_rfl
  | 7, _, b => by kernel_rfl
  | 8, _, b => by kernel_rfl
  | 9, _, b => by kernel_rfl
  | 10, _, b => by kernel_rfl
  | 11, _, b => by kernel_rfl
  | 12, _, b => by kernel_rfl
  | 13, _, b => by kernel_rfl
  | 14, _, b => by kernel_rfl
  | 15, _, b => by kernel_rfl
  | 16, _, b => by kernel_rfl
  | 17, _, b => by kernel_rfl
  | 18, _, b => by kernel_rfl
  | 19, _, b => by kernel_rfl
  | 20, _, b => by kernel_rfl
  | 21, _, b => by kernel_rfl
  | 22, _, b => by kernel_rfl
  | 23, _, b => by kernel_rfl
  | 24, _, b => by kernel_rfl
  | 25, _, b => by kernel_rfl
  | 26, _, b => by kernel_rfl
  | 27, _, b => by kernel_rfl
  | 28, _, b => by kernel_rfl
  | 29, _, b => by kernel_rfl
  | 30, _, b => by kernel_rfl
  | 31, _, b => by kernel_rfl
  | 32, _, b => by kernel_rfl
  | 33, _, b => by kernel_rfl
  | 34, _, b => by kernel_rfl
  | 35, _, b => by kernel_rfl
  | 36, _, b => by kernel_rfl
  | 37, _, b => by kernel_rfl
  | 38, _, b => by kernel_rfl
  | 39, _, b => by kernel_rfl
  | 40, _, b => by kernel_rfl
  | 41, _, b => by kernel_rfl
  | 42, _, b => by kernel_rfl
  | 43, _, b => by kernel_rfl
  | 44, _, b => by kernel_rfl
  | 45, _, b => by kernel_rfl
  | 46, _, b => by kernel_rfl
  | 47, _, b => by kernel_rfl
  | 48, _, b => by kernel_rfl
  | 49, _, b => by kernel_rfl
  | 50, _, b => by kernel_rfl
  | 51, _, b => by kernel_rfl
  | 52, _, b => by kernel_rfl
  | 53, _, b => by kernel_rfl
  | 54, _, b => by kernel_rfl
  | 55, _, b => by kernel_rfl
  | 56, _, b => by kernel_rfl
  | 57, _, b => by kernel_rfl
  | 58, _, b => by kernel_rfl
  | 59, _, b => by kernel_rfl
  | 60, _, b => by kernel_rfl
  | 61, _, b => by kernel_rfl
  | 62, _, b => by kernel_rfl
  | 63, _, b => by kernel_rfl
  | n + 64, h, _ => absurd h (by omega)
theorem neq_all : allB 64 (fun b => isF (neqV 0 b)) = true := by kernel_rfl
theorem neq_ok {a b : Nat} (ha : a < 64) (hb : b < 64) : neqV a b = some (.bool false) := by
  have h := allB_ok neq_all b hb
  rw [neq_fst a ha b]
  unfold isF at h
  split at h
  · rename_i e; exact e
  · cases h
/-- The law's comparison. -/
theorem same_of (lf k : Nat) (hlf : 5000 ≤ lf) (h : Hp) (l l' : Value) (ps : List (Nat × Nat)) (hps : ps.length ≤ 4200) (hsm : ∀ p ∈ ps, p.1 < 64 ∧ p.2 < 64) (O : OpenP h 23 l ps) (O' : OpenP h 23 l' ps) : Ev lf (k + 1) 10 [l, l'] h = some (.bool true, h) := by
  refine fn_eq ?_
  obtain ⟨a, c, rfl⟩ := O.shape
  obtain ⟨a', c', rfl⟩ := O'.shape
  refine ok_go 3 ?_
  refine sy_no 0 (b := Int.ofNat ps.length != Int.ofNat ps.length) (by kernel_rfl) (bne_self_eq_false _) ?_
  refine ok_go 0 ?_
  refine sy_loop 0 lf h (α := Nat) (fun i => [(0, .slice a ps.length c), (1, .slice a' ps.length c'), (5, J i)]) (fun i g => i ≤ ps.length ∧ g = h) (fun i _ => ps.length - i) 0 (by kernel_rfl) (by kernel_rfl) ⟨by kernel_rfl, by kernel_rfl, by kernel_rfl, trivial⟩ (by omega) ⟨Nat.zero_le _, rfl⟩ ?_
  rintro m1 i f1 g ⟨hi, rfl⟩ ih
  refine ok_go 2 ?_
  refine sy_test 0 (decide (Int.ofNat i < Int.ofNat ps.length)) (by kernel_rfl) ?_ ?_
  · intro hlt
    have hlt := ok_nat hlt
    have hwi : IntKind.wrap .i64 (Int.ofNat (i + 1)) = Int.ofNat (i + 1) := wrap_nat (by omega)
    obtain ⟨q, e1, e2⟩ := O.read s27 ag23 (k := i) (p := ps[i]) (List.getElem?_eq_getElem hlt)
    obtain ⟨q', e1', e2'⟩ := O'.read s27 ag23 (k := i) (p := ps[i]) (List.getElem?_eq_getElem hlt)
    have hp2 := hsm ps[i] (List.getElem_mem hlt)
    generalize ps[i] = p at e2 e2' hp2
    obtain ⟨pa, pb⟩ := p
    refine ok_go 0 ?_
    refine sy_load 0 (r := indexAddrOp Tryd.prog 27 (.slice a ps.length c) (J i)) (h' := g) (by kernel_rfl) e1 ?_
    refine ok_go 0 ?_
    refine sy_load 0 (r := loadT Tryd.prog g 23 q) (h' := g) (by kernel_rfl) e2 ?_
    refine ok_go 0 ?_
    refine sy_load 0 (r := indexAddrOp Tryd.prog 27 (.slice a' ps.length c') (J i)) (h' := g) (by kernel_rfl) e1' ?_
    refine ok_go 0 ?_
    refine sy_load 0 (r := loadT Tryd.prog g 23 q') (h' := g) (by kernel_rfl) e2' ?_
    refine ok_go 0 ?_
    refine sy_call 0 (r := (neqV pa pb).map (·, g)) (v := .bool false) (h' := g) (by kernel_rfl) (by rw [neq_ok hp2.1 hp2.2]; rfl) ?_
    refine ok_go 2 ?_
    exact sy_next 0 _ g (by kernel_rfl) (by kernel_rfl) (ih (i + 1) _ g ⟨hlt, rfl⟩ (show ps.length - (i + 1) < ps.length - i by omega) ⟨by kernel_rfl, by kernel_rfl, (by kernel_rfl : _ = Value.int .i64 (IntKind.wrap .i64 (Int.ofNat (i + 1)))).trans (by rw [hwi]), trivial⟩)
  · intro hlt
    refine ok_go 0 ?_
    exact sy_done 0 (v := .bool true) (h := g) (by kernel_rfl) ⟨rfl, rfl⟩
end Go.Proofs.YtnfboopfpkaeaaaDoor
namespace Go.Proofs.YtnfboopfpkaeaaaDoor
open Go Go.Eng Nim
set_option maxRecDepth 100000
set_option maxHeartbeats 4000000
def dbj : List Nat := [0, 1, 56, 2, 57, 49, 28, 3, 61, 58, 42, 50, 38, 29, 17, 4, 62, 47, 59, 36, 45, 43, 51, 22, 53, 39, 33, 30, 24, 18, 12, 5, 63, 55, 48, 27, 60, 41, 37, 16, 46, 35, 44, 21, 52, 32, 23, 11, 54, 26, 40, 15, 34, 20, 31, 10, 25, 14, 19, 9, 13, 8, 7, 6]
/-- The table of the library stands in its variable. -/
def Tab (h : Hp) : Prop := 1 < h.next ∧ ∃ e, h.get 1 = some (.ro 0 (dbj.map fun n => Value.int .u8 (Int.ofNat n)) e)
theorem loadRo {P : Program} {h : Hp} {t : TypeId} {i off : Nat} {cs : List Value} {e : TypeId} {v : Value} (ha : isAggT P t = some false) (hg : h.get i = some (.ro 0 cs e)) (hv : cs[off]? = some v) : loadT P h t (ptr i off) = some v := by
  have hd : cs.drop off = v :: cs.drop (off + 1) := by
    obtain ⟨hlt, rfl⟩ := List.getElem?_eq_some_iff.1 hv
    exact List.drop_eq_getElem_cons hlt
  have hb : Nat.ble 0 off = true := Nat.ble_eq_true_of_le (Nat.zero_le _)
  simp only [loadT, ha, loadN, hg, hb, Nat.sub_zero, hd, takeN]
theorem tz_in (i : Nat) (hi : i < 6) (lf k : Nat) (h : Hp) (T : Tab h) : Ev lf (k + 1) 51 [.int .u64 (Int.ofNat (2 ^ i))] h = some (J i, h) := by
  obtain ⟨_, e, g⟩ := T
  refine fn_eq ?_
  rcases (by omega : i = 0 ∨ i = 1 ∨ i = 2 ∨ i = 3 ∨ i = 4 ∨ i = 5) with rfl | rfl | rfl | rfl | rfl | rfl
  · refine ok_go 7 ?_
    refine sy_load 0 (r := loadT Tryd.prog h 5 (ptr 1 0)) (h' := h) (v := .int .u8 0) (by kernel_rfl) (loadRo (by kernel_rfl) g rfl) ?_
    refine ok_go 1 ?_
    exact sy_done 0 (v := J 0) (h := h) (by kernel_rfl) ⟨rfl, rfl⟩
  · refine ok_go 7 ?_
    refine sy_load 0 (r := loadT Tryd.prog h 5 (ptr 1 1)) (h' := h) (v := .int .u8 1) (by kernel_rfl) (loadRo (by kernel_rfl) g rfl) ?_
    refine ok_go 1 ?_
    exact sy_done 0 (v := J 1) (h := h) (by kernel_rfl) ⟨rfl, rfl⟩
  · refine ok_go 7 ?_
    refine sy_load 0 (r := loadT Tryd.prog h 5 (ptr 1 3)) (h' := h) (v := .int .u8 2) (by kernel_rfl) (loadRo (by kernel_rfl) g rfl) ?_
    refine ok_go 1 ?_
    exact sy_done 0 (v := J 2) (h := h) (by kernel_rfl) ⟨rfl, rfl⟩
  · refine ok_go 7 ?_
    refine sy_load 0 (r := loadT Tryd.prog h 5 (ptr 1 7)) (h' := h) (v := .int .u8 3) (by kernel_rfl) (loadRo (by kernel_rfl) g rfl) ?_
    refine ok_go 1 ?_
    exact sy_done 0 (v := J 3) (h := h) (by kernel_rfl) ⟨rfl, rfl⟩
  · refine ok_go 7 ?_
    refine sy_load 0 (r := loadT Tryd.prog h 5 (ptr 1 15)) (h' := h) (v := .int .u8 4) (by kernel_rfl) (loadRo (by kernel_rfl) g rfl) ?_
    refine ok_go 1 ?_
    exact sy_done 0 (v := J 4) (h := h) (by kernel_rfl) ⟨rfl, rfl⟩
  · refine ok_go 7 ?_
    refine sy_load 0 (r := loadT Tryd.prog h 5 (ptr 1 31)) (h' := h) (v := .int .u8 5) (by kernel_rfl) (loadRo (by kernel_rfl) g rfl) ?_
    refine ok_go 1 ?_
    exact sy_done 0 (v := J 5) (h := h) (by kernel_rfl) ⟨rfl, rfl⟩
theorem tz_out (lf k : Nat) (x : Int) (v : Value) (h : Hp) (inner : Ev lf k 51 [.int .u64 x] h = some (v, h)) : Ev lf (k + 1) 24 [.int .u64 x] h = some (v, h) := by
  refine fn_eq ?_
  refine ok_go 1 ?_
  refine sy_call 0 (by kernel_rfl) inner ?_
  refine ok_go 0 ?_
  exact sy_done 0 (v := v) (h := h) (by kernel_rfl) ⟨rfl, rfl⟩
/-- A place where a function is not rising. -/
def bad (f : Nat → Bool) (x i : Nat) : Bool := f x && !f (x ||| 2 ^ i)
/-- None before. -/
def Nb (f : Nat → Bool) (n x i : Nat) : Prop := (∀ y j, y < x → j < n → bad f y j = false) ∧ ∀ j, j < i → bad f x j = false
def Rs (f : Nat → Bool) (n x i : Nat) (b : Bool) : Prop := (b = false ∧ x < 2 ^ n ∧ i < n ∧ bad f x i = true ∧ Nb f n x i) ∨ (b = true ∧ x = 0 ∧ i = 0 ∧ ∀ y j, y < 2 ^ n → j < n → bad f y j = false)
theorem Rs.uniq {f : Nat → Bool} {n x i x' i' : Nat} {b b' : Bool} (h : Rs f n x i b) (h' : Rs f n x' i' b') : x = x' ∧ i = i' ∧ b = b' := by
  rcases h with ⟨rfl, h1, h2, h3, h4⟩ | ⟨rfl, rfl, rfl, h4⟩
  · rcases h' with ⟨rfl, g1, g2, g3, g4⟩ | ⟨rfl, rfl, rfl, g4⟩
    · have e1 : x = x' := by
        rcases Nat.lt_trichotomy x x' with hl | hl | hl
        · have := g4.1 x i hl h2; rw [h3] at this; cases this
        · exact hl
        · have := h4.1 x' i' hl g2; rw [g3] at this; cases this
      subst e1
      refine ⟨rfl, ?_, rfl⟩
      rcases Nat.lt_trichotomy i i' with hl | hl | hl
      · have := g4.2 i hl; rw [h3] at this; cases this
      · exact hl
      · have := h4.2 i' hl; rw [g3] at this; cases this
    · have := g4 x i h1 h2; rw [h3] at this; cases this
  · rcases h' with ⟨rfl, g1, g2, g3, g4⟩ | ⟨rfl, rfl, rfl, g4⟩
    · have := h4 x' i' g1 g2; rw [g3] at this; cases this
    · exact ⟨rfl, rfl, rfl⟩
theorem Nb.next {f : Nat → Bool} {n x i : Nat} (h : Nb f n x i) (hb : bad f x i = false) : Nb f n x (i + 1) := ⟨h.1, fun j hj => by
  by_cases e : j = i
  · rw [e]; exact hb
  · exact h.2 j (by omega)⟩
theorem Nb.up {f : Nat → Bool} {n x : Nat} (h : Nb f n x n) : Nb f n (x + 1) 0 := ⟨fun y j hy hj => by
  by_cases e : y = x
  · rw [e]; exact h.2 j hj
  · exact h.1 y j (by omega) hj, fun j hj => absurd hj (Nat.not_lt_zero j)⟩
theorem rris_of (f : Nat → Bool) (n : Nat) (hn : n ≤ 6) (lf k b0 c : Nat) (hlf : 300 ≤ lf) (h : Hp) (A : ArB b0 (2 ^ n) f h) :
    ∃ v h', Ev lf (k + 1) 9 [.slice (some ⟨b0, 0, none⟩) (2 ^ n) c] h = some (v, h') ∧ h' = h ∧ ∃ x i b, v = .tuple #[J x, J i, .bool b] ∧ Rs f n x i b := by
  have hp64 : 2 ^ n ≤ 64 := Nat.pow_le_pow_right (n := 2) (by decide) hn
  have hlg : ∀ i, 2 ^ i < 2 ^ n → i < n := fun i hi => (Nat.pow_lt_pow_iff_right (by decide)).1 hi
  have hpw : ∀ i, i < n → 2 ^ i < 2 ^ n := fun i hi => Nat.pow_lt_pow_right (by decide) hi
  have hor : ∀ x i, x < 2 ^ n → i < n → x ||| 2 ^ i < 2 ^ n := fun x i hx hi => or_small hx (hpw i hi)
  have hgl : ∀ i, i ≤ n → ¬ 2 ^ i < 2 ^ n → i = n := fun i hi h2 => by
    rcases Nat.lt_or_ge i n with h3 | h3
    · exact absurd (hpw i h3) h2
    · omega
  refine fnS_ok (Q := fun v h' => h' = h ∧ ∃ x i b, v = .tuple #[J x, J i, .bool b] ∧ Rs f n x i b) ?_
  have hRs : ∀ x i b, ((b = false ∧ x < 2 ^ n ∧ i < n ∧ bad f x i = true ∧ Nb f n x i) ∨ (b = true ∧ x = 0 ∧ i = 0 ∧ ∀ y j, y < 2 ^ n → j < n → bad f y j = false)) → Rs f n x i b := fun x i b h => h
  generalize hN : 2 ^ n = N at *
  refine ok_go 0 ?_
  refine sy_loop 0 lf h (α := Nat) (fun x => [(0, .slice (some ⟨b0, 0, none⟩) N c), (5, J x)]) (fun x g => x ≤ N ∧ Nb f n x 0 ∧ g = h) (fun x _ => N - x) 0 (by kernel_rfl) (by kernel_rfl) ⟨by kernel_rfl, by kernel_rfl, trivial⟩ (by omega) ⟨Nat.zero_le _, ⟨fun y j hy => absurd hy (Nat.not_lt_zero y), fun j hj => absurd hj (Nat.not_lt_zero j)⟩, rfl⟩ ?_
  rintro m1 x f1 g ⟨hx, B, rfl⟩ ih
  refine ok_go 2 ?_
  refine sy_test 0 (decide (Int.ofNat x < Int.ofNat N)) (by kernel_rfl) ?_ ?_
  · intro hlt
    have hlt := ok_nat hlt
    have hwx : IntKind.wrap .i64 (Int.ofNat (x + 1)) = Int.ofNat (x + 1) := wrap_nat (by omega)
    refine ok_go 0 ?_
    refine sy_loop 0 lf g (α := Nat) (fun i => [(0, .slice (some ⟨b0, 0, none⟩) N c), (5, J x), (6, J i)]) (fun i q => i ≤ n ∧ Nb f n x i ∧ q = g) (fun i _ => n - i) 0 (by kernel_rfl) (by kernel_rfl) ⟨by kernel_rfl, by kernel_rfl, by kernel_rfl, trivial⟩ (by omega) ⟨Nat.zero_le _, B, rfl⟩ ?_
    rintro m2 i f2 q ⟨hi, Bi, rfl⟩ ih2
    have hsh := shl_nat (i := i) (by omega)
    have hwi : IntKind.wrap .i64 (Int.ofNat (i + 1)) = Int.ofNat (i + 1) := wrap_nat (by omega)
    refine ok_go 4 ?_
    refine sy_test 0 (decide (IntKind.wrap .i64 (1 * 2 ^ min (IntKind.wrap .u64 (Int.ofNat i)).toNat IntKind.i64.bits) < Int.ofNat N)) (by kernel_rfl) ?_ ?_
    · intro hl2
      rw [hsh] at hl2
      have hl2 := hlg i (ok_nat hl2)
      have hx2 := hor x i hlt hl2
      have hpi := hpw i hl2
      have horI : orI (Int.ofNat x) (IntKind.wrap .i64 (1 * 2 ^ min (IntKind.wrap .u64 (Int.ofNat i)).toNat IntKind.i64.bits)) = Int.ofNat (x ||| 2 ^ i) := by rw [hsh, or_nat (by omega) (by omega)]
      refine ok_go 0 ?_
      refine sy_load 0 (r := indexAddrOp Tryd.prog 24 (.slice (some ⟨b0, 0, none⟩) N c) (J x)) (h' := q) (by kernel_rfl) (idxB hlt) ?_
      refine ok_go 0 ?_
      refine sy_load 0 (r := loadT Tryd.prog q 4 (ptr b0 x)) (h' := q) (by kernel_rfl) (A.read hlt) ?_
      refine ok_go 0 ?_
      refine sy_test 0 (f x) (by kernel_rfl) ?_ ?_
      · intro hfx
        refine ok_go 9 ?_
        refine sy_load 0 (r := indexAddrOp Tryd.prog 24 (.slice (some ⟨b0, 0, none⟩) N c) (.int .i64 (orI (Int.ofNat x) (IntKind.wrap .i64 (1 * 2 ^ min (IntKind.wrap .u64 (Int.ofNat i)).toNat IntKind.i64.bits))))) (h' := q) (by kernel_rfl) (by rw [horI]; exact idxB hx2) ?_
        refine ok_go 1 ?_
        refine sy_load 0 (r := loadT Tryd.prog q 4 (ptr b0 (x ||| 2 ^ i))) (h' := q) (by kernel_rfl) (A.read hx2) ?_
        refine ok_go 3 ?_
        refine sy_test 0 (!f (x ||| 2 ^ i)) (by kernel_rfl) ?_ ?_
        · intro hf2
          refine ok_go 0 ?_
          exact sy_done 0 (v := .tuple #[J x, J i, .bool false]) (h := q) (by kernel_rfl) ⟨rfl, x, i, false, rfl, hRs _ _ _ (.inl ⟨rfl, hlt, hl2, by unfold bad; rw [hfx, hf2]; rfl, Bi⟩)⟩
        · intro hf2
          refine ok_go 1 ?_
          exact sy_next 0 _ q (by kernel_rfl) (by kernel_rfl) (ih2 (i + 1) _ q ⟨hl2, Bi.next (by unfold bad; rw [hfx, hf2]; rfl), rfl⟩ (show n - (i + 1) < n - i by omega) ⟨by kernel_rfl, by kernel_rfl, (by kernel_rfl : _ = Value.int .i64 (IntKind.wrap .i64 (Int.ofNat (i + 1)))).trans (by rw [hwi]), trivial⟩)
      · intro hfx
        refine ok_go 11 ?_
        exact sy_next 0 _ q (by kernel_rfl) (by kernel_rfl) (ih2 (i + 1) _ q ⟨hl2, Bi.next (by unfold bad; rw [hfx]; rfl), rfl⟩ (show n - (i + 1) < n - i by omega) ⟨by kernel_rfl, by kernel_rfl, (by kernel_rfl : _ = Value.int .i64 (IntKind.wrap .i64 (Int.ofNat (i + 1)))).trans (by rw [hwi]), trivial⟩)
    · intro hl2
      rw [hsh] at hl2
      have hin := hgl i hi (fun hc => by have := no_nat hl2; omega)
      subst hin
      refine ok_go 1 ?_
      exact sy_next 0 _ q (by kernel_rfl) (by kernel_rfl) (ih (x + 1) _ q ⟨hlt, Bi.up, rfl⟩ (show N - (x + 1) < N - x by omega) ⟨by kernel_rfl, (by kernel_rfl : _ = Value.int .i64 (IntKind.wrap .i64 (Int.ofNat (x + 1)))).trans (by rw [hwx]), trivial⟩)
  · intro hlt
    have hlt := no_nat hlt
    have hxN : x = N := by omega
    subst hxN
    refine ok_go 0 ?_
    exact sy_done 0 (v := .tuple #[J 0, J 0, .bool true]) (h := g) (by kernel_rfl) ⟨rfl, 0, 0, true, rfl, hRs _ _ _ (.inr ⟨rfl, rfl, rfl, B.1⟩)⟩
end Go.Proofs.YtnfboopfpkaeaaaDoor
namespace Go.Proofs.YtnfboopfpkaeaaaDoor
open Go Go.Eng Nim
set_option maxRecDepth 100000
set_option maxHeartbeats 4000000
theorem ris_of (f : Nat → Bool) (n : Nat) (hn : n ≤ 6) (lf k b0 c : Nat) (hlf : 300 ≤ lf) (h : Hp) (A : ArB b0 (2 ^ n) f h) (T : Tab h) (ck : ∀ a c h, Ev lf (k + 2) 20 [.slice a (2 ^ n) c] h = some (J 0, h))
    (tz : ∀ i h, i < 6 → Tab h → Ev lf k 24 [.int .u64 (Int.ofNat (2 ^ i))] h = some (J i, h)) :
    ∃ v h', Ev lf (k + 3) 8 [.slice (some ⟨b0, 0, none⟩) (2 ^ n) c] h = some (v, h') ∧ h.Ext h' ∧ ∃ x i b, v = .tuple #[J x, J i, .bool b, J 0] ∧ Rs f n x i b := by
  have hp64 : 2 ^ n ≤ 64 := Nat.pow_le_pow_right (n := 2) (by decide) hn
  have hpw : ∀ i, i < n → 2 ^ i < 2 ^ n := fun i hi => Nat.pow_lt_pow_right (by decide) hi
  have hor : ∀ x i, x < 2 ^ n → i < n → x ||| 2 ^ i < 2 ^ n := fun x i hx hi => or_small hx (hpw i hi)
  have ck := ck (some ⟨b0, 0, none⟩) c
  have hb0 := A.lt
  refine fnS_ok (Q := fun v h' => h.Ext h' ∧ ∃ x i b, v = .tuple #[J x, J i, .bool b, J 0] ∧ Rs f n x i b) ?_
  have hRs : ∀ x i b, ((b = false ∧ x < 2 ^ n ∧ i < n ∧ bad f x i = true ∧ Nb f n x i) ∨ (b = true ∧ x = 0 ∧ i = 0 ∧ ∀ y j, y < 2 ^ n → j < n → bad f y j = false)) → Rs f n x i b := fun x i b h => h
  generalize hN : 2 ^ n = N at *
  let SL : Value := .slice (some ⟨b0, 0, none⟩) N c
  let H5 : Hp := ((((h.new (.cells [SL] 24 false)).new (.cells [I 0] 3 false)).new (.cells [I 0] 3 false)).new (.cells [.bool false] 4 false)).new (.cells [I 0] 28 false)
  have n5 : H5.next = h.next + 5 := rfl
  have o5 : ∀ j, j < h.next → H5.get j = h.get j := fun j hj => by
    simp only [H5, gn, nn]
    repeat (first | rw [if_pos (by omega)] | rw [if_neg (by omega)])
  have g1 : H5.get h.next = some (.cells [SL] 24 false) := by
    simp only [H5, gn, nn, if_true]
    repeat (first | rw [if_pos (by omega)] | rw [if_neg (by omega)])
  have g2 : H5.get (h.next + 1) = some (.cells [I 0] 3 false) := by
    simp only [H5, gn, nn, if_true]
    repeat (first | rw [if_pos (by omega)] | rw [if_neg (by omega)])
  have g3 : H5.get (h.next + 2) = some (.cells [I 0] 3 false) := by
    simp only [H5, gn, nn, if_true]
    repeat (first | rw [if_pos (by omega)] | rw [if_neg (by omega)])
  have g4 : H5.get (h.next + 3) = some (.cells [.bool false] 4 false) := by
    simp only [H5, gn, nn, if_true]
    repeat (first | rw [if_pos (by omega)] | rw [if_neg (by omega)])
  have g5 : H5.get (h.next + 4) = some (.cells [I 0] 28 false) := by
    simp only [H5, gn, nn, if_true]
  have X5 : h.Ext H5 := ⟨by omega, o5⟩
  refine ok_go 5 ?_
  refine sy_load 0 (r := loadT Tryd.prog H5 24 (ptr h.next 0)) (h' := H5) (v := SL) (by kernel_rfl) (load1 (by kernel_rfl) g1 rfl) ?_
  refine ok_go 0 ?_
  refine sy_call 0 (by kernel_rfl) (ck H5) ?_
  refine ok_go 2 ?_
  refine sy_load 0 (r := loadT Tryd.prog H5 24 (ptr h.next 0)) (h' := H5) (v := SL) (by kernel_rfl) (load1 (by kernel_rfl) g1 rfl) ?_
  refine ok_go 1 ?_
  refine sy_loop 0 lf H5 (α := Nat × List Nat) (fun s => [(1, ptr h.next 0), (2, ptr (h.next + 1) 0), (3, ptr (h.next + 2) 0), (4, ptr (h.next + 3) 0), (5, ptr (h.next + 4) 0), (15, SL), (16, J N), (17, J s.1), (slotD, marksV s.2)])
    (fun s g => s.1 ≤ N ∧ H5.Ext g ∧ Nb f n s.1 0 ∧ s.2.Nodup ∧ ∀ d ∈ s.2, H5.next ≤ d ∧ d < g.next ∧ g.get d = some (.defd false)) (fun s _ => N - s.1) (0, []) (by kernel_rfl) (by kernel_rfl)
    ⟨by kernel_rfl, by kernel_rfl, by kernel_rfl, by kernel_rfl, by kernel_rfl, by kernel_rfl, by kernel_rfl, by kernel_rfl, by kernel_rfl, trivial⟩ (show N - 0 < lf by omega)
    ⟨Nat.zero_le _, Hp.Ext.refl _, ⟨fun y j hy => absurd hy (Nat.not_lt_zero y), fun j hj => absurd hj (Nat.not_lt_zero j)⟩, List.nodup_nil, fun d hd => by cases hd⟩ ?_
  rintro m1 ⟨x, ds⟩ f1 g ⟨hx, X, B, nd, hds⟩ ih
  dsimp only at hx B nd hds
  have XN := X.next
  refine ok_go 1 ?_
  refine sy_test 0 (decide (Int.ofNat x < Int.ofNat N)) (by kernel_rfl) ?_ ?_
  · intro hlt
    have hlt := ok_nat hlt
    have hwx : IntKind.wrap .i64 (Int.ofNat (x + 1)) = Int.ofNat (x + 1) := wrap_nat (by omega)
    have Ag := A.ext (X5.trans X)
    let q2 : Hp := (g.new (.cells [I 0] 3 false)).new (.cells [.bool false] 4 false)
    let q3 : Hp := q2.put g.next (.cells [J x] 3 false)
    let q4 : Hp := q3.put (g.next + 1) (.cells [.bool (f x)] 4 false)
    let q5 : Hp := q4.new (.cells [SL] 24 false)
    have k1 : q2.get g.next = some (.cells [I 0] 3 false) := by
      simp only [q2, gn, nn, if_true]
      repeat (first | rw [if_pos (by omega)] | rw [if_neg (by omega)])
    have k2 : q3.get (g.next + 1) = some (.cells [.bool false] 4 false) := by
      simp only [q3, q2, gn, gp, nn, if_true]
      repeat (first | rw [if_pos (by omega)] | rw [if_neg (by omega)])
    have o4 : ∀ j, j < g.next → q4.get j = g.get j := fun j hj => by
      simp only [q4, q3, q2, gn, gp, nn]
      repeat (first | rw [if_pos (by omega)] | rw [if_neg (by omega)])
    have e4 : q4.get h.next = some (.cells [SL] 24 false) := by rw [o4 _ (by omega), X.get _ (by omega)]; exact g1
    have nq5 : q5.next = g.next + 3 := rfl
    refine ok_go 0 ?_
    refine sy_load 0 (r := indexAddrOp Tryd.prog 24 SL (J x)) (h' := g) (by kernel_rfl) (idxB hlt) ?_
    refine ok_go 0 ?_
    refine sy_load 0 (r := loadT Tryd.prog g 4 (ptr b0 x)) (h' := g) (by kernel_rfl) (Ag.read hlt) ?_
    refine ok_go 2 ?_
    refine sy_store 0 (h' := q3) (by kernel_rfl) (store1 zI rfl k1 (show 0 < 1 by omega)) ?_
    refine ok_go 0 ?_
    refine sy_store 0 (h' := q4) (by kernel_rfl) (store1 zB rfl k2 (show 0 < 1 by omega)) ?_
    refine ok_go 0 ?_
    refine sy_load 0 (r := loadT Tryd.prog q4 24 (ptr h.next 0)) (h' := q4) (v := SL) (by kernel_rfl) (load1 (by kernel_rfl) e4 rfl) ?_
    refine ok_go 1 ?_
    refine sy_range 0 (callF := evInv Tryd.prog orc lf (k + 2)) (P := Tryd.prog) (lf := lf) (m := 40) (rcOf Tryd.prog 8 0) q5 [(1, ptr h.next 0), (2, ptr (h.next + 1) 0), (3, ptr (h.next + 2) 0), (4, ptr (h.next + 3) 0), (5, ptr (h.next + 4) 0), (7, ptr g.next 0), (8, ptr (g.next + 1) 0)] 49 [.func (.yield (q5.next + 1)) #[] #[], ptr q4.next 0]
      (by kernel_rfl) (fun F => by kernel_rfl) ⟨by kernel_rfl, by kernel_rfl, by kernel_rfl, by kernel_rfl, by kernel_rfl, by kernel_rfl, by kernel_rfl, trivial⟩ (by kernel_rfl) (by kernel_rfl) fun F f2 hr => ?_
    let HH : Hp := (rcOf Tryd.prog 8 0).heap F q5
    have nH : HH.next = g.next + 5 := rfl
    have oH : ∀ j, j < g.next → HH.get j = g.get j := fun j hj => by
      rw [← o4 j hj]
      simp only [HH, q5, RC.heap, gn, nn]
      have e : q4.next = g.next + 2 := rfl
      repeat (first | rw [if_pos (by omega)] | rw [if_neg (by omega)])
    have H7 : HH.get g.next = some (.cells [J x] 3 false) := by
      simp only [HH, q5, RC.heap, q4, q3, q2, gn, gp, nn, np, if_true]
      repeat (first | rw [if_pos (by omega)] | rw [if_neg (by omega)])
    have H8 : HH.get (g.next + 1) = some (.cells [.bool (f x)] 4 false) := by
      simp only [HH, q5, RC.heap, q4, q3, q2, gn, gp, nn, np, if_true]
      repeat (first | rw [if_pos (by omega)] | rw [if_neg (by omega)])
    have HB : HH.get (g.next + 2) = some (.cells [SL] 24 false) := by
      simp only [HH, q5, RC.heap, q4, q3, q2, gn, gp, nn, np, if_true]
      repeat (first | rw [if_pos (by omega)] | rw [if_neg (by omega)])
    have HD : HH.get (g.next + 3) = some (.defd false) := by
      simp only [HH, q5, RC.heap, q4, q3, q2, gn, gp, nn, np, if_true]
      repeat (first | rw [if_pos (by omega)] | rw [if_neg (by omega)])
    have HL : HH.get (g.next + 4) = some ((rcOf Tryd.prog 8 0).obj F (g.next + 3) .ready none) := get_new (q5.new _) _
    have XH : g.Ext HH := ⟨by omega, oH⟩
    have XHh := X5.trans (X.trans XH)
    let Inv : Nat → Hp → Prop := fun i q => Exc [g.next + 4] HH q ∧ Nb f n x i ∧ q.get (g.next + 4) = some ((rcOf Tryd.prog 8 0).obj F (g.next + 3) .ready none)
    let Out : Hp → Prop := fun q => Exc [g.next + 4, h.next + 1, h.next + 2, h.next + 3, h.next + 4] HH q ∧ q.get (g.next + 4) = some ((rcOf Tryd.prog 8 0).obj F (g.next + 3) .done (some .ret)) ∧ ∃ i, i < n ∧ bad f x i = true ∧ Nb f n x i ∧ q.get (h.next + 1) = some (.cells [J x] 3 false) ∧ q.get (h.next + 2) = some (.cells [J i] 3 false) ∧ q.get (h.next + 3) = some (.cells [.bool false] 4 false) ∧ q.get (h.next + 4) = some (.cells [I 0] 28 false)
    have hb : ∀ i q, Inv i q → loadT Tryd.prog q 24 (ptr (g.next + 2) 0) = some (.slice (some ⟨b0, 0, none⟩) (2 ^ n) c) := fun i q hq => by
      rw [hN]
      exact load1 (by kernel_rfl) (by rw [hq.1.get _ (by omega) (by simp)]; exact HB) rfl
    have hy : ∀ i q, i < n → Inv i q → (∃ g', evInv Tryd.prog orc lf (k + 1) (.yield (g.next + 4) [J (2 ^ i)]) q = some (.bool true, g') ∧ Inv (i + 1) g') ∨ (∃ g', evInv Tryd.prog orc lf (k + 1) (.yield (g.next + 4) [J (2 ^ i)]) q = some (.bool false, g') ∧ Out g') := fun i q hi ⟨Xq, Bi, Lq⟩ => by
      have key : ∃ v g', evInv Tryd.prog orc lf (k + 1) (.yield (g.next + 4) [J (2 ^ i)]) q = some (v, g') ∧ ((v = .bool true ∧ Inv (i + 1) g') ∨ (v = .bool false ∧ Out g')) := by
        refine yld_ok (c := rcOf Tryd.prog 8 0) (Q := fun v g' => (v = .bool true ∧ Inv (i + 1) g') ∨ (v = .bool false ∧ Out g')) hr Lq (by kernel_rfl) ?_
        refine ok_go 0 ?_
        refine sy_busy 0 (by kernel_rfl) Lq ?_
        have Q' : ∀ j, j ≠ g.next + 4 → (q.put (g.next + 4) ((rcOf Tryd.prog 8 0).obj F (g.next + 3) .busy none)).get j = q.get j := fun j hj => Hp.get_put_ne hj
        have Lb : (q.put (g.next + 4) ((rcOf Tryd.prog 8 0).obj F (g.next + 3) .busy none)).get (g.next + 4) = some ((rcOf Tryd.prog 8 0).obj F (g.next + 3) .busy none) := get_put _ _ _
        have nq' : (q.put (g.next + 4) ((rcOf Tryd.prog 8 0).obj F (g.next + 3) .busy none)).next = q.next := rfl
        generalize q.put (g.next + 4) ((rcOf Tryd.prog 8 0).obj F (g.next + 3) .busy none) = q' at Q' Lb nq' ⊢
        have nXq := Xq.next
        have K : ∀ j, j < HH.next → j ≠ g.next + 4 → q'.get j = HH.get j := fun j hj hl => by rw [Q' j hl]; exact Xq.get j hj (by simpa using hl)
        have r7 : q'.get g.next = some (.cells [J x] 3 false) := (K _ (by omega) (by omega)).trans H7
        have r8 : q'.get (g.next + 1) = some (.cells [.bool (f x)] 4 false) := (K _ (by omega) (by omega)).trans H8
        have kold : ∀ j, j < H5.next → q'.get j = H5.get j := fun j hj => by rw [K j (by omega) (by omega), oH j (by omega)]; exact X.get j hj
        have r1 : q'.get h.next = some (.cells [SL] 24 false) := (kold _ (by omega)).trans g1
        have rA : ArB b0 N f q' := by
          obtain ⟨o, e⟩ := A.get
          exact ⟨by omega, o, by rw [kold _ (by omega), o5 _ hb0]; exact e⟩
        have rT : Tab q' := by
          obtain ⟨h1, e, h2⟩ := T
          exact ⟨by omega, e, by rw [kold _ (by omega), o5 _ h1]; exact h2⟩
        have hx' := hor x i hlt hi
        have hpi := hpw i hi
        have horI : orI (Int.ofNat x) (Int.ofNat (2 ^ i)) = Int.ofNat (x ||| 2 ^ i) := or_nat (by omega) (by omega)
        have good : bad f x i = false → Inv (i + 1) (q'.put (g.next + 4) ((rcOf Tryd.prog 8 0).obj F (g.next + 3) .ready none)) := fun hbad => by
          refine ⟨⟨by show _ ≤ q'.next; omega, fun j hj hm => ?_⟩, Bi.next hbad, get_put _ _ _⟩
          have hm' : j ≠ g.next + 4 := by simpa using hm
          rw [Hp.get_put_ne hm']; exact K j hj hm'
        refine ok_go 0 ?_
        refine sy_load 0 (r := loadT Tryd.prog q' 4 (ptr (g.next + 1) 0)) (h' := q') (v := .bool (f x)) (by kernel_rfl) (load1 agB r8 rfl) ?_
        refine ok_go 0 ?_
        refine sy_test 0 (f x) (by kernel_rfl) ?_ ?_
        · intro hfx
          refine ok_go 0 ?_
          refine sy_load 0 (r := loadT Tryd.prog q' 24 (ptr h.next 0)) (h' := q') (v := SL) (by kernel_rfl) (load1 (by kernel_rfl) r1 rfl) ?_
          refine ok_go 1 ?_
          refine sy_load 0 (r := loadT Tryd.prog q' 3 (ptr g.next 0)) (h' := q') (v := J x) (by kernel_rfl) (load1 agI r7 rfl) ?_
          refine ok_go 4 ?_
          refine sy_load 0 (r := indexAddrOp Tryd.prog 24 SL (.int .i64 (orI (Int.ofNat x) (Int.ofNat (2 ^ i))))) (h' := q') (by kernel_rfl) (by rw [horI]; exact idxB hx') ?_
          refine ok_go 1 ?_
          refine sy_load 0 (r := loadT Tryd.prog q' 4 (ptr b0 (x ||| 2 ^ i))) (h' := q') (by kernel_rfl) (rA.read hx') ?_
          refine ok_go 3 ?_
          refine sy_test 0 (!f (x ||| 2 ^ i)) (by kernel_rfl) ?_ ?_
          · intro hf2
            have etz := tz i q' (by omega) rT
            refine ok_go 0 ?_
            refine sy_load 0 (r := loadT Tryd.prog q' 3 (ptr g.next 0)) (h' := q') (v := J x) (by kernel_rfl) (load1 agI r7 rfl) ?_
            refine ok_go 1 ?_
            refine sy_call 0 (r := Ev lf k 24 [.int .u64 (IntKind.wrap .u64 (Int.ofNat (2 ^ i)))] q') (by kernel_rfl) (by rw [show IntKind.wrap .u64 (Int.ofNat (2 ^ i)) = Int.ofNat (2 ^ i) from Int.emod_eq_of_lt (Int.natCast_nonneg _) (by show ((2 ^ i : Nat) : Int) < 2 ^ 64; omega)]; exact etz) ?_
            have c2 : q'.get (h.next + 1) = some (.cells [I 0] 3 false) := (kold _ (by omega)).trans g2
            have c3 : q'.get (h.next + 2) = some (.cells [I 0] 3 false) := (kold _ (by omega)).trans g3
            have c4 : q'.get (h.next + 3) = some (.cells [.bool false] 4 false) := (kold _ (by omega)).trans g4
            have c5 : q'.get (h.next + 4) = some (.cells [I 0] 28 false) := (kold _ (by omega)).trans g5
            let s1 : Hp := q'.put (h.next + 1) (.cells [J x] 3 false)
            let s2 : Hp := s1.put (h.next + 2) (.cells [J i] 3 false)
            let s3 : Hp := s2.put (h.next + 3) (.cells [.bool false] 4 false)
            let s4 : Hp := s3.put (h.next + 4) (.cells [I 0] 28 false)
            have d3 : s1.get (h.next + 2) = some (.cells [I 0] 3 false) := by
              simp only [s1, gp, if_true]
              repeat (first | rw [if_pos (by omega)] | rw [if_neg (by omega)])
              exact c3
            have d4 : s2.get (h.next + 3) = some (.cells [.bool false] 4 false) := by
              simp only [s2, s1, gp, if_true]
              repeat (first | rw [if_pos (by omega)] | rw [if_neg (by omega)])
              exact c4
            have d5 : s3.get (h.next + 4) = some (.cells [I 0] 28 false) := by
              simp only [s3, s2, s1, gp, if_true]
              repeat (first | rw [if_pos (by omega)] | rw [if_neg (by omega)])
              exact c5
            have sL : s4.get (g.next + 4) = some ((rcOf Tryd.prog 8 0).obj F (g.next + 3) .busy none) := by
              simp only [s4, s3, s2, s1, gp, if_true]
              repeat (first | rw [if_pos (by omega)] | rw [if_neg (by omega)])
              exact Lb
            refine ok_go 0 ?_
            refine sy_store 0 (r := storeT Tryd.prog q' 3 (ptr (h.next + 1) 0) (J x)) (h' := s1) (by kernel_rfl) (store1 zI rfl c2 (show 0 < 1 by omega)) ?_
            refine ok_go 0 ?_
            refine sy_store 0 (r := storeT Tryd.prog s1 3 (ptr (h.next + 2) 0) (J i)) (h' := s2) (by kernel_rfl) (store1 zI rfl d3 (show 0 < 1 by omega)) ?_
            refine ok_go 0 ?_
            refine sy_store 0 (r := storeT Tryd.prog s2 4 (ptr (h.next + 3) 0) (.bool false)) (h' := s3) (by kernel_rfl) (store1 zB rfl d4 (show 0 < 1 by omega)) ?_
            refine ok_go 0 ?_
            refine sy_store 0 (r := storeT Tryd.prog s3 28 (ptr (h.next + 4) 0) (J 0)) (h' := s4) (by kernel_rfl) (store1 (by kernel_rfl) rfl d5 (show 0 < 1 by omega)) ?_
            refine ok_go 0 ?_
            refine sy_need 0 [3] [⟨some (Eng.undef, q'), Eng.undef, q'⟩] (by kernel_rfl) ⟨rfl, trivial⟩ ?_
            refine ok_go 0 ?_
            refine sy_leave 0 .ret (by kernel_rfl) (by simp) sL ?_
            have P5 : ∀ j, j ∉ [g.next + 4, h.next + 1, h.next + 2, h.next + 3, h.next + 4] → (s4.put (g.next + 4) ((rcOf Tryd.prog 8 0).obj F (g.next + 3) .done (some .ret))).get j = q'.get j := fun j hm => by
              simp only [List.mem_cons, List.not_mem_nil, or_false, not_or] at hm
              simp only [s4, s3, s2, s1, gp, if_true]
              repeat (first | rw [if_pos (by omega)] | rw [if_neg (by omega)])
            refine ok_go 0 ?_
            refine sy_done 0 (v := .bool false) (h := s4.put (g.next + 4) ((rcOf Tryd.prog 8 0).obj F (g.next + 3) .done (some .ret))) (by kernel_rfl) (.inr ⟨rfl, ⟨by show _ ≤ q'.next; omega, fun j hj hm => ?_⟩, get_put _ _ _, i, hi, by unfold bad; rw [hfx, hf2]; rfl, Bi, ?_, ?_, ?_, ?_⟩)
            · rw [P5 j hm]; exact K j hj (fun e => hm (by simp [e]))
            all_goals
              simp only [s4, s3, s2, s1, gp, if_true]
              repeat (first | rw [if_pos (by omega)] | rw [if_neg (by omega)])
          · intro hf2
            refine ok_go 0 ?_
            refine sy_round 0 (by kernel_rfl) Lb ?_
            refine ok_go 0 ?_
            exact sy_done 0 (v := .bool true) (h := q'.put (g.next + 4) ((rcOf Tryd.prog 8 0).obj F (g.next + 3) .ready none)) (by kernel_rfl) (.inl ⟨rfl, good (by unfold bad; rw [hfx, hf2]; rfl)⟩)
        · intro hfx
          refine ok_go 8 ?_
          refine sy_round 0 (by kernel_rfl) Lb ?_
          refine ok_go 0 ?_
          exact sy_done 0 (v := .bool true) (h := q'.put (g.next + 4) ((rcOf Tryd.prog 8 0).obj F (g.next + 3) .ready none)) (by kernel_rfl) (.inl ⟨rfl, good (by unfold bad; rw [hfx]; rfl)⟩)
      obtain ⟨v, g', e, ⟨rfl, hI⟩ | ⟨rfl, hO⟩⟩ := key
      · exact .inl ⟨g', e, hI⟩
      · exact .inr ⟨g', e, hO⟩
    obtain ⟨v, h3, ev, ⟨X3, B3, L3⟩ | ⟨X3, L3, i, hi, hbad, Bi, r2, r3, r4, r5⟩⟩ := single_run n hn lf (k + 1) (g.next + 2) (g.next + 4) hlf (some ⟨b0, 0, none⟩) c Inv Out hb hy (h := HH) ⟨⟨Nat.le_refl _, fun _ _ _ => rfl⟩, B, HL⟩
    · refine ⟨v, h3, .ready, none, g.next + 3, .normal, ev, L3, by decide, rfl, ?_⟩
      have nX3 := X3.next
      let h4 : Hp := h3.put (g.next + 4) ((rcOf Tryd.prog 8 0).obj F (g.next + 3) .exhausted none)
      have K4 : ∀ j, j < HH.next → j ≠ g.next + 4 → h4.get j = HH.get j := fun j hj hl => by
        show (h3.put _ _).get _ = _
        rw [Hp.get_put_ne hl]; exact X3.get j hj (by simpa using hl)
      refine ok_go 1 ?_
      exact sy_next 0 _ h4 (by kernel_rfl) (by kernel_rfl) (ih (x + 1, (g.next + 3) :: ds) _ h4 ⟨hlt, ⟨by show _ ≤ h3.next; omega, fun j hj => by rw [K4 j (by omega) (by omega), oH j (by omega)]; exact X.get j hj⟩, B3.up, List.nodup_cons.2 ⟨fun hd => by have := (hds _ hd).2.1; omega, nd⟩, fun d hd => by
          rcases List.mem_cons.1 hd with rfl | hd
          · exact ⟨by omega, by show _ < h3.next; omega, by rw [K4 _ (by omega) (by omega)]; exact HD⟩
          · obtain ⟨d1, d2, d3⟩ := hds d hd
            exact ⟨d1, by show d < h3.next; omega, by rw [K4 d (by omega) (by omega), oH d d2]; exact d3⟩⟩ (show N - (x + 1) < N - x by omega)
        ⟨by kernel_rfl, by kernel_rfl, by kernel_rfl, by kernel_rfl, by kernel_rfl, by kernel_rfl, by kernel_rfl, (by kernel_rfl : _ = Value.int .i64 (IntKind.wrap .i64 (Int.ofNat (x + 1)))).trans (by rw [hwx]), by kernel_rfl, trivial⟩)
    · refine ⟨v, h3, .done, some .ret, g.next + 3, .ret, ev, L3, by decide, rfl, ?_⟩
      have nX3 := X3.next
      let h4 : Hp := h3.put (g.next + 4) ((rcOf Tryd.prog 8 0).obj F (g.next + 3) .exhausted (some .ret))
      have P4 : ∀ j, j ≠ g.next + 4 → h4.get j = h3.get j := fun j hj => Hp.get_put_ne hj
      have K4 : ∀ j, j < HH.next → j ∉ [g.next + 4, h.next + 1, h.next + 2, h.next + 3, h.next + 4] → h4.get j = HH.get j := fun j hj hm => by
        rw [P4 j (fun e => hm (by simp [e]))]; exact X3.get j hj hm
      refine ok_go 0 ?_
      refine sy_marks 0 (h := h4) ((g.next + 3) :: ds) (by kernel_rfl) (List.nodup_cons.2 ⟨fun hd => by have := (hds _ hd).2.1; omega, nd⟩) (fun d hd => ?_) fun h' n'' o'' => ?_
      · rcases List.mem_cons.1 hd with rfl | hd
        · rw [K4 _ (by omega) (by simp; omega)]; exact HD
        · obtain ⟨d1, d2, d3⟩ := hds d hd
          rw [K4 d (by omega) (by simp; omega), oH d d2]; exact d3
      have P' : ∀ j, j < g.next → j ∉ ds → h'.get j = h4.get j := fun j hj hd => o'' j (by simp; exact ⟨by omega, hd⟩)
      have nds : ∀ j, j < H5.next → j ∉ ds := fun j hj hd => by have := (hds j hd).1; omega
      have f2' : h'.get (h.next + 1) = some (.cells [J x] 3 false) := by rw [P' _ (by omega) (nds _ (by omega)), P4 _ (by omega)]; exact r2
      have f3' : h'.get (h.next + 2) = some (.cells [J i] 3 false) := by rw [P' _ (by omega) (nds _ (by omega)), P4 _ (by omega)]; exact r3
      have f4' : h'.get (h.next + 3) = some (.cells [.bool false] 4 false) := by rw [P' _ (by omega) (nds _ (by omega)), P4 _ (by omega)]; exact r4
      have f5' : h'.get (h.next + 4) = some (.cells [I 0] 28 false) := by rw [P' _ (by omega) (nds _ (by omega)), P4 _ (by omega)]; exact r5
      refine ok_go 0 ?_
      refine sy_load 0 (r := loadT Tryd.prog h' 3 (ptr (h.next + 1) 0)) (h' := h') (v := J x) (by kernel_rfl) (load1 agI f2' rfl) ?_
      refine ok_go 0 ?_
      refine sy_load 0 (r := loadT Tryd.prog h' 3 (ptr (h.next + 2) 0)) (h' := h') (v := J i) (by kernel_rfl) (load1 agI f3' rfl) ?_
      refine ok_go 0 ?_
      refine sy_load 0 (r := loadT Tryd.prog h' 4 (ptr (h.next + 3) 0)) (h' := h') (v := .bool false) (by kernel_rfl) (load1 agB f4' rfl) ?_
      refine ok_go 0 ?_
      refine sy_load 0 (r := loadT Tryd.prog h' 28 (ptr (h.next + 4) 0)) (h' := h') (v := J 0) (by kernel_rfl) (load1 (by kernel_rfl) f5' rfl) ?_
      have nh4 : h4.next = h3.next := rfl
      refine ok_go 0 ?_
      exact sy_done 0 (v := .tuple #[J x, J i, .bool false, J 0]) (h := h') (by kernel_rfl) ⟨⟨by omega, fun j hj => by rw [P' j (by omega) (nds j (by omega)), K4 j (by omega) (by simp; omega), oH j (by omega)]; exact (X5.trans X).get j hj⟩, x, i, false, rfl, hRs _ _ _ (.inl ⟨rfl, hlt, hi, hbad, Bi⟩)⟩
  · intro hlt
    have hlt := no_nat hlt
    have hxN : x = N := by omega
    subst hxN
    have c2 : g.get (h.next + 1) = some (.cells [I 0] 3 false) := (X.get _ (by omega)).trans g2
    have c3 : g.get (h.next + 2) = some (.cells [I 0] 3 false) := (X.get _ (by omega)).trans g3
    have c4 : g.get (h.next + 3) = some (.cells [.bool false] 4 false) := (X.get _ (by omega)).trans g4
    have c5 : g.get (h.next + 4) = some (.cells [I 0] 28 false) := (X.get _ (by omega)).trans g5
    let s1 : Hp := g.put (h.next + 1) (.cells [J 0] 3 false)
    let s2 : Hp := s1.put (h.next + 2) (.cells [J 0] 3 false)
    let s3 : Hp := s2.put (h.next + 3) (.cells [.bool true] 4 false)
    let s4 : Hp := s3.put (h.next + 4) (.cells [I 0] 28 false)
    have d3 : s1.get (h.next + 2) = some (.cells [I 0] 3 false) := by
      simp only [s1, gp, if_true]
      repeat (first | rw [if_pos (by omega)] | rw [if_neg (by omega)])
      exact c3
    have d4 : s2.get (h.next + 3) = some (.cells [.bool false] 4 false) := by
      simp only [s2, s1, gp, if_true]
      repeat (first | rw [if_pos (by omega)] | rw [if_neg (by omega)])
      exact c4
    have d5 : s3.get (h.next + 4) = some (.cells [I 0] 28 false) := by
      simp only [s3, s2, s1, gp, if_true]
      repeat (first | rw [if_pos (by omega)] | rw [if_neg (by omega)])
      exact c5
    have o4 : ∀ j, j ∉ [h.next + 1, h.next + 2, h.next + 3, h.next + 4] → s4.get j = g.get j := fun j hm => by
      simp only [List.mem_cons, List.not_mem_nil, or_false, not_or] at hm
      simp only [s4, s3, s2, s1, gp, if_true]
      repeat (first | rw [if_pos (by omega)] | rw [if_neg (by omega)])
    have e2 : s4.get (h.next + 1) = some (.cells [J 0] 3 false) := by
      simp only [s4, s3, s2, s1, gp, if_true]
      repeat (first | rw [if_pos (by omega)] | rw [if_neg (by omega)])
    have e3 : s4.get (h.next + 2) = some (.cells [J 0] 3 false) := by
      simp only [s4, s3, s2, s1, gp, if_true]
      repeat (first | rw [if_pos (by omega)] | rw [if_neg (by omega)])
    have e4 : s4.get (h.next + 3) = some (.cells [.bool true] 4 false) := by
      simp only [s4, s3, s2, s1, gp, if_true]
      repeat (first | rw [if_pos (by omega)] | rw [if_neg (by omega)])
    have e5 : s4.get (h.next + 4) = some (.cells [I 0] 28 false) := get_put _ _ _
    refine ok_go 0 ?_
    refine sy_store 0 (r := storeT Tryd.prog g 3 (ptr (h.next + 1) 0) (J 0)) (h' := s1) (by kernel_rfl) (store1 zI rfl c2 (show 0 < 1 by omega)) ?_
    refine ok_go 0 ?_
    refine sy_store 0 (r := storeT Tryd.prog s1 3 (ptr (h.next + 2) 0) (J 0)) (h' := s2) (by kernel_rfl) (store1 zI rfl d3 (show 0 < 1 by omega)) ?_
    refine ok_go 0 ?_
    refine sy_store 0 (r := storeT Tryd.prog s2 4 (ptr (h.next + 3) 0) (.bool true)) (h' := s3) (by kernel_rfl) (store1 zB rfl d4 (show 0 < 1 by omega)) ?_
    refine ok_go 0 ?_
    refine sy_store 0 (r := storeT Tryd.prog s3 28 (ptr (h.next + 4) 0) (J 0)) (h' := s4) (by kernel_rfl) (store1 (by kernel_rfl) rfl d5 (show 0 < 1 by omega)) ?_
    have nd5 : ∀ d ∈ ds, h.next + 5 ≤ d ∧ d < g.next ∧ g.get d = some (.defd false) := fun d hd => by have := hds d hd; exact ⟨by omega, this.2.1, this.2.2⟩
    refine ok_go 0 ?_
    refine sy_marks 0 (h := s4) ds (by kernel_rfl) nd (fun d hd => by
      have := nd5 d hd
      rw [o4 d (by simp; omega)]; exact this.2.2) fun h' n'' o'' => ?_
    have P' : ∀ j, j < h.next + 5 → h'.get j = s4.get j := fun j hj => o'' j (fun hd => by have := (nd5 j hd).1; omega)
    refine ok_go 0 ?_
    refine sy_load 0 (r := loadT Tryd.prog h' 3 (ptr (h.next + 1) 0)) (h' := h') (v := J 0) (by kernel_rfl) (load1 agI ((P' _ (by omega)).trans e2) rfl) ?_
    refine ok_go 0 ?_
    refine sy_load 0 (r := loadT Tryd.prog h' 3 (ptr (h.next + 2) 0)) (h' := h') (v := J 0) (by kernel_rfl) (load1 agI ((P' _ (by omega)).trans e3) rfl) ?_
    refine ok_go 0 ?_
    refine sy_load 0 (r := loadT Tryd.prog h' 4 (ptr (h.next + 3) 0)) (h' := h') (v := .bool true) (by kernel_rfl) (load1 agB ((P' _ (by omega)).trans e4) rfl) ?_
    refine ok_go 0 ?_
    refine sy_load 0 (r := loadT Tryd.prog h' 28 (ptr (h.next + 4) 0)) (h' := h') (v := J 0) (by kernel_rfl) (load1 (by kernel_rfl) ((P' _ (by omega)).trans e5) rfl) ?_
    have n4 : s4.next = g.next := rfl
    refine ok_go 0 ?_
    exact sy_done 0 (v := .tuple #[J 0, J 0, .bool true, J 0]) (h := h') (by kernel_rfl) ⟨⟨by omega, fun j hj => by rw [P' j (by omega), o4 j (by simp; omega)]; exact (X5.trans X).get j hj⟩, 0, 0, true, rfl, hRs _ _ _ (.inr ⟨rfl, rfl, rfl, B.1⟩)⟩
end Go.Proofs.YtnfboopfpkaeaaaDoor
namespace Go.Proofs.YtnfboopfpkaeaaaDoor
open Go Go.Eng Nim
set_option maxRecDepth 100000
set_option maxHeartbeats 4000000
theorem rowP_small (pr : Nat → Nat → Bool) (m : Nat) : ∀ k, ∀ p ∈ rowP pr m k, p.1 = m ∧ p.2 < k
  | 0, p, h => by cases h
  | k + 1, p, h => by
    rw [rowP] at h
    split at h
    · rcases List.mem_append.1 h with h | h
      · have := rowP_small pr m k p h
        exact ⟨this.1, by omega⟩
      · have h : p = (m, k) := by simpa using h
        rw [h]; exact ⟨rfl, Nat.lt_succ_self k⟩
    · have := rowP_small pr m k p h
      exact ⟨this.1, by omega⟩
theorem accP_small (pr : Nat → Nat → Bool) : ∀ m, m ≤ 64 → ∀ p ∈ accP pr m, p.1 < 64 ∧ p.2 < 64
  | 0, _, p, h => by cases h
  | m + 1, hm, p, h => by
    rw [accP] at h
    rcases List.mem_append.1 h with h | h
    · exact accP_small pr m (by omega) p h
    · have := rowP_small pr m (m + 1) p h
      omega
theorem Tab.ext {h g : Hp} (T : Tab h) (k : h.Ext g) : Tab g := by
  obtain ⟨h1, e, h2⟩ := T
  exact ⟨Nat.lt_of_lt_of_le h1 k.next, e, k.at_ h1 h2⟩
/-- What the law calls. -/
structure UpP (lf m : Nat) : Prop where
  hlf : 5000 ≤ lf
  tb : ∀ x n kind h, n ≤ 6 → ∃ y h', Ev lf m 5 [.int .u64 x, J n, I kind] h = some (y, h') ∧ ∃ b f, y = .slice (some ⟨b, 0, none⟩) (2 ^ n) (2 * 2 ^ n) ∧ h.next ≤ b ∧ h.Ext h' ∧ ArB b (2 ^ n) f h'
  bt : ∀ z, ∃ k, k ≤ 6 ∧ ∀ h, Ev lf m 6 [I z, J 6] h = some (J k, h)
  pr : ∀ f n b c h, n ≤ 6 → ArB b (2 ^ n) f h → ∃ x h', Ev lf m 7 [.slice (some ⟨b, 0, none⟩) (2 ^ n) c] h = some (x, h') ∧ (∃ v, x = .tuple #[v, J 0] ∧ OpenP h' 23 v (accP (prm f (2 ^ n) n) (2 ^ n)) ∧ ∀ j, j < h.next → ∀ p q, v ≠ .slice (some ⟨j, 0, none⟩) p q) ∧ Exc [b] h h' ∧ ArB b (2 ^ n) f h'
  ri : ∀ f n b c h, n ≤ 6 → ArB b (2 ^ n) f h → Tab h → ∃ v h', Ev lf m 8 [.slice (some ⟨b, 0, none⟩) (2 ^ n) c] h = some (v, h') ∧ h.Ext h' ∧ ∃ x i b, v = .tuple #[J x, J i, .bool b, J 0] ∧ Rs f n x i b
  rr : ∀ f n b c h, n ≤ 6 → ArB b (2 ^ n) f h → ∃ v h', Ev lf m 9 [.slice (some ⟨b, 0, none⟩) (2 ^ n) c] h = some (v, h') ∧ h' = h ∧ ∃ x i b, v = .tuple #[J x, J i, .bool b] ∧ Rs f n x i b
  rp : ∀ f n b c h, n ≤ 6 → ArB b (2 ^ n) f h → ∃ v h', Ev lf m 11 [.slice (some ⟨b, 0, none⟩) (2 ^ n) c] h = some (v, h') ∧ OpenP h' 23 v (accP (prm f (2 ^ n) n) (2 ^ n)) ∧ h.Ext h'
  sa : ∀ h l l' ps, ps.length ≤ 4200 → (∀ p ∈ ps, p.1 < 64 ∧ p.2 < 64) → OpenP h 23 l ps → OpenP h 23 l' ps → Ev lf m 10 [l, l'] h = some (.bool true, h)
  aw : ∀ h, Ev lf m 12 [] h = some (.bool true, h)
theorem io_of (f : Nat → Bool) (n : Nat) (hn : n ≤ 6) (b0 c bd : Nat) : ∀ F, 10 ≤ F → ∀ mm v h, mm < 64 → v < 2 ^ n → ArB b0 (2 ^ n) f h → Dcd bd b0 (2 ^ n) c h → ∃ y h', Ev 100000 F 35 [ptr bd 0, .agg #[J mm, J v]] h = some (y, h') ∧ y = .bool (IM f (2 ^ n) mm v) ∧ h.Ext h' := fun F hF mm v h hmm hv A D => by
  have hp64 : 2 ^ n ≤ 64 := Nat.pow_le_pow_right (n := 2) (by decide) hn
  obtain ⟨k, rfl⟩ : ∃ k, F = k + 2 := ⟨F - 2, by omega⟩
  exact impl_of f (2 ^ n) 100000 (k + 1) bd mm v h fun h' X => const_of f (2 ^ n) hp64 100000 k (by decide) b0 c bd mm v hv hmm h' (A.ext X) (D.ext X)
theorem upP (k : Nat) : UpP 100000 (k + 60) where
  hlf := by decide
  tb := fun x n kind h hn => table_of x n hn kind 100000 (k + 59) (by decide) h
  bt := fun z => by
    obtain ⟨j, hj, e⟩ := bits_of z
    exact ⟨j, hj, fun h => e 100000 (k + 59) h⟩
  pr := fun f n b c h hn A => Primes_of f n hn 100000 (k + 59) b c h A (fun a c h => check_of n a c 100000 (k + 58) h fun h => size_of n hn (k + 48) h)
    (fun bd h A D => primes_of f n hn 100000 (k + 52) b c bd (by decide) h A D fun F mm v h hF => io_of f n hn b c bd F (by omega) mm v h)
    (fun l ps h hps O => pairs_of 100000 (k + 58) (by decide) h l ps hps O)
  ri := fun f n b c h hn A T => ris_of f n hn 100000 (k + 57) b c (by decide) h A T (fun a c h => check_of n a c 100000 (k + 58) h fun h => size_of n hn (k + 48) h)
    fun i h hi T => tz_out 100000 (k + 56) _ _ h (tz_in i hi 100000 (k + 55) h T)
  rr := fun f n b c h hn A => rris_of f n hn 100000 (k + 59) b c (by decide) h A
  rp := fun f n b c h hn A => rprimes_of f n hn 100000 (k + 59) b c (by decide) h A fun m v h hm hv A => rimpl_of f (2 ^ n) (Nat.pow_le_pow_right (n := 2) (by decide) hn) 100000 (k + 58) (by decide) b c m v hm hv h A
  sa := fun h l l' ps hps hsm O O' => same_of 100000 (k + 59) (by decide) h l l' ps hps hsm O O'
  aw := fun h => rfl
theorem s3 (x a0 a1 : Int) (lf m : Nat) (U : UpP lf m) (h : Hp) (T : Tab h) : ∃ H, Ev lf (m + 1) 3 [.int .u64 x, .agg #[I a0, I a1]] h = some (.bool true, H) := by
  obtain ⟨n, hn, bt⟩ := U.bt a0
  have hp64 : 2 ^ n ≤ 64 := Nat.pow_le_pow_right (n := 2) (by decide) hn
  refine fn_val ?_
  have X0 : h.Ext (h.new (.cells [I a0, I a1] 23 false)) := Hp.Ext.new _ _
  have gx := get_new h (.cells [I a0, I a1] 23 false)
  generalize hX : h.new (.cells [I a0, I a1] 23 false) = X at X0 gx
  refine ok_go 2 ?_
  refine sy_load 0 (r := loadT Tryd.prog (h.new (.cells [I a0, I a1] 23 false)) 3 (ptr h.next 0)) (h' := (h.new (.cells [I a0, I a1] 23 false))) (by kernel_rfl) (by rw [hX]; exact load1 agI gx rfl) ?_
  rw [hX]
  refine ok_go 0 ?_
  refine sy_call 0 (by kernel_rfl) (bt X) ?_
  refine ok_go 1 ?_
  refine sy_load 0 (r := loadT Tryd.prog X 3 (ptr h.next 1)) (h' := X) (by kernel_rfl) (load1 agI gx rfl) ?_
  obtain ⟨_, h1, e1, b, f, rfl, hb, X1, A1⟩ := U.tb x n a1 X hn
  refine ok_go 0 ?_
  refine sy_call 0 (by kernel_rfl) e1 ?_
  refine ok_go 0 ?_
  refine sy_need 0 [3] [⟨some (Eng.undef, X), Eng.undef, X⟩] (by kernel_rfl) ⟨rfl, trivial⟩ ?_
  have T1 := T.ext (X0.trans X1)
  obtain ⟨_, h2, e2, ⟨v, rfl, O2, _⟩, E2, A2⟩ := U.pr f n b (2 * 2 ^ n) h1 hn A1
  have T2 : Tab h2 := by
    obtain ⟨t1, e, t2⟩ := T
    have n0 := X0.next
    obtain ⟨t1', e', t2'⟩ := T1
    exact ⟨by have := E2.next; omega, e', by rw [E2.get 1 t1' (by simp; omega)]; exact t2'⟩
  obtain ⟨_, h3, e3, X3, rx, ri, rb, rfl, R1⟩ := U.ri f n b (2 * 2 ^ n) h2 hn A2 T2
  obtain ⟨_, h4, e4, rfl, rx', ri', rb', rfl, R2⟩ := U.rr f n b (2 * 2 ^ n) h3 hn (A2.ext X3)
  obtain ⟨rfl, rfl, rfl⟩ := R1.uniq R2
  obtain ⟨w, h5, e5, O5, X5⟩ := U.rp f n b (2 * 2 ^ n) h4 hn (A2.ext X3)
  have hlen := accP_len (prm f (2 ^ n) n) (2 ^ n) hp64
  have e6 := U.sa h5 v w _ (by omega) (accP_small _ _ hp64) (O2.ext (X3.trans X5)) O5
  refine ok_go 0 ?_
  refine sy_call 0 (by kernel_rfl) e2 ?_
  refine ok_go 2 ?_
  refine sy_call 0 (by kernel_rfl) e3 ?_
  refine ok_go 4 ?_
  refine sy_call 0 (by kernel_rfl) e4 ?_
  refine ok_go 11 ?_
  refine sy_call 0 (by kernel_rfl) e5 ?_
  refine ok_go 1 ?_
  refine sy_call 0 (by kernel_rfl) e6 ?_
  refine ok_go 6 ?_
  refine sy_yes 0 (b := Int.ofNat rx == Int.ofNat rx) (by kernel_rfl) (beq_self_eq_true _) ?_
  refine ok_go 4 ?_
  refine sy_yes 0 (b := Int.ofNat ri == Int.ofNat ri) (by kernel_rfl) (beq_self_eq_true _) ?_
  refine ok_go 4 ?_
  refine sy_yes 0 (b := rb == rb) (by kernel_rfl) (beq_self_eq_true _) ?_
  refine ok_go 0 ?_
  refine sy_call 0 (by kernel_rfl) (U.aw h5) ?_
  refine ok_go 1 ?_
  exact sy_done 0 (v := .bool true) (h := h5) (by kernel_rfl) rfl
theorem said3 (x a0 a1 : Int) (h : Hp) (T : Tab h) : ∃ H, evInv Tryd.prog orc 100000 100 (.fn 3 [.int .u64 x, .agg #[I a0, I a1]]) h = some (.bool true, H) := s3 x a0 a1 100000 99 (upP 39) h T
end Go.Proofs.YtnfboopfpkaeaaaDoor
/- A variable of the program whose content is known, as the evaluator sees it; the library's table of bits. -/
namespace Go.Proofs.YtnfboopfpkaeaaaDoor
open Go Go.Eng Nim Go.ChangeShapes Go.WideShapes Go.ChangeAt Go.RowKit
set_option maxRecDepth 100000
theorem setRo {P : Program} {B : Prot} {w0 : World} {E : Env} {h : Hp} {w : World} {g : Nat} {arr : Array Value} {fz : Nat × Nat} {cs : List Value} {e : TypeId} (H : HpOK P B w0 E h w) (hg : g < P.globals.size) (hB : B.ro g) (hm : w.heap[g]? = some (.cells arr e fz))
    (hcs : ∀ (i : Nat) (v : Value), cs[i]? = some v → arr[i]? = some (con E v)) (hs : scL h.next cs = true) (h1 : ∀ v ∈ cs, scalar v = true) (hn : ∀ j o, h.get j = some o → isRo o = true → j ≠ g) :
    HpOK P B w0 E (h.put g (.ro 0 cs e)) w := by
  have harr : arr = ([] ++ (conL E cs ++ arr.toList.drop cs.length)).toArray := by
    apply Array.ext'
    show arr.toList = _
    rw [conL_eq]
    refine List.ext_getElem? fun i => ?_
    show _ = (cs.map (con E) ++ _)[i]?
    by_cases h2 : i < cs.length
    · rw [List.getElem?_append_left (by simpa using h2), List.getElem?_map, List.getElem?_eq_getElem h2]
      have := hcs i _ (List.getElem?_eq_getElem h2)
      simpa using this
    · rw [List.getElem?_append_right (by simpa using h2), List.length_map, List.getElem?_drop, show cs.length + (i - cs.length) = i by omega]
  have hgn := H.gnext
  have hmu := H.glob g hg
  refine ⟨H.bnd, H.below, fun j y hy => ?_, fun j k y y' hy hy' q q' hm' => ?_, H.glob, H.gnext⟩
  · rw [gp] at hy
    split at hy
    · rename_i hj
      subst hj
      cases hy
      exact ⟨by show j < h.next; omega, ⟨fun hh => (by cases hh), fun _ => by rw [hmu]; exact hB⟩, .cells arr e fz, by rw [hmu]; exact hm, [], arr.toList.drop cs.length, fz, by rw [← harr], rfl, hs, h1⟩
    · exact H.obj j y hy
  · rw [gp] at hy hy'
    split at hy
    · cases hy; cases q
    · split at hy'
      · cases hy'; cases q'
      · exact H.inj j k y y' hy hy' q q' hm'
theorem tab_cells {W : World} (h : laidMetH Tryd.prog Rows.cubePrimesRow.laid W) : ∃ arr e fz, W.heap[1]? = some (.cells arr e fz) ∧ ∀ r, r < 64 → arr[r]? = some (.int .u8 (Int.ofNat (dbj.getD r 0))) := by
  rw [MakeChecks.laidMetH_plain _ _ _ (by kernel_rfl)] at h
  obtain ⟨ps, ⟨g0, t0, cs0, fuel0, p0, q0, _, _, _, _, ⟨g, t, cs, fuel, p, q, hg, ht, hv, hd, _, _⟩, _⟩, _, _⟩ := h
  obtain rfl := Option.some.inj ((show Tryd.prog.globalNamed "math/bits.deBruijn64tab" = some 1 by kernel_rfl).symm.trans hg)
  have ht0 : (Tryd.prog.globals[1]?).map (·.type) = some 113 := by kernel_rfl
  obtain rfl := Option.some.inj (ht0.symm.trans ht)
  have u113 : Tryd.prog.underlying 113 = some (.array 64 5) := by kernel_rfl
  have u5 : Tryd.prog.underlying 5 = some (.int .u8) := by kernel_rfl
  obtain ⟨xs, m, _, ex, _, hl, hel⟩ := DataW.trod_array u113 hd
  have c5 : Tryd.prog.cellsOf 5 = 1 := by kernel_rfl
  have hlen : dbj.length = 64 := by kernel_rfl
  have e3 : (xs.map (·.1)) = dbj.map fun n => .lit (.int .u8 (Int.ofNat n)) := (DataW.agg.inj (Prod.mk.inj ex).1).symm
  have key : ∀ r, r < 64 → cs[r]? = some (.int .u8 (Int.ofNat (dbj.getD r 0))) := fun r hr => by
    have hE := hel r hr
    rw [c5, Nat.mul_one, List.getElem?_eq_getElem (by omega)] at hE
    obtain ⟨z, e1, e2, _⟩ := DataW.trod_int u5 hE
    have e4 : (xs.map (·.1))[r]? = (dbj.map fun n => (DataW.lit (.int .u8 (Int.ofNat n)) : DataW Unit))[r]? := by rw [e3]
    rw [List.getElem?_map, List.getElem?_map, List.getElem?_eq_getElem (by omega : r < xs.length), List.getElem?_eq_getElem (by omega : r < dbj.length), e2] at e4
    have hz : z = Int.ofNat (dbj.getD r 0) := by
      simp only [Option.map_some, Option.some.injEq, DataW.lit.injEq, Lit.int.injEq, true_and] at e4
      rw [e4, List.getD, List.getElem?_eq_getElem (by omega : r < dbj.length)]; rfl
    have : cs.toList[r]? = some (.int .u8 z) := by
      have h0 : ((cs.toList.drop r).take 1)[0]? = some (.int .u8 z) := by rw [e1]; rfl
      simpa using h0
    rw [← hz]
    simpa using this
  have h0 := World.var?_cell hg hv 0
  have hc0 : W.cell? ⟨1, 0, none⟩ = some (.int .u8 (Int.ofNat (dbj.getD 0 0))) := by rw [h0]; exact key 0 (by decide)
  obtain ⟨arr, e, fz, hb, _, _⟩ : ∃ arr e fz, W.heap[1]? = some (.cells arr e fz) ∧ True ∧ True := by
    unfold World.cell? at hc0
    split at hc0
    · rename_i c e fz hb
      exact ⟨c, e, fz, hb, trivial, trivial⟩
    · cases hc0
  refine ⟨arr, e, fz, hb, fun r hr => ?_⟩
  have h1 := World.var?_cell hg hv r
  rw [key r hr] at h1
  unfold World.cell? at h1
  simp only [hb] at h1
  exact h1
end Go.Proofs.YtnfboopfpkaeaaaDoor
