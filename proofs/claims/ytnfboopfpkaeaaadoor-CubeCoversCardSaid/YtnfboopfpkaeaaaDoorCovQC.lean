/- Whether a list is a cover: contracts of the program and of the reference. -/
import Derived.Test.YtnfboopfpkaeaaaDoorProg
import Derived.KernelRfl
import Derived.Test.YtnfboopfpkaeaaaDoorSyF
import Derived.Test.YtnfboopfpkaeaaaDoorCovQB
namespace Go.Proofs.YtnfboopfpkaeaaaDoor
open Go Go.Eng Nim
set_option maxRecDepth 100000
set_option maxHeartbeats 4000000
theorem equal_of (lf m N : Nat) (hlf : 300 ≤ lf) (hN : N ≤ 64) (b1 c1 b2 c2 : Nat) (v w : Nat → Bool) (h : Hp) (A : ArB b1 N v h) (B : ArB b2 N w h) :
    Ev lf (m + 1) 36 [.slice (some ⟨b1, 0, none⟩) N c1, .slice (some ⟨b2, 0, none⟩) N c2] h = some (.bool (al (fun x => v x == w x) N), h) := by
  refine fn_eq ?_
  have W := Sto.start h
  refine ok_go 3 ?_
  refine sy_no 0 (b := Int.ofNat N != Int.ofNat N) (by kernel_rfl) (ne_no rfl) ?_
  refine ok_go 1 ?_
  refine sy_loop 0 lf h (α := Nat) (fun i => [(0, .slice (some ⟨b1, 0, none⟩) N c1), (1, .slice (some ⟨b2, 0, none⟩) N c2), (12, J N), (13, J i)]) (fun i g => i ≤ N ∧ g = h ∧ ∀ x, x < i → v x = w x) (fun i _ => N - i) 0 (by kernel_rfl) (by kernel_rfl) ⟨by kernel_rfl, by kernel_rfl, by kernel_rfl, by kernel_rfl, trivial⟩ (show N - 0 < lf by omega) ⟨Nat.zero_le _, rfl, fun x hx => by omega⟩ ?_
  rintro m1 i f1 g ⟨hi, rfl, hx⟩ ih
  refine ok_go 1 ?_
  refine sy_test 0 (decide (Int.ofNat i < Int.ofNat N)) (by kernel_rfl) ?_ ?_
  · intro hlt
    have hlt := ok_nat hlt
    have hwi : IntKind.wrap .i64 (Int.ofNat (i + 1)) = Int.ofNat (i + 1) := wrap_nat (by omega)
    refine sy_load 0 (r := indexAddrOp Tryd.prog 24 (Value.slice (some { block := b1, off := 0 }) N c1) (Value.int IntKind.i64 (Int.ofNat i))) (h' := g) (by kernel_rfl) (idxS0 (e := 4) (by kernel_rfl) (by kernel_rfl) (by omega)) ?_
    refine sy_load 0 (r := loadT Tryd.prog g 4 (ptr (b1) (i))) (h' := g) (by kernel_rfl) (A.read (by omega)) ?_
    refine sy_load 0 (r := indexAddrOp Tryd.prog 24 (Value.slice (some { block := b2, off := 0 }) N c2) (Value.int IntKind.i64 (Int.ofNat i))) (h' := g) (by kernel_rfl) (idxS0 (e := 4) (by kernel_rfl) (by kernel_rfl) (by omega)) ?_
    refine sy_load 0 (r := loadT Tryd.prog g 4 (ptr (b2) (i))) (h' := g) (by kernel_rfl) (B.read (by omega)) ?_
    refine ok_go 1 ?_
    refine sy_test 0 (v i != w i) (by kernel_rfl) ?_ ?_
    · intro hc
      refine ok_go 0 ?_
      refine sy_done 0 (v := .bool false) (h := g) (by kernel_rfl) ⟨?_, rfl⟩
      congr 1
      symm
      rw [Bool.eq_false_iff]
      intro hh
      have := al_iff.1 hh i hlt
      rw [beq_iff_eq] at this
      rw [this] at hc
      simp at hc
    · intro hc
      have hv : v i = w i := by simpa using hc
      refine ok_go 1 ?_
      exact sy_next 0 _ g (by kernel_rfl) (by kernel_rfl) (ih (i + 1) _ g ⟨hlt, rfl, fun x hx' => (by
        by_cases hxi : x = i
        · rw [hxi]; exact hv
        · exact hx x (by omega))⟩ (show N - (i + 1) < N - i by omega) ⟨by kernel_rfl, by kernel_rfl, by kernel_rfl, (by kernel_rfl : _ = Value.int .i64 (IntKind.wrap .i64 (Int.ofNat (i + 1)))).trans (by rw [hwi]), trivial⟩)
  · intro hlt
    have hlt := no_nat hlt
    obtain rfl : i = N := by omega
    refine ok_go 0 ?_
    refine sy_done 0 (v := .bool true) (h := g) (by kernel_rfl) ⟨?_, rfl⟩
    congr 1
    symm
    exact al_iff.2 fun x hx' => by rw [hx x hx']; exact beq_self_eq_true _
/-- Pairs of any numbers, in their cells. -/
def flatZ : List (Int × Int) → List Value
  | [] => []
  | p :: r => I p.1 :: I p.2 :: flatZ r
theorem flatZ_len : ∀ l, (flatZ l).length = l.length * 2
  | [] => rfl
  | p :: r => by simp only [flatZ, List.length_cons, flatZ_len r]; omega
theorem flatZ_at : ∀ (l : List (Int × Int)) (k : Nat) (p : Int × Int), l[k]? = some p → (flatZ l)[k * 2]? = some (I p.1) ∧ (flatZ l)[k * 2 + 1]? = some (I p.2)
  | [], k, p, h => by cases h
  | q :: r, 0, p, h => by cases h; exact ⟨rfl, rfl⟩
  | q :: r, k + 1, p, h => by
    rw [show (k + 1) * 2 = k * 2 + 2 by omega]
    exact flatZ_at r k p (by simpa using h)
theorem loadN_two {h : Hp} {i o : Nat} {a b : Value} (h1 : loadN h i o 1 = some [a]) (h2 : loadN h i (o + 1) 1 = some [b]) : loadN h i o 2 = some [a, b] := by
  have two : ∀ {l l' : List Value}, takeN 1 l = some [a] → l' = l.drop 1 → takeN 1 l' = some [b] → takeN 2 l = some [a, b] := fun {l l'} e1 e2 e3 => by
    cases l with
    | nil => cases e1
    | cons x r =>
      have hx : x = a := by simp only [takeN] at e1; injection e1 with e1; injection e1
      cases r with
      | nil => rw [e2] at e3; cases e3
      | cons y r =>
        rw [e2] at e3
        have hy : y = b := by
          simp only [List.drop_succ_cons, List.drop_zero, takeN] at e3
          injection e3 with e3; injection e3
        subst hx hy
        rfl
  unfold loadN at h1 h2 ⊢
  split at h1
  · rename_i cs e opn hg
    rw [hg] at h2
    simp only at h2 ⊢
    exact two h1 (by rw [List.drop_drop]) h2
  · rename_i o' cs e hg
    rw [hg] at h2
    simp only at h2 ⊢
    split at h1
    · rename_i hb
      have hb' := Nat.le_of_ble_eq_true hb
      have e1 : Nat.ble o' (o + 1) = true := Nat.ble_eq_true_of_le (by omega)
      simp only [e1] at h2
      exact two h1 (by rw [List.drop_drop, show o - o' + 1 = o + 1 - o' by omega]) h2
    · cases h1
  · rename_i cs e hg
    rw [hg] at h2
    simp only at h2 ⊢
    exact two h1 (by rw [List.drop_drop]) h2
  · cases h1
/-- A slice of pairs that may be read. -/
def RdZ (h : Hp) (v : Value) (l : List (Int × Int)) : Prop := (l = [] ∧ ∃ a c, v = .slice a 0 c) ∨ ∃ i off c, v = .slice (some ⟨i, off, none⟩) l.length c ∧ l ≠ [] ∧ i < h.next ∧ loadN h i off (l.length * 2) = some (flatZ l)
theorem RdZ.ext {h g : Hp} {v : Value} {l : List (Int × Int)} (H : RdZ h v l) (X : h.Ext g) : RdZ g v l := by
  rcases H with ⟨rfl, a, c, rfl⟩ | ⟨i, off, c, rfl, h1, h2, h3⟩
  · exact .inl ⟨rfl, a, c, rfl⟩
  · exact .inr ⟨i, off, c, rfl, h1, Nat.lt_of_lt_of_le h2 X.next, by rw [loadN_ext (X.get i h2)]; exact h3⟩
theorem RdZ.shape {h : Hp} {v : Value} {l : List (Int × Int)} (H : RdZ h v l) : ∃ a c, v = .slice a l.length c := by
  rcases H with ⟨rfl, a, c, rfl⟩ | ⟨i, off, c, rfl, _⟩ <;> exact ⟨_, _, rfl⟩
theorem RdZ.at_ {h : Hp} {v : Value} {l : List (Int × Int)} (H : RdZ h v l) {k : Nat} {p : Int × Int} (hk : l[k]? = some p) :
    ∃ i o, indexAddrOp Tryd.prog 27 v (J k) = some (ptr i o) ∧ i < h.next ∧ loadT Tryd.prog h 23 (ptr i o) = some (.agg #[I p.1, I p.2]) ∧ loadN h i o 2 = some [I p.1, I p.2] := by
  have hlt : k < l.length := (List.getElem?_eq_some_iff.1 hk).1
  rcases H with ⟨rfl, a, c, rfl⟩ | ⟨i, off, c, rfl, h1, h2, h3⟩
  · cases hk
  · obtain ⟨e1, e2⟩ := flatZ_at l k p hk
    have l1 := loadN_at h3 (by omega : k * 2 < l.length * 2) e1
    have l2 := loadN_at h3 (by omega : k * 2 + 1 < l.length * 2) e2
    have l3 := loadN_two l1 (by rw [Nat.add_assoc]; exact l2)
    refine ⟨i, off + k * 2, idxSl s27.u s27.s hlt, h2, ?_, l3⟩
    simp only [loadT, ag23, s27.s, l3]
end Go.Proofs.YtnfboopfpkaeaaaDoor
namespace Go.Proofs.YtnfboopfpkaeaaaDoor
open Go Go.Eng Nim
set_option maxRecDepth 100000
set_option maxHeartbeats 4000000
def okp (f : Nat → Bool) (N : Nat) (z : Int × Int) : Bool := decide (0 ≤ z.1) && decide (z.1 < Int.ofNat N) && decide (0 ≤ z.2) && ((z.2.toNat &&& z.1.toNat) == z.2.toNat) && IM f N z.1.toNat z.2.toNat
def good (f : Nat → Bool) (N : Nat) (l : List (Int × Int)) (j : Nat) : Prop := okp f N (l.getD j (0, 0)) = true ∧ (0 < j → c2 (l.getD (j - 1) (0, 0)).1 (l.getD (j - 1) (0, 0)).2 (l.getD j (0, 0)).1 (l.getD j (0, 0)).2 < 0)
def inZ (z : Int × Int) (x : Nat) : Bool := Int.ofNat (x &&& z.1.toNat) == z.2
def GdP (f : Nat → Bool) (N : Nat) (l : List (Int × Int)) : Prop := (∀ j, j < l.length → good f N l j) ∧ ∀ x, x < N → f x = true → ∃ z ∈ l, inZ z x = true
theorem and_not {v m : Nat} (hv : v < 2 ^ 63) : (BitVec.ofNat 64 v &&& ~~~BitVec.ofNat 64 m).toNat = 0 ↔ v &&& m = v := by
  constructor
  · intro h
    have hb : BitVec.ofNat 64 v &&& ~~~BitVec.ofNat 64 m = 0#64 := BitVec.eq_of_toNat_eq (by rw [h]; rfl)
    refine Nat.eq_of_testBit_eq fun i => ?_
    rw [Nat.testBit_and]
    rcases Nat.lt_or_ge i 64 with hi | hi
    · have := congrArg (fun b => b.getLsbD i) hb
      simp only [BitVec.getLsbD_and, BitVec.getLsbD_not, BitVec.getLsbD_ofNat, hi, decide_true, Bool.true_and] at this
      cases h1 : v.testBit i <;> cases h2 : m.testBit i <;> simp_all
    · have : v.testBit i = false := Nat.testBit_lt_two_pow (Nat.lt_of_lt_of_le hv (Nat.pow_le_pow_right (by decide) (by omega)))
      rw [this]; rfl
  · intro h
    have hb : BitVec.ofNat 64 v &&& ~~~BitVec.ofNat 64 m = 0#64 := by
      refine BitVec.eq_of_getLsbD_eq fun i hi => ?_
      have := congrArg (fun b => Nat.testBit b i) h
      simp only [Nat.testBit_and] at this
      simp only [BitVec.getLsbD_and, BitVec.getLsbD_not, BitVec.getLsbD_ofNat, hi, decide_true, Bool.true_and]
      cases h1 : v.testBit i <;> cases h2 : m.testBit i <;> simp_all
    rw [hb]; rfl
theorem not_zero {v m : Nat} (hv : v < 2 ^ 63) : (notI (Int.ofNat v) (Int.ofNat m) != 0) = !((v &&& m) == v) := by
  have hle : (BitVec.ofNat 64 v &&& ~~~BitVec.ofNat 64 m).toNat ≤ v := by
    rw [BitVec.toNat_and]
    refine Nat.le_trans Nat.and_le_left ?_
    rw [BitVec.toNat_ofNat]
    exact Nat.mod_le _ _
  have e1 : ∀ k : Nat, BitVec.ofInt 64 (Int.ofNat k) = BitVec.ofNat 64 k := fun k => BitVec.ofInt_natCast 64 k
  have e : notI (Int.ofNat v) (Int.ofNat m) = Int.ofNat (BitVec.ofNat 64 v &&& ~~~BitVec.ofNat 64 m).toNat := by
    unfold notI
    rw [e1, e1]
    exact wrap_nat (by omega)
  rw [e, Bool.eq_iff_iff]
  have := and_not (m := m) hv
  simp only [bne_iff_ne, Bool.not_eq_true', beq_eq_false_iff_ne, ne_eq]
  rw [← this]
  constructor
  · intro h1 h2; exact h1 (by rw [h2]; rfl)
  · intro h1 h2; exact h1 (by simpa using h2)
theorem okp_in {f : Nat → Bool} {N x : Nat} {z : Int × Int} (h : okp f N z = true) (hx : x < N) (hi : inZ z x = true) : f x = true := by
  unfold okp at h
  simp only [Bool.and_eq_true, decide_eq_true_eq] at h
  obtain ⟨⟨⟨⟨h1, h2⟩, h3⟩, h4⟩, h5⟩ := h
  unfold IM at h5
  rw [Bool.and_eq_true] at h5
  have := al_iff.1 h5.1 x hx
  unfold cq at this
  have e : x &&& z.1.toNat = z.2.toNat := by
    unfold inZ at hi
    have hi := eq_of_beq hi
    rw [← hi]; rfl
  rw [e] at this
  simp at this
  rw [this]; exact h5.2
theorem iscov_of (f : Nat → Bool) (N : Nat) (hN : N ≤ 16) (lf m : Nat) (hlf : 300 ≤ lf) (b0 c : Nat) (v : Value) (l : List (Int × Int)) (hl : l.length ≤ 200) (hr : ∀ z ∈ l, z.2 < 2 ^ 63) (h : Hp) (A : ArB b0 N f h) (R : RdZ h v l)
    (ck : ∀ h, Ev lf m 20 [.slice (some ⟨b0, 0, none⟩) N c] h = some (J 0, h))
    (cm : ∀ a b c d x y h, Rds h x [I a, I b] → Rds h y [I c, I d] → Ev lf m 34 [x, y] h = some (I (c2 a b c d), h))
    (io : ∀ bd mm v h, mm < 64 → v < N → ArB b0 N f h → Dcd bd b0 N c h → ∃ y h', Ev lf m 35 [ptr bd 0, .agg #[J mm, J v]] h = some (y, h') ∧ y = .bool (IM f N mm v) ∧ h.Ext h')
    (eq : ∀ b1 c1 v h, ArB b1 N v h → ArB b0 N f h → Ev lf m 36 [.slice (some ⟨b1, 0, none⟩) N c1, .slice (some ⟨b0, 0, none⟩) N c] h = some (.bool (al (fun x => v x == f x) N), h)) :
    ∃ y h', Ev lf (m + 1) 15 [.slice (some ⟨b0, 0, none⟩) N c, v] h = some (y, h') ∧ h.Ext h' ∧ ∃ b, y = .bool b ∧ (b = true ↔ GdP f N l) := by
  refine fnS_ok (Q := fun y h' => h.Ext h' ∧ ∃ b, y = .bool b ∧ (b = true ↔ GdP f N l)) ?_
  obtain ⟨va, vc, rfl⟩ := R.shape
  have W := Sto.start h
  refine sy_call 0 (by kernel_rfl) (ck h) ?_
  refine ow_new 3 W (AObj.cells [Value.slice (some { block := b0, off := 0 }) N c, Value.map none] 53 false) (fun q => Value.pointer (some { block := q, off := 0 })) (by kernel_rfl) fun g1 ng1 Wg1 => ?_
  have W := Wg1
  refine ok_go 1 ?_
  refine ow_new 0 W (.cells (cellsF N fun _ => .bool false) 4 false) (fun q => .slice (some ⟨q, 0, none⟩) N (2 * N)) ((by kernel_rfl : _ = makeSliceOp Tryd.prog g1 24 (J N) (J N)).trans (by rw [← zeros_one]; exact makeSl (z := .bool false) (inf := (Tryd.prog.info? 4).get!) uB (by kernel_rfl) (by kernel_rfl) (by kernel_rfl) (by kernel_rfl) (by kernel_rfl) (by omega))) fun g2 ng2 W => ?_
  refine ok_go 1 ?_
  refine sy_loop 0 lf g2 (α := Nat) (fun i => [(0, .slice (some ⟨b0, 0, none⟩) N c), (1, .slice va l.length vc), (5, ptr h.next 0), (6, .slice (some ⟨g1.next, 0, none⟩) N (2 * N)), (19, .slice va l.length vc), (20, J l.length), (21, J i)])
    (fun i g => i ≤ l.length ∧ (∀ j, j < i → good f N l j) ∧ ∃ w : Nat → Bool, Sto h g [(g1.next, .cells (cellsF N fun x => .bool (w x)) 4 false), (h.next, .cells [.slice (some ⟨b0, 0, none⟩) N c, .map none] 53 false)] ∧ ∀ x, x < N → w x = (l.take i).any fun z => inZ z x) (fun i _ => l.length - i) 0 (by kernel_rfl) (by kernel_rfl)
    ⟨by kernel_rfl, by kernel_rfl, by kernel_rfl, by kernel_rfl, by kernel_rfl, by kernel_rfl, by kernel_rfl, trivial⟩ (show l.length - 0 < lf by omega) ⟨Nat.zero_le _, fun j hj => by omega, fun _ => false, W, fun x _ => rfl⟩ ?_
  rintro m1 i f1 q ⟨hi, hgd, w, W, hw⟩ ih
  have hA := A.lt
  refine ok_go 1 ?_
  refine sy_test 0 (decide (Int.ofNat i < Int.ofNat l.length)) (by kernel_rfl) ?_ ?_
  rotate_left
  · intro hlt
    have hlt := no_nat hlt
    obtain rfl : i = l.length := by omega
    have AW : ArB g1.next N w q := ⟨W.lt 0 rfl, false, W.get 0 rfl⟩
    have e := eq g1.next (2 * N) w q AW (A.ext W.ext)
    refine ok_go 0 ?_
    refine sy_call 0 (by kernel_rfl) e ?_
    refine ok_go 0 ?_
    refine sy_done 0 (v := .bool (al (fun x => w x == f x) N)) (h := q) (by kernel_rfl) ⟨W.ext, _, rfl, ?_⟩
    rw [List.take_length] at hw
    rw [al_iff]
    constructor
    · intro hh
      refine ⟨hgd, fun x hx hf => ?_⟩
      have h1 := hh x hx
      rw [beq_iff_eq, hw x hx, hf, List.any_eq_true] at h1
      exact h1
    · intro hh x hx
      rw [beq_iff_eq, hw x hx]
      cases hf : f x with
      | true => exact List.any_eq_true.2 (hh.2 x hx hf)
      | false =>
        rw [Bool.eq_false_iff]
        intro ha
        obtain ⟨z, hz, hin⟩ := List.any_eq_true.1 ha
        obtain ⟨j, hj, e⟩ := List.mem_iff_getElem.1 hz
        have h1 := (hgd j hj).1
        rw [show l.getD j (0, 0) = z by simp [hj, e]] at h1
        have := okp_in h1 hx hin
        rw [hf] at this
        cases this
  intro hlt
  have hlt := ok_nat hlt
  have hwi : IntKind.wrap .i64 (Int.ofNat (i + 1)) = Int.ofNat (i + 1) := wrap_nat (by omega)
  obtain ⟨zb, zo, e1, e2, e3, e4⟩ := (R.ext W.ext).at_ (List.getElem?_eq_getElem hlt)
  have hz2 := hr l[i] (List.getElem_mem hlt)
  have hgi : l.getD i (0, 0) = l[i] := by simp [hlt]
  generalize hz : l[i] = z at *
  refine ok_go 0 ?_
  refine sy_load 0 (h' := q) (by kernel_rfl) e1 ?_
  refine sy_load 0 (h' := q) (by kernel_rfl) e3 ?_
  refine ow_new 0 W (AObj.cells [Value.int IntKind.i64 (Int.ofNat 0), Value.int IntKind.i64 (Int.ofNat 0)] 23 false) (fun q => Value.pointer (some { block := q, off := 0 })) (by kernel_rfl) fun w1 nw1 Ww1 => ?_
  have W := Ww1
  refine ow_storeA (P := Tryd.prog) (T := 23) (v := Value.agg { toList := [Value.int IntKind.i64 (Prod.fst z), Value.int IntKind.i64 (Prod.snd z)] }) 0 0 W ([Value.int IntKind.i64 (Prod.fst z), Value.int IntKind.i64 (Prod.snd z)]) rfl rfl rfl (by kernel_rfl) (by first | rfl | (repeat' (first | exact rfl | assumption | apply sc_cons))) (by kernel_rfl) fun w2 nw2 Ww2 => ?_
  have W := Ww2
  refine ow_load (P := Tryd.prog) (T := 3) (off := 0) 1 0 W rfl rfl (by kernel_rfl) (by kernel_rfl) ?_
  refine ok_go 1 ?_
  have Wz := W
  have fail : ∀ {g' : Hp} {P : Prop}, h.Ext g' → ¬ good f N l i → h.Ext g' ∧ ∃ b, Value.bool false = .bool b ∧ (b = true ↔ GdP f N l) := fun {g' P} X hn => ⟨X, false, rfl, by
    constructor
    · intro hh; cases hh
    · intro hh; exact absurd (hh.1 i hlt) hn⟩
  refine sy_test 0 (decide (z.1 < 0)) (by kernel_rfl) ?_ ?_
  · intro hc
    refine ok_go 31 ?_
    exact sy_done 0 (v := .bool false) (h := w2) (by kernel_rfl) (fail (P := True) W.ext fun hg => by
      have := hg.1
      rw [hgi] at this
      simp only [okp, Bool.and_eq_true, decide_eq_true_eq] at this
      have := of_decide_eq_true hc
      omega)
  intro h1
  have h1 : 0 ≤ z.1 := by have := of_decide_eq_false h1; omega
  refine ow_load (P := Tryd.prog) (T := 3) (off := 0) 2 0 W rfl rfl (by kernel_rfl) (by kernel_rfl) ?_
  refine ok_go 6 ?_
  refine sy_test 0 (decide (z.1 ≥ Int.ofNat N)) (by kernel_rfl) ?_ ?_
  · intro hc
    refine ok_go 25 ?_
    exact sy_done 0 (v := .bool false) (h := w2) (by kernel_rfl) (fail (P := True) W.ext fun hg => by
      have := hg.1
      rw [hgi] at this
      simp only [okp, Bool.and_eq_true, decide_eq_true_eq] at this
      have := of_decide_eq_true hc
      omega)
  intro h2
  have h2 : z.1 < Int.ofNat N := by have := of_decide_eq_false h2; omega
  refine ow_load (P := Tryd.prog) (T := 3) (off := 1) 2 0 W rfl rfl (by kernel_rfl) (by kernel_rfl) ?_
  refine ok_go 3 ?_
  refine sy_test 0 (decide (z.2 < 0)) (by kernel_rfl) ?_ ?_
  · intro hc
    refine ok_go 21 ?_
    exact sy_done 0 (v := .bool false) (h := w2) (by kernel_rfl) (fail (P := True) W.ext fun hg => by
      have := hg.1
      rw [hgi] at this
      simp only [okp, Bool.and_eq_true, decide_eq_true_eq] at this
      have := of_decide_eq_true hc
      omega)
  intro h3
  have h3 : 0 ≤ z.2 := by have := of_decide_eq_false h3; omega
  obtain ⟨mm, em⟩ : ∃ mm : Nat, z.1 = Int.ofNat mm := ⟨z.1.toNat, (Int.toNat_of_nonneg h1).symm⟩
  obtain ⟨vv, ev⟩ : ∃ vv : Nat, z.2 = Int.ofNat vv := ⟨z.2.toNat, (Int.toNat_of_nonneg h3).symm⟩
  have hmm : mm < N := by rw [em] at h2; exact Int.ofNat_lt.1 h2
  have hvv : vv < 2 ^ 63 := by rw [ev] at hz2; exact Int.ofNat_lt.1 hz2
  have hnot : (notI z.2 z.1 != 0) = !((vv &&& mm) == vv) := by rw [em, ev]; exact not_zero hvv
  have hokp : okp f N z = (((vv &&& mm) == vv) && IM f N mm vv) := by
    unfold okp
    rw [decide_eq_true h1, decide_eq_true h2, decide_eq_true h3, em, ev]
    rfl
  refine ow_load (P := Tryd.prog) (T := 3) (off := 1) 2 0 W rfl rfl (by kernel_rfl) (by kernel_rfl) ?_
  refine ow_load (P := Tryd.prog) (T := 3) (off := 0) 3 0 W rfl rfl (by kernel_rfl) (by kernel_rfl) ?_
  refine ok_go 5 ?_
  refine sy_test 0 (notI z.2 z.1 != 0) (by kernel_rfl) ?_ ?_
  · intro hc
    refine ok_go 14 ?_
    exact sy_done 0 (v := .bool false) (h := w2) (by kernel_rfl) (fail (P := True) W.ext fun hg => by
      have := hg.1
      rw [hgi, hokp] at this
      rw [hnot] at hc
      simp only [Bool.and_eq_true] at this
      rw [this.1] at hc
      cases hc)
  intro h4
  rw [hnot] at h4
  have h4 : ((vv &&& mm) == vv) = true := by simpa using h4
  have hvm : vv &&& mm = vv := by simpa using h4
  have hv64 : vv < N := by have := Nat.and_le_right (n := vv) (m := mm); omega
  refine ok_go 3 ?_
  refine sy_test 0 (decide (Int.ofNat i > 0)) (by kernel_rfl) ?_ ?_
  · intro h5
    have hi0 : 0 < i := by have := of_decide_eq_true h5; simp at this; omega
    have hwm : IntKind.wrap .i64 (Int.ofNat i - 1) = Int.ofNat (i - 1) := wrap_sub (b := 1) hi0 (by omega)
    obtain ⟨yb, yo, r1, r2, r3, r4⟩ := (R.ext W.ext).at_ (List.getElem?_eq_getElem (show i - 1 < l.length by omega))
    have hgp : l.getD (i - 1) (0, 0) = l[i - 1] := by simp [show i - 1 < l.length by omega]
    generalize hy : l[i - 1] = y at *
    have e5 := cm y.1 y.2 z.1 z.2 (.slice (some ⟨yb, yo, none⟩) 2 4) (.slice (some ⟨q.next, 0, none⟩) 2 4) w2 (.inr ⟨yb, yo, 4, rfl, fun _ => ⟨r2, r4⟩⟩) (rd_two (W.lt 0 rfl) (W.get 0 rfl))
    refine ok_go 4 ?_
    refine sy_load 0 (r := indexAddrOp Tryd.prog 27 (.slice va l.length vc) (.int .i64 (IntKind.wrap .i64 (Int.ofNat i - 1)))) (h' := w2) (by kernel_rfl) (by rw [hwm]; exact r1) ?_
    refine ok_go 5 ?_
    refine sy_call 0 (by kernel_rfl) e5 ?_
    refine ok_go 5 ?_
    refine sy_test 0 (decide (c2 y.1 y.2 z.1 z.2 ≥ 0)) (by kernel_rfl) ?_ ?_
    · intro hc
      refine ok_go 9 ?_
      exact sy_done 0 (v := .bool false) (h := w2) (by kernel_rfl) (fail (P := True) W.ext fun hg => by
        have := hg.2 hi0
        rw [hgi, hgp] at this
        have := of_decide_eq_true hc
        omega)
    intro h7
    have h7 : c2 y.1 y.2 z.1 z.2 < 0 := by have := of_decide_eq_false h7; omega
    refine ow_load (P := Tryd.prog) (T := 3) (off := 0) 3 0 W rfl rfl (by kernel_rfl) (by kernel_rfl) ?_
    refine ow_load (P := Tryd.prog) (T := 3) (off := 1) 3 0 W rfl rfl (by kernel_rfl) (by kernel_rfl) ?_
    refine ok_go 3 ?_
    have D : Dcd h.next b0 N c w2 := ⟨W.lt 2 rfl, .map none, false, W.get 2 rfl⟩
    obtain ⟨_, w3, e6, rfl, X6⟩ := io h.next mm vv w2 (by omega) hv64 (A.ext W.ext) D
    have W := W.call X6
    refine sy_call 0 (r := Ev lf m 35 [ptr h.next 0, .agg #[I z.1, I z.2]] w2) (by kernel_rfl) (by rw [em, ev]; exact e6) ?_
    refine ok_go 3 ?_
    refine sy_test 0 (!IM f N mm vv) (by kernel_rfl) ?_ ?_
    · intro hc
      refine ok_go 0 ?_
      exact sy_done 0 (v := .bool false) (h := w3) (by kernel_rfl) (fail (P := True) W.ext fun hg => by
        have := hg.1
        rw [hgi, hokp] at this
        simp only [Bool.and_eq_true] at this
        rw [this.2] at hc
        cases hc)
    intro h6
    have hgood : good f N l i := ⟨by rw [hgi, hokp, h4, Bool.true_and]; simpa using h6, fun _ => by rw [hgi, hgp]; exact h7⟩
    refine ok_go 1 ?_
    refine sy_loop 0 lf w3 (α := Nat) (fun x => [(0, .slice (some ⟨b0, 0, none⟩) N c), (1, .slice va l.length vc), (5, ptr h.next 0), (6, .slice (some ⟨g1.next, 0, none⟩) N (2 * N)), (8, ptr q.next 0), (19, .slice va l.length vc), (20, J l.length), (21, J i), (74, J N), (75, J x)])
      (fun x g => x ≤ N ∧ ∃ w' : Nat → Bool, Sto h g [(q.next, .cells [I z.1, I z.2] 23 false), (g1.next, .cells (cellsF N fun x => .bool (w' x)) 4 false), (h.next, .cells [.slice (some ⟨b0, 0, none⟩) N c, .map none] 53 false)] ∧ ∀ y, y < N → w' y = if y < x then w y || inZ z y else w y) (fun x _ => N - x) 0 (by kernel_rfl) (by kernel_rfl)
      ⟨by kernel_rfl, by kernel_rfl, by kernel_rfl, by kernel_rfl, by kernel_rfl, by kernel_rfl, by kernel_rfl, by kernel_rfl, by kernel_rfl, by kernel_rfl, trivial⟩ (show N - 0 < lf by omega) ⟨Nat.zero_le _, w, W, fun y _ => (if_neg (by omega)).symm⟩ ?_
    rintro m2 x f2 p ⟨hx, w', W, hw'⟩ ih2
    refine ok_go 1 ?_
    refine sy_test 0 (decide (Int.ofNat x < Int.ofNat N)) (by kernel_rfl) ?_ ?_
    rotate_left
    · intro hlt2
      have hlt2 := no_nat hlt2
      refine ok_go 1 ?_
      exact sy_next 0 _ p (by kernel_rfl) (by kernel_rfl) (ih (i + 1) _ p ⟨hlt, fun j hj => (by
        by_cases hji : j = i
        · rw [hji]; exact hgood
        · exact hgd j (by omega)), w', W.drop 1, fun y hy => by rw [hw' y hy, if_pos (by omega), hw y hy, List.take_succ_eq_append_getElem hlt, List.any_append, hz]; simp⟩ (show l.length - (i + 1) < l.length - i by omega) ⟨by kernel_rfl, by kernel_rfl, by kernel_rfl, by kernel_rfl, by kernel_rfl, by kernel_rfl, (by kernel_rfl : _ = Value.int .i64 (IntKind.wrap .i64 (Int.ofNat (i + 1)))).trans (by rw [hwi]), trivial⟩)
    intro hlt2
    have hlt2 := ok_nat hlt2
    have hwx : IntKind.wrap .i64 (Int.ofNat (x + 1)) = Int.ofNat (x + 1) := wrap_nat (by omega)
    have AW : ArB g1.next N w' p := ⟨W.lt 1 rfl, false, W.get 1 rfl⟩
    have hand : (andI (Int.ofNat x) z.1 == z.2) = inZ z x := by rw [em, and_nat (by omega)]; unfold inZ; rw [em]; rfl
    refine ok_go 0 ?_
    refine sy_load 0 (h' := p) (by kernel_rfl) (idxB (b := g1.next) (c := 2 * N) hlt2) ?_
    refine sy_load 0 (h' := p) (by kernel_rfl) (AW.read hlt2) ?_
    have hwx2 : w' x = w x := by rw [hw' x hlt2, if_neg (Nat.lt_irrefl x)]
    refine ok_go 0 ?_
    refine sy_test 0 (w' x) (by kernel_rfl) ?_ ?_
    · intro hc
      refine ok_go 7 ?_
      refine sy_load 0 (h' := p) (by kernel_rfl) (idxB (b := g1.next) (c := 2 * N) hlt2) ?_
      refine ow_store (P := Tryd.prog) (T := 4) (off := x) (v := .bool true) 0 1 W rfl (by rw [cellsF_len]; exact hlt2) (by kernel_rfl) rfl (by kernel_rfl) fun p2 np2 W => ?_
      have ec : (cellsF N fun x => Value.bool (w' x)).set x (.bool true) = cellsF N fun y => Value.bool (if y = x then true else w' y) := by
        rw [cellsF_set]
        exact cellsF_congr fun y _ => by unfold updF; split <;> rfl
      rw [ec] at W
      refine ok_go 1 ?_
      exact sy_next 0 _ p2 (by kernel_rfl) (by kernel_rfl) (ih2 (x + 1) _ p2 ⟨hlt2, (fun y => if y = x then true else w' y), W, fun y hy => (by
        show (if y = x then true else w' y) = _
        by_cases hyx : y = x
        · rw [if_pos hyx, if_pos (by omega), hyx, ← hwx2, hc]; rfl
        · rw [if_neg hyx, hw' y hy]
          by_cases hlt3 : y < x
          · rw [if_pos hlt3, if_pos (by omega)]
          · rw [if_neg hlt3, if_neg (by omega)])⟩ (show N - (x + 1) < N - x by omega) ⟨by kernel_rfl, by kernel_rfl, by kernel_rfl, by kernel_rfl, by kernel_rfl, by kernel_rfl, by kernel_rfl, by kernel_rfl, by kernel_rfl, (by kernel_rfl : _ = Value.int .i64 (IntKind.wrap .i64 (Int.ofNat (x + 1)))).trans (by rw [hwx]), trivial⟩)
    intro hc
    refine ow_load (P := Tryd.prog) (T := 3) (off := 0) 3 0 W rfl rfl (by kernel_rfl) (by kernel_rfl) ?_
    refine ow_load (P := Tryd.prog) (T := 3) (off := 1) 5 0 W rfl rfl (by kernel_rfl) (by kernel_rfl) ?_
    refine sy_load 3 (r := indexAddrOp Tryd.prog 24 (Value.slice (some { block := Hp.next g1, off := 0 }) N (2 * N)) (Value.int IntKind.i64 (Int.ofNat x))) (h' := p) (by kernel_rfl) (idxS0 (e := 4) (by kernel_rfl) (by kernel_rfl) (by omega)) ?_
    refine ow_store (P := Tryd.prog) (T := 4) (off := x) (v := .bool (andI (Int.ofNat x) z.1 == z.2)) 0 1 W rfl (by rw [cellsF_len]; exact hlt2) (by kernel_rfl) rfl (by kernel_rfl) fun p9 np9 W => ?_
    rw [hand] at W
    have ec : (cellsF N fun x => Value.bool (w' x)).set x (.bool (inZ z x)) = cellsF N fun y => Value.bool (if y = x then (inZ z x) else w' y) := by
      rw [cellsF_set]
      exact cellsF_congr fun y _ => by unfold updF; split <;> rfl
    rw [ec] at W
    refine ok_go 1 ?_
    exact sy_next 0 _ p9 (by kernel_rfl) (by kernel_rfl) (ih2 (x + 1) _ p9 ⟨hlt2, (fun y => if y = x then inZ z x else w' y), W, fun y hy => (by
      show (if y = x then inZ z x else w' y) = _
      by_cases hyx : y = x
      · rw [if_pos hyx, if_pos (by omega), hyx, ← hwx2, hc, Bool.false_or]
      · rw [if_neg hyx, hw' y hy]
        by_cases hlt3 : y < x
        · rw [if_pos hlt3, if_pos (by omega)]
        · rw [if_neg hlt3, if_neg (by omega)])⟩ (show N - (x + 1) < N - x by omega) ⟨by kernel_rfl, by kernel_rfl, by kernel_rfl, by kernel_rfl, by kernel_rfl, by kernel_rfl, by kernel_rfl, by kernel_rfl, by kernel_rfl, (by kernel_rfl : _ = Value.int .i64 (IntKind.wrap .i64 (Int.ofNat (x + 1)))).trans (by rw [hwx]), trivial⟩)
  intro h5
  have hi0 : i = 0 := by have := of_decide_eq_false h5; simp at this; omega
  refine ow_load (P := Tryd.prog) (T := 3) (off := 0) 14 0 W rfl rfl (by kernel_rfl) (by kernel_rfl) ?_
  refine ow_load (P := Tryd.prog) (T := 3) (off := 1) 3 0 W rfl rfl (by kernel_rfl) (by kernel_rfl) ?_
  refine ok_go 3 ?_
  have D : Dcd h.next b0 N c w2 := ⟨W.lt 2 rfl, .map none, false, W.get 2 rfl⟩
  obtain ⟨_, w3, e6, rfl, X6⟩ := io h.next mm vv w2 (by omega) hv64 (A.ext W.ext) D
  have W := W.call X6
  refine sy_call 0 (r := Ev lf m 35 [ptr h.next 0, .agg #[I z.1, I z.2]] w2) (by kernel_rfl) (by rw [em, ev]; exact e6) ?_
  refine ok_go 3 ?_
  refine sy_test 0 (!IM f N mm vv) (by kernel_rfl) ?_ ?_
  · intro hc
    refine ok_go 0 ?_
    exact sy_done 0 (v := .bool false) (h := w3) (by kernel_rfl) (fail (P := True) W.ext fun hg => by
      have := hg.1
      rw [hgi, hokp] at this
      simp only [Bool.and_eq_true] at this
      rw [this.2] at hc
      cases hc)
  intro h6
  have hgood : good f N l i := ⟨by rw [hgi, hokp, h4, Bool.true_and]; simpa using h6, fun hh => by omega⟩
  refine ok_go 1 ?_
  refine sy_loop 0 lf w3 (α := Nat) (fun x => [(0, .slice (some ⟨b0, 0, none⟩) N c), (1, .slice va l.length vc), (5, ptr h.next 0), (6, .slice (some ⟨g1.next, 0, none⟩) N (2 * N)), (8, ptr q.next 0), (19, .slice va l.length vc), (20, J l.length), (21, J i), (74, J N), (75, J x)])
    (fun x g => x ≤ N ∧ ∃ w' : Nat → Bool, Sto h g [(q.next, .cells [I z.1, I z.2] 23 false), (g1.next, .cells (cellsF N fun x => .bool (w' x)) 4 false), (h.next, .cells [.slice (some ⟨b0, 0, none⟩) N c, .map none] 53 false)] ∧ ∀ y, y < N → w' y = if y < x then w y || inZ z y else w y) (fun x _ => N - x) 0 (by kernel_rfl) (by kernel_rfl)
    ⟨by kernel_rfl, by kernel_rfl, by kernel_rfl, by kernel_rfl, by kernel_rfl, by kernel_rfl, by kernel_rfl, by kernel_rfl, by kernel_rfl, by kernel_rfl, trivial⟩ (show N - 0 < lf by omega) ⟨Nat.zero_le _, w, W, fun y _ => (if_neg (by omega)).symm⟩ ?_
  rintro m2 x f2 p ⟨hx, w', W, hw'⟩ ih2
  refine ok_go 1 ?_
  refine sy_test 0 (decide (Int.ofNat x < Int.ofNat N)) (by kernel_rfl) ?_ ?_
  rotate_left
  · intro hlt2
    have hlt2 := no_nat hlt2
    refine ok_go 1 ?_
    exact sy_next 0 _ p (by kernel_rfl) (by kernel_rfl) (ih (i + 1) _ p ⟨hlt, fun j hj => (by
      by_cases hji : j = i
      · rw [hji]; exact hgood
      · exact hgd j (by omega)), w', W.drop 1, fun y hy => by rw [hw' y hy, if_pos (by omega), hw y hy, List.take_succ_eq_append_getElem hlt, List.any_append, hz]; simp⟩ (show l.length - (i + 1) < l.length - i by omega) ⟨by kernel_rfl, by kernel_rfl, by kernel_rfl, by kernel_rfl, by kernel_rfl, by kernel_rfl, (by kernel_rfl : _ = Value.int .i64 (IntKind.wrap .i64 (Int.ofNat (i + 1)))).trans (by rw [hwi]), trivial⟩)
  intro hlt2
  have hlt2 := ok_nat hlt2
  have hwx : IntKind.wrap .i64 (Int.ofNat (x + 1)) = Int.ofNat (x + 1) := wrap_nat (by omega)
  have AW : ArB g1.next N w' p := ⟨W.lt 1 rfl, false, W.get 1 rfl⟩
  have hand : (andI (Int.ofNat x) z.1 == z.2) = inZ z x := by rw [em, and_nat (by omega)]; unfold inZ; rw [em]; rfl
  refine ok_go 0 ?_
  refine sy_load 0 (h' := p) (by kernel_rfl) (idxB (b := g1.next) (c := 2 * N) hlt2) ?_
  refine sy_load 0 (h' := p) (by kernel_rfl) (AW.read hlt2) ?_
  have hwx2 : w' x = w x := by rw [hw' x hlt2, if_neg (Nat.lt_irrefl x)]
  refine ok_go 0 ?_
  refine sy_test 0 (w' x) (by kernel_rfl) ?_ ?_
  · intro hc
    refine ok_go 7 ?_
    refine sy_load 0 (h' := p) (by kernel_rfl) (idxB (b := g1.next) (c := 2 * N) hlt2) ?_
    refine ow_store (P := Tryd.prog) (T := 4) (off := x) (v := .bool true) 0 1 W rfl (by rw [cellsF_len]; exact hlt2) (by kernel_rfl) rfl (by kernel_rfl) fun p2 np2 W => ?_
    have ec : (cellsF N fun x => Value.bool (w' x)).set x (.bool true) = cellsF N fun y => Value.bool (if y = x then true else w' y) := by
      rw [cellsF_set]
      exact cellsF_congr fun y _ => by unfold updF; split <;> rfl
    rw [ec] at W
    refine ok_go 1 ?_
    exact sy_next 0 _ p2 (by kernel_rfl) (by kernel_rfl) (ih2 (x + 1) _ p2 ⟨hlt2, (fun y => if y = x then true else w' y), W, fun y hy => (by
      show (if y = x then true else w' y) = _
      by_cases hyx : y = x
      · rw [if_pos hyx, if_pos (by omega), hyx, ← hwx2, hc]; rfl
      · rw [if_neg hyx, hw' y hy]
        by_cases hlt3 : y < x
        · rw [if_pos hlt3, if_pos (by omega)]
        · rw [if_neg hlt3, if_neg (by omega)])⟩ (show N - (x + 1) < N - x by omega) ⟨by kernel_rfl, by kernel_rfl, by kernel_rfl, by kernel_rfl, by kernel_rfl, by kernel_rfl, by kernel_rfl, by kernel_rfl, by kernel_rfl, (by kernel_rfl : _ = Value.int .i64 (IntKind.wrap .i64 (Int.ofNat (x + 1)))).trans (by rw [hwx]), trivial⟩)
  intro hc
  refine ow_load (P := Tryd.prog) (T := 3) (off := 0) 3 0 W rfl rfl (by kernel_rfl) (by kernel_rfl) ?_
  refine ow_load (P := Tryd.prog) (T := 3) (off := 1) 5 0 W rfl rfl (by kernel_rfl) (by kernel_rfl) ?_
  refine sy_load 3 (r := indexAddrOp Tryd.prog 24 (Value.slice (some { block := Hp.next g1, off := 0 }) N (2 * N)) (Value.int IntKind.i64 (Int.ofNat x))) (h' := p) (by kernel_rfl) (idxS0 (e := 4) (by kernel_rfl) (by kernel_rfl) (by omega)) ?_
  refine ow_store (P := Tryd.prog) (T := 4) (off := x) (v := .bool (andI (Int.ofNat x) z.1 == z.2)) 0 1 W rfl (by rw [cellsF_len]; exact hlt2) (by kernel_rfl) rfl (by kernel_rfl) fun p9 np9 W => ?_
  rw [hand] at W
  have ec : (cellsF N fun x => Value.bool (w' x)).set x (.bool (inZ z x)) = cellsF N fun y => Value.bool (if y = x then (inZ z x) else w' y) := by
    rw [cellsF_set]
    exact cellsF_congr fun y _ => by unfold updF; split <;> rfl
  rw [ec] at W
  refine ok_go 1 ?_
  exact sy_next 0 _ p9 (by kernel_rfl) (by kernel_rfl) (ih2 (x + 1) _ p9 ⟨hlt2, (fun y => if y = x then inZ z x else w' y), W, fun y hy => (by
    show (if y = x then inZ z x else w' y) = _
    by_cases hyx : y = x
    · rw [if_pos hyx, if_pos (by omega), hyx, ← hwx2, hc, Bool.false_or]
    · rw [if_neg hyx, hw' y hy]
      by_cases hlt3 : y < x
      · rw [if_pos hlt3, if_pos (by omega)]
      · rw [if_neg hlt3, if_neg (by omega)])⟩ (show N - (x + 1) < N - x by omega) ⟨by kernel_rfl, by kernel_rfl, by kernel_rfl, by kernel_rfl, by kernel_rfl, by kernel_rfl, by kernel_rfl, by kernel_rfl, by kernel_rfl, (by kernel_rfl : _ = Value.int .i64 (IntKind.wrap .i64 (Int.ofNat (x + 1)))).trans (by rw [hwx]), trivial⟩)
end Go.Proofs.YtnfboopfpkaeaaaDoor
namespace Go.Proofs.YtnfboopfpkaeaaaDoor
open Go Go.Eng Nim
set_option maxRecDepth 100000
set_option maxHeartbeats 4000000
theorem gimpl_of (f : Nat → Bool) (N : Nat) (hN : N ≤ 64) (lf k : Nat) (hlf : 300 ≤ lf) (b0 c : Nat) (z : Int × Int) (h : Hp) (A : ArB b0 N f h) :
    ∃ y h', Ev lf (k + 1) 25 [.slice (some ⟨b0, 0, none⟩) N c, .agg #[I z.1, I z.2]] h = some (y, h') ∧ y = .bool (okp f N z) ∧ h.Ext h' := by
  by_cases hin : 0 ≤ z.1 ∧ z.1 < Int.ofNat N ∧ 0 ≤ z.2 ∧ z.2 < 64
  · obtain ⟨h1, h2, h3, h4⟩ := hin
    obtain ⟨mm, em⟩ : ∃ mm : Nat, z.1 = Int.ofNat mm := ⟨z.1.toNat, (Int.toNat_of_nonneg h1).symm⟩
    obtain ⟨vv, ev⟩ : ∃ vv : Nat, z.2 = Int.ofNat vv := ⟨z.2.toNat, (Int.toNat_of_nonneg h3).symm⟩
    have hmm : mm < N := by rw [em] at h2; exact Int.ofNat_lt.1 h2
    have hvv : vv < 64 := by rw [ev] at h4; exact Int.ofNat_lt.1 h4
    obtain ⟨y, h', e, ey, X⟩ := rimpl_of f N hN lf k hlf b0 c mm vv hmm hvv h A
    refine ⟨y, h', by rw [em, ev]; exact e, ?_, X⟩
    rw [ey]
    congr 1
    unfold okp
    rw [decide_eq_true h1, decide_eq_true h2, decide_eq_true h3, em, ev]
    show _ = (true && true && true && (vv &&& mm == vv) && IM f N mm vv)
    simp only [Bool.true_and]
    by_cases hs : vv &&& mm = vv
    · have hlt : vv < N := by have := Nat.and_le_right (n := vv) (m := mm); omega
      rw [im_cq f N mm vv hlt hs, IM]
      simp [hs]
    · have : (vv &&& mm == vv) = false := by simpa using hs
      rw [this]; rfl
  have bad : ∀ {b : Bool}, b = false → okp f N z = b := fun {b} hb => by
    rw [hb, Bool.eq_false_iff]
    intro ho
    unfold okp at ho
    simp only [Bool.and_eq_true, decide_eq_true_eq] at ho
    obtain ⟨⟨⟨⟨h1, h2⟩, h3⟩, h4⟩, h5⟩ := ho
    refine hin ⟨h1, h2, h3, ?_⟩
    have hs : z.2.toNat &&& z.1.toNat = z.2.toNat := by simpa using h4
    have := Nat.and_le_right (n := z.2.toNat) (m := z.1.toNat)
    have h2' : z.1 < (N : Int) := h2
    omega
  refine fnS_ok (Q := fun y h' => y = .bool (okp f N z) ∧ h.Ext h') ?_
  rw [bad rfl]
  have W := Sto.start h
  refine ow_new 0 W (AObj.cells [Value.int IntKind.i64 (Prod.fst z), Value.int IntKind.i64 (Prod.snd z)] 23 false) (fun q => Value.pointer (some { block := q, off := 0 })) (by kernel_rfl) fun g1 ng1 Wg1 => ?_
  have W := Wg1
  refine ow_load (P := Tryd.prog) (T := 3) (off := 0) 1 0 W rfl rfl (by kernel_rfl) (by kernel_rfl) ?_
  refine ok_go 1 ?_
  refine sy_test 0 (decide (z.1 < 0)) (by kernel_rfl) ?_ ?_
  · intro hc
    refine ok_go 19 ?_
    exact sy_done 0 (v := .bool false) (h := g1) (by kernel_rfl) ⟨rfl, W.ext⟩
  intro h1
  refine ow_load (P := Tryd.prog) (T := 3) (off := 0) 2 0 W rfl rfl (by kernel_rfl) (by kernel_rfl) ?_
  refine ok_go 6 ?_
  refine sy_test 0 (decide (z.1 ≥ Int.ofNat N)) (by kernel_rfl) ?_ ?_
  · intro hc
    refine ok_go 13 ?_
    exact sy_done 0 (v := .bool false) (h := g1) (by kernel_rfl) ⟨rfl, W.ext⟩
  intro h2
  refine ow_load (P := Tryd.prog) (T := 3) (off := 1) 2 0 W rfl rfl (by kernel_rfl) (by kernel_rfl) ?_
  refine ok_go 3 ?_
  refine sy_test 0 (decide (z.2 < 0)) (by kernel_rfl) ?_ ?_
  · intro hc
    refine ok_go 9 ?_
    exact sy_done 0 (v := .bool false) (h := g1) (by kernel_rfl) ⟨rfl, W.ext⟩
  intro h3
  have h1 : 0 ≤ z.1 := by have := of_decide_eq_false h1; omega
  have h2 : z.1 < Int.ofNat N := by have := of_decide_eq_false h2; omega
  have h3 : 0 ≤ z.2 := by have := of_decide_eq_false h3; omega
  obtain ⟨mm, em⟩ : ∃ mm : Nat, z.1 = Int.ofNat mm := ⟨z.1.toNat, (Int.toNat_of_nonneg h1).symm⟩
  obtain ⟨vv, ev⟩ : ∃ vv : Nat, z.2 = Int.ofNat vv := ⟨z.2.toNat, (Int.toNat_of_nonneg h3).symm⟩
  have hmm : mm < N := by rw [em] at h2; exact Int.ofNat_lt.1 h2
  have hvv : 64 ≤ vv := by
    rcases Nat.lt_or_ge vv 64 with hlt | hge
    · exact absurd ⟨h1, h2, h3, by rw [ev]; exact Int.ofNat_lt.2 hlt⟩ hin
    · exact hge
  refine ow_load (P := Tryd.prog) (T := 3) (off := 0) 2 0 W rfl rfl (by kernel_rfl) (by kernel_rfl) ?_
  refine ow_load (P := Tryd.prog) (T := 3) (off := 1) 3 0 W rfl rfl (by kernel_rfl) (by kernel_rfl) ?_
  refine ow_load (P := Tryd.prog) (T := 3) (off := 1) 5 0 W rfl rfl (by kernel_rfl) (by kernel_rfl) ?_
  refine ok_go 3 ?_
  refine sy_yes 0 (b := (andI z.1 z.2 != z.2)) (by kernel_rfl) (by
    rw [em, ev, and_nat (by omega), ne_int]
    have := Nat.and_le_left (n := mm) (m := vv)
    simp only [bne_iff_ne, ne_eq]
    omega) ?_
  refine ok_go 0 ?_
  exact sy_done 0 (v := .bool false) (h := g1) (by kernel_rfl) ⟨rfl, W.ext⟩
end Go.Proofs.YtnfboopfpkaeaaaDoor
namespace Go.Proofs.YtnfboopfpkaeaaaDoor
open Go Go.Eng Nim
set_option maxRecDepth 100000
set_option maxHeartbeats 4000000
theorem RdZ.two {h : Hp} {v : Value} {l : List (Int × Int)} (H : RdZ h v l) {k : Nat} {p : Int × Int} (hk : l[k]? = some p) :
    ∃ i o, indexAddrOp Tryd.prog 27 v (J k) = some (ptr i o) ∧ loadT Tryd.prog h 23 (ptr i o) = some (.agg #[I p.1, I p.2]) ∧ loadT Tryd.prog h 3 (ptr i o) = some (I p.1) ∧ loadT Tryd.prog h 3 (ptr i (o + 1)) = some (I p.2) := by
  obtain ⟨i, o, e1, _, e2, e3⟩ := H.at_ hk
  refine ⟨i, o, e1, e2, ?_, ?_⟩
  · have := loadN_at e3 (by decide : 0 < 2) rfl
    simp only [loadT, agI, Nat.add_zero] at this ⊢
    rw [this]
  · have := loadN_at e3 (by decide : 1 < 2) rfl
    simp only [loadT, agI] at this ⊢
    rw [this]
theorem c2_ref (a b c d : Int) : c2 a b c d < 0 ↔ ¬ (a > c) ∧ (a = c → ¬ (b ≥ d)) := by
  unfold c2 cz
  by_cases h1 : a < c <;> by_cases h2 : a > c <;> by_cases h3 : b < d <;> by_cases h4 : b > d <;> simp [h1, h2, h3, h4] <;> omega
theorem riscov_of (f : Nat → Bool) (N : Nat) (hN : N ≤ 16) (lf m : Nat) (hlf : 300 ≤ lf) (b0 c : Nat) (v : Value) (l : List (Int × Int)) (hl : l.length ≤ 200) (h : Hp) (A : ArB b0 N f h) (R : RdZ h v l)
    (ck : ∀ h, Ev lf m 33 [.slice (some ⟨b0, 0, none⟩) N c] h = some (J 0, h))
    (im : ∀ z h, ArB b0 N f h → ∃ y h', Ev lf m 25 [.slice (some ⟨b0, 0, none⟩) N c, .agg #[I z.1, I z.2]] h = some (y, h') ∧ y = .bool (okp f N z) ∧ h.Ext h') :
    ∃ y h', Ev lf (m + 1) 14 [.slice (some ⟨b0, 0, none⟩) N c, v] h = some (y, h') ∧ h.Ext h' ∧ ∃ b, y = .bool b ∧ (b = true ↔ GdP f N l) := by
  refine fnS_ok (Q := fun y h' => h.Ext h' ∧ ∃ b, y = .bool b ∧ (b = true ↔ GdP f N l)) ?_
  obtain ⟨va, vc, rfl⟩ := R.shape
  refine ok_go 0 ?_
  refine sy_call 0 (by kernel_rfl) (ck h) ?_
  refine ok_go 2 ?_
  refine sy_loop 0 lf h (α := Nat) (fun i => [(0, .slice (some ⟨b0, 0, none⟩) N c), (1, .slice va l.length vc), (5, J i)]) (fun i g => i ≤ l.length ∧ h.Ext g ∧ ∀ j, j < i → good f N l j) (fun i _ => l.length - i) 0 (by kernel_rfl) (by kernel_rfl)
    ⟨by kernel_rfl, by kernel_rfl, by kernel_rfl, trivial⟩ (show l.length - 0 < lf by omega) ⟨Nat.zero_le _, Hp.Ext.refl h, fun j hj => by omega⟩ ?_
  rintro m1 i f1 q ⟨hi, X, hgd⟩ ih
  refine ok_go 2 ?_
  refine sy_test 0 (decide (Int.ofNat i < Int.ofNat l.length)) (by kernel_rfl) ?_ ?_
  rotate_left
  · intro hlt
    have hlt := no_nat hlt
    obtain rfl : i = l.length := by omega
    refine ok_go 0 ?_
    refine sy_loop 0 lf q (α := Nat) (fun x => [(0, .slice (some ⟨b0, 0, none⟩) N c), (1, .slice va l.length vc), (6, J x)]) (fun x g => x ≤ N ∧ g = q ∧ ∀ y, y < x → f y = true → ∃ z ∈ l, inZ z y = true) (fun x _ => N - x) 0 (by kernel_rfl) (by kernel_rfl)
      ⟨by kernel_rfl, by kernel_rfl, by kernel_rfl, trivial⟩ (show N - 0 < lf by omega) ⟨Nat.zero_le _, rfl, fun j hj => by omega⟩ ?_
    rintro m2 x f2 g ⟨hx, rfl, hcv⟩ ih2
    refine ok_go 2 ?_
    refine sy_test 0 (decide (Int.ofNat x < Int.ofNat N)) (by kernel_rfl) ?_ ?_
    rotate_left
    · intro hlt2
      have hlt2 := no_nat hlt2
      refine ok_go 0 ?_
      exact sy_done 0 (v := .bool true) (h := g) (by kernel_rfl) ⟨X, true, rfl, ⟨fun _ => ⟨hgd, fun y hy => hcv y (by omega)⟩, fun _ => rfl⟩⟩
    intro hlt2
    have hlt2 := ok_nat hlt2
    have hwx : IntKind.wrap .i64 (Int.ofNat (x + 1)) = Int.ofNat (x + 1) := wrap_nat (by omega)
    refine ok_go 0 ?_
    refine sy_loop 0 lf g (α := Nat) (fun j => [(0, .slice (some ⟨b0, 0, none⟩) N c), (1, .slice va l.length vc), (6, J x), (7, .bool ((l.take j).any fun z => inZ z x)), (8, J j)]) (fun j k => j ≤ l.length ∧ k = g) (fun j _ => l.length - j) 0 (by kernel_rfl) (by kernel_rfl)
      ⟨by kernel_rfl, by kernel_rfl, by kernel_rfl, by kernel_rfl, by kernel_rfl, trivial⟩ (show l.length - 0 < lf by omega) ⟨Nat.zero_le _, rfl⟩ ?_
    rintro m3 j f3 k ⟨hj, rfl⟩ ih3
    refine ok_go 2 ?_
    refine sy_test 0 (decide (Int.ofNat j < Int.ofNat l.length)) (by kernel_rfl) ?_ ?_
    · intro hlt3
      have hlt3 := ok_nat hlt3
      have hwj : IntKind.wrap .i64 (Int.ofNat (j + 1)) = Int.ofNat (j + 1) := wrap_nat (by omega)
      obtain ⟨zb, zo, e4, _, e5, e6⟩ := (R.ext X).two (List.getElem?_eq_getElem hlt3)
      have hgj := (hgd j hlt3).1
      rw [show l.getD j (0, 0) = l[j] by simp [hlt3]] at hgj
      have hstep : ((l.take (j + 1)).any fun z => inZ z x) = (((l.take j).any fun z => inZ z x) || inZ l[j] x) := by rw [List.take_succ_eq_append_getElem hlt3, List.any_append]; simp
      have hand : (andI (Int.ofNat x) l[j].1 == l[j].2) = inZ l[j] x := by
        unfold okp at hgj
        simp only [Bool.and_eq_true, decide_eq_true_eq] at hgj
        have h1 := hgj.1.1.1.1
        have em : l[j].1 = Int.ofNat l[j].1.toNat := (Int.toNat_of_nonneg h1).symm
        unfold inZ
        rw [em, and_nat (by omega)]
        rfl
      generalize hz : l[j] = z at *
      refine ok_go 0 ?_
      refine sy_test 0 ((l.take j).any fun z => inZ z x) (by kernel_rfl) ?_ ?_
      · intro hc
        refine ok_go 14 ?_
        exact sy_next 0 _ k (by kernel_rfl) (by kernel_rfl) (ih3 (j + 1) _ k ⟨hlt3, rfl⟩ (show l.length - (j + 1) < l.length - j by omega) ⟨by kernel_rfl, by kernel_rfl, by kernel_rfl, (by kernel_rfl : _ = Value.bool true).trans (by rw [hstep, hc]; rfl), (by kernel_rfl : _ = Value.int .i64 (IntKind.wrap .i64 (Int.ofNat (j + 1)))).trans (by rw [hwj]), trivial⟩)
      · intro hc
        refine ok_go 3 ?_
        refine sy_load 0 (h' := k) (by kernel_rfl) e4 ?_
        refine ok_go 3 ?_
        refine sy_load 0 (h' := k) (by kernel_rfl) e5 ?_
        refine ok_go 5 ?_
        refine sy_load 0 (h' := k) (by kernel_rfl) e4 ?_
        refine ok_go 3 ?_
        refine sy_load 0 (h' := k) (by kernel_rfl) e6 ?_
        refine ok_go 4 ?_
        exact sy_next 0 _ k (by kernel_rfl) (by kernel_rfl) (ih3 (j + 1) _ k ⟨hlt3, rfl⟩ (show l.length - (j + 1) < l.length - j by omega) ⟨by kernel_rfl, by kernel_rfl, by kernel_rfl, (by kernel_rfl : _ = Value.bool (andI (Int.ofNat x) z.1 == z.2)).trans (by rw [hstep, hc, hand, Bool.false_or]), (by kernel_rfl : _ = Value.int .i64 (IntKind.wrap .i64 (Int.ofNat (j + 1)))).trans (by rw [hwj]), trivial⟩)
    intro hlt3
    have hlt3 := no_nat hlt3
    rw [List.take_of_length_le hlt3]
    have A' := A.ext X
    refine ok_go 0 ?_
    refine sy_load 0 (h' := k) (by kernel_rfl) (idxB (b := b0) (c := c) hlt2) ?_
    refine sy_load 0 (h' := k) (by kernel_rfl) (A'.read hlt2) ?_
    refine ok_go 0 ?_
    have cov : ∀ {b : Bool}, (f x = true → b = true) → (l.any fun z => inZ z x) = b → ∀ y, y < x + 1 → f y = true → ∃ z ∈ l, inZ z y = true := fun {b} hb e y hy hf => by
      by_cases hyx : y = x
      · subst hyx
        have := hb hf
        rw [← e, List.any_eq_true] at this
        exact this
      · exact hcv y (by omega) hf
    refine sy_test 0 (f x) (by kernel_rfl) ?_ ?_
    · intro hf
      refine ok_go 3 ?_
      refine sy_test 0 (!(l.any fun z => inZ z x)) (by kernel_rfl) ?_ ?_
      · intro hc
        refine ok_go 0 ?_
        exact sy_done 0 (v := .bool false) (h := k) (by kernel_rfl) ⟨X, false, rfl, ⟨fun hh => (by cases hh), fun hh => by
          have := List.any_eq_true.2 (hh.2 x hlt2 hf)
          rw [this] at hc
          cases hc⟩⟩
      · intro hc
        have hc : (l.any fun z => inZ z x) = true := by simpa using hc
        refine ok_go 1 ?_
        exact sy_next 0 _ k (by kernel_rfl) (by kernel_rfl) (ih2 (x + 1) _ k ⟨hlt2, rfl, cov (fun _ => rfl) hc⟩ (show N - (x + 1) < N - x by omega) ⟨by kernel_rfl, by kernel_rfl, (by kernel_rfl : _ = Value.int .i64 (IntKind.wrap .i64 (Int.ofNat (x + 1)))).trans (by rw [hwx]), trivial⟩)
    · intro hf
      refine ok_go 4 ?_
      exact sy_next 0 _ k (by kernel_rfl) (by kernel_rfl) (ih2 (x + 1) _ k ⟨hlt2, rfl, cov (b := (l.any fun z => inZ z x)) (fun hh => by rw [hf] at hh; cases hh) rfl⟩ (show N - (x + 1) < N - x by omega) ⟨by kernel_rfl, by kernel_rfl, (by kernel_rfl : _ = Value.int .i64 (IntKind.wrap .i64 (Int.ofNat (x + 1)))).trans (by rw [hwx]), trivial⟩)
  intro hlt
  have hlt := ok_nat hlt
  have hwi : IntKind.wrap .i64 (Int.ofNat (i + 1)) = Int.ofNat (i + 1) := wrap_nat (by omega)
  obtain ⟨zb, zo, e1, e2, _, _⟩ := (R.ext X).two (List.getElem?_eq_getElem hlt)
  have hgi : l.getD i (0, 0) = l[i] := by simp [hlt]
  obtain ⟨_, w, e3, rfl, X3⟩ := im l[i] q (A.ext X)
  have X := X.trans X3
  obtain ⟨zb', zo', e4, _, e5, e6⟩ := (R.ext X).two (List.getElem?_eq_getElem hlt)
  generalize hz : l[i] = z at *
  have fail : ¬ good f N l i → h.Ext w ∧ ∃ b, Value.bool false = .bool b ∧ (b = true ↔ GdP f N l) := fun hn => ⟨X, false, rfl, by
    constructor
    · intro hh; cases hh
    · intro hh; exact absurd (hh.1 i hlt) hn⟩
  have next : good f N l i → i + 1 ≤ l.length ∧ h.Ext w ∧ ∀ j, j < i + 1 → good f N l j := fun hg => ⟨hlt, X, fun j hj => by
    by_cases hji : j = i
    · rw [hji]; exact hg
    · exact hgd j (by omega)⟩
  refine ok_go 0 ?_
  refine sy_load 0 (h' := q) (by kernel_rfl) e1 ?_
  refine sy_load 0 (h' := q) (by kernel_rfl) e2 ?_
  refine sy_call 0 (by kernel_rfl) e3 ?_
  refine ok_go 1 ?_
  refine sy_test 0 (!okp f N z) (by kernel_rfl) ?_ ?_
  · intro hc
    refine ok_go 5 ?_
    exact sy_done 0 (v := .bool false) (h := w) (by kernel_rfl) (fail fun hg => by
      have := hg.1
      rw [hgi] at this
      rw [this] at hc
      cases hc)
  intro hok
  have hok : okp f N z = true := by simpa using hok
  refine ok_go 3 ?_
  refine sy_test 0 (decide (Int.ofNat i > 0)) (by kernel_rfl) ?_ ?_
  rotate_left
  · intro h5
    have hi0 : i = 0 := by have := of_decide_eq_false h5; simp at this; omega
    refine ok_go 18 ?_
    exact sy_next 0 _ w (by kernel_rfl) (by kernel_rfl) (ih (i + 1) _ w (next ⟨by rw [hgi]; exact hok, fun hh => by omega⟩) (show l.length - (i + 1) < l.length - i by omega) ⟨by kernel_rfl, by kernel_rfl, (by kernel_rfl : _ = Value.int .i64 (IntKind.wrap .i64 (Int.ofNat (i + 1)))).trans (by rw [hwi]), trivial⟩)
  intro h5
  have hi0 : 0 < i := by have := of_decide_eq_true h5; simp at this; omega
  have hwm : IntKind.wrap .i64 (Int.ofNat i - 1) = Int.ofNat (i - 1) := wrap_sub (b := 1) hi0 (by omega)
  obtain ⟨yb, yo, r1, _, r2, r3⟩ := (R.ext X).two (List.getElem?_eq_getElem (show i - 1 < l.length by omega))
  have hgp : l.getD (i - 1) (0, 0) = l[i - 1] := by simp [show i - 1 < l.length by omega]
  generalize hy : l[i - 1] = y at *
  have hc2 := c2_ref y.1 y.2 z.1 z.2
  refine ok_go 4 ?_
  refine sy_load 0 (r := indexAddrOp Tryd.prog 27 (.slice va l.length vc) (.int .i64 (IntKind.wrap .i64 (Int.ofNat i - 1)))) (h' := w) (by kernel_rfl) (by rw [hwm]; exact r1) ?_
  refine ok_go 3 ?_
  refine sy_load 0 (h' := w) (by kernel_rfl) r2 ?_
  refine ok_go 3 ?_
  refine sy_load 0 (h' := w) (by kernel_rfl) e4 ?_
  refine ok_go 3 ?_
  refine sy_load 0 (h' := w) (by kernel_rfl) e5 ?_
  refine ok_go 3 ?_
  refine sy_test 0 (decide (y.1 > z.1)) (by kernel_rfl) ?_ ?_
  · intro hc
    refine ok_go 19 ?_
    exact sy_done 0 (v := .bool false) (h := w) (by kernel_rfl) (fail fun hg => by
      have := hg.2 hi0
      rw [hgi, hgp, hc2] at this
      exact this.1 (of_decide_eq_true hc))
  intro h6
  have h6 := of_decide_eq_false h6
  refine ok_go 4 ?_
  refine sy_load 0 (r := indexAddrOp Tryd.prog 27 (.slice va l.length vc) (.int .i64 (IntKind.wrap .i64 (Int.ofNat i - 1)))) (h' := w) (by kernel_rfl) (by rw [hwm]; exact r1) ?_
  refine ok_go 3 ?_
  refine sy_load 0 (h' := w) (by kernel_rfl) r2 ?_
  refine ok_go 3 ?_
  refine sy_load 0 (h' := w) (by kernel_rfl) e4 ?_
  refine ok_go 3 ?_
  refine sy_load 0 (h' := w) (by kernel_rfl) e5 ?_
  refine ok_go 3 ?_
  refine sy_test 0 (y.1 == z.1) (by kernel_rfl) ?_ ?_
  rotate_left
  · intro h7
    have h7 : y.1 ≠ z.1 := by simpa using h7
    refine ok_go 20 ?_
    exact sy_next 0 _ w (by kernel_rfl) (by kernel_rfl) (ih (i + 1) _ w (next ⟨by rw [hgi]; exact hok, fun _ => by rw [hgi, hgp, hc2]; exact ⟨h6, fun hh => absurd hh h7⟩⟩) (show l.length - (i + 1) < l.length - i by omega) ⟨by kernel_rfl, by kernel_rfl, (by kernel_rfl : _ = Value.int .i64 (IntKind.wrap .i64 (Int.ofNat (i + 1)))).trans (by rw [hwi]), trivial⟩)
  intro h7
  have h7 : y.1 = z.1 := by simpa using h7
  refine ok_go 4 ?_
  refine sy_load 0 (r := indexAddrOp Tryd.prog 27 (.slice va l.length vc) (.int .i64 (IntKind.wrap .i64 (Int.ofNat i - 1)))) (h' := w) (by kernel_rfl) (by rw [hwm]; exact r1) ?_
  refine ok_go 3 ?_
  refine sy_load 0 (h' := w) (by kernel_rfl) r3 ?_
  refine ok_go 3 ?_
  refine sy_load 0 (h' := w) (by kernel_rfl) e4 ?_
  refine ok_go 3 ?_
  refine sy_load 0 (h' := w) (by kernel_rfl) e6 ?_
  refine ok_go 9 ?_
  refine sy_test 0 (decide (y.2 ≥ z.2)) (by kernel_rfl) ?_ ?_
  · intro hc
    refine ok_go 0 ?_
    exact sy_done 0 (v := .bool false) (h := w) (by kernel_rfl) (fail fun hg => by
      have := hg.2 hi0
      rw [hgi, hgp, hc2] at this
      exact this.2 h7 (of_decide_eq_true hc))
  · intro h8
    have h8 := of_decide_eq_false h8
    refine ok_go 1 ?_
    exact sy_next 0 _ w (by kernel_rfl) (by kernel_rfl) (ih (i + 1) _ w (next ⟨by rw [hgi]; exact hok, fun _ => by rw [hgi, hgp, hc2]; exact ⟨h6, fun _ => h8⟩⟩) (show l.length - (i + 1) < l.length - i by omega) ⟨by kernel_rfl, by kernel_rfl, (by kernel_rfl : _ = Value.int .i64 (IntKind.wrap .i64 (Int.ofNat (i + 1)))).trans (by rw [hwi]), trivial⟩)
end Go.Proofs.YtnfboopfpkaeaaaDoor
namespace Go.Proofs.YtnfboopfpkaeaaaDoor
open Go Go.Eng Nim
set_option maxRecDepth 100000
set_option maxHeartbeats 4000000
theorem slz24 : SlTz Tryd.prog 24 4 1 := ⟨by kernel_rfl, by kernel_rfl, ⟨_, rfl, by kernel_rfl⟩, ⟨_, rfl, by kernel_rfl⟩, by decide⟩
theorem fs1_lt {f d : Nat → Bool} : ∀ (k x y : Nat), fs1 f d k x = some y → y < x + k
  | 0, x, y, h => by cases h
  | k + 1, x, y, h => by
    unfold fs1 at h
    split at h
    · cases h; omega
    · have := fs1_lt k (x + 1) y h; omega
theorem flat_map : ∀ L : List (Nat × Nat), flatZ (L.map fun p => (Int.ofNat p.1, Int.ofNat p.2)) = flat2 L
  | [] => rfl
  | p :: r => by simp only [List.map_cons, flatZ, flat2, flat_map r]
theorem Sl2.rz {h : Hp} {e : TypeId} {v : Value} {L : List (Nat × Nat)} (H : Sl2 h e v L) : RdZ h v (L.map fun p => (Int.ofNat p.1, Int.ofNat p.2)) := by
  obtain ⟨i, rfl, K⟩ := H
  cases L with
  | nil => exact .inl ⟨rfl, none, 0, rfl⟩
  | cons p r =>
    obtain ⟨h1, h2⟩ := K (i, .cells (flat2 (p :: r)) e true) (List.mem_singleton.2 rfl)
    refine .inr ⟨i, 0, 2 * (r.length + 1) + 1, by rw [List.length_map]; rfl, by simp, h1, ?_⟩
    rw [flat_map, List.length_map, ← flat2_len]
    unfold loadN
    rw [h2]
    exact takeN_all _
theorem oent_ne {i : Nat} {e : TypeId} {zs : List Value} (h : 0 < zs.length) : oent i e zs = [(i, .cells zs e true)] := by
  cases zs with
  | nil => simp at h
  | cons v r => rfl
theorem don_app (sm : List (Nat × Nat)) (p : Nat × Nat) (x : Nat) : don (sm ++ [p]) x = (don sm x || inP p x) := by
  unfold don
  rw [List.any_append]
  simp
theorem rcov_of (f : Nat → Bool) (N : Nat) (hN : N ≤ 64) (hN0 : 0 < N) (lf m : Nat) (hlf : 5000 ≤ lf) (b0 c bd cd n : Nat) (hn : n < 64) (l : Value) (L sm : List (Nat × Nat)) (hL : L.length ≤ 4200) (hsm : ∀ p ∈ L, p.1 < 64 ∧ p.2 < 64) (d : Nat → Bool) (h : Hp) (A : ArB b0 N f h) (B : ArB bd N d h) (hd : ∀ x, x < N → d x = don sm x) (K : Sl2 h 23 l L)
    (rc : ∀ n', n = n' + 1 → ∀ sm' bd' cd' d' h', ArB b0 N f h' → ArB bd' N d' h' → (∀ x, x < N → d' x = don sm' x) → Sl2 h' 23 l L → ∃ y h'', Ev lf m 37 [.slice (some ⟨b0, 0, none⟩) N c, l, .slice (some ⟨bd', 0, none⟩) N cd', J n'] h' = some (y, h'') ∧ y = .bool (srch f N L n' sm').isSome ∧ h'.Ext h'') :
    ∃ y h', Ev lf (m + 1) 37 [.slice (some ⟨b0, 0, none⟩) N c, l, .slice (some ⟨bd, 0, none⟩) N cd, J n] h = some (y, h') ∧ y = .bool (srch f N L n sm).isSome ∧ h.Ext h' := by
  refine fnS_ok (Q := fun y h' => y = .bool (srch f N L n sm).isSome ∧ h.Ext h') ?_
  obtain ⟨la, lc, rfl⟩ := K.open_.shape
  refine ok_go 0 ?_
  refine sy_loop 0 lf h (α := Nat) (fun x => [(0, .slice (some ⟨b0, 0, none⟩) N c), (1, .slice la L.length lc), (2, .slice (some ⟨bd, 0, none⟩) N cd), (3, J n), (9, J x)]) (fun x g => x ≤ N ∧ g = h ∧ fs1 f (don sm) N 0 = fs1 f (don sm) (N - x) x) (fun x _ => N - x) 0 (by kernel_rfl) (by kernel_rfl)
    ⟨by kernel_rfl, by kernel_rfl, by kernel_rfl, by kernel_rfl, by kernel_rfl, trivial⟩ (show N - 0 < lf by omega) ⟨Nat.zero_le _, rfl, rfl⟩ ?_
  rintro m1 x f1 g ⟨hx, rfl, hfs⟩ ih
  have hwx : IntKind.wrap .i64 (Int.ofNat (x + 1)) = Int.ofNat (x + 1) := wrap_nat (by omega)
  refine ok_go 2 ?_
  refine sy_test 0 (decide (Int.ofNat x < Int.ofNat N)) (by kernel_rfl) ?_ ?_
  rotate_left
  · intro hlt
    have hlt := no_nat hlt
    obtain rfl : x = N := by omega
    rw [Nat.sub_self] at hfs
    have hs : srch f x L n sm = some sm := by
      have : fs1 f (don sm) x 0 = none := hfs
      cases n with
      | zero => rw [srch, this]
      | succ n => rw [srch, this]
    refine ok_go 9 ?_
    refine sy_yes 0 (b := Int.ofNat x == Int.ofNat x) (by kernel_rfl) (beq_self_eq_true _) ?_
    refine ok_go 0 ?_
    exact sy_done 0 (v := .bool true) (h := g) (by kernel_rfl) ⟨by rw [hs]; rfl, Hp.Ext.refl g⟩
  intro hlt
  have hlt := ok_nat hlt
  have hdx := hd x hlt
  have hfs2 := hfs
  rw [show N - x = (N - (x + 1)) + 1 by omega, fs1] at hfs2
  refine ok_go 2 ?_
  refine sy_load 0 (h' := g) (by kernel_rfl) (idxB (b := bd) (c := cd) hlt) ?_
  refine ok_go 1 ?_
  refine sy_load 0 (h' := g) (by kernel_rfl) (B.read hlt) ?_
  refine ok_go 1 ?_
  refine sy_test 0 (d x) (by kernel_rfl) ?_ ?_
  · intro hc
    rw [← hdx, hc, Bool.not_true, Bool.and_false, if_neg (by decide)] at hfs2
    refine ok_go 9 ?_
    exact sy_next 0 _ g (by kernel_rfl) (by kernel_rfl) (ih (x + 1) _ g ⟨hlt, rfl, hfs2⟩ (show N - (x + 1) < N - x by omega) ⟨by kernel_rfl, by kernel_rfl, by kernel_rfl, by kernel_rfl, (by kernel_rfl : _ = Value.int .i64 (IntKind.wrap .i64 (Int.ofNat (x + 1)))).trans (by rw [hwx]), trivial⟩)
  intro hdf
  refine ok_go 2 ?_
  refine sy_load 0 (h' := g) (by kernel_rfl) (idxB (b := b0) (c := c) hlt) ?_
  refine ok_go 1 ?_
  refine sy_load 0 (h' := g) (by kernel_rfl) (A.read hlt) ?_
  refine ok_go 5 ?_
  rw [← hdx, hdf, Bool.not_false, Bool.and_true] at hfs2
  refine sy_test 0 (!f x) (by kernel_rfl) ?_ ?_
  · intro hc
    have hc : f x = false := by simpa using hc
    rw [hc, if_neg (by decide)] at hfs2
    refine ok_go 1 ?_
    exact sy_next 0 _ g (by kernel_rfl) (by kernel_rfl) (ih (x + 1) _ g ⟨hlt, rfl, hfs2⟩ (show N - (x + 1) < N - x by omega) ⟨by kernel_rfl, by kernel_rfl, by kernel_rfl, by kernel_rfl, (by kernel_rfl : _ = Value.int .i64 (IntKind.wrap .i64 (Int.ofNat (x + 1)))).trans (by rw [hwx]), trivial⟩)
  intro hc
  have hc : f x = true := by simpa using hc
  rw [hc, if_pos rfl] at hfs2
  refine ok_go 2 ?_
  refine sy_no 0 (b := Int.ofNat x == Int.ofNat N) (by kernel_rfl) (by rw [eq_int]; simp; omega) ?_
  have hn0 : (Int.ofNat n == 0) = (n == 0) := eq_int n 0
  refine ok_go 1 ?_
  refine sy_test 0 (Int.ofNat n == 0) (by kernel_rfl) ?_ ?_
  · intro h0
    rw [hn0] at h0
    obtain rfl : n = 0 := by simpa using h0
    refine ok_go 0 ?_
    refine sy_done 0 (v := .bool false) (h := g) (by kernel_rfl) ⟨?_, Hp.Ext.refl g⟩
    rw [srch, hfs2]; rfl
  intro h0
  rw [hn0] at h0
  have hnz : n ≠ 0 := by simpa using h0
  obtain ⟨n', rfl⟩ : ∃ n', n = n' + 1 := ⟨n - 1, by omega⟩
  have hwn : IntKind.wrap .i64 (Int.ofNat (n' + 1) - 1) = Int.ofNat n' := wrap_sub (b := 1) (by omega) (by omega)
  have hsr : srch f N L (n' + 1) sm = L.findSome? fun p => if inP p x then srch f N L n' (sm ++ [p]) else none := by rw [srch, hfs2]
  rw [hsr]
  have hand : ∀ (y : Nat), y < 64 → ∀ p : Nat × Nat, (andI (Int.ofNat y) (Int.ofNat p.1) == Int.ofNat p.2) = inP p y := fun y hy p => by rw [and_nat (by omega), eq_int]; rfl
  have hand2 : ∀ p : Nat × Nat, (andI (Int.ofNat x) (Int.ofNat p.1) != Int.ofNat p.2) = !inP p x := fun p => by rw [and_nat (by omega), ne_int]; rfl
  refine ok_go 0 ?_
  refine sy_loop 0 lf g (α := Nat) (fun k => [(0, .slice (some ⟨b0, 0, none⟩) N c), (1, .slice la L.length lc), (2, .slice (some ⟨bd, 0, none⟩) N cd), (3, J (n' + 1)), (9, J x), (10, J k)])
    (fun k q => k ≤ L.length ∧ g.Ext q ∧ (L.findSome? fun p => if inP p x then srch f N L n' (sm ++ [p]) else none) = ((L.drop k).findSome? fun p => if inP p x then srch f N L n' (sm ++ [p]) else none)) (fun k _ => L.length - k) 0 (by kernel_rfl) (by kernel_rfl)
    ⟨by kernel_rfl, by kernel_rfl, by kernel_rfl, by kernel_rfl, by kernel_rfl, by kernel_rfl, trivial⟩ (show L.length - 0 < lf by omega) ⟨Nat.zero_le _, Hp.Ext.refl g, rfl⟩ ?_
  rintro m2 k f2 q ⟨hk, X, hff⟩ ih2
  have hwk : IntKind.wrap .i64 (Int.ofNat (k + 1)) = Int.ofNat (k + 1) := wrap_nat (by omega)
  refine ok_go 2 ?_
  refine sy_test 0 (decide (Int.ofNat k < Int.ofNat L.length)) (by kernel_rfl) ?_ ?_
  rotate_left
  · intro hlt2
    have hlt2 := no_nat hlt2
    obtain rfl : k = L.length := by omega
    rw [List.drop_length] at hff
    refine ok_go 0 ?_
    exact sy_done 0 (v := .bool false) (h := q) (by kernel_rfl) ⟨by rw [hff]; rfl, X⟩
  intro hlt2
  have hlt2 := ok_nat hlt2
  obtain ⟨zb, zo, e1, _, e2, e3⟩ := ((K.ext X).rz).two (k := k) (p := (Int.ofNat L[k].1, Int.ofNat L[k].2)) (by rw [List.getElem?_map, List.getElem?_eq_getElem hlt2]; rfl)
  have hskip := find_skip (r := fun p => if inP p x then srch f N L n' (sm ++ [p]) else none) hlt2
  have hhit := fun res => find_hit (r := fun p => if inP p x then srch f N L n' (sm ++ [p]) else none) (res := res) hlt2
  have hp2 := hand2 L[k]
  have hp1 := fun y hy => hand y hy L[k]
  generalize hp : L[k] = p at *
  refine ok_go 0 ?_
  refine sy_load 0 (h' := q) (by kernel_rfl) e1 ?_
  refine ok_go 1 ?_
  refine sy_load 0 (h' := q) (by kernel_rfl) e2 ?_
  refine ok_go 1 ?_
  refine sy_load 0 (h' := q) (by kernel_rfl) e1 ?_
  refine ok_go 1 ?_
  refine sy_load 0 (h' := q) (by kernel_rfl) e3 ?_
  refine ok_go 1 ?_
  refine sy_test 0 (andI (Int.ofNat x) (Int.ofNat p.1) != Int.ofNat p.2) (by kernel_rfl) ?_ ?_
  · intro hc2
    rw [hp2] at hc2
    have hin : inP p x = false := by simpa using hc2
    refine ok_go 1 ?_
    exact sy_next 0 _ q (by kernel_rfl) (by kernel_rfl) (ih2 (k + 1) _ q ⟨hlt2, X, hff.trans (hskip (by rw [hin]; rfl))⟩ (show L.length - (k + 1) < L.length - k by omega) ⟨by kernel_rfl, by kernel_rfl, by kernel_rfl, by kernel_rfl, by kernel_rfl, (by kernel_rfl : _ = Value.int .i64 (IntKind.wrap .i64 (Int.ofNat (k + 1)))).trans (by rw [hwk]), trivial⟩)
  intro hc2
  rw [hp2] at hc2
  have hin : inP p x = true := by simpa using hc2
  rw [if_pos hin] at hskip hhit
  refine ok_go 0 ?_
  refine sy_loop 0 lf q (α := Nat × Value) (fun s => [(0, .slice (some ⟨b0, 0, none⟩) N c), (1, .slice la L.length lc), (2, .slice (some ⟨bd, 0, none⟩) N cd), (3, J (n' + 1)), (9, J x), (10, J k), (11, s.2), (12, J s.1)])
    (fun s r => s.1 ≤ N ∧ ∃ i, s.2 = oslV i s.1 ∧ Sto q r ([] ++ oent i 4 (cellsF s.1 fun y => .bool (d y || inP p y)))) (fun s _ => N - s.1) (0, .slice none 0 0) (by kernel_rfl) (by kernel_rfl)
    ⟨by kernel_rfl, by kernel_rfl, by kernel_rfl, by kernel_rfl, by kernel_rfl, by kernel_rfl, by kernel_rfl, by kernel_rfl, trivial⟩ (show N - 0 < lf by omega) ⟨Nat.zero_le _, 0, rfl, Sto.start q⟩ ?_
  rintro m3 ⟨y, sl⟩ f3 r ⟨hy, i, hsl, W⟩ ih3
  simp only at hy hsl W
  refine ok_go 2 ?_
  refine sy_test 0 (decide (Int.ofNat y < Int.ofNat N)) (by kernel_rfl) ?_ ?_
  rotate_left
  · intro hlt3
    have hlt3 := no_nat hlt3
    obtain rfl : y = N := by omega
    obtain ⟨ya, yc, rfl⟩ : ∃ ya yc, sl = .slice (some ⟨ya, 0, none⟩) y yc := by
      rw [hsl]
      cases y with
      | zero => omega
      | succ y => exact ⟨_, _, rfl⟩
    rw [List.nil_append, oent_ne (by rw [cellsF_len]; omega)] at W
    obtain rfl : ya = i := by
      cases y with
      | zero => omega
      | succ y => cases hsl; rfl
    have AN : ArB ya y (fun y => d y || inP p y) r := ⟨W.lt 0 rfl, true, W.get 0 rfl⟩
    have X3 := X.trans W.ext
    obtain ⟨_, r2, e9, rfl, X9⟩ := rc n' rfl (sm ++ [p]) ya yc (fun y => d y || inP p y) r (A.ext X3) AN (fun x hx => by rw [don_app, hd x hx]) (K.ext X3)
    refine ok_go 1 ?_
    refine sy_call 0 (r := Ev lf m 37 [.slice (some ⟨b0, 0, none⟩) y c, .slice la L.length lc, .slice (some ⟨ya, 0, none⟩) y yc, .int .i64 (IntKind.wrap .i64 (Int.ofNat (n' + 1) - 1))] r) (by kernel_rfl) (by rw [hwn]; exact e9) ?_
    refine ok_go 0 ?_
    refine sy_test 0 ((srch f y L n' (sm ++ [p])).isSome) (by kernel_rfl) ?_ ?_
    · intro ht
      obtain ⟨res, hres⟩ := Option.isSome_iff_exists.1 ht
      refine ok_go 0 ?_
      exact sy_done 0 (v := .bool true) (h := r2) (by kernel_rfl) ⟨by rw [hff, hhit res hres]; rfl, X3.trans X9⟩
    · intro ht
      have hno : srch f y L n' (sm ++ [p]) = none := by simpa using ht
      refine ok_go 1 ?_
      exact sy_next 0 _ r2 (by kernel_rfl) (by kernel_rfl) (ih2 (k + 1) _ r2 ⟨hlt2, X3.trans X9, hff.trans (hskip hno)⟩ (show L.length - (k + 1) < L.length - k by omega) ⟨by kernel_rfl, by kernel_rfl, by kernel_rfl, by kernel_rfl, by kernel_rfl, (by kernel_rfl : _ = Value.int .i64 (IntKind.wrap .i64 (Int.ofNat (k + 1)))).trans (by rw [hwk]), trivial⟩)
  intro hlt3
  have hlt3 := ok_nat hlt3
  have hwy : IntKind.wrap .i64 (Int.ofNat (y + 1)) = Int.ofNat (y + 1) := wrap_nat (by omega)
  have hpy := hp1 y (by omega)
  have BW := (B.ext X).ext W.ext
  obtain ⟨zb2, zo2, u1, _, u2, u3⟩ := (((K.ext X).ext W.ext).rz).two (k := k) (p := (Int.ofNat p.1, Int.ofNat p.2)) (by rw [List.getElem?_map, List.getElem?_eq_getElem hlt2, hp]; rfl)
  refine ok_go 0 ?_
  refine sy_load 0 (h' := r) (by kernel_rfl) (idxB (b := bd) (c := cd) hlt3) ?_
  refine ok_go 0 ?_
  refine sy_load 0 (h' := r) (by kernel_rfl) (BW.read hlt3) ?_
  refine ok_go 0 ?_
  refine sy_test 0 (d y) (by kernel_rfl) ?_ ?_
  · intro hdy
    refine ow_new 13 W (AObj.cells [Value.bool true] 4 false) (fun q => Value.slice (some { block := q, off := 0 }) 1 2) (by kernel_rfl) fun z1 nz1 Wz1 => ?_
    have W := Wz1
    refine ow_app 0 W slz24 (zs := cellsF y fun y => .bool (d y || inP p y)) (c := y) (new := [.bool true]) (by rw [cellsF_len, Nat.mul_one]) rfl rfl (by omega) ((by kernel_rfl : _ = appendOp Tryd.prog z1 24 sl (.slice (some ⟨r.next, 0, none⟩) 1 2)).trans (by rw [hsl])) fun q4 sl' nq4 hsl' hsc W => ?_
    rw [show ([.bool true] : List Value) = [.bool (d y || inP p y)] by rw [hdy, Bool.true_or], ← cellsF_succ (fun y => Value.bool (d y || inP p y)) y] at W
    refine ok_go 1 ?_
    exact sy_next 0 _ q4 (by kernel_rfl) (by kernel_rfl) (ih3 (y + 1, sl') _ q4 ⟨hlt3, z1.next, hsl', W⟩ (show N - (y + 1) < N - y by omega) ⟨by kernel_rfl, by kernel_rfl, by kernel_rfl, by kernel_rfl, by kernel_rfl, by kernel_rfl, by kernel_rfl, (by kernel_rfl : _ = Value.int .i64 (IntKind.wrap .i64 (Int.ofNat (y + 1)))).trans (by rw [hwy]), trivial⟩)
  intro hdy
  refine ok_go 3 ?_
  refine sy_load 0 (h' := r) (by kernel_rfl) u1 ?_
  refine ok_go 3 ?_
  refine sy_load 0 (h' := r) (by kernel_rfl) u2 ?_
  refine ok_go 5 ?_
  refine sy_load 0 (h' := r) (by kernel_rfl) u1 ?_
  refine ok_go 3 ?_
  refine sy_load 0 (h' := r) (by kernel_rfl) u3 ?_
  refine ow_new 3 W (AObj.cells [Value.bool (IntKind.wrap IntKind.i64 ↑(BitVec.toNat (BitVec.ofInt (IntKind.bits IntKind.i64) (Int.ofNat (Prod.fst (y, sl))) &&& BitVec.ofInt (IntKind.bits IntKind.i64) (Prod.fst (Int.ofNat (Prod.fst p), Int.ofNat (Prod.snd p))))) == Prod.snd (Int.ofNat (Prod.fst p), Int.ofNat (Prod.snd p)))] 4 false) (fun q => Value.slice (some { block := q, off := 0 }) 1 2) (by kernel_rfl) fun z1 nz1 Wz1 => ?_
  have W := Wz1
  refine ow_app 0 W slz24 (zs := cellsF y fun y => .bool (d y || inP p y)) (c := y) (new := [.bool (andI (Int.ofNat y) (Int.ofNat p.1) == Int.ofNat p.2)]) (by rw [cellsF_len, Nat.mul_one]) rfl rfl (by omega) ((by kernel_rfl : _ = appendOp Tryd.prog z1 24 sl (.slice (some ⟨r.next, 0, none⟩) 1 2)).trans (by rw [hsl])) fun q4 sl' nq4 hsl' hsc W => ?_
  rw [show ([.bool (andI (Int.ofNat y) (Int.ofNat p.1) == Int.ofNat p.2)] : List Value) = [.bool (d y || inP p y)] by rw [hpy, hdy, Bool.false_or], ← cellsF_succ (fun y => Value.bool (d y || inP p y)) y] at W
  refine ok_go 1 ?_
  exact sy_next 0 _ q4 (by kernel_rfl) (by kernel_rfl) (ih3 (y + 1, sl') _ q4 ⟨hlt3, z1.next, hsl', W⟩ (show N - (y + 1) < N - y by omega) ⟨by kernel_rfl, by kernel_rfl, by kernel_rfl, by kernel_rfl, by kernel_rfl, by kernel_rfl, by kernel_rfl, (by kernel_rfl : _ = Value.int .i64 (IntKind.wrap .i64 (Int.ofNat (y + 1)))).trans (by rw [hwy]), trivial⟩)
end Go.Proofs.YtnfboopfpkaeaaaDoor
namespace Go.Proofs.YtnfboopfpkaeaaaDoor
open Go Go.Eng Nim
set_option maxRecDepth 100000
set_option maxHeartbeats 4000000
theorem rcov_all (f : Nat → Bool) (N : Nat) (hN : N ≤ 64) (hN0 : 0 < N) (b0 c : Nat) (l : Value) (L : List (Nat × Nat)) (hL : L.length ≤ 4200) (hsm : ∀ p ∈ L, p.1 < 64 ∧ p.2 < 64) : ∀ (n k : Nat) (sm : List (Nat × Nat)) (bd cd : Nat) (d : Nat → Bool) (h : Hp), n ≤ 12 → ArB b0 N f h → ArB bd N d h → (∀ x, x < N → d x = don sm x) → Sl2 h 23 l L →
    ∃ y h', Ev 100000 (n + k + 1) 37 [.slice (some ⟨b0, 0, none⟩) N c, l, .slice (some ⟨bd, 0, none⟩) N cd, J n] h = some (y, h') ∧ y = .bool (srch f N L n sm).isSome ∧ h.Ext h' := by
  intro n
  induction n with
  | zero =>
    intro k sm bd cd d h hn A B hd K
    exact rcov_of f N hN hN0 100000 (0 + k) (by decide) b0 c bd cd 0 (by decide) l L sm hL hsm d h A B hd K fun n' e => by omega
  | succ n ih =>
    intro k sm bd cd d h hn A B hd K
    have e4 : n + 1 + k + 1 = n + k + 1 + 1 := by omega
    rw [e4]
    refine rcov_of f N hN hN0 100000 (n + k + 1) (by decide) b0 c bd cd (n + 1) (by omega) l L sm hL hsm d h A B hd K fun n' e sm' bd' cd' d' h' A' B' hd' K' => ?_
    obtain rfl : n = n' := by omega
    exact ih k sm' bd' cd' d' h' (by omega) A' B' hd' K'
theorem fewest_of (f : Nat → Bool) (N : Nat) (hN : N ≤ 64) (lf m : Nat) (hlf : 5000 ≤ lf) (b0 c : Nat) (h : Hp) (A : ArB b0 N f h) (L : List (Nat × Nat)) (n0 : Nat) (hn0 : n0 ≤ 12) (hres : (srch f N L n0 []).isSome = true) (hmin : ∀ n, n < n0 → srch f N L n [] = none)
    (rp : ∀ h, ArB b0 N f h → ∃ v h', Ev lf m 11 [.slice (some ⟨b0, 0, none⟩) N c] h = some (v, h') ∧ OpenP h' 23 v L ∧ h.Ext h')
    (co : ∀ n bd cd d l h, n ≤ 12 → ArB b0 N f h → ArB bd N d h → (∀ x, x < N → d x = don [] x) → Sl2 h 23 l L → ∃ y h', Ev lf m 37 [.slice (some ⟨b0, 0, none⟩) N c, l, .slice (some ⟨bd, 0, none⟩) N cd, J n] h = some (y, h') ∧ y = .bool (srch f N L n []).isSome ∧ h.Ext h') :
    ∃ y h', Ev lf (m + 1) 16 [.slice (some ⟨b0, 0, none⟩) N c] h = some (y, h') ∧ y = J n0 ∧ h.Ext h' := by
  refine fnS_ok (Q := fun y h' => y = J n0 ∧ h.Ext h') ?_
  obtain ⟨l, h2, e2, O2, X2⟩ := rp h A
  have S2 := Sl2.of O2
  refine ok_go 0 ?_
  refine sy_call 0 (by kernel_rfl) e2 ?_
  refine ok_go 0 ?_
  refine sy_loop 0 lf h2 (α := Nat) (fun n => [(0, .slice (some ⟨b0, 0, none⟩) N c), (3, l), (4, J n)]) (fun n g => n ≤ n0 ∧ h.Ext g ∧ h2.Ext g) (fun n _ => n0 - n) 0 (by kernel_rfl) (by kernel_rfl)
    ⟨by kernel_rfl, by kernel_rfl, by kernel_rfl, trivial⟩ (show n0 - 0 < lf by omega) ⟨Nat.zero_le _, X2, Hp.Ext.refl h2⟩ ?_
  rintro m1 n f1 q ⟨hn, X, Y⟩ ih
  have hwn : IntKind.wrap .i64 (Int.ofNat (n + 1)) = Int.ofNat (n + 1) := wrap_nat (by omega)
  have W := Sto.start q
  refine ok_go 1 ?_
  refine ow_new 0 W (.cells (cellsF N fun _ => .bool false) 4 false) (fun q => .slice (some ⟨q, 0, none⟩) N (2 * N)) ((by kernel_rfl : _ = makeSliceOp Tryd.prog q 24 (J N) (J N)).trans (by rw [← zeros_one]; exact makeSl (z := .bool false) (inf := (Tryd.prog.info? 4).get!) uB (by kernel_rfl) (by kernel_rfl) (by kernel_rfl) (by kernel_rfl) (by kernel_rfl) (by omega))) fun g2 ng2 W => ?_
  have AN : ArB q.next N (fun _ => false) g2 := ⟨W.lt 0 rfl, false, W.get 0 rfl⟩
  obtain ⟨_, q2, e3, rfl, X3⟩ := co n q.next (2 * N) (fun _ => false) l g2 (by omega) (A.ext (X.trans W.ext)) AN (fun _ _ => rfl) (S2.ext (Y.trans W.ext))
  have X4 := (X.trans W.ext).trans X3
  have Y4 := (Y.trans W.ext).trans X3
  refine ok_go 0 ?_
  refine sy_call 0 (by kernel_rfl) e3 ?_
  rcases Nat.lt_or_ge n n0 with hlt | hge
  · rw [hmin n hlt]
    refine ok_go 3 ?_
    exact sy_next 0 _ q2 (by kernel_rfl) (by kernel_rfl) (ih (n + 1) _ q2 ⟨hlt, X4, Y4⟩ (show n0 - (n + 1) < n0 - n by omega) ⟨by kernel_rfl, by kernel_rfl, (by kernel_rfl : _ = Value.int .i64 (IntKind.wrap .i64 (Int.ofNat (n + 1)))).trans (by rw [hwn]), trivial⟩)
  · obtain rfl : n = n0 := by omega
    rw [hres]
    refine ok_go 2 ?_
    exact sy_done 0 (v := J n) (h := q2) (by kernel_rfl) ⟨rfl, X4⟩
end Go.Proofs.YtnfboopfpkaeaaaDoor
