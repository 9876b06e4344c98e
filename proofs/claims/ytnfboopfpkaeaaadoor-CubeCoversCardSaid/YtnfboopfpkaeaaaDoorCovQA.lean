/- The first twin: contracts of the program and of the reference, and their law. -/
import Derived.Test.YtnfboopfpkaeaaaDoorProg
import Derived.KernelRfl
import Derived.Test.YtnfboopfpkaeaaaDoorSyF
import Derived.Test.YtnfboopfpkaeaaaDoorPrimQB
namespace Go.Proofs.YtnfboopfpkaeaaaDoor
open Go Go.Eng Nim
set_option maxRecDepth 100000
set_option maxHeartbeats 4000000
theorem idxI {b N c v : Nat} (hv : v < N) : indexAddrOp Tryd.prog 72 (.slice (some ⟨b, 0, none⟩) N c) (J v) = some (ptr b v) := by
  rw [idxSl uI zI hv, Nat.zero_add, Nat.mul_one]
theorem slI : SlT Tryd.prog 72 3 := ⟨by kernel_rfl, by kernel_rfl, ⟨_, rfl, by kernel_rfl⟩, ⟨_, rfl, by kernel_rfl⟩⟩
theorem u64_nat {a : Nat} (h : a < 2 ^ 64) : IntKind.wrap .u64 (Int.ofNat a) = Int.ofNat a := by
  show (Int.ofNat a) % 2 ^ 64 = _
  exact Int.emod_eq_of_lt (Int.natCast_nonneg a) (by show (a : Int) < _; omega)
/-- The place of a number in a list, from i on; -1 if it is not there. -/
def ixL (v : Nat) : Nat → List Nat → Int
  | _, [] => -1
  | i, a :: l => if v = a then Int.ofNat i else ixL v (i + 1) l
theorem ixL_in (v : Nat) : ∀ (l : List Nat) (i : Nat), decide (ixL v i l ≥ 0) = l.contains v
  | [], i => rfl
  | a :: l, i => by
    rw [ixL, List.contains_cons]
    by_cases h : v = a
    · rw [if_pos h]
      have : (v == a) = true := beq_iff_eq.2 h
      rw [this, Bool.true_or]
      exact decide_eq_true (by show (0 : Int) ≤ (i : Int); omega)
    · rw [if_neg h, beq_eq_false_iff_ne.2 h, Bool.false_or]
      exact ixL_in v l (i + 1)
theorem index_of (ps : List Nat) (v : Nat) (lf m : Nat) (hlf : 300 ≤ lf) (hps : ps.length ≤ 16) (a : Option Addr) (c : Nat) (h : Hp) (R : Rds h (.slice a ps.length c) (ps.map J)) :
    Ev lf (m + 1) 85 [.slice a ps.length c, J v] h = some (I (ixL v 0 ps), h) := by
  refine fn_eq ?_
  refine ok_go 1 ?_
  refine sy_loop 0 lf h (α := Nat) (fun i => [(0, .slice a ps.length c), (1, J v), (7, J ps.length), (8, J i)]) (fun i g => i ≤ ps.length ∧ g = h ∧ ixL v 0 ps = ixL v i (ps.drop i)) (fun i _ => ps.length - i) 0 (by kernel_rfl) (by kernel_rfl) ⟨by kernel_rfl, by kernel_rfl, by kernel_rfl, by kernel_rfl, trivial⟩ (show ps.length - 0 < lf by omega) ⟨Nat.zero_le _, rfl, by rw [List.drop_zero]⟩ ?_
  rintro m1 i f1 g ⟨hi, rfl, hx⟩ ih
  refine ok_go 1 ?_
  refine sy_test 0 (decide (Int.ofNat i < Int.ofNat ps.length)) (by kernel_rfl) ?_ ?_
  · intro hlt
    have hlt := ok_nat hlt
    have hwi : IntKind.wrap .i64 (Int.ofNat (i + 1)) = Int.ofNat (i + 1) := wrap_nat (by omega)
    obtain ⟨q, e1, e2⟩ := R.read (P := Tryd.prog) (k := i) (kd := .i64) (v := J ps[i]) slI.u slI.s agI (by rw [List.getElem?_map, List.getElem?_eq_getElem hlt]; rfl)
    rw [List.drop_eq_getElem_cons hlt, ixL] at hx
    refine ok_go 0 ?_
    refine sy_load 0 (r := indexAddrOp Tryd.prog 72 (.slice a ps.length c) (J i)) (h' := g) (by kernel_rfl) e1 ?_
    refine ok_go 0 ?_
    refine sy_load 0 (r := loadT Tryd.prog g 3 q) (h' := g) (by kernel_rfl) e2 ?_
    refine ok_go 1 ?_
    refine sy_test 0 (Int.ofNat v == Int.ofNat ps[i]) (by kernel_rfl) ?_ ?_
    · intro he
      have he : v = ps[i] := by rw [eq_int] at he; exact eq_of_beq he
      rw [if_pos he] at hx
      refine ok_go 0 ?_
      exact sy_done 0 (v := J i) (h := g) (by kernel_rfl) ⟨by rw [hx], rfl⟩
    · intro he
      have he : v ≠ ps[i] := by rw [eq_int] at he; exact beq_eq_false_iff_ne.1 he
      rw [if_neg he] at hx
      refine ok_go 1 ?_
      exact sy_next 0 _ g (by kernel_rfl) (by kernel_rfl) (ih (i + 1) _ g ⟨hlt, rfl, hx⟩ (show ps.length - (i + 1) < ps.length - i by omega) ⟨by kernel_rfl, by kernel_rfl, by kernel_rfl, (by kernel_rfl : _ = Value.int .i64 (IntKind.wrap .i64 (Int.ofNat (i + 1)))).trans (by rw [hwi]), trivial⟩)
  · intro hlt
    have hlt := no_nat hlt
    obtain rfl : i = ps.length := by omega
    rw [List.drop_length] at hx
    refine ok_go 0 ?_
    exact sy_done 0 (v := I (-1)) (h := g) (by kernel_rfl) ⟨by rw [hx]; rfl, rfl⟩
theorem contains_of (ps : List Nat) (v : Nat) (lf m : Nat) (hlf : 300 ≤ lf) (hps : ps.length ≤ 16) (a : Option Addr) (c : Nat) (h : Hp) (R : Rds h (.slice a ps.length c) (ps.map J)) :
    Ev lf (m + 2) 71 [.slice a ps.length c, J v] h = some (.bool (ps.contains v), h) := by
  have e := index_of ps v lf m hlf hps a c h R
  refine fn_eq ?_
  refine ok_go 0 ?_
  refine sy_call 0 (by kernel_rfl) e ?_
  refine ok_go 1 ?_
  exact sy_done 0 (v := .bool (ps.contains v)) (h := h) (by rw [← ixL_in v ps 0]; kernel_rfl) ⟨rfl, rfl⟩
theorem orders_of (lf m n : Nat) (h : Hp) : Ev lf (m + 1) 40 [J n] h = some (.func (.func 69) #[] #[ptr h.next 0], h.new (.cells [J n] 3 false)) := by
  refine fn_eq ?_
  refine ok_go 2 ?_
  exact sy_done 0 (v := .func (.func 69) #[] #[ptr h.next 0]) (h := h.new (.cells [J n] 3 false)) (by kernel_rfl) ⟨rfl, rfl⟩
/-- What fill has: the list, its room, how many numbers, who is told, itself. -/
structure Fil (n L B N Y F Yl : Nat) (p : List Nat) (h : Hp) : Prop where
  lt : L < h.next ∧ B < h.next ∧ N < h.next ∧ Y < h.next ∧ F < h.next
  ne : L ≠ B ∧ L ≠ N ∧ L ≠ Y ∧ L ≠ F ∧ B ≠ N ∧ B ≠ Y ∧ B ≠ F
  gl : h.get L = some (.cells [.slice (some ⟨B, 0, none⟩) p.length (2 * n)] 72 false)
  gb : ∃ r, p.length + r.length = n ∧ h.get B = some (.cells (p.map J ++ r) 3 false)
  gn : h.get N = some (.cells [J n] 3 false)
  gy : h.get Y = some (.cells [.func (.yield Yl) #[] #[]] 109 false)
  gf : h.get F = some (.cells [.func (.func 70) #[] #[ptr L 0, ptr N 0, ptr Y 0, ptr F 0]] 37 false)
/-- The permutations that go on from a list. -/
def pf (n : Nat) : Nat → List Nat → List (List Nat)
  | 0, p => [p]
  | d + 1, p => (List.range n).flatMap fun i => if p.contains i = true then [] else pf n d (p ++ [i])
theorem Fil.ext {n L B N Y F Yl : Nat} {p : List Nat} {h g : Hp} (K : Fil n L B N Y F Yl p h) (X : h.Ext g) : Fil n L B N Y F Yl p g := by
  obtain ⟨⟨l1, l2, l3, l4, l5⟩, ne, gl, ⟨r, r1, r2⟩, gn, gy, gf⟩ := K
  have hn := X.next
  exact ⟨⟨by omega, by omega, by omega, by omega, by omega⟩, ne, by rw [X.get _ l1]; exact gl, ⟨r, r1, by rw [X.get _ l2]; exact r2⟩, by rw [X.get _ l3]; exact gn, by rw [X.get _ l4]; exact gy, by rw [X.get _ l5]; exact gf⟩
theorem takeN_left : ∀ (l r : List Value), takeN l.length (l ++ r) = some l
  | [], r => rfl
  | v :: l, r => by simp only [List.length_cons, List.cons_append, takeN, takeN_left l r]
theorem append_in {h : Hp} {B k n x : Nat} {cs : List Value} {o : Bool} {v : Value} (hv : scalar v = true) (hk : k < n) (hn : n ≤ 16) (hc : cs.length = n) (hb : h.get B = some (.cells cs 3 o)) (hx : h.get x = some (.cells [v] 3 false)) :
    appendOp Tryd.prog h 72 (.slice (some ⟨B, 0, none⟩) k (2 * n)) (.slice (some ⟨x, 0, none⟩) 1 2) = some (.slice (some ⟨B, 0, none⟩) (k + 1) (2 * n), h.put B (.cells (cs.set k v) 3 o)) := by
  obtain ⟨inf, hi1, hi2⟩ := slI.i
  obtain ⟨z, hz1, hz2⟩ := slI.z
  have hel : elems h 1 1 (.slice (some ⟨x, 0, none⟩) 1 2) = some [v] := by
    simp only [elems, loadN, hx, List.drop_zero, takeN]
  have hall : [v].all scalar = true := by simp [hv]
  have h1 : Nat.ble (k + 1) most = true := Nat.ble_eq_true_of_le (by unfold most; omega)
  have h2 : Nat.ble (k + 1) (2 * n / 2) = true := Nat.ble_eq_true_of_le (by omega)
  have h3 : Nat.ble (0 + k * 1 + [v].length) cs.length = true := Nat.ble_eq_true_of_le (by simp; omega)
  simp only [appendOp, slI.u, slI.s, hi1, hz1, lenV, hel, hz2, hi2, hall, h1, h2, storeN, hb, h3]
  rw [Nat.zero_add, Nat.mul_one, splice1 (by omega)]
theorem cut_in {B k n : Nat} (hk : k < n) (z : Int) (hz : z = Int.ofNat k) : sliceOp Tryd.prog 72 (.slice (some ⟨B, 0, none⟩) (k + 1) (2 * n)) none (some (.int .i64 z)) none = some (.slice (some ⟨B, 0, none⟩) k (2 * n)) := by
  subst hz
  have h1 : Nat.ble k n = true := Nat.ble_eq_true_of_le (by omega)
  have h2 : Nat.beq n 0 = false := by cases e : Nat.beq n 0 with | false => rfl | true => have := Nat.eq_of_beq_eq_true e; omega
  have h0 : Nat.ble 0 n = true := Nat.ble_eq_true_of_le (Nat.zero_le _)
  have h3 : 2 * n / 2 = n := by omega
  have h4 : 2 * n % 2 = 0 := by omega
  have h5 : Nat.ble 0 k = true := Nat.ble_eq_true_of_le (Nat.zero_le _)
  simp only [sliceOp, slI.u, slI.s, h3, h4]
  simp only [sliceV, bound, natOf, h1, h0, h2, h5, Option.isSome_none, Bool.not_false, Bool.and_true, Bool.false_eq_true, if_false]
  rfl
theorem fill_of (n : Nat) (hn : n ≤ 4) (lf m : Nat) (hlf : 300 ≤ lf) (L B N Y F Yl : Nat) (Inv : List (List Nat) → Hp → Prop)
    (st : ∀ done g g', Inv done g → g.next ≤ g'.next → (∀ j, j < g.next → j ≠ L → j ≠ B → g'.get j = g.get j) → Inv done g')
    (hy : ∀ done p g, Inv done g → Fil n L B N Y F Yl p g → p.length = n → (∀ x ∈ p, x < n) → ∃ g', evInv Tryd.prog orc lf (m + 2) (.yield Yl [.slice (some ⟨B, 0, none⟩) n (2 * n)]) g = some (.bool true, g') ∧ Inv (done ++ [p]) g' ∧ Fil n L B N Y F Yl p g') :
    ∀ d p done h, p.length + d = n → (∀ x ∈ p, x < n) → Inv done h → Fil n L B N Y F Yl p h → ∃ v h', Ev lf (m + d + 3) 70 [ptr L 0, ptr N 0, ptr Y 0, ptr F 0] h = some (v, h') ∧ v = .bool true ∧ Inv (done ++ pf n d p) h' ∧ Fil n L B N Y F Yl p h'
  | 0, p, done, h, hd, hp', hI, K => by
    refine fnS_ok (Q := fun v h' => v = .bool true ∧ Inv (done ++ pf n 0 p) h' ∧ Fil n L B N Y F Yl p h') ?_
    have hp : p.length = n := by omega
    obtain ⟨g', e, I', K'⟩ := hy done p h hI K hp hp'
    obtain ⟨⟨l1, l2, l3, l4, l5⟩, ⟨n1, n2, n3', n4, n5, n6, n7⟩, gl, gb, gn, gy, gf⟩ := K
    rw [hp] at gl
    refine ok_go 0 ?_
    refine sy_load 0 (r := loadT Tryd.prog h 72 (ptr L 0)) (h' := h) (by kernel_rfl) (load1 (by kernel_rfl) gl rfl) ?_
    refine ok_go 1 ?_
    refine sy_load 0 (r := loadT Tryd.prog h 3 (ptr N 0)) (h' := h) (by kernel_rfl) (load1 agI gn rfl) ?_
    refine ok_go 1 ?_
    refine sy_yes 0 (b := Int.ofNat n == Int.ofNat n) (by kernel_rfl) (beq_self_eq_true _) ?_
    refine ok_go 0 ?_
    refine sy_load 0 (r := loadT Tryd.prog h 109 (ptr Y 0)) (h' := h) (by kernel_rfl) (load1 (by kernel_rfl) gy rfl) ?_
    refine ok_go 0 ?_
    refine sy_load 0 (r := loadT Tryd.prog h 72 (ptr L 0)) (h' := h) (by kernel_rfl) (load1 (by kernel_rfl) gl rfl) ?_
    refine ok_go 0 ?_
    refine sy_call 0 (by kernel_rfl) e ?_
    refine ok_go 0 ?_
    exact sy_done 0 (v := .bool true) (h := g') (by kernel_rfl) ⟨rfl, I', K'⟩
  | d + 1, p, done, h, hd, hp', hI, K => by
    have rc := fill_of n hn lf m hlf L B N Y F Yl Inv st hy d
    refine fnS_ok (Q := fun v h' => v = .bool true ∧ Inv (done ++ pf n (d + 1) p) h' ∧ Fil n L B N Y F Yl p h') ?_
    have K0 := K
    obtain ⟨⟨l1, l2, l3, l4, l5⟩, ⟨n1, n2, n3', n4, n5, n6, n7⟩, gl, gb, gn, gy, gf⟩ := K
    refine ok_go 0 ?_
    refine sy_load 0 (r := loadT Tryd.prog h 72 (ptr L 0)) (h' := h) (by kernel_rfl) (load1 (by kernel_rfl) gl rfl) ?_
    refine ok_go 1 ?_
    refine sy_load 0 (r := loadT Tryd.prog h 3 (ptr N 0)) (h' := h) (by kernel_rfl) (load1 agI gn rfl) ?_
    refine ok_go 1 ?_
    refine sy_no 0 (b := Int.ofNat p.length == Int.ofNat n) (by kernel_rfl) (by rw [eq_int]; exact beq_eq_false_iff_ne.2 (by omega)) ?_
    refine ok_go 0 ?_
    refine sy_load 0 (r := loadT Tryd.prog h 3 (ptr N 0)) (h' := h) (by kernel_rfl) (load1 agI gn rfl) ?_
    refine ok_go 0 ?_
    refine sy_loop 0 lf h (α := Nat) (fun i => [(0, ptr L 0), (1, ptr N 0), (2, ptr Y 0), (3, ptr F 0), (13, J n), (14, J i)]) (fun i g => i ≤ n ∧ Inv (done ++ (List.range i).flatMap fun i => if p.contains i = true then [] else pf n d (p ++ [i])) g ∧ Fil n L B N Y F Yl p g) (fun i _ => n - i) 0 (by kernel_rfl) (by kernel_rfl) ⟨by kernel_rfl, by kernel_rfl, by kernel_rfl, by kernel_rfl, by kernel_rfl, by kernel_rfl, trivial⟩ (show n - 0 < lf by omega) ⟨Nat.zero_le _, by rw [List.range_zero, List.flatMap_nil, List.append_nil]; exact hI, K0⟩ ?_
    clear gl gb gn gy gf K0 hI l1 l2 l3 l4 l5
    rintro m1 i f1 g ⟨hi, hI, K⟩ ih
    have K0 := K
    obtain ⟨⟨l1, l2, l3, l4, l5⟩, -, gl, ⟨r, r1, r2⟩, gn, gy, gf⟩ := K
    refine ok_go 1 ?_
    refine sy_test 0 (decide (Int.ofNat i < Int.ofNat n)) (by kernel_rfl) ?_ ?_
    · intro hlt
      have hlt := ok_nat hlt
      have hwi : IntKind.wrap .i64 (Int.ofNat (i + 1)) = Int.ofNat (i + 1) := wrap_nat (by omega)
      have R : Rds g (.slice (some ⟨B, 0, none⟩) p.length (2 * n)) (p.map J) := .inr ⟨B, 0, 2 * n, by rw [List.length_map], fun _ => ⟨l2, by
        unfold loadN
        rw [r2]
        exact takeN_left _ _⟩⟩
      have ec := contains_of p i lf (m + d + 1) hlf (by omega) (some ⟨B, 0, none⟩) (2 * n) g R
      refine ok_go 0 ?_
      refine sy_load 0 (r := loadT Tryd.prog g 72 (ptr L 0)) (h' := g) (by kernel_rfl) (load1 (by kernel_rfl) gl rfl) ?_
      refine ok_go 0 ?_
      refine sy_call 0 (by kernel_rfl) ec ?_
      refine ok_go 0 ?_
      refine sy_test 0 (p.contains i) (by kernel_rfl) ?_ ?_
      · intro hc
        refine ok_go 1 ?_
        exact sy_next 0 _ g (by kernel_rfl) (by kernel_rfl) (ih (i + 1) _ g ⟨hlt, by rw [List.range_succ, List.flatMap_append, List.flatMap_singleton, if_pos hc, List.append_nil]; exact hI, K0⟩ (show n - (i + 1) < n - i by omega) ⟨by kernel_rfl, by kernel_rfl, by kernel_rfl, by kernel_rfl, by kernel_rfl, (by kernel_rfl : _ = Value.int .i64 (IntKind.wrap .i64 (Int.ofNat (i + 1)))).trans (by rw [hwi]), trivial⟩)
      · intro hc
        obtain ⟨a, r', rfl⟩ : ∃ a r', r = a :: r' := by
          cases r with
          | nil => simp at r1; omega
          | cons a r' => exact ⟨a, r', rfl⟩
        have hlen : (p.map J ++ a :: r').length = n := by rw [List.length_append, List.length_map]; exact r1
        have hset : (p.map J ++ a :: r').set p.length (J i) = (p ++ [i]).map J ++ r' := by
          rw [show p.length = (p.map J).length from (List.length_map ..).symm, List.set_append_right _ _ (Nat.le_refl _), Nat.sub_self, List.set_cons_zero, List.map_append, List.append_assoc]
          rfl
        let g1 : Hp := g.new (.cells [J i] 3 false)
        let g2 : Hp := g1.put B (.cells ((p ++ [i]).map J ++ r') 3 false)
        let g3 : Hp := g2.put L (.cells [.slice (some ⟨B, 0, none⟩) (p.length + 1) (2 * n)] 72 false)
        have o3 : ∀ j, j < g.next → j ≠ L → j ≠ B → g3.get j = g.get j := fun j hj h1 h2 => by
          rw [show g3.get j = g2.get j from Hp.get_put_ne h1, show g2.get j = g1.get j from Hp.get_put_ne h2]
          exact Hp.get_new_ne (by omega)
        have n3 : g3.next = g.next + 1 := rfl
        have gl1 : g1.get L = some (.cells [.slice (some ⟨B, 0, none⟩) p.length (2 * n)] 72 false) := (Hp.get_new_ne (by omega)).trans gl
        have gb1 : g1.get B = some (.cells (p.map J ++ a :: r') 3 false) := (Hp.get_new_ne (by omega)).trans r2
        have e2 : appendOp Tryd.prog g1 72 (.slice (some ⟨B, 0, none⟩) p.length (2 * n)) (.slice (some ⟨g.next, 0, none⟩) 1 2) = some (.slice (some ⟨B, 0, none⟩) (p.length + 1) (2 * n), g2) := by
          rw [append_in (v := J i) rfl (by omega) (by omega) hlen gb1 (get_new g _), hset]
        have gl2 : g2.get L = some (.cells [.slice (some ⟨B, 0, none⟩) p.length (2 * n)] 72 false) := (Hp.get_put_ne n1).trans gl1
        have gl3 : g3.get L = some (.cells [.slice (some ⟨B, 0, none⟩) (p.length + 1) (2 * n)] 72 false) := get_put _ _ _
        have gb3 : g3.get B = some (.cells ((p ++ [i]).map J ++ r') 3 false) := (Hp.get_put_ne (Ne.symm n1)).trans (get_put _ _ _)
        have gf3 : g3.get F = some (.cells [.func (.func 70) #[] #[ptr L 0, ptr N 0, ptr Y 0, ptr F 0]] 37 false) := by rw [o3 _ l5 (Ne.symm n4) (Ne.symm n7)]; exact gf
        have K3 : Fil n L B N Y F Yl (p ++ [i]) g3 := ⟨⟨by omega, by omega, by omega, by omega, by omega⟩, ⟨n1, n2, n3', n4, n5, n6, n7⟩, by rw [List.length_append]; exact gl3, ⟨r', by rw [List.length_append]; simp at r1 ⊢; omega, gb3⟩, by rw [o3 _ l3 (Ne.symm n2) (Ne.symm n5)]; exact gn, by rw [o3 _ l4 (Ne.symm n3') (Ne.symm n6)]; exact gy, gf3⟩
        obtain ⟨_, g4, e4, rfl, I4, K4⟩ := rc (p ++ [i]) _ g3 (by rw [List.length_append]; simp; omega) (fun x hx => (List.mem_append.1 hx).elim (hp' x) fun h => by rw [List.mem_singleton.1 h]; exact hlt) (st _ _ g3 hI (by omega) o3) K3
        obtain ⟨⟨m1', m2', m3', m4', m5'⟩, -, gl4, ⟨r4, r41, r42⟩, gn4, gy4, gf4⟩ := K4
        rw [List.length_append] at gl4
        let g5 : Hp := g4.put L (.cells [.slice (some ⟨B, 0, none⟩) p.length (2 * n)] 72 false)
        have o5 : ∀ j, j ≠ L → g5.get j = g4.get j := fun j hj => Hp.get_put_ne hj
        have K5 : Fil n L B N Y F Yl p g5 := ⟨⟨m1', m2', m3', m4', m5'⟩, ⟨n1, n2, n3', n4, n5, n6, n7⟩, get_put _ _ _, ⟨J i :: r4, by rw [List.length_append] at r41; simp at r41 ⊢; omega, by rw [o5 _ (Ne.symm n1), r42, List.map_append, List.append_assoc]; rfl⟩, by rw [o5 _ (Ne.symm n2)]; exact gn4, by rw [o5 _ (Ne.symm n3')]; exact gy4, by rw [o5 _ (Ne.symm n4)]; exact gf4⟩
        refine ok_go 0 ?_
        refine sy_load 0 (r := loadT Tryd.prog g 72 (ptr L 0)) (h' := g) (by kernel_rfl) (load1 (by kernel_rfl) gl rfl) ?_
        refine ok_go 1 ?_
        refine sy_call 0 (r := appendOp Tryd.prog g1 72 (.slice (some ⟨B, 0, none⟩) p.length (2 * n)) (.slice (some ⟨g.next, 0, none⟩) 1 2)) (v := .slice (some ⟨B, 0, none⟩) (p.length + 1) (2 * n)) (h' := g2) (by kernel_rfl) e2 ?_
        refine ok_go 0 ?_
        refine sy_store 0 (r := storeT Tryd.prog g2 72 (ptr L 0) (.slice (some ⟨B, 0, none⟩) (p.length + 1) (2 * n))) (h' := g3) (by kernel_rfl) (store1 (by kernel_rfl) rfl gl2 (show 0 < 1 by omega)) ?_
        refine ok_go 0 ?_
        refine sy_load 0 (r := loadT Tryd.prog g3 37 (ptr F 0)) (h' := g3) (by kernel_rfl) (load1 (by kernel_rfl) gf3 rfl) ?_
        refine ok_go 0 ?_
        refine sy_call 0 (by kernel_rfl) e4 ?_
        have hw1 : IntKind.i64.wrap (Int.ofNat (p.length + 1) - 1) = Int.ofNat p.length := by
          rw [show Int.ofNat (p.length + 1) - 1 = Int.ofNat p.length from by show ((p.length + 1 : Nat) : Int) - 1 = (p.length : Int); omega]
          exact wrap_nat (by omega)
        have hl4 : p.length + [i].length = p.length + 1 := rfl
        rw [hl4] at gl4
        refine ok_go 2 ?_
        refine sy_load 0 (r := loadT Tryd.prog g4 72 (ptr L 0)) (h' := g4) (by kernel_rfl) (load1 (by kernel_rfl) gl4 rfl) ?_
        refine ok_go 0 ?_
        refine sy_load 0 (r := loadT Tryd.prog g4 72 (ptr L 0)) (h' := g4) (by kernel_rfl) (load1 (by kernel_rfl) gl4 rfl) ?_
        refine ok_go 2 ?_
        refine sy_load 0 (r := sliceOp Tryd.prog 72 (.slice (some ⟨B, 0, none⟩) (p.length + 1) (2 * n)) none (some (.int .i64 (IntKind.i64.wrap (Int.ofNat (p.length + 1) - 1)))) none) (h' := g4) (by kernel_rfl) (cut_in (by omega) _ hw1) ?_
        refine ok_go 0 ?_
        refine sy_store 0 (r := storeT Tryd.prog g4 72 (ptr L 0) (.slice (some ⟨B, 0, none⟩) p.length (2 * n))) (h' := g5) (by kernel_rfl) (store1 (by kernel_rfl) rfl gl4 (show 0 < 1 by omega)) ?_
        refine ok_go 1 ?_
        exact sy_next 0 _ g5 (by kernel_rfl) (by kernel_rfl) (ih (i + 1) _ g5 ⟨hlt, by
          rw [List.range_succ, List.flatMap_append, List.flatMap_singleton, if_neg (by rw [hc]; decide), ← List.append_assoc]
          exact st _ g4 g5 I4 (Nat.le_refl _) fun j _ hj _ => o5 j hj, K5⟩ (show n - (i + 1) < n - i by omega) ⟨by kernel_rfl, by kernel_rfl, by kernel_rfl, by kernel_rfl, by kernel_rfl, (by kernel_rfl : _ = Value.int .i64 (IntKind.wrap .i64 (Int.ofNat (i + 1)))).trans (by rw [hwi]), trivial⟩)
    · intro hlt
      have hlt := no_nat hlt
      obtain rfl : i = n := by omega
      refine ok_go 0 ?_
      exact sy_done 0 (v := .bool true) (h := g) (by kernel_rfl) ⟨rfl, hI, K0⟩
theorem makeSl2 {P : Program} {h : Hp} {t e : TypeId} {len cap : Nat} {z : Value} {inf : TypeInfo} {kd kd' : IntKind} (hu : P.underlying t = some (.slice e)) (hz : zeroOf P e = some z) (hi : P.info? e = some inf) (hb : Nat.ble inf.bytes 4096 = true)
    (hs : Nat.beq z.cells.size inf.size = true) (hsc : z.cells.toList.all scalar = true) (hl : len ≤ cap) (hn : cap < 16777216) :
    makeSliceOp P h t (.int kd (Int.ofNat len)) (.int kd' (Int.ofNat cap)) = some (.slice (some ⟨h.next, 0, none⟩) len (2 * cap), h.new (.cells (zeros z.cells.toList cap) e false)) := by
  have h1 : Nat.ble len cap = true := Nat.ble_eq_true_of_le hl
  have h2 : Nat.ble cap most = true := Nat.ble_eq_true_of_le (by unfold most; omega)
  simp only [makeSliceOp, hu, natOf, hz, hi, h1, h2, hb, hs, hsc]
theorem orders_run (n : Nat) (hn : n ≤ 4) (lf m : Nat) (hlf : 300 ≤ lf) (N Yl : Nat) (h : Hp) (hN : N < h.next) (gN : h.get N = some (.cells [J n] 3 false)) (Inv : Nat → Nat → List (List Nat) → Hp → Prop)
    (st : ∀ L B done g g', h.next ≤ L → h.next ≤ B → Inv L B done g → g.next ≤ g'.next → (∀ j, j < g.next → j ≠ L → j ≠ B → g'.get j = g.get j) → Inv L B done g')
    (hy : ∀ L B Y F done p g, h.next ≤ L → h.next ≤ B → h.next ≤ Y → h.next ≤ F → Inv L B done g → Fil n L B N Y F Yl p g → p.length = n → (∀ x ∈ p, x < n) → ∃ g', evInv Tryd.prog orc lf (m + 2) (.yield Yl [.slice (some ⟨B, 0, none⟩) n (2 * n)]) g = some (.bool true, g') ∧ Inv L B (done ++ [p]) g' ∧ Fil n L B N Y F Yl p g')
    (h0 : ∀ L B g, h.next ≤ L → h.next ≤ B → h.Ext g → Inv L B [] g) :
    ∃ v h', Ev lf (m + n + 4) 69 [.func (.yield Yl) #[] #[], ptr N 0] h = some (v, h') ∧ ∃ L B, h.next ≤ L ∧ h.next ≤ B ∧ Inv L B (pf n n []) h' := by
  refine fnS_ok (n := m + n + 3) (Q := fun _ h' => ∃ L B, h.next ≤ L ∧ h.next ≤ B ∧ Inv L B (pf n n []) h') ?_
  refine ok_go 1 ?_
  refine sy_load 0 (r := loadT Tryd.prog (h.new (.cells [.func (.yield Yl) #[] #[]] 109 false)) 3 (ptr N 0)) (h' := h.new (.cells [.func (.yield Yl) #[] #[]] 109 false)) (by kernel_rfl) (load1 agI ((Hp.get_new_ne (by omega)).trans gN) rfl) ?_
  have uI : Tryd.prog.underlying 72 = some (.slice 3) := slI.u
  let h1 : Hp := h.new (.cells [.func (.yield Yl) #[] #[]] 109 false)
  let h2 : Hp := h1.new (.cells (zeros [J 0] n) 3 false)
  let h3 : Hp := h2.new (.cells [.slice none 0 0] 72 false)
  let h4 : Hp := h3.put (h.next + 2) (.cells [.slice (some ⟨h.next + 1, 0, none⟩) 0 (2 * n)] 72 false)
  have hmk : makeSliceOp Tryd.prog h1 72 (J 0) (J n) = some (.slice (some ⟨h.next + 1, 0, none⟩) 0 (2 * n), h2) :=
    makeSl2 (z := J 0) (inf := (Tryd.prog.info? 3).get!) slI.u (by kernel_rfl) (by kernel_rfl) (by kernel_rfl) (by kernel_rfl) (by kernel_rfl) (Nat.zero_le _) (by omega)
  refine ok_go 0 ?_
  refine sy_call 0 (r := makeSliceOp Tryd.prog h1 72 (J 0) (J n)) (v := .slice (some ⟨h.next + 1, 0, none⟩) 0 (2 * n)) (h' := h2) (by kernel_rfl) hmk ?_
  refine ok_go 1 ?_
  refine sy_store 0 (r := storeT Tryd.prog h3 72 (ptr (h.next + 2) 0) (.slice (some ⟨h.next + 1, 0, none⟩) 0 (2 * n))) (h' := h4) (by kernel_rfl) (store1 (by kernel_rfl) rfl (get_new h2 _) (show 0 < 1 by omega)) ?_
  let h5 : Hp := h4.new (.cells [.nilFunc] 37 false)
  let h6 : Hp := h5.put (h.next + 3) (.cells [.func (.func 70) #[] #[ptr (h.next + 2) 0, ptr N 0, ptr h.next 0, ptr (h.next + 3) 0]] 37 false)
  have n6 : h6.next = h.next + 4 := rfl
  refine ok_go 2 ?_
  refine sy_store 0 (r := storeT Tryd.prog h5 37 (ptr (h.next + 3) 0) (.func (.func 70) #[] #[ptr (h.next + 2) 0, ptr N 0, ptr h.next 0, ptr (h.next + 3) 0])) (h' := h6) (by kernel_rfl) (store1 (by kernel_rfl) rfl (get_new h4 _) (show 0 < 1 by omega)) ?_
  have g6 : ∀ j, j < h.next → h6.get j = h.get j := fun j hj => by
    simp only [h6, h5, h4, h3, h2, h1, gn, gp, nn, np]
    repeat (first | rw [if_pos (by omega)] | rw [if_neg (by omega)])
  have gB : h6.get (h.next + 1) = some (.cells (zeros [J 0] n) 3 false) := by
    simp only [h6, h5, h4, h3, h2, h1, gn, gp, nn, np, if_true]
    repeat (first | rw [if_pos (by omega)] | rw [if_neg (by omega)])
  have gY : h6.get h.next = some (.cells [.func (.yield Yl) #[] #[]] 109 false) := by
    simp only [h6, h5, h4, h3, h2, h1, gn, gp, nn, np, if_true]
    repeat (first | rw [if_pos (by omega)] | rw [if_neg (by omega)])
  have gL : h6.get (h.next + 2) = some (.cells [.slice (some ⟨h.next + 1, 0, none⟩) 0 (2 * n)] 72 false) := by
    simp only [h6, h5, h4, h3, h2, h1, gn, gp, nn, np, if_true]
    repeat (first | rw [if_pos (by omega)] | rw [if_neg (by omega)])
  have gF : h6.get (h.next + 3) = some (.cells [.func (.func 70) #[] #[ptr (h.next + 2) 0, ptr N 0, ptr h.next 0, ptr (h.next + 3) 0]] 37 false) := get_put _ _ _
  have K : Fil n (h.next + 2) (h.next + 1) N h.next (h.next + 3) Yl [] h6 := ⟨by omega, by omega, gL, ⟨zeros [J 0] n, by rcases (by omega : n = 0 ∨ n = 1 ∨ n = 2 ∨ n = 3 ∨ n = 4) with rfl | rfl | rfl | rfl | rfl <;> rfl, gB⟩, by rw [g6 _ hN]; exact gN, gY, gF⟩
  obtain ⟨_, h7, e7, rfl, I7, K7⟩ := fill_of n hn lf m hlf (h.next + 2) (h.next + 1) N h.next (h.next + 3) Yl (Inv (h.next + 2) (h.next + 1)) (fun done g g' => st _ _ done g g' (by omega) (by omega))
    (fun done p g hI K hp hp' => hy _ _ _ _ done p g (by omega) (by omega) (by omega) (by omega) hI K hp hp') n [] [] h6 (by simp) (fun x hx => absurd hx List.not_mem_nil) (h0 _ _ h6 (by omega) (by omega) ⟨by omega, g6⟩) K
  refine ok_go 0 ?_
  refine sy_load 0 (r := loadT Tryd.prog h6 37 (ptr (h.next + 3) 0)) (h' := h6) (by kernel_rfl) (load1 (by kernel_rfl) gF rfl) ?_
  refine ok_go 0 ?_
  refine sy_call 0 (by kernel_rfl) e7 ?_
  refine ok_go 0 ?_
  exact sy_done 0 (v := .tuple #[]) (h := h7) (by kernel_rfl) ⟨h.next + 2, h.next + 1, by omega, by omega, I7⟩
/-- Which of two tables is the less one, from i on. -/
def lxc (a b : Nat → Bool) : Nat → Nat → Int
  | 0, _ => 0
  | d + 1, i => if a i = b i then lxc a b d (i + 1) else if a i = true then 1 else -1
def bd (a b : Bool) : Int := (if a = true then 1 else 0) - (if b = true then 1 else 0)
theorem less2_of (a b : Bool) (m : Nat) (h : Hp) : Ev 100000 (m + 12) 42 [.bool a, .bool b] h = some (I (bd a b), h) := by
  cases a <;> cases b <;> kernel_rfl
theorem comp_of (lf m N : Nat) (hlf : 300 ≤ lf) (hN : N ≤ 16) (b1 c1 b2 c2 : Nat) (v w : Nat → Bool) (h : Hp) (A : ArB b1 N v h) (B : ArB b2 N w h) (le : ∀ a b h, Ev lf m 42 [.bool a, .bool b] h = some (I (bd a b), h)) :
    Ev lf (m + 1) 41 [.slice (some ⟨b1, 0, none⟩) N c1, .slice (some ⟨b2, 0, none⟩) N c2, .func (.func 42) #[] #[]] h = some (I (lxc v w N 0), h) := by
  refine fn_eq ?_
  refine ok_go 1 ?_
  refine sy_loop 0 lf h (α := Nat) (fun i => [(11, .slice (some ⟨b1, 0, none⟩) N c1), (1, .slice (some ⟨b2, 0, none⟩) N c2), (2, .func (.func 42) #[] #[]), (0, .slice (some ⟨b1, 0, none⟩) N c1), (12, J N), (13, J i)]) (fun i g => i ≤ N ∧ g = h ∧ lxc v w N 0 = lxc v w (N - i) i) (fun i _ => N - i) 0 (by kernel_rfl) (by kernel_rfl) ⟨by kernel_rfl, by kernel_rfl, by kernel_rfl, by kernel_rfl, by kernel_rfl, by kernel_rfl, trivial⟩ (show N - 0 < lf by omega) ⟨Nat.zero_le _, rfl, rfl⟩ ?_
  rintro m1 i f1 g ⟨hi, rfl, hx⟩ ih
  refine ok_go 1 ?_
  refine sy_test 0 (decide (Int.ofNat i < Int.ofNat N)) (by kernel_rfl) ?_ ?_
  · intro hlt
    have hlt := ok_nat hlt
    have hwi : IntKind.wrap .i64 (Int.ofNat (i + 1)) = Int.ofNat (i + 1) := wrap_nat (by omega)
    rw [show N - i = (N - (i + 1)) + 1 by omega, lxc] at hx
    refine ok_go 0 ?_
    refine sy_load 0 (r := indexAddrOp Tryd.prog 24 (.slice (some ⟨b1, 0, none⟩) N c1) (J i)) (h' := g) (by kernel_rfl) (idxB hlt) ?_
    refine ok_go 0 ?_
    refine sy_load 0 (r := loadT Tryd.prog g 4 (ptr b1 i)) (h' := g) (by kernel_rfl) (A.read hlt) ?_
    refine ok_go 2 ?_
    refine sy_no 0 (b := decide (Int.ofNat i ≥ Int.ofNat N)) (by kernel_rfl) (decide_eq_false (by show ¬ ((N : Int) ≤ (i : Int)); omega)) ?_
    refine ok_go 0 ?_
    refine sy_load 0 (r := indexAddrOp Tryd.prog 24 (.slice (some ⟨b2, 0, none⟩) N c2) (J i)) (h' := g) (by kernel_rfl) (idxB hlt) ?_
    refine ok_go 0 ?_
    refine sy_load 0 (r := loadT Tryd.prog g 4 (ptr b2 i)) (h' := g) (by kernel_rfl) (B.read hlt) ?_
    refine ok_go 0 ?_
    refine sy_call 0 (by kernel_rfl) (le (v i) (w i) g) ?_
    refine ok_go 1 ?_
    refine sy_test 0 (bd (v i) (w i) != 0) (by kernel_rfl) ?_ ?_
    · intro hc
      have hv : lxc v w N 0 = bd (v i) (w i) := by
        rw [hx]
        revert hc
        cases v i <;> cases w i <;> intro hc <;> first | rfl | exact absurd hc (by decide)
      refine ok_go 0 ?_
      exact sy_done 0 (v := I (bd (v i) (w i))) (h := g) (by kernel_rfl) ⟨by rw [hv], rfl⟩
    · intro hc
      have hv : v i = w i := by
        revert hc
        cases v i <;> cases w i <;> intro hc <;> first | rfl | exact absurd hc (by decide)
      rw [if_pos hv] at hx
      refine ok_go 1 ?_
      exact sy_next 0 _ g (by kernel_rfl) (by kernel_rfl) (ih (i + 1) _ g ⟨hlt, rfl, hx⟩ (show N - (i + 1) < N - i by omega) ⟨by kernel_rfl, by kernel_rfl, by kernel_rfl, by kernel_rfl, by kernel_rfl, (by kernel_rfl : _ = Value.int .i64 (IntKind.wrap .i64 (Int.ofNat (i + 1)))).trans (by rw [hwi]), trivial⟩)
  · intro hlt
    have hlt := no_nat hlt
    obtain rfl : i = N := by omega
    rw [Nat.sub_self] at hx
    refine ok_go 3 ?_
    refine sy_no 0 (b := decide (Int.ofNat i < Int.ofNat i)) (by kernel_rfl) (decide_eq_false (Int.lt_irrefl _)) ?_
    refine ok_go 0 ?_
    exact sy_done 0 (v := I 0) (h := g) (by kernel_rfl) ⟨by rw [hx]; rfl, rfl⟩
theorem few4_of (n : Nat) (hn : n ≤ 4) (lf m : Nat) (a : Option Addr) (c : Nat) (h : Hp) (ck : Ev lf m 20 [.slice a (2 ^ n) c] h = some (J 0, h)) : Ev lf (m + 1) 31 [.slice a (2 ^ n) c, J 4] h = some (J 0, h) := by
  have hp16 : 2 ^ n ≤ 16 := Nat.pow_le_pow_right (n := 2) (by decide) hn
  refine fn_eq ?_
  generalize hN : 2 ^ n = N at *
  refine ok_go 0 ?_
  refine sy_call 0 (by kernel_rfl) ck ?_
  refine ok_go 6 ?_
  refine sy_no 0 (b := decide (Int.ofNat N > 16)) (by kernel_rfl) (decide_eq_false (by show ¬ ((16 : Int) < (N : Int)); omega)) ?_
  refine ok_go 0 ?_
  exact sy_done 0 (v := J 0) (h := h) (by kernel_rfl) ⟨rfl, rfl⟩
/-- Where an input goes. -/
def yb (p : List Nat) (z : Nat) : Nat → Nat
  | 0 => 0
  | k + 1 => if z.testBit k = true then yb p z k ||| 2 ^ p.getD k 0 else yb p z k
/-- A table turned. -/
def tw (f : Nat → Bool) (p : List Nat) (m : Nat) (o : Bool) : Nat → Bool := fun x => f (yb p (x ^^^ m) p.length) != o
/-- The less of two tables. -/
def upd2 (N : Nat) (w u : Nat → Bool) : Nat → Bool := if lxc u w N 0 < 0 then u else w
def rk (f : Nat → Bool) (N : Nat) (p : List Nat) (m : Nat) : Nat → (Nat → Bool) → Nat → Bool
  | 0, w => w
  | k + 1, w => upd2 N (rk f N p m k w) (tw f p m (Nat.beq k 1))
def rd (f : Nat → Bool) (N : Nat) (p : List Nat) : Nat → (Nat → Bool) → Nat → Bool
  | 0, w => w
  | m + 1, w => rk f N p m 2 (rd f N p m w)
def best (f : Nat → Bool) (N : Nat) (ps : List (List Nat)) : Nat → Bool := ps.foldl (fun w p => rd f N p N w) f
/-- The first twin, by the program. -/
def twF (f : Nat → Bool) (n : Nat) : Nat → Bool := best f (2 ^ n) (pf n n [])
theorem perm_at {p : List Nat} {rr : List Value} {i : Nat} (h : i < p.length) : (p.map J ++ rr)[i]? = some (J (p.getD i 0)) := by
  rw [List.getElem?_append_left (by rw [List.length_map]; exact h), List.getElem?_map, List.getElem?_eq_getElem h]
  simp [List.getElem?_eq_getElem h]
theorem min_u (i : Nat) (hi : i < 64) : min (IntKind.u64.wrap (Int.ofNat i)).toNat IntKind.i64.bits = i := by
  rw [show IntKind.u64.wrap (Int.ofNat i) = Int.ofNat i from u64_nat (by omega)]
  show min i 64 = i
  omega
theorem bit_val (z i : Nat) : z / 2 ^ i &&& 1 = if z.testBit i = true then 1 else 0 := by
  rw [Nat.and_one_is_mod, Nat.testBit_eq_decide_div_mod_eq]
  by_cases h : z / 2 ^ i % 2 = 1
  · simp [h]
  · have : z / 2 ^ i % 2 = 0 := by omega
    simp [this]
theorem ybV {y x m i t : Nat} (hy : y < 16) (hx : x < 16) (hm : m < 16) (hi : i < 4) (ht : t < 4) :
    orI (Int.ofNat y) (IntKind.i64.wrap (andI ((xorI (Int.ofNat x) (Int.ofNat m)).fdiv (2 ^ min (IntKind.u64.wrap (Int.ofNat i)).toNat IntKind.i64.bits)) 1 * 2 ^ min (IntKind.u64.wrap (Int.ofNat t)).toNat IntKind.i64.bits)) = Int.ofNat (if (x ^^^ m).testBit i = true then y ||| 2 ^ t else y) := by
  have ht2 : 2 ^ t ≤ 2 ^ 3 := Nat.pow_le_pow_right (by decide) (by omega)
  have hz : x ^^^ m < 16 := Nat.xor_lt_two_pow (n := 4) hx hm
  have hd : (x ^^^ m) / 2 ^ i ≤ x ^^^ m := Nat.div_le_self _ _
  rw [min_u i (by omega), min_u t (by omega), xor_nat (by omega) (by omega)]
  rw [show (Int.ofNat (x ^^^ m)).fdiv (2 ^ i) = Int.ofNat ((x ^^^ m) / 2 ^ i) from shr_nat _ _]
  rw [show (1 : Int) = Int.ofNat 1 from rfl, and_nat (by omega), bit_val]
  split
  · rw [show IntKind.i64.wrap (Int.ofNat 1 * 2 ^ t) = Int.ofNat (1 * 2 ^ t) from Nim.shl_nat (by omega), Nat.one_mul, or_nat (by omega) (by omega)]
  · rw [show IntKind.i64.wrap (Int.ofNat 0 * 2 ^ t) = Int.ofNat (0 * 2 ^ t) from Nim.shl_nat (by omega), Nat.zero_mul, or_nat (by omega) (by omega), Nat.or_zero]
theorem getD_lt {p : List Nat} {n k : Nat} (hp : ∀ x ∈ p, x < n) (hk : k < p.length) : p.getD k 0 < n := by
  rw [List.getD_eq_getElem?_getD, List.getElem?_eq_getElem hk]
  exact hp _ (List.getElem_mem hk)
theorem yb_lt {p : List Nat} {n : Nat} (hp : ∀ x ∈ p, x < n) (z : Nat) : ∀ k, k ≤ p.length → yb p z k < 2 ^ n
  | 0, _ => Nat.two_pow_pos n
  | k + 1, hk => by
    have ih := yb_lt hp z k (by omega)
    rw [yb]
    split
    · exact or_small ih (Nat.pow_lt_pow_right (by decide) (getD_lt hp hk))
    · exact ih
theorem twin_of (f : Nat → Bool) (n : Nat) (hn : n ≤ 4) (lf m : Nat) (hlf : 300 ≤ lf) (b0 c : Nat) (h : Hp) (A : ArB b0 (2 ^ n) f h)
    (fe : ∀ h, Ev lf (m + n + 4) 31 [.slice (some ⟨b0, 0, none⟩) (2 ^ n) c, J 4] h = some (J 0, h))
    (sz : ∀ h, Ev lf (m + n + 4) 38 [J (2 ^ n)] h = some (.tuple #[J n, .bool true], h))
    (cl : ∀ v b c k h, ArB b (2 ^ n) v h → ∃ x h', Ev lf (k + 1) 39 [.slice (some ⟨b, 0, none⟩) (2 ^ n) c] h = some (x, h') ∧ ∃ b', x = .slice (some ⟨b', 0, none⟩) (2 ^ n) (2 * 2 ^ n + 1) ∧ h.next ≤ b' ∧ h.Ext h' ∧ ArB b' (2 ^ n) v h')
    (cp : ∀ b1 c1 b2 c2 v w h, ArB b1 (2 ^ n) v h → ArB b2 (2 ^ n) w h → Ev lf (m + 1) 41 [.slice (some ⟨b1, 0, none⟩) (2 ^ n) c1, .slice (some ⟨b2, 0, none⟩) (2 ^ n) c2, .func (.func 42) #[] #[]] h = some (I (lxc v w (2 ^ n) 0), h)) :
    ∃ v h', Ev lf (m + n + 5) 17 [.slice (some ⟨b0, 0, none⟩) (2 ^ n) c] h = some (v, h') ∧ ∃ b cb, v = .tuple #[.slice (some ⟨b, 0, none⟩) (2 ^ n) cb, J 0] ∧ h.next ≤ b ∧ h.Ext h' ∧ ArB b (2 ^ n) (twF f n) h' := by
  have hp16 : 2 ^ n ≤ 16 := Nat.pow_le_pow_right (n := 2) (by decide) hn
  have hp0 := Nat.two_pow_pos n
  refine fnS_ok (Q := fun v h' => ∃ b cb, v = .tuple #[.slice (some ⟨b, 0, none⟩) (2 ^ n) cb, J 0] ∧ h.next ≤ b ∧ h.Ext h' ∧ ArB b (2 ^ n) (twF f n) h') ?_
  let SL : Value := .slice (some ⟨b0, 0, none⟩) (2 ^ n) c
  let h1 : Hp := h.new (.cells [SL] 24 false)
  have X1 : h.Ext h1 := Hp.Ext.new h _
  have g1 : h1.get h.next = some (.cells [SL] 24 false) := get_new h _
  refine ok_go 1 ?_
  refine sy_load 0 (r := loadT Tryd.prog h1 24 (ptr h.next 0)) (h' := h1) (v := SL) (by kernel_rfl) (load1 (by kernel_rfl) g1 rfl) ?_
  refine ok_go 0 ?_
  refine sy_call 0 (by kernel_rfl) (fe h1) ?_
  refine ok_go 2 ?_
  refine sy_load 0 (r := loadT Tryd.prog h1 24 (ptr h.next 0)) (h' := h1) (v := SL) (by kernel_rfl) (load1 (by kernel_rfl) g1 rfl) ?_
  refine ok_go 1 ?_
  refine sy_call 0 (by kernel_rfl) (sz h1) ?_
  refine ok_go 2 ?_
  refine sy_load 0 (r := loadT Tryd.prog h1 24 (ptr h.next 0)) (h' := h1) (v := SL) (by kernel_rfl) (load1 (by kernel_rfl) g1 rfl) ?_
  obtain ⟨_, h2, e2, bb, rfl, hbb, X2, B2⟩ := cl f b0 c (m + n + 3) h1 (A.ext X1)
  have n12 := X2.next
  have n1 : h1.next = h.next + 1 := rfl
  refine ok_go 0 ?_
  refine sy_call 0 (by kernel_rfl) e2 ?_
  let h3 : Hp := (h2.new (.cells [.slice none 0 0] 24 false)).put h2.next (.cells [.slice (some ⟨bb, 0, none⟩) (2 ^ n) (2 * 2 ^ n + 1)] 24 false)
  refine ok_go 1 ?_
  refine sy_store 0 (r := storeT Tryd.prog (h2.new (.cells [.slice none 0 0] 24 false)) 24 (ptr h2.next 0) (.slice (some ⟨bb, 0, none⟩) (2 ^ n) (2 * 2 ^ n + 1))) (h' := h3) (by kernel_rfl) (store1 (by kernel_rfl) rfl (get_new h2 _) (show 0 < 1 by omega)) ?_
  have n3 : h3.next = h2.next + 1 := rfl
  have o3 : ∀ j, j < h2.next → h3.get j = h2.get j := fun j hj => by
    simp only [h3, gn, gp]
    repeat (first | rw [if_pos (by omega)] | rw [if_neg (by omega)])
  have g3 : h3.get h.next = some (.cells [SL] 24 false) := by rw [o3 _ (by omega), X2.get _ (by omega)]; exact g1
  let OS : Value := .slice (some ⟨h2.next + 1, 0, none⟩) (2 ^ n) (2 * 2 ^ n)
  let h4 : Hp := h3.new (.cells (zeros [.bool false] (2 ^ n)) 4 false)
  let h5 : Hp := (h4.new (.cells [.slice none 0 0] 24 false)).put (h2.next + 2) (.cells [OS] 24 false)
  let h6 : Hp := h5.new (.cells [J n] 3 false)
  have n6 : h6.next = h2.next + 4 := rfl
  refine ok_go 0 ?_
  refine sy_load 0 (r := loadT Tryd.prog h3 24 (ptr h.next 0)) (h' := h3) (v := SL) (by kernel_rfl) (load1 (by kernel_rfl) g3 rfl) ?_
  refine ok_go 1 ?_
  refine sy_call 0 (r := makeSliceOp Tryd.prog h3 24 (J (2 ^ n)) (J (2 ^ n))) (v := OS) (h' := h4) (by kernel_rfl) (makeSl (z := .bool false) (inf := (Tryd.prog.info? 4).get!) uB (by kernel_rfl) (by kernel_rfl) (by kernel_rfl) (by kernel_rfl) (by kernel_rfl) (by omega)) ?_
  refine ok_go 1 ?_
  refine sy_store 0 (r := storeT Tryd.prog (h4.new (.cells [.slice none 0 0] 24 false)) 24 (ptr (h2.next + 2) 0) OS) (h' := h5) (by kernel_rfl) (store1 (by kernel_rfl) rfl (get_new h4 _) (show 0 < 1 by omega)) ?_
  refine ok_go 1 ?_
  refine sy_range 0 (callF := evInv Tryd.prog orc lf (m + n + 4)) (P := Tryd.prog) (lf := lf) (m := 91) (rcOf Tryd.prog 17 0) h6 [(1, ptr h.next 0), (7, ptr h2.next 0), (8, ptr (h2.next + 2) 0)] 69 [.func (.yield (h6.next + 1)) #[] #[], ptr (h2.next + 3) 0]
    (by kernel_rfl) (fun F => by kernel_rfl) ⟨by kernel_rfl, by kernel_rfl, by kernel_rfl, trivial⟩ (by kernel_rfl) (by kernel_rfl) fun F1 f2' hr => ?_
  let HH : Hp := (rcOf Tryd.prog 17 0).heap F1 h6
  have nH : HH.next = h2.next + 6 := rfl
  have oH : ∀ j, j < h2.next → HH.get j = h2.get j := fun j hj => by
    simp only [HH, RC.heap, h6, h5, h4, h3, gn, gp, nn, np]
    repeat (first | rw [if_pos (by omega)] | rw [if_neg (by omega)])
  have HD : HH.get (h2.next + 4) = some (.defd false) := by
    simp only [HH, RC.heap, h6, h5, h4, h3, gn, gp, nn, np, if_true]
    repeat (first | rw [if_pos (by omega)] | rw [if_neg (by omega)])
  have HL : HH.get (h2.next + 5) = some ((rcOf Tryd.prog 17 0).obj F1 (h2.next + 4) .ready none) := get_new (h6.new _) _
  have HN : HH.get (h2.next + 3) = some (.cells [J n] 3 false) := by
    simp only [HH, RC.heap, h6, h5, h4, h3, gn, gp, nn, np, if_true]
    repeat (first | rw [if_pos (by omega)] | rw [if_neg (by omega)])
  have HO : HH.get (h2.next + 2) = some (.cells [OS] 24 false) := by
    simp only [HH, RC.heap, h6, h5, h4, h3, gn, gp, nn, np, if_true]
    repeat (first | rw [if_pos (by omega)] | rw [if_neg (by omega)])
  have HZ : HH.get (h2.next + 1) = some (.cells (zeros [.bool false] (2 ^ n)) 4 false) := by
    simp only [HH, RC.heap, h6, h5, h4, h3, gn, gp, nn, np, if_true]
    repeat (first | rw [if_pos (by omega)] | rw [if_neg (by omega)])
  have HB : HH.get h2.next = some (.cells [.slice (some ⟨bb, 0, none⟩) (2 ^ n) (2 * 2 ^ n + 1)] 24 false) := by
    simp only [HH, RC.heap, h6, h5, h4, h3, gn, gp, nn, np, if_true]
    repeat (first | rw [if_pos (by omega)] | rw [if_neg (by omega)])
  have HF : HH.get h.next = some (.cells [SL] 24 false) := by rw [oH _ (by omega), X2.get _ (by omega)]; exact g1
  let Inv : Nat → Nat → List (List Nat) → Hp → Prop := fun L B done r => ∃ b7 c7 u, Exc [h2.next, h2.next + 1, h2.next + 5] HH r ∧ r.get h2.next = some (.cells [.slice (some ⟨b7, 0, none⟩) (2 ^ n) c7] 24 false) ∧ ArB b7 (2 ^ n) (best f (2 ^ n) done) r ∧ h.next ≤ b7 ∧ b7 ≠ L ∧ b7 ≠ B ∧ b7 ≠ h2.next ∧ b7 ≠ h2.next + 1 ∧ b7 ≠ h2.next + 5 ∧ ArB (h2.next + 1) (2 ^ n) u r ∧ r.get (h2.next + 5) = some ((rcOf Tryd.prog 17 0).obj F1 (h2.next + 4) .ready none)
  have run := orders_run n hn lf m hlf (h2.next + 3) (h2.next + 5) HH (by omega) HN Inv ?_ ?_ ?_
  · obtain ⟨w, h7, ev, L, B, hL, hB, b7, c7, u, X7, g7, W7, w0, -, -, w3, w4, w5, -, L7⟩ := run
    refine ⟨w, h7, .ready, none, h2.next + 4, .normal, ev, L7, by decide, rfl, ?_⟩
    have n7 := X7.next
    let h8 : Hp := h7.put (h2.next + 5) ((rcOf Tryd.prog 17 0).obj F1 (h2.next + 4) .exhausted none)
    have P8 : ∀ j, j ≠ h2.next + 5 → h8.get j = h7.get j := fun j hj => Hp.get_put_ne hj
    have g8 : h8.get h2.next = some (.cells [.slice (some ⟨b7, 0, none⟩) (2 ^ n) c7] 24 false) := by rw [P8 _ (by omega)]; exact g7
    have n8 : h8.next = h7.next := rfl
    refine ok_go 0 ?_
    refine sy_load 0 (r := loadT Tryd.prog h8 24 (ptr h2.next 0)) (h' := h8) (v := .slice (some ⟨b7, 0, none⟩) (2 ^ n) c7) (by kernel_rfl) (load1 (by kernel_rfl) g8 rfl) ?_
    refine ok_go 0 ?_
    refine sy_marks 0 (h := h8) [h2.next + 4] (by kernel_rfl) (by simp) (fun d hd => ?_) fun h9 n9 o9 => ?_
    · have hd : d = h2.next + 4 := by simpa using hd
      subst hd
      rw [P8 _ (by omega), X7.get _ (by omega) (by simp)]; exact HD
    refine ok_go 0 ?_
    refine sy_done 0 (v := .tuple #[.slice (some ⟨b7, 0, none⟩) (2 ^ n) c7, J 0]) (h := h9) (by kernel_rfl) ⟨b7, c7, rfl, w0, ⟨by omega, fun j hj => ?_⟩, ?_⟩
    · rw [o9 j (by simp; omega), P8 j (by omega), X7.get j (by omega) (by simp; omega), oH j (by omega), X2.get j (by omega)]; exact X1.get j hj
    · obtain ⟨l, o, e⟩ := W7
      have hb7 : b7 ≠ h2.next + 4 := fun hc => by rw [hc, X7.get _ (by omega) (by simp), HD] at e; cases e
      exact ⟨by omega, o, by rw [o9 _ (by simpa using hb7), P8 _ w5]; exact e⟩
  · rintro L B done g g' hL hB ⟨b7, c7, u, Xr, r7, W, w0, w1, w2, w3, w4, w5, U, Lr⟩ hn' hg
    have nXr := Xr.next
    refine ⟨b7, c7, u, ⟨by omega, fun j hj hm' => by rw [hg j (by omega) (by omega) (by omega)]; exact Xr.get j hj hm'⟩, by rw [hg _ (by omega) (by omega) (by omega)]; exact r7, ?_, w0, w1, w2, w3, w4, w5, ?_, by rw [hg _ (by omega) (by omega) (by omega)]; exact Lr⟩
    · obtain ⟨l, o, e⟩ := W
      exact ⟨by omega, o, by rw [hg _ l w1 w2]; exact e⟩
    · obtain ⟨l, o, e⟩ := U
      exact ⟨by omega, o, by rw [hg _ l (by omega) (by omega)]; exact e⟩
  · rintro L B Y F done p g hL hB hY hF ⟨b7, c7, u, Xr, r7, W, w0, w1, w2, w3, w4, w5, U, Lr⟩ K hp hps
    have K0 := K
    obtain ⟨⟨k1, k2, k3, k4, k5⟩, -, -, ⟨rr, q1, q2⟩, -⟩ := K
    have key : ∃ w g', evInv Tryd.prog orc lf (m + 2) (.yield (h2.next + 5) [.slice (some ⟨B, 0, none⟩) n (2 * n)]) g = some (w, g') ∧ (w = .bool true ∧ Inv L B (done ++ [p]) g' ∧ Exc [h2.next, h2.next + 1, h2.next + 5] g g') := by
      refine yld_ok (c := rcOf Tryd.prog 17 0) (Q := fun w g' => w = .bool true ∧ Inv L B (done ++ [p]) g' ∧ Exc [h2.next, h2.next + 1, h2.next + 5] g g') hr Lr (by kernel_rfl) ?_
      refine ok_go 0 ?_
      refine sy_busy 0 (by kernel_rfl) Lr ?_
      have R' : ∀ j, j ≠ h2.next + 5 → (g.put (h2.next + 5) ((rcOf Tryd.prog 17 0).obj F1 (h2.next + 4) .busy none)).get j = g.get j := fun j hj => Hp.get_put_ne hj
      have Rl : (g.put (h2.next + 5) ((rcOf Tryd.prog 17 0).obj F1 (h2.next + 4) .busy none)).get (h2.next + 5) = some ((rcOf Tryd.prog 17 0).obj F1 (h2.next + 4) .busy none) := get_put _ _ _
      have nr' : (g.put (h2.next + 5) ((rcOf Tryd.prog 17 0).obj F1 (h2.next + 4) .busy none)).next = g.next := rfl
      generalize g.put (h2.next + 5) ((rcOf Tryd.prog 17 0).obj F1 (h2.next + 4) .busy none) = r' at R' Rl nr' ⊢
      have nXr := Xr.next
      have K : ∀ j, j < HH.next → j ≠ h2.next → j ≠ h2.next + 1 → j ≠ h2.next + 5 → r'.get j = HH.get j := fun j hj h1 h2 h3 => by rw [R' j h3]; exact Xr.get j hj (by simp; omega)
      have r1 : r'.get h.next = some (.cells [SL] 24 false) := (K _ (by omega) (by omega) (by omega) (by omega)).trans HF
      refine ok_go 0 ?_
      refine sy_load 0 (r := loadT Tryd.prog r' 24 (ptr h.next 0)) (h' := r') (v := SL) (by kernel_rfl) (load1 (by kernel_rfl) r1 rfl) ?_
      have rO : r'.get (h2.next + 2) = some (.cells [OS] 24 false) := (K _ (by omega) (by omega) (by omega) (by omega)).trans HO
      have r7' : r'.get h2.next = some (.cells [.slice (some ⟨b7, 0, none⟩) (2 ^ n) c7] 24 false) := by rw [R' _ (by omega)]; exact r7
      have W' : ArB b7 (2 ^ n) (best f (2 ^ n) done) r' := by obtain ⟨l, o, e⟩ := W; exact ⟨by omega, o, by rw [R' _ w5]; exact e⟩
      have U' : ArB (h2.next + 1) (2 ^ n) u r' := by obtain ⟨l, o, e⟩ := U; exact ⟨by omega, o, by rw [R' _ (by omega)]; exact e⟩
      have q2' : r'.get B = some (.cells (p.map J ++ rr) 3 false) := by rw [R' _ (by omega)]; exact q2
      refine ok_go 1 ?_
      refine sy_loop 0 lf r' (α := Nat × Nat × Nat × (Nat → Bool)) (fun s => [(1, ptr h.next 0), (7, ptr h2.next 0), (8, ptr (h2.next + 2) 0), (9, .slice (some ⟨B, 0, none⟩) n (2 * n)), (37, J (2 ^ n)), (38, J s.1)])
        (fun s q => s.1 ≤ 2 ^ n ∧ Exc [h2.next, h2.next + 1] r' q ∧ q.get h2.next = some (.cells [.slice (some ⟨s.2.1, 0, none⟩) (2 ^ n) s.2.2.1] 24 false) ∧ ArB s.2.1 (2 ^ n) (rd f (2 ^ n) p s.1 (best f (2 ^ n) done)) q ∧ (s.2.1 = b7 ∨ r'.next ≤ s.2.1) ∧ ArB (h2.next + 1) (2 ^ n) s.2.2.2 q) (fun s _ => 2 ^ n - s.1) (0, b7, c7, u) (by kernel_rfl) (by kernel_rfl)
        ⟨by kernel_rfl, by kernel_rfl, by kernel_rfl, by kernel_rfl, by kernel_rfl, by kernel_rfl, trivial⟩ (show 2 ^ n - 0 < lf by omega) ⟨Nat.zero_le _, ⟨Nat.le_refl _, fun _ _ _ => rfl⟩, r7', W', .inl rfl, U'⟩ ?_
      rintro m1 ⟨mm, b8, c8, u8⟩ f1 q ⟨hm, X8, q7, W8, v8, U8⟩ ih
      dsimp only at hm q7 W8 v8 U8
      refine ok_go 1 ?_
      refine sy_test 0 (decide (Int.ofNat mm < Int.ofNat (2 ^ n))) (by kernel_rfl) ?_ ?_
      · intro hlt
        have hlt := ok_nat hlt
        have hwm : IntKind.wrap .i64 (Int.ofNat (mm + 1)) = Int.ofNat (mm + 1) := wrap_nat (by omega)
        let q1 : Hp := q.new (.cells [.bool false, .bool true] 4 false)
        have gq : q1.get q.next = some (.cells [.bool false, .bool true] 4 false) := get_new _ _
        have n8 := X8.next
        have oq : ∀ j, j < q.next → q1.get j = q.get j := fun j hj => Hp.get_new_ne (by omega)
        have nq1 : q1.next = q.next + 1 := rfl
        refine ok_go 2 ?_
        refine sy_loop 0 lf q1 (α := Nat × Nat × Nat × (Nat → Bool)) (fun s => [(1, ptr h.next 0), (7, ptr h2.next 0), (8, ptr (h2.next + 2) 0), (9, .slice (some ⟨B, 0, none⟩) n (2 * n)), (37, J (2 ^ n)), (38, J mm), (10, J mm), (41, .slice (some ⟨q.next, 0, none⟩) 2 4), (42, J 2), (43, J s.1)])
          (fun s z => s.1 ≤ 2 ∧ Exc [h2.next, h2.next + 1] q1 z ∧ z.get h2.next = some (.cells [.slice (some ⟨s.2.1, 0, none⟩) (2 ^ n) s.2.2.1] 24 false) ∧ ArB s.2.1 (2 ^ n) (rk f (2 ^ n) p mm s.1 (rd f (2 ^ n) p mm (best f (2 ^ n) done))) z ∧ (s.2.1 = b7 ∨ r'.next ≤ s.2.1) ∧ ArB (h2.next + 1) (2 ^ n) s.2.2.2 z) (fun s _ => 2 - s.1) (0, b8, c8, u8) (by kernel_rfl) (by kernel_rfl)
          ⟨by kernel_rfl, by kernel_rfl, by kernel_rfl, by kernel_rfl, by kernel_rfl, by kernel_rfl, by kernel_rfl, by kernel_rfl, by kernel_rfl, by kernel_rfl, trivial⟩ (show 2 - 0 < lf by omega) ⟨Nat.zero_le _, ⟨Nat.le_refl _, fun _ _ _ => rfl⟩, by rw [oq _ (by omega)]; exact q7, W8.ext (Hp.Ext.new _ _), v8, U8.ext (Hp.Ext.new _ _)⟩ ?_
        rintro m2 ⟨k, b9, c9, u9⟩ f2 z ⟨hk, X9, z7, W9, v9, U9⟩ ih2
        dsimp only at hk z7 W9 v9 U9
        have n9 := X9.next
        have gz : z.get q.next = some (.cells [.bool false, .bool true] 4 false) := by rw [X9.get _ (by omega) (by simp; omega)]; exact gq
        have zF : z.get h.next = some (.cells [SL] 24 false) := by rw [X9.get _ (by omega) (by simp; omega), oq _ (by omega), X8.get _ (by omega) (by simp; omega)]; exact r1
        have zO : z.get (h2.next + 2) = some (.cells [OS] 24 false) := by rw [X9.get _ (by omega) (by simp), oq _ (by omega), X8.get _ (by omega) (by simp)]; exact rO
        have zB : z.get B = some (.cells (p.map J ++ rr) 3 false) := by rw [X9.get _ (by omega) (by simp; omega), oq _ (by omega), X8.get _ (by omega) (by simp; omega)]; exact q2'
        have zA : ArB b0 (2 ^ n) f z := by
          obtain ⟨l, o, e⟩ := A
          refine ⟨by omega, o, ?_⟩
          rw [X9.get _ (by omega) (by simp; omega), oq _ (by omega), X8.get _ (by omega) (by simp; omega), K _ (by omega) (by omega) (by omega) (by omega), oH _ (by omega), X2.get _ (by omega), X1.get _ l]
          exact e
        refine ok_go 1 ?_
        refine sy_test 0 (decide (Int.ofNat k < 2)) (by kernel_rfl) ?_ ?_
        · intro hk2
          have hk2 : k < 2 := ok_nat (b := 2) hk2
          have hwk : IntKind.wrap .i64 (Int.ofNat (k + 1)) = Int.ofNat (k + 1) := wrap_nat (by omega)
          have hlk : loadT Tryd.prog z 4 (ptr q.next k) = some (.bool (Nat.beq k 1)) := by
            rcases (by omega : k = 0 ∨ k = 1) with rfl | rfl
            · exact load1 (off := 0) agB gz rfl
            · exact load1 (off := 1) agB gz rfl
          refine ok_go 0 ?_
          refine sy_load 0 (r := indexAddrOp Tryd.prog 24 (.slice (some ⟨q.next, 0, none⟩) 2 4) (J k)) (h' := z) (by kernel_rfl) (idxB hk2) ?_
          refine ok_go 0 ?_
          refine sy_load 0 (r := loadT Tryd.prog z 4 (ptr q.next k)) (h' := z) (by kernel_rfl) hlk ?_
          generalize ho : Nat.beq k 1 = o
          refine ok_go 0 ?_
          refine sy_load 0 (r := loadT Tryd.prog z 24 (ptr h.next 0)) (h' := z) (v := SL) (by kernel_rfl) (load1 (by kernel_rfl) zF rfl) ?_
          refine ok_go 1 ?_
          refine sy_loop 0 lf z (α := Nat × (Nat → Bool)) (fun s => [(1, ptr h.next 0), (7, ptr h2.next 0), (8, ptr (h2.next + 2) 0), (9, .slice (some ⟨B, 0, none⟩) n (2 * n)), (37, J (2 ^ n)), (38, J mm), (10, J mm), (41, .slice (some ⟨q.next, 0, none⟩) 2 4), (42, J 2), (43, J k), (12, .bool o), (48, J (2 ^ n)), (49, J s.1)])
            (fun s y => s.1 ≤ 2 ^ n ∧ Exc [h2.next + 1] z y ∧ ArB (h2.next + 1) (2 ^ n) s.2 y ∧ ∀ a, a < s.1 → s.2 a = tw f p mm o a) (fun s _ => 2 ^ n - s.1) (0, u9) (by kernel_rfl) (by kernel_rfl)
            ⟨by kernel_rfl, by kernel_rfl, by kernel_rfl, by kernel_rfl, by kernel_rfl, by kernel_rfl, by kernel_rfl, by kernel_rfl, by kernel_rfl, by kernel_rfl, by kernel_rfl, by kernel_rfl, by kernel_rfl, trivial⟩ (show 2 ^ n - 0 < lf by omega) ⟨Nat.zero_le _, ⟨Nat.le_refl _, fun _ _ _ => rfl⟩, U9, fun a ha => absurd ha (Nat.not_lt_zero _)⟩ ?_
          rintro m3 ⟨x, ux⟩ f3 y ⟨hx, Xy, Uy, hux⟩ ih3
          dsimp only at hx Uy hux
          have ny := Xy.next
          refine ok_go 1 ?_
          refine sy_test 0 (decide (Int.ofNat x < Int.ofNat (2 ^ n))) (by kernel_rfl) ?_ ?_
          · intro hlx
            have hlx := ok_nat hlx
            have hwx : IntKind.wrap .i64 (Int.ofNat (x + 1)) = Int.ofNat (x + 1) := wrap_nat (by omega)
            refine ok_go 1 ?_
            refine sy_loop 0 lf y (α := Nat) (fun i => [(1, ptr h.next 0), (7, ptr h2.next 0), (8, ptr (h2.next + 2) 0), (9, .slice (some ⟨B, 0, none⟩) n (2 * n)), (37, J (2 ^ n)), (38, J mm), (10, J mm), (41, .slice (some ⟨q.next, 0, none⟩) 2 4), (42, J 2), (43, J k), (12, .bool o), (48, J (2 ^ n)), (49, J x), (13, J x), (14, J (yb p (x ^^^ mm) i)), (52, .slice (some ⟨B, 0, none⟩) n (2 * n)), (53, J n), (54, J i)])
              (fun i g => i ≤ n ∧ g = y) (fun i _ => n - i) 0 (by kernel_rfl) (by kernel_rfl)
              ⟨by kernel_rfl, by kernel_rfl, by kernel_rfl, by kernel_rfl, by kernel_rfl, by kernel_rfl, by kernel_rfl, by kernel_rfl, by kernel_rfl, by kernel_rfl, by kernel_rfl, by kernel_rfl, by kernel_rfl, by kernel_rfl, by kernel_rfl, by kernel_rfl, by kernel_rfl, by kernel_rfl, trivial⟩ (show n - 0 < lf by omega) ⟨Nat.zero_le _, rfl⟩ ?_
            rintro m4 i f4 g4 ⟨hi, rfl⟩ ih4
            refine ok_go 1 ?_
            refine sy_test 0 (decide (Int.ofNat i < Int.ofNat n)) (by kernel_rfl) ?_ ?_
            · intro hli
              have hli := ok_nat hli
              have hwi : IntKind.wrap .i64 (Int.ofNat (i + 1)) = Int.ofNat (i + 1) := wrap_nat (by omega)
              have hip : i < p.length := by omega
              have gB4 : g4.get B = some (.cells (p.map J ++ rr) 3 false) := by rw [Xy.get _ (by omega) (by simp; omega)]; exact zB
              have hld : loadT Tryd.prog g4 3 (ptr B i) = some (J (p.getD i 0)) := load1 agI gB4 (perm_at hip)
              refine ok_go 0 ?_
              refine sy_load 0 (r := indexAddrOp Tryd.prog 72 (.slice (some ⟨B, 0, none⟩) n (2 * n)) (J i)) (h' := g4) (by kernel_rfl) (idxI hli) ?_
              refine ok_go 0 ?_
              refine sy_load 0 (r := loadT Tryd.prog g4 3 (ptr B i)) (h' := g4) (by kernel_rfl) hld ?_
              refine ok_go 8 ?_
              have hyb := yb_lt hps (x ^^^ mm) i (by omega)
              have hpi := getD_lt hps hip
              exact sy_next 0 _ g4 (by kernel_rfl) (by kernel_rfl) (ih4 (i + 1) _ g4 ⟨hli, rfl⟩ (show n - (i + 1) < n - i by omega) ⟨by kernel_rfl, by kernel_rfl, by kernel_rfl, by kernel_rfl, by kernel_rfl, by kernel_rfl, by kernel_rfl, by kernel_rfl, by kernel_rfl, by kernel_rfl, by kernel_rfl, by kernel_rfl, by kernel_rfl, by kernel_rfl,
                (by kernel_rfl : _ = Value.int .i64 (orI (Int.ofNat (yb p (x ^^^ mm) i)) (IntKind.i64.wrap (andI ((xorI (Int.ofNat x) (Int.ofNat mm)).fdiv (2 ^ min (IntKind.u64.wrap (Int.ofNat i)).toNat IntKind.i64.bits)) 1 * 2 ^ min (IntKind.u64.wrap (Int.ofNat (p.getD i 0))).toNat IntKind.i64.bits)))).trans (by rw [ybV (by omega) (by omega) (by omega) (by omega) (by omega)]; rfl),
                by kernel_rfl, by kernel_rfl, (by kernel_rfl : _ = Value.int .i64 (IntKind.wrap .i64 (Int.ofNat (i + 1)))).trans (by rw [hwi]), trivial⟩)
            · intro hli
              have hli := no_nat hli
              obtain rfl : i = n := by omega
              have hyb := yb_lt hps (x ^^^ mm) i (by omega)
              have yF : g4.get h.next = some (.cells [SL] 24 false) := by rw [Xy.get _ (by omega) (by simp; omega)]; exact zF
              have yO : g4.get (h2.next + 2) = some (.cells [OS] 24 false) := by rw [Xy.get _ (by omega) (by simp)]; exact zO
              have yA : ArB b0 (2 ^ i) f g4 := by
                obtain ⟨l, o, e⟩ := zA
                obtain ⟨l0, -⟩ := A
                exact ⟨by omega, o, by rw [Xy.get _ l (by simp; omega)]; exact e⟩
              obtain ⟨g5, e5, U5, m5, o5⟩ := Uy.store hlx (f (yb p (x ^^^ mm) i) != o)
              refine ok_go 0 ?_
              refine sy_load 0 (r := loadT Tryd.prog g4 24 (ptr (h2.next + 2) 0)) (h' := g4) (v := OS) (by kernel_rfl) (load1 (by kernel_rfl) yO rfl) ?_
              refine ok_go 0 ?_
              refine sy_load 0 (r := loadT Tryd.prog g4 24 (ptr h.next 0)) (h' := g4) (v := SL) (by kernel_rfl) (load1 (by kernel_rfl) yF rfl) ?_
              refine ok_go 0 ?_
              refine sy_load 0 (r := indexAddrOp Tryd.prog 24 SL (J (yb p (x ^^^ mm) i))) (h' := g4) (by kernel_rfl) (idxB hyb) ?_
              refine ok_go 0 ?_
              refine sy_load 0 (r := loadT Tryd.prog g4 4 (ptr b0 (yb p (x ^^^ mm) i))) (h' := g4) (by kernel_rfl) (yA.read hyb) ?_
              refine ok_go 1 ?_
              refine sy_load 0 (r := indexAddrOp Tryd.prog 24 OS (J x)) (h' := g4) (by kernel_rfl) (idxB hlx) ?_
              refine ok_go 0 ?_
              refine sy_store 0 (r := storeT Tryd.prog g4 4 (ptr (h2.next + 1) x) (.bool (f (yb p (x ^^^ mm) i) != o))) (h' := g5) (by kernel_rfl) e5 ?_
              refine ok_go 1 ?_
              exact sy_next 0 _ g5 (by kernel_rfl) (by kernel_rfl) (ih3 (x + 1, fun a => if a = x then f (yb p (x ^^^ mm) i) != o else ux a) _ g5 ⟨hlx, ⟨by omega, fun j hj hm' => by rw [o5 j (by simpa using hm')]; exact Xy.get j hj hm'⟩, U5, fun a ha => by
                have ha : a < x + 1 := ha
                show (if a = x then f (yb p (x ^^^ mm) i) != o else ux a) = tw f p mm o a
                split
                · rename_i e; subst e; unfold tw; rw [hp]
                · exact hux a (by omega)⟩ (show 2 ^ i - (x + 1) < 2 ^ i - x by omega) ⟨by kernel_rfl, by kernel_rfl, by kernel_rfl, by kernel_rfl, by kernel_rfl, by kernel_rfl, by kernel_rfl, by kernel_rfl, by kernel_rfl, by kernel_rfl, by kernel_rfl, by kernel_rfl, (by kernel_rfl : _ = Value.int .i64 (IntKind.wrap .i64 (Int.ofNat (x + 1)))).trans (by rw [hwx]), trivial⟩)
          · intro hlx
            have hlx := no_nat hlx
            obtain rfl : x = 2 ^ n := by omega
            have yO : y.get (h2.next + 2) = some (.cells [OS] 24 false) := by rw [Xy.get _ (by omega) (by simp)]; exact zO
            have y7 : y.get h2.next = some (.cells [.slice (some ⟨b9, 0, none⟩) (2 ^ n) c9] 24 false) := by rw [Xy.get _ (by omega) (by simp)]; exact z7
            have hb9 : b9 ≠ h2.next ∧ b9 ≠ h2.next + 1 ∧ b9 ≠ h2.next + 5 := by
              rcases v9 with rfl | h9
              · exact ⟨w3, w4, w5⟩
              · omega
            have yW : ArB b9 (2 ^ n) (rk f (2 ^ n) p mm k (rd f (2 ^ n) p mm (best f (2 ^ n) done))) y := by
              obtain ⟨l, o, e⟩ := W9
              exact ⟨by omega, o, by rw [Xy.get _ l (by simp; omega)]; exact e⟩
            have yU : ArB (h2.next + 1) (2 ^ n) (tw f p mm o) y := Uy.congr hux
            have Xz : Exc [h2.next, h2.next + 1] q1 y := ⟨by omega, fun j hj hm' => by rw [Xy.get j (by omega) (by simp at hm' ⊢; omega)]; exact X9.get j hj hm'⟩
            refine ok_go 0 ?_
            refine sy_load 0 (r := loadT Tryd.prog y 24 (ptr (h2.next + 2) 0)) (h' := y) (v := OS) (by kernel_rfl) (load1 (by kernel_rfl) yO rfl) ?_
            refine ok_go 0 ?_
            refine sy_load 0 (r := loadT Tryd.prog y 24 (ptr h2.next 0)) (h' := y) (v := .slice (some ⟨b9, 0, none⟩) (2 ^ n) c9) (by kernel_rfl) (load1 (by kernel_rfl) y7 rfl) ?_
            refine ok_go 0 ?_
            refine sy_call 0 (by kernel_rfl) (cp (h2.next + 1) (2 * 2 ^ n) b9 c9 _ _ y yU yW) ?_
            refine ok_go 1 ?_
            refine sy_test 0 (decide (lxc (tw f p mm o) (rk f (2 ^ n) p mm k (rd f (2 ^ n) p mm (best f (2 ^ n) done))) (2 ^ n) 0 < 0)) (by kernel_rfl) ?_ ?_
            · intro hc
              have hrk : rk f (2 ^ n) p mm (k + 1) (rd f (2 ^ n) p mm (best f (2 ^ n) done)) = tw f p mm o := by
                rw [rk, upd2, ho, if_pos (of_decide_eq_true hc)]
              obtain ⟨_, y2, ey, b10, rfl, hb10, Xy2, W10⟩ := cl _ (h2.next + 1) (2 * 2 ^ n) m y yU
              have ny2 := Xy2.next
              let y3 : Hp := y2.put h2.next (.cells [.slice (some ⟨b10, 0, none⟩) (2 ^ n) (2 * 2 ^ n + 1)] 24 false)
              have oy3 : ∀ j, j ≠ h2.next → y3.get j = y2.get j := fun j hj => Hp.get_put_ne hj
              have ny3 : y3.next = y2.next := rfl
              have y27 : y2.get h2.next = some (.cells [.slice (some ⟨b9, 0, none⟩) (2 ^ n) c9] 24 false) := by rw [Xy2.get _ (by omega)]; exact y7
              refine ok_go 0 ?_
              refine sy_load 0 (r := loadT Tryd.prog y 24 (ptr (h2.next + 2) 0)) (h' := y) (v := OS) (by kernel_rfl) (load1 (by kernel_rfl) yO rfl) ?_
              refine ok_go 0 ?_
              refine sy_call 0 (by kernel_rfl) ey ?_
              refine ok_go 0 ?_
              refine sy_store 0 (r := storeT Tryd.prog y2 24 (ptr h2.next 0) (.slice (some ⟨b10, 0, none⟩) (2 ^ n) (2 * 2 ^ n + 1))) (h' := y3) (by kernel_rfl) (store1 (by kernel_rfl) rfl y27 (show 0 < 1 by omega)) ?_
              refine ok_go 1 ?_
              exact sy_next 0 _ y3 (by kernel_rfl) (by kernel_rfl) (ih2 (k + 1, b10, 2 * 2 ^ n + 1, tw f p mm o) _ y3 ⟨hk2, ⟨by have := Xz.next; omega, fun j hj hm' => by
                  rw [oy3 j (by simp at hm'; omega), Xy2.get j (by have := Xz.next; omega)]; exact Xz.get j hj hm'⟩, get_put _ _ _, by
                  show ArB b10 (2 ^ n) (rk f (2 ^ n) p mm (k + 1) _) y3
                  rw [hrk]
                  obtain ⟨l, o', e⟩ := W10
                  exact ⟨l, o', by rw [oy3 _ (by omega)]; exact e⟩, .inr (by show r'.next ≤ b10; omega), by
                  obtain ⟨l, o', e⟩ := yU
                  exact ⟨by omega, o', by rw [oy3 _ (by omega), Xy2.get _ l]; exact e⟩⟩ (show 2 - (k + 1) < 2 - k by omega) ⟨by kernel_rfl, by kernel_rfl, by kernel_rfl, by kernel_rfl, by kernel_rfl, by kernel_rfl, by kernel_rfl, by kernel_rfl, by kernel_rfl, (by kernel_rfl : _ = Value.int .i64 (IntKind.wrap .i64 (Int.ofNat (k + 1)))).trans (by rw [hwk]), trivial⟩)
            · intro hc
              have hrk : rk f (2 ^ n) p mm (k + 1) (rd f (2 ^ n) p mm (best f (2 ^ n) done)) = rk f (2 ^ n) p mm k (rd f (2 ^ n) p mm (best f (2 ^ n) done)) := by
                rw [rk, upd2, ho, if_neg (of_decide_eq_false hc)]
              refine ok_go 1 ?_
              exact sy_next 0 _ y (by kernel_rfl) (by kernel_rfl) (ih2 (k + 1, b9, c9, tw f p mm o) _ y ⟨hk2, Xz, y7, by
                  show ArB b9 (2 ^ n) (rk f (2 ^ n) p mm (k + 1) _) y
                  rw [hrk]
                  exact yW, v9, yU⟩ (show 2 - (k + 1) < 2 - k by omega) ⟨by kernel_rfl, by kernel_rfl, by kernel_rfl, by kernel_rfl, by kernel_rfl, by kernel_rfl, by kernel_rfl, by kernel_rfl, by kernel_rfl, (by kernel_rfl : _ = Value.int .i64 (IntKind.wrap .i64 (Int.ofNat (k + 1)))).trans (by rw [hwk]), trivial⟩)
        · intro hk2
          have hk2 : 2 ≤ k := no_nat (b := 2) hk2
          obtain rfl : k = 2 := by omega
          refine ok_go 1 ?_
          exact sy_next 0 _ z (by kernel_rfl) (by kernel_rfl) (ih (mm + 1, b9, c9, u9) _ z ⟨hlt, ⟨by omega, fun j hj hm' => by rw [X9.get j (by omega) hm', oq j (by omega)]; exact X8.get j hj hm'⟩, z7, W9, v9, U9⟩ (show 2 ^ n - (mm + 1) < 2 ^ n - mm by omega) ⟨by kernel_rfl, by kernel_rfl, by kernel_rfl, by kernel_rfl, by kernel_rfl, (by kernel_rfl : _ = Value.int .i64 (IntKind.wrap .i64 (Int.ofNat (mm + 1)))).trans (by rw [hwm]), trivial⟩)
      · intro hlt
        have hlt := no_nat hlt
        obtain rfl : mm = 2 ^ n := by omega
        have n8 := X8.next
        have Rl8 : q.get (h2.next + 5) = some ((rcOf Tryd.prog 17 0).obj F1 (h2.next + 4) .busy none) := by rw [X8.get _ (by omega) (by simp)]; exact Rl
        refine ok_go 0 ?_
        refine sy_round 0 (by kernel_rfl) Rl8 ?_
        let qe : Hp := q.put (h2.next + 5) ((rcOf Tryd.prog 17 0).obj F1 (h2.next + 4) .ready none)
        have oe : ∀ j, j ≠ h2.next + 5 → qe.get j = q.get j := fun j hj => Hp.get_put_ne hj
        have hb8 : b8 ≠ h2.next ∧ b8 ≠ h2.next + 1 ∧ b8 ≠ h2.next + 5 ∧ b8 ≠ L ∧ b8 ≠ B ∧ h.next ≤ b8 := by
          rcases v8 with rfl | h8
          · exact ⟨w3, w4, w5, w1, w2, w0⟩
          · omega
        have XE : Exc [h2.next, h2.next + 1, h2.next + 5] g qe := ⟨by show g.next ≤ q.next; omega, fun j hj hm' => by
          have hm' : j ≠ h2.next ∧ j ≠ h2.next + 1 ∧ j ≠ h2.next + 5 := by simpa using hm'
          rw [oe j hm'.2.2, X8.get j (by omega) (by simp; omega)]; exact R' j hm'.2.2⟩
        refine ok_go 0 ?_
        refine sy_done 0 (v := .bool true) (h := qe) (by kernel_rfl) ⟨rfl, ⟨b8, c8, u8, ⟨by show HH.next ≤ q.next; omega, fun j hj hm' => ?_⟩, by rw [oe _ (by omega)]; exact q7, ?_, hb8.2.2.2.2.2, hb8.2.2.2.1, hb8.2.2.2.2.1, hb8.1, hb8.2.1, hb8.2.2.1, ?_, get_put _ _ _⟩, XE⟩
        · have hm'' : j ≠ h2.next ∧ j ≠ h2.next + 1 ∧ j ≠ h2.next + 5 := by simpa using hm'
          rw [oe j hm''.2.2, X8.get j (by omega) (by simp; omega)]; exact K j hj hm''.1 hm''.2.1 hm''.2.2
        · obtain ⟨l, o, e⟩ := W8
          refine ⟨l, o, ?_⟩
          rw [oe _ hb8.2.2.1, show best f (2 ^ n) (done ++ [p]) = rd f (2 ^ n) p (2 ^ n) (best f (2 ^ n) done) from by unfold best; rw [List.foldl_append]; rfl]
          exact e
        · obtain ⟨l, o, e⟩ := U8
          exact ⟨l, o, by rw [oe _ (by omega)]; exact e⟩
    obtain ⟨w, g', e, rfl, hI, XE⟩ := key
    refine ⟨g', e, hI, ?_⟩
    have mX := XE.next
    have sm : ∀ j, j < g.next → j ≠ h2.next → j ≠ h2.next + 1 → j ≠ h2.next + 5 → g'.get j = g.get j := fun j hj h1 h2 h3 => XE.get j hj (by simp; omega)
    exact ⟨by omega, K0.ne, by rw [sm _ (by omega) (by omega) (by omega) (by omega)]; exact K0.gl, by rw [sm _ (by omega) (by omega) (by omega) (by omega)]; exact K0.gb, by rw [sm _ (by omega) (by omega) (by omega) (by omega)]; exact K0.gn, by rw [sm _ (by omega) (by omega) (by omega) (by omega)]; exact K0.gy, by rw [sm _ (by omega) (by omega) (by omega) (by omega)]; exact K0.gf⟩
  · intro L B g hL hB Xg
    have b2 := B2.lt
    refine ⟨bb, 2 * 2 ^ n + 1, fun _ => false, ⟨Xg.next, fun j hj _ => Xg.get j hj⟩, by rw [Xg.get _ (by omega)]; exact HB, ?_, by omega, by omega, by omega, by omega, by omega, by omega, ?_, by rw [Xg.get _ (by omega)]; exact HL⟩
    · obtain ⟨l, o, e⟩ := B2
      exact ⟨by have := Xg.next; omega, o, by rw [Xg.get _ (by omega), oH _ l]; exact e⟩
    · refine ⟨by have := Xg.next; omega, false, ?_⟩
      rw [Xg.get _ (by omega), HZ, zeros_one]
theorem splice_nil (cs : List Value) (k : Nat) : splice cs k [] = cs := by
  unfold splice
  rw [List.append_nil, List.length_nil, Nat.add_zero, List.take_append_drop]
theorem Hp.put_self {h : Hp} {i : Nat} {o : AObj} (hg : h.get i = some o) (j : Nat) : (h.put i o).get j = h.get j := by
  rw [gp]
  split
  · rename_i e; rw [e, hg]
  · rfl
/-- An append of what a slice holds. -/
theorem appendG {P : Program} {h : Hp} {t e : TypeId} {l x : Value} {zs vs : List Value} (hT : SlT P t e) (hl : OpenSl h e l zs) (hx : lenV x = some vs.length) (hel : elems h 1 vs.length x = some vs) (hv : vs.all scalar = true) (hn : zs.length + vs.length < 16777216) :
    ∃ l' h', appendOp P h t l x = some (l', h') ∧ OpenSl h' e l' (zs ++ vs) ∧ h.next ≤ h'.next ∧ (∀ j, j < h.next → (∀ n c, l ≠ .slice (some ⟨j, 0, none⟩) n c) → h'.get j = h.get j) ∧ ((vs = [] ∧ l' = l) ∨ ∀ j, j < h.next → ∀ n c, l' ≠ .slice (some ⟨j, 0, none⟩) n c) := by
  obtain ⟨inf, hi1, hi2⟩ := hT.i
  obtain ⟨z, hz1, hz2⟩ := hT.z
  rcases hl with ⟨rfl, rfl⟩ | ⟨i, rfl, hne, hlt, hg, hsc⟩
  · cases vs with
    | nil =>
      simp only [List.length_nil] at hx hel
      exact ⟨.slice none 0 0, h, by simp only [appendOp, hT.u, hT.s, hi1, hz1, hx, hel, hz2, hi2, hv], .inl ⟨rfl, rfl⟩, Nat.le_refl _, fun _ _ _ => rfl, .inl ⟨rfl, rfl⟩⟩
    | cons v vs =>
      have hm : Nat.ble (vs.length + 1) most = true := Nat.ble_eq_true_of_le (by unfold most; simp at hn; omega)
      simp only [List.length_cons] at hx hel
      refine ⟨.slice (some ⟨h.next, 0, none⟩) (vs.length + 1) (2 * (vs.length + 1) + 1), h.new (.cells (v :: vs) e true), by simp only [appendOp, hT.u, hT.s, hi1, hz1, hx, hel, hz2, hi2, hv, hm], .inr ⟨h.next, rfl, by simp, Nat.lt_succ_self _, get_new _ _, hv⟩, Nat.le_succ _, fun j hj _ => Hp.get_new_ne (by omega), .inr fun j hj n c hc => ?_⟩
      injection hc with h1
      injection h1 with h1
      injection h1 with h1
      omega
  · have h1 : Nat.ble (zs.length + vs.length) most = true := Nat.ble_eq_true_of_le (by unfold most; omega)
    cases vs with
    | nil =>
      have h2 : Nat.ble (zs.length + 0) ((2 * zs.length + 1) / 2) = true := Nat.ble_eq_true_of_le (by omega)
      have h3 : Nat.ble (0 + zs.length * 1 + ([] : List Value).length) zs.length = true := Nat.ble_eq_true_of_le (by simp)
      simp only [List.length_nil] at hx hel h1
      have hall : ([] : List Value).all scalar = true := rfl
      refine ⟨.slice (some ⟨i, 0, none⟩) zs.length (2 * zs.length + 1), h.put i (.cells zs e true), ?_, .inr ⟨i, by rw [List.append_nil], by rw [List.append_nil]; exact hne, hlt, by rw [List.append_nil]; exact get_put _ _ _, by rw [List.append_nil]; exact hsc⟩, Nat.le_refl _, fun j hj _ => Hp.put_self hg j, .inl ⟨rfl, rfl⟩⟩
      simp only [appendOp, hT.u, hT.s, hi1, hz1, hx, hel, hz2, hi2, hall, h1, h2, storeN, hg, h3, splice_nil]
      rfl
    | cons v vs =>
      have h2 : Nat.ble (zs.length + (v :: vs).length) ((2 * zs.length + 1) / 2) = false := by
        cases hb : Nat.ble (zs.length + (v :: vs).length) ((2 * zs.length + 1) / 2) with
        | false => rfl
        | true => have := Nat.le_of_ble_eq_true hb; simp at this; omega
      have h3 : loadN h i 0 (zs.length * 1) = some zs := by
        simp only [loadN, hg, List.drop_zero, Nat.mul_one, takeN_all]
      have h4 : Nat.beq ((2 * zs.length + 1) % 2) 0 = false := by
        rw [show (2 * zs.length + 1) % 2 = 1 by omega]
        rfl
      have h5 : (Nat.beq e e && Nat.beq zs.length ((2 * zs.length + 1) / 2 * 1)) = true := by
        rw [show (2 * zs.length + 1) / 2 * 1 = zs.length by omega]
        simp
      refine ⟨.slice (some ⟨h.next, 0, none⟩) (zs.length + (v :: vs).length) (2 * (zs.length + (v :: vs).length) + 1), (h.kill i).new (.cells (zs ++ v :: vs) e true), ?_, .inr ⟨h.next, by rw [List.length_append], by simp, Nat.lt_succ_self _, get_new (h.kill i) _, by rw [List.all_append, hsc, hv]; rfl⟩, Nat.le_succ _, fun j hj hne => ?_, .inr fun j hj n c hc => ?_⟩
      · simp only [appendOp, hT.u, hT.s, hi1, hz1, hx, hel, hz2, hi2, hv, h1, h2, h3, h4, hg, h5]
      · have hji : j ≠ i := fun hc => hne _ _ (by rw [hc])
        rw [Hp.get_new_ne (by show j ≠ h.next; omega), Hp.get_kill_ne hji]
      · injection hc with h1
        injection h1 with h1
        injection h1 with h1
        omega
theorem takeN_pre : ∀ (k : Nat) (l : List Value), k ≤ l.length → takeN k l = some (l.take k)
  | 0, l, _ => by rw [takeN, List.take_zero]
  | k + 1, [], h => absurd h (Nat.not_succ_le_zero _)
  | k + 1, v :: l, h => by
    rw [takeN, takeN_pre k l (Nat.le_of_succ_le_succ h), List.take_succ_cons]
/-- The first ones of a list. -/
theorem cutL {h : Hp} {v : Value} {zs : List Value} {k : Nat} (hv : OpenSl h 3 v zs) (hk : k ≤ zs.length) : ∃ xa xc, sliceOp Tryd.prog 72 v none (some (J k)) none = some (.slice xa (zs.take k).length xc) ∧ elems h 1 (zs.take k).length (.slice xa (zs.take k).length xc) = some (zs.take k) := by
  have hlen : (zs.take k).length = k := by rw [List.length_take]; omega
  rw [hlen]
  rcases hv with ⟨rfl, rfl⟩ | ⟨i, rfl, hne, hlt, hg, hsc⟩
  · obtain rfl : k = 0 := by simpa using hk
    exact ⟨none, 0, by kernel_rfl, rfl⟩
  · have h1 : Nat.ble k zs.length = true := Nat.ble_eq_true_of_le hk
    have h0 : Nat.ble 0 zs.length = true := Nat.ble_eq_true_of_le (Nat.zero_le _)
    have h2 : Nat.beq zs.length 0 = false := by
      cases zs with
      | nil => exact absurd rfl hne
      | cons _ _ => rfl
    have h3 : (2 * zs.length + 1) / 2 = zs.length := by omega
    have h4 : (2 * zs.length + 1) % 2 = 1 := by omega
    refine ⟨some ⟨i, 0, none⟩, 2 * zs.length + 1, ?_, ?_⟩
    · simp only [sliceOp, slI.u, slI.s, h3, h4]
      simp only [sliceV, bound, natOf, h1, h0, h2, Option.isSome_none, Bool.not_false, Bool.and_true, Bool.false_eq_true, if_false]
      rfl
    · cases k with
      | zero => rfl
      | succ k =>
        simp only [elems, loadN, hg, List.drop_zero, Nat.mul_one]
        exact takeN_pre _ _ hk
theorem sliceR1 (i c k : Nat) (h : k = c) (hc : c ≠ 0) : sliceV i 0 1 c true c (some (J k)) none none = some (.slice (some ⟨i, 0, some (k * 1)⟩) 0 1) := by
  subst h
  have h1 : Nat.ble k k = true := Nat.ble_eq_true_of_le (Nat.le_refl _)
  have h2 : Nat.beq k k = true := Nat.beq_refl k
  cases k with
  | zero => exact absurd rfl hc
  | succ l =>
    simp only [sliceV, bound, natOf, h1, h2, Nat.sub_self]
    rfl
theorem sliceR2 (i c k : Nat) (h : k < c) : sliceV i 0 1 c true c (some (J k)) none none = some (.slice (some ⟨i, k, none⟩) (c - k) (2 * (c - k) + 1)) := by
  have h1 : Nat.ble k c = true := Nat.ble_eq_true_of_le (by omega)
  have h2 : Nat.beq c k = false := by
    cases e : Nat.beq c k with
    | false => rfl
    | true => have := Nat.eq_of_beq_eq_true e; omega
  simp only [sliceV, bound, natOf, h1, h2, Nat.zero_add, Nat.mul_one]
  rfl
/-- The last ones of a list. -/
theorem cutR {h : Hp} {v : Value} {zs : List Value} {k : Nat} (hv : OpenSl h 3 v zs) (hk : k ≤ zs.length) : ∃ xa xc, sliceOp Tryd.prog 72 v (some (J k)) none none = some (.slice xa (zs.drop k).length xc) ∧ elems h 1 (zs.drop k).length (.slice xa (zs.drop k).length xc) = some (zs.drop k) := by
  have hlen : (zs.drop k).length = zs.length - k := List.length_drop
  rw [hlen]
  rcases hv with ⟨rfl, rfl⟩ | ⟨i, rfl, hne, hlt, hg, hsc⟩
  · obtain rfl : k = 0 := by simpa using hk
    exact ⟨none, 0, by kernel_rfl, rfl⟩
  · have h1 : Nat.ble zs.length zs.length = true := Nat.ble_eq_true_of_le (Nat.le_refl _)
    have h2 : Nat.ble k zs.length = true := Nat.ble_eq_true_of_le hk
    have h3 : (2 * zs.length + 1) / 2 = zs.length := by omega
    have h4 : (2 * zs.length + 1) % 2 = 1 := by omega
    have hs : sliceOp Tryd.prog 72 (.slice (some ⟨i, 0, none⟩) zs.length (2 * zs.length + 1)) (some (J k)) none none = sliceV i 0 1 zs.length true zs.length (some (J k)) none none := by
      simp only [sliceOp, slI.u, slI.s, h3, h4]
      rfl
    rw [hs]
    by_cases hb : k = zs.length
    · refine ⟨some ⟨i, 0, some (k * 1)⟩, 1, by rw [show zs.length - k = 0 by omega]; exact sliceR1 i zs.length k hb (fun e => hne (List.eq_nil_of_length_eq_zero e)), ?_⟩
      rw [hb, Nat.sub_self, List.drop_length]
      rfl
    · refine ⟨some ⟨i, k, none⟩, 2 * (zs.length - k) + 1, sliceR2 i zs.length k (by omega), ?_⟩
      obtain ⟨d, hd⟩ : ∃ d, zs.length - k = d + 1 := ⟨zs.length - k - 1, by omega⟩
      rw [hd]
      simp only [elems, loadN, hg, Nat.mul_one]
      rw [takeN_pre _ _ (by rw [List.length_drop]; omega), ← hd, ← hlen, List.take_length]
/-- The lists that have one more number, in any place. -/
def ins (n : Nat) (r : List Nat) (k : Nat) : List (List Nat) := (List.range k).map fun a => r.take a ++ n :: r.drop a
def rp : Nat → List (List Nat)
  | 0 => [[]]
  | n + 1 => (rp n).flatMap fun r => ins n r (n + 1)
theorem rp_len : ∀ n, n ≤ 4 → (rp n).length ≤ 24 := by
  intro n hn
  rcases (by omega : n = 0 ∨ n = 1 ∨ n = 2 ∨ n = 3 ∨ n = 4) with rfl | rfl | rfl | rfl | rfl <;> decide +kernel
theorem rp_row : ∀ n, ∀ r ∈ rp n, r.length = n
  | 0, r, h => by rw [rp, List.mem_singleton] at h; rw [h]; rfl
  | n + 1, r, h => by
    rw [rp, List.mem_flatMap] at h
    obtain ⟨q, hq, h⟩ := h
    obtain ⟨a, ha, rfl⟩ := List.mem_map.1 h
    have := rp_row n q hq
    have ha := List.mem_range.1 ha
    rw [List.length_append, List.length_cons, List.length_take, List.length_drop]
    omega
theorem flat_len (n : Nat) : ∀ (l : List (List Nat)), (l.flatMap fun r => ins n r (n + 1)).length = l.length * (n + 1)
  | [] => by simp
  | r :: l => by
    rw [List.flatMap_cons, List.length_append, flat_len n l, ins, List.length_map, List.length_range, List.length_cons, Nat.succ_mul, Nat.add_comm]
/-- Rows of numbers, each made by appends. -/
def RowsOk (h : Hp) (vs : List Value) (rs : List (List Nat)) : Prop := vs.length = rs.length ∧ ∀ (k : Nat) (v : Value) (r : List Nat), vs[k]? = some v → rs[k]? = some r → OpenSl h 3 v (r.map J)
theorem RowsOk.snoc {h g : Hp} {vs : List Value} {rs : List (List Nat)} {v : Value} {r : List Nat} (K : RowsOk h vs rs) (hk : ∀ v zs, OpenSl h 3 v zs → OpenSl g 3 v zs) (hv : OpenSl g 3 v (r.map J)) : RowsOk g (vs ++ [v]) (rs ++ [r]) := by
  refine ⟨by rw [List.length_append, List.length_append, K.1]; rfl, fun k w q h1 h2 => ?_⟩
  by_cases hlt : k < vs.length
  · rw [List.getElem?_append_left hlt] at h1
    rw [List.getElem?_append_left (by rw [← K.1]; exact hlt)] at h2
    exact hk _ _ (K.2 k w q h1 h2)
  · rw [List.getElem?_append_right (by omega)] at h1
    rw [List.getElem?_append_right (by rw [← K.1]; omega), ← K.1] at h2
    cases hd : k - vs.length with
    | zero =>
      rw [hd] at h1 h2
      injection h1 with h1; injection h2 with h2
      subst h1; subst h2
      exact hv
    | succ d => rw [hd] at h1; cases h1
theorem slR : SlT Tryd.prog 85 72 := ⟨by kernel_rfl, by kernel_rfl, ⟨_, rfl, by kernel_rfl⟩, ⟨_, rfl, by kernel_rfl⟩⟩
theorem agR : isAggT Tryd.prog 72 = some false := by kernel_rfl
theorem sl_keep {h g : Hp} {e : TypeId} {v : Value} {zs : List Value} (H : OpenSl h e v zs) (hn : h.next ≤ g.next) (hk : ∀ j, j < h.next → (∃ n c, v = .slice (some ⟨j, 0, none⟩) n c) → g.get j = h.get j) : OpenSl g e v zs := by
  rcases H with h1 | ⟨i, rfl, a, b, c, d⟩
  · exact .inl h1
  · exact .inr ⟨i, rfl, a, by omega, by rw [hk i b ⟨_, _, rfl⟩]; exact c, d⟩
/-- A row and a list of rows lie in different places. -/
theorem row_out {h : Hp} {v l : Value} {zs vs : List Value} (hv : OpenSl h 3 v zs) (hl : OpenSl h 72 l vs) {j n c : Nat} (e : v = .slice (some ⟨j, 0, none⟩) n c) : ∀ n' c', l ≠ .slice (some ⟨j, 0, none⟩) n' c' := by
  intro n' c' hc
  rcases hv with ⟨h1, -⟩ | ⟨i, h1, -, -, h2, -⟩
  · rw [h1] at e; cases e
  · rcases hl with ⟨h3, -⟩ | ⟨i', h3, -, -, h4, -⟩
    · rw [h3] at hc; cases hc
    · rw [h1] at e; rw [h3] at hc
      injection e with e; injection e with e; injection e with e
      injection hc with hc; injection hc with hc; injection hc with hc
      subst e; subst hc
      rw [h2] at h4
      injection h4 with h4
      injection h4 with _ h4
      cases h4
theorem perms_of (lf m : Nat) (hlf : 300 ≤ lf) : ∀ n, n ≤ 4 → ∀ h, ∃ l h', Ev lf (m + n + 1) 44 [J n] h = some (l, h') ∧ (h.Ext h' ∧ ∃ vs, Rds h' l vs ∧ RowsOk h' vs (rp n))
  | 0, _, h => by
    refine fnS_ok (Q := fun l h' => h.Ext h' ∧ ∃ vs, Rds h' l vs ∧ RowsOk h' vs (rp 0)) ?_
    refine ok_go 3 ?_
    refine sy_done 0 (v := .slice (some ⟨h.next, 0, none⟩) 1 2) (h := h.new (.cells [.slice none 0 0] 72 false)) (by kernel_rfl) ⟨Hp.Ext.new _ _, [.slice none 0 0], .inr ⟨h.next, 0, 2, rfl, fun _ => ⟨Nat.lt_succ_self _, ?_⟩⟩, rfl, fun k v r h1 h2 => ?_⟩
    · unfold loadN; rw [get_new]; rfl
    · cases k with
      | zero =>
        injection h1 with h1; injection h2 with h2
        subst h1; subst h2
        exact .inl ⟨rfl, rfl⟩
      | succ k => cases h1
  | n + 1, hn, h => by
    obtain ⟨l, h1, e1, X1, vs, R1, ok1⟩ := perms_of lf m hlf n (by omega) h
    refine fnS_ok (Q := fun l h' => h.Ext h' ∧ ∃ vs, Rds h' l vs ∧ RowsOk h' vs (rp (n + 1))) ?_
    have hw1 : IntKind.wrap .i64 (Int.ofNat (n + 1) - 1) = Int.ofNat n := by
      rw [show Int.ofNat (n + 1) - 1 = Int.ofNat n from by show ((n + 1 : Nat) : Int) - 1 = (n : Int); omega]
      exact wrap_nat (by omega)
    have e1' : Ev lf (m + n + 1) 44 [.int .i64 (IntKind.wrap .i64 (Int.ofNat (n + 1) - 1))] h = some (l, h1) := by rw [hw1]; exact e1
    have hlen := rp_len n (by omega)
    have hrow := rp_row n
    rw [show rp (n + 1) = (rp n).flatMap fun r => ins n r (n + 1) from rfl]
    generalize rp n = rs at ok1 hlen hrow
    obtain ⟨ok1, ok2⟩ := ok1
    obtain ⟨la, lc, rfl⟩ := R1.shape
    refine ok_go 3 ?_
    refine sy_call 0 (by kernel_rfl) e1' ?_
    refine ok_go 0 ?_
    refine sy_loop 0 lf h1 (α := Nat × Value × List Value) (fun s => [(0, J (n + 1)), (3, s.2.1), (4, .slice la vs.length lc), (5, J s.1)])
      (fun s g => s.1 ≤ rs.length ∧ h1.Ext g ∧ OpenSl g 72 s.2.1 s.2.2 ∧ RowsOk g s.2.2 ((rs.take s.1).flatMap fun r => ins n r (n + 1)) ∧ ∀ j, j < h1.next → ∀ p q, s.2.1 ≠ .slice (some ⟨j, 0, none⟩) p q) (fun s _ => rs.length - s.1) (0, .slice none 0 0, []) (by kernel_rfl) (by kernel_rfl)
      ⟨by kernel_rfl, by kernel_rfl, by kernel_rfl, by kernel_rfl, trivial⟩ (show rs.length - 0 < lf by omega) ⟨Nat.zero_le _, Hp.Ext.refl _, .inl ⟨rfl, rfl⟩, ⟨rfl, fun k v r h => by cases h⟩, fun j _ p q hc => by cases hc⟩ ?_
    rintro m1 ⟨i, out, ws⟩ f1 g ⟨hi, Xg, O, K, hne⟩ ih
    dsimp only at hi O K hne
    refine ok_go 2 ?_
    refine sy_test 0 (decide (Int.ofNat i < Int.ofNat vs.length)) (by kernel_rfl) ?_ ?_
    · intro hlt
      have hlt := ok_nat hlt
      have hir : i < rs.length := by omega
      have hwi : IntKind.wrap .i64 (Int.ofNat (i + 1)) = Int.ofNat (i + 1) := wrap_nat (by omega)
      have htk : rs.take (i + 1) = rs.take i ++ [rs[i]] := by rw [List.take_add_one, List.getElem?_eq_getElem hir]; rfl
      have hri := hrow _ (List.getElem_mem hir)
      have hvi : vs[i]? = some vs[i] := List.getElem?_eq_getElem hlt
      have hrv := ok2 i vs[i] rs[i] hvi (List.getElem?_eq_getElem hir)
      generalize rs[i] = r at htk hri hrv
      generalize vs[i] = v at hvi hrv
      obtain ⟨va, vc, rfl⟩ := hrv.shape
      have hdl := flat_len n (rs.take i)
      have hil : (rs.take i).length = i := by rw [List.length_take]; omega
      rw [hil] at hdl
      generalize hdn : (rs.take i).flatMap (fun r => ins n r (n + 1)) = done at *
      refine ok_go 0 ?_
      refine sy_loop 0 lf g (α := Nat × Value × List Value) (fun s => [(0, J (n + 1)), (3, s.2.1), (4, .slice la vs.length lc), (5, J i), (6, J s.1)])
        (fun s y => s.1 ≤ n + 1 ∧ h1.Ext y ∧ OpenSl y 72 s.2.1 s.2.2 ∧ RowsOk y s.2.2 (done ++ ins n r s.1) ∧ ∀ j, j < h1.next → ∀ p q, s.2.1 ≠ .slice (some ⟨j, 0, none⟩) p q) (fun s _ => n + 1 - s.1) (0, out, ws) (by kernel_rfl) (by kernel_rfl)
        ⟨by kernel_rfl, by kernel_rfl, by kernel_rfl, by kernel_rfl, by kernel_rfl, trivial⟩ (show n + 1 - 0 < lf by omega) ⟨Nat.zero_le _, Xg, O, by rw [ins, List.range_zero, List.map_nil, List.append_nil]; exact K, hne⟩ ?_
      rintro m2 ⟨a, out2, ws2⟩ f2 y ⟨ha, Xy, O2, K2, hne2⟩ ih2
      dsimp only at ha O2 K2 hne2
      refine ok_go 1 ?_
      refine sy_test 0 (decide (Int.ofNat a < Int.ofNat (n + 1))) (by kernel_rfl) ?_ ?_
      · intro hlt2
        have hlt2 := ok_nat hlt2
        have hwa : IntKind.wrap .i64 (Int.ofNat (a + 1)) = Int.ofNat (a + 1) := wrap_nat (by omega)
        have hrl : (r.map J).length = n := by rw [List.length_map]; exact hri
        have hsc : (r.map J).all scalar = true := by rw [List.all_eq_true]; intro z hz; obtain ⟨w, _, rfl⟩ := List.mem_map.1 hz; rfl
        have hs1 : ((r.map J).take a).all scalar = true := by rw [List.all_eq_true] at hsc ⊢; intro z hz; exact hsc z (List.mem_of_mem_take hz)
        have hs2 : ((r.map J).drop a).all scalar = true := by rw [List.all_eq_true] at hsc ⊢; intro z hz; exact hsc z (List.mem_of_mem_drop hz)
        have hl1 : ((r.map J).take a).length ≤ 4 := by rw [List.length_take]; omega
        have hl2 : ((r.map J).drop a).length ≤ 4 := by rw [List.length_drop]; omega
        have nXy := Xy.next
        have keepR : ∀ {z : Hp}, h1.Ext z → OpenSl z 3 (.slice va (r.map J).length vc) (r.map J) := fun {z} Z => sl_keep hrv Z.next fun j hj _ => Z.get j hj
        obtain ⟨q, q1, q2⟩ := (R1.ext Xy).read (P := Tryd.prog) (t := 85) (e := 72) (k := i) (kd := .i64) (v := .slice va (r.map J).length vc) slR.u slR.s agR hvi
        obtain ⟨xa, xc, c1, c3⟩ := cutL (keepR Xy) (show a ≤ (r.map J).length by omega)
        obtain ⟨p1, y1, d1, O3, Y1, F1', D1⟩ := appendG (l := .slice none 0 0) (zs := []) slI (.inl ⟨rfl, rfl⟩) rfl c3 hs1 (by simp only [List.length_nil]; omega)
        have E1 : y.Ext y1 := ⟨Y1, fun j hj => F1' j hj fun _ _ hc => by cases hc⟩
        have D1' : ∀ j, j < y.next → ∀ n c, p1 ≠ .slice (some ⟨j, 0, none⟩) n c := by
          rcases D1 with ⟨-, rfl⟩ | h
          · intro j _ n c hc; cases hc
          · exact h
        rw [List.nil_append] at O3
        obtain ⟨pa, pc, rfl⟩ := O3.shape
        obtain ⟨p2, y2, d2, O4, Y2, F2', D2⟩ := append1 slI O3 (v := J n) rfl (by omega)
        obtain ⟨pb, pd, rfl⟩ := O4.shape
        have d2' : appendOp Tryd.prog (y1.new (.cells [.int .i64 (IntKind.wrap .i64 (Int.ofNat (n + 1) - 1))] 3 false)) 72 (.slice pa ((r.map J).take a).length pc) (.slice (some ⟨y1.next, 0, none⟩) 1 2) = some (.slice pb ((r.map J).take a ++ [J n]).length pd, y2) := by rw [hw1]; exact d2
        have E2 : y.Ext y2 := ⟨by omega, fun j hj => by rw [F2' j (by omega) (D1' j hj)]; exact E1.get j hj⟩
        obtain ⟨q', q1', q2'⟩ := (R1.ext (Xy.trans E2)).read (P := Tryd.prog) (t := 85) (e := 72) (k := i) (kd := .i64) (v := .slice va (r.map J).length vc) slR.u slR.s agR hvi
        obtain ⟨xb, xd, c4, c6⟩ := cutR (keepR (Xy.trans E2)) (show a ≤ (r.map J).length by omega)
        obtain ⟨p3, y3, d3, O5, Y3, F3', D3⟩ := appendG slI O4 rfl c6 hs2 (by rw [List.length_append]; simp only [List.length_singleton]; omega)
        have E3 : y.Ext y3 := ⟨by omega, fun j hj => by rw [F3' j (by omega) (D2 j (by omega))]; exact E2.get j hj⟩
        have O6 : OpenSl y3 72 out2 ws2 := sl_keep O2 E3.next fun j hj _ => E3.get j hj
        obtain ⟨pe, pg, rfl⟩ := O5.shape
        have hp3 : scalar (.slice pe ((r.map J).take a ++ [J n] ++ (r.map J).drop a).length pg) = true := rfl
        generalize hlx : ((r.map J).take a ++ [J n] ++ (r.map J).drop a).length = lx at *
        have hwl : ws2.length ≤ 1000 := by
          have h5 := K2.1
          rw [List.length_append, ins, List.length_map, List.length_range] at h5
          have h6 : i * (n + 1) ≤ 24 * 4 := Nat.mul_le_mul (by omega) (by omega)
          omega
        obtain ⟨out3, y4, d4, O7, Y4, F4', D4⟩ := append1 slR O6 (v := .slice pe lx pg) hp3 (by omega)
        have E4 : h1.Ext y4 := ⟨by omega, fun j hj => by rw [F4' j (by omega) (hne2 j hj), E3.get j (by omega)]; exact Xy.get j hj⟩
        have hrow3 : ((r.map J).take a ++ [J n]) ++ (r.map J).drop a = (r.take a ++ n :: r.drop a).map J := by
          rw [List.map_append, List.map_cons, List.map_take, List.map_drop, List.append_assoc]; rfl
        rw [hrow3] at O5
        have hins : done ++ ins n r (a + 1) = (done ++ ins n r a) ++ [r.take a ++ n :: r.drop a] := by
          rw [ins, List.range_succ, List.map_append, ← List.append_assoc]; rfl
        have K4 : RowsOk y4 (ws2 ++ [.slice pe lx pg]) (done ++ ins n r (a + 1)) := by
          rw [hins]
          refine K2.snoc (fun v zs hv => ?_) (sl_keep O5 Y4 fun j hj ⟨n', c', e⟩ => F4' j hj fun n'' c'' => row_out O5 O6 e n'' c'')
          have hv3 : OpenSl y3 3 v zs := sl_keep hv E3.next fun j hj _ => E3.get j hj
          exact sl_keep hv3 Y4 fun j hj ⟨n', c', e⟩ => F4' j hj fun n'' c'' => row_out hv3 O6 e n'' c''
        refine ok_go 0 ?_
        refine sy_load 0 (r := indexAddrOp Tryd.prog 85 (.slice la vs.length lc) (J i)) (h' := y) (by kernel_rfl) q1 ?_
        refine ok_go 0 ?_
        refine sy_load 0 (r := loadT Tryd.prog y 72 q) (h' := y) (by kernel_rfl) q2 ?_
        refine ok_go 0 ?_
        refine sy_load 0 (r := sliceOp Tryd.prog 72 (.slice va (r.map J).length vc) none (some (J a)) none) (h' := y) (by
          rcases hrv with ⟨e1, e2⟩ | ⟨iv, e1, -⟩
          · injection e1 with h1 h2 h3
            subst h1; subst h3
            have hr : r = [] := List.map_eq_nil_iff.1 e2
            subst hr
            have ha0 : a = 0 := by simp only [List.length_nil] at hri; omega
            subst ha0
            show askR _ = _
            kernel_rfl
          · injection e1 with h1 h2 h3
            subst h1
            show askR _ = _
            kernel_rfl) c1 ?_
        refine ok_go 0 ?_
        refine sy_call 0 (r := appendOp Tryd.prog y 72 (.slice none 0 0) (.slice xa ((r.map J).take a).length xc)) (v := .slice pa ((r.map J).take a).length pc) (h' := y1) (by kernel_rfl) d1 ?_
        refine ok_go 2 ?_
        refine sy_call 0 (r := appendOp Tryd.prog (y1.new (.cells [.int .i64 (IntKind.wrap .i64 (Int.ofNat (n + 1) - 1))] 3 false)) 72 (.slice pa ((r.map J).take a).length pc) (.slice (some ⟨y1.next, 0, none⟩) 1 2)) (v := .slice pb ((r.map J).take a ++ [J n]).length pd) (h' := y2) (by kernel_rfl) d2' ?_
        refine ok_go 0 ?_
        refine sy_load 0 (r := indexAddrOp Tryd.prog 85 (.slice la vs.length lc) (J i)) (h' := y2) (by kernel_rfl) q1' ?_
        refine ok_go 0 ?_
        refine sy_load 0 (r := loadT Tryd.prog y2 72 q') (h' := y2) (by kernel_rfl) q2' ?_
        refine ok_go 0 ?_
        refine sy_load 0 (r := sliceOp Tryd.prog 72 (.slice va (r.map J).length vc) (some (J a)) none none) (h' := y2) (by
          rcases hrv with ⟨e1, e2⟩ | ⟨iv, e1, -⟩
          · injection e1 with h1 h2 h3
            subst h1; subst h3
            have hr : r = [] := List.map_eq_nil_iff.1 e2
            subst hr
            have ha0 : a = 0 := by simp only [List.length_nil] at hri; omega
            subst ha0
            show askR _ = _
            kernel_rfl
          · injection e1 with h1 h2 h3
            subst h1
            show askR _ = _
            kernel_rfl) c4 ?_
        refine ok_go 0 ?_
        refine sy_call 0 (r := appendOp Tryd.prog y2 72 (.slice pb ((r.map J).take a ++ [J n]).length pd) (.slice xb ((r.map J).drop a).length xd)) (v := .slice pe lx pg) (h' := y3) (by kernel_rfl) d3 ?_
        obtain ⟨oa, oc, rfl⟩ := O6.shape
        refine ok_go 1 ?_
        refine sy_call 0 (r := appendOp Tryd.prog (y3.new (.cells [.slice pe lx pg] 72 false)) 85 (.slice oa ws2.length oc) (.slice (some ⟨y3.next, 0, none⟩) 1 2)) (v := out3) (h' := y4) (by kernel_rfl) d4 ?_
        refine ok_go 1 ?_
        exact sy_next 0 _ y4 (by kernel_rfl) (by kernel_rfl) (ih2 (a + 1, out3, ws2 ++ [.slice pe lx pg]) _ y4 ⟨hlt2, E4, O7, K4, fun j hj => D4 j (by omega)⟩ (show n + 1 - (a + 1) < n + 1 - a by omega) ⟨by kernel_rfl, by kernel_rfl, by kernel_rfl, by kernel_rfl, (by kernel_rfl : _ = Value.int .i64 (IntKind.wrap .i64 (Int.ofNat (a + 1)))).trans (by rw [hwa]), trivial⟩)
      · intro hlt2
        have hlt2 := no_nat hlt2
        obtain rfl : a = n + 1 := by omega
        refine ok_go 1 ?_
        exact sy_next 0 _ y (by kernel_rfl) (by kernel_rfl) (ih (i + 1, out2, ws2) _ y ⟨hir, Xy, O2, by
          show RowsOk y ws2 ((rs.take (i + 1)).flatMap fun r => ins n r (n + 1))
          rw [htk, List.flatMap_append, List.flatMap_singleton, hdn]; exact K2, hne2⟩ (show rs.length - (i + 1) < rs.length - i by omega) ⟨by kernel_rfl, by kernel_rfl, by kernel_rfl, (by kernel_rfl : _ = Value.int .i64 (IntKind.wrap .i64 (Int.ofNat (i + 1)))).trans (by rw [hwi]), trivial⟩)
    · intro hlt
      have hlt := no_nat hlt
      obtain rfl : i = rs.length := by omega
      rw [List.take_length] at K
      refine ok_go 0 ?_
      exact sy_done 0 (v := out) (h := g) (by kernel_rfl) ⟨X1.trans Xg, ws, O.rd, K⟩
theorem ybZ {y z i t : Nat} (hy : y < 16) (hz : z < 16) (hi : i < 4) (ht : t < 4) :
    orI (Int.ofNat y) (IntKind.i64.wrap (andI ((Int.ofNat z).fdiv (2 ^ min (IntKind.u64.wrap (Int.ofNat i)).toNat IntKind.i64.bits)) 1 * 2 ^ min (IntKind.u64.wrap (Int.ofNat t)).toNat IntKind.i64.bits)) = Int.ofNat (if z.testBit i = true then y ||| 2 ^ t else y) := by
  have h := ybV hy hz (show 0 < 16 by omega) hi ht
  rw [xor_nat (by omega) (by omega), Nat.xor_zero] at h
  exact h
theorem turned_of (f : Nat → Bool) (n : Nat) (hn : n ≤ 4) (lf m : Nat) (hlf : 300 ≤ lf) (b0 c mask : Nat) (hm : mask < 2 ^ n) (p : List Nat) (hp : p.length = n) (hps : ∀ x ∈ p, x < n) (pa : Option Addr) (pc : Nat) (o : Bool) (h : Hp) (A : ArB b0 (2 ^ n) f h) (R : Rds h (.slice pa n pc) (p.map J)) :
    ∃ x h', Ev lf (m + 1) 46 [.slice (some ⟨b0, 0, none⟩) (2 ^ n) c, J mask, .slice pa n pc, .bool o] h = some (x, h') ∧ ∃ b cc, x = .slice (some ⟨b, 0, none⟩) (2 ^ n) cc ∧ h.next ≤ b ∧ h.Ext h' ∧ ArB b (2 ^ n) (tw f p mask o) h' := by
  have hp16 : 2 ^ n ≤ 16 := Nat.pow_le_pow_right (n := 2) (by decide) hn
  have hp0 := Nat.two_pow_pos n
  refine fnS_ok (Q := fun x h' => ∃ b cc, x = .slice (some ⟨b, 0, none⟩) (2 ^ n) cc ∧ h.next ≤ b ∧ h.Ext h' ∧ ArB b (2 ^ n) (tw f p mask o) h') ?_
  generalize hN : 2 ^ n = N at *
  refine ok_go 0 ?_
  refine sy_loop 0 lf h (α := Nat × Value) (fun s => [(0, .slice (some ⟨b0, 0, none⟩) N c), (1, J mask), (2, .slice pa n pc), (3, .bool o), (9, s.2), (10, J s.1)])
    (fun s g => s.1 ≤ N ∧ h.Ext g ∧ OpenSl g 4 s.2 (cellsF s.1 fun x => Value.bool (tw f p mask o x)) ∧ ∀ j, j < h.next → ∀ p q, s.2 ≠ .slice (some ⟨j, 0, none⟩) p q) (fun s _ => N - s.1) (0, .slice none 0 0) (by kernel_rfl) (by kernel_rfl)
    ⟨by kernel_rfl, by kernel_rfl, by kernel_rfl, by kernel_rfl, by kernel_rfl, by kernel_rfl, trivial⟩ (show N - 0 < lf by omega) ⟨Nat.zero_le _, Hp.Ext.refl _, .inl ⟨rfl, rfl⟩, fun j _ p q hc => by cases hc⟩ ?_
  rintro m1 ⟨x, out⟩ f1 g ⟨hx, Xg, O, hne⟩ ih
  dsimp only at hx O hne
  refine ok_go 2 ?_
  refine sy_test 0 (decide (Int.ofNat x < Int.ofNat N)) (by kernel_rfl) ?_ ?_
  · intro hlt
    have hlt := ok_nat hlt
    have hwx : IntKind.wrap .i64 (Int.ofNat (x + 1)) = Int.ofNat (x + 1) := wrap_nat (by omega)
    have hxm : x ^^^ mask < 16 := Nat.xor_lt_two_pow (n := 4) (by omega) (by omega)
    refine ok_go 1 ?_
    refine sy_loop 0 lf g (α := Nat) (fun i => [(0, .slice (some ⟨b0, 0, none⟩) N c), (1, J mask), (2, .slice pa n pc), (3, .bool o), (9, out), (10, J x), (11, J (x ^^^ mask)), (12, J (yb p (x ^^^ mask) i)), (13, J i)])
      (fun i y => i ≤ n ∧ y = g) (fun i _ => n - i) 0 (by kernel_rfl) (by kernel_rfl)
      ⟨by kernel_rfl, by kernel_rfl, by kernel_rfl, by kernel_rfl, by kernel_rfl, by kernel_rfl, (by kernel_rfl : _ = Value.int .i64 (xorI (Int.ofNat x) (Int.ofNat mask))).trans (by rw [xor_nat (by omega) (by omega)]), by kernel_rfl, by kernel_rfl, trivial⟩ (show n - 0 < lf by omega) ⟨Nat.zero_le _, rfl⟩ ?_
    rintro m2 i f2 y ⟨hi, rfl⟩ ih2
    have hyb : yb p (x ^^^ mask) i < N := by rw [← hN]; exact yb_lt hps _ i (by omega)
    refine ok_go 2 ?_
    refine sy_test 0 (decide (Int.ofNat i < Int.ofNat n)) (by kernel_rfl) ?_ ?_
    · intro hli
      have hli := ok_nat hli
      have hip : i < p.length := by omega
      have hwi : IntKind.wrap .i64 (Int.ofNat (i + 1)) = Int.ofNat (i + 1) := wrap_nat (by omega)
      have hpi := getD_lt hps hip
      obtain ⟨q, e1, e2⟩ := (R.ext Xg).read (P := Tryd.prog) (t := 72) (e := 3) (k := i) (kd := .i64) (v := J (p.getD i 0)) slI.u slI.s agI (by rw [List.getElem?_map, List.getElem?_eq_getElem hip, List.getD_eq_getElem?_getD, List.getElem?_eq_getElem hip]; rfl)
      refine ok_go 3 ?_
      refine sy_load 0 (r := indexAddrOp Tryd.prog 72 (.slice pa n pc) (J i)) (h' := y) (by kernel_rfl) e1 ?_
      refine ok_go 0 ?_
      refine sy_load 0 (r := loadT Tryd.prog y 3 q) (h' := y) (by kernel_rfl) e2 ?_
      refine ok_go 4 ?_
      exact sy_next 0 _ y (by kernel_rfl) (by kernel_rfl) (ih2 (i + 1) _ y ⟨hli, rfl⟩ (show n - (i + 1) < n - i by omega) ⟨by kernel_rfl, by kernel_rfl, by kernel_rfl, by kernel_rfl, by kernel_rfl, by kernel_rfl, by kernel_rfl,
        (by kernel_rfl : _ = Value.int .i64 (orI (Int.ofNat (yb p (x ^^^ mask) i)) (IntKind.i64.wrap (andI ((Int.ofNat (x ^^^ mask)).fdiv (2 ^ min (IntKind.u64.wrap (Int.ofNat i)).toNat IntKind.i64.bits)) 1 * 2 ^ min (IntKind.u64.wrap (Int.ofNat (p.getD i 0))).toNat IntKind.i64.bits)))).trans (by rw [ybZ (by omega) (by omega) (by omega) (by omega)]; rfl),
        (by kernel_rfl : _ = Value.int .i64 (IntKind.wrap .i64 (Int.ofNat (i + 1)))).trans (by rw [hwi]), trivial⟩)
    · intro hli
      have hli := no_nat hli
      obtain rfl : i = n := by omega
      have hout : scalar (.bool (f (yb p (x ^^^ mask) i) != o)) = true := rfl
      obtain ⟨out2, y2, e3, O2, Y2, F2, D2⟩ := append1 slB O (v := .bool (f (yb p (x ^^^ mask) i) != o)) hout (by rw [cellsF_len]; omega)
      obtain ⟨oa, oc, rfl⟩ := O.shape
      rw [cellsF_len] at e3 ⊢
      have hcs : (cellsF x fun x => Value.bool (tw f p mask o x)) ++ [.bool (f (yb p (x ^^^ mask) i) != o)] = cellsF (x + 1) fun x => Value.bool (tw f p mask o x) := by
        unfold cellsF
        rw [List.range_succ, List.map_append]
        show _ = _ ++ [Value.bool (f (yb p (x ^^^ mask) p.length) != o)]
        rw [hp]
      rw [hcs] at O2
      refine ok_go 0 ?_
      refine sy_load 0 (r := indexAddrOp Tryd.prog 24 (.slice (some ⟨b0, 0, none⟩) N c) (J (yb p (x ^^^ mask) i))) (h' := y) (by kernel_rfl) (idxB hyb) ?_
      refine ok_go 0 ?_
      refine sy_load 0 (r := loadT Tryd.prog y 4 (ptr b0 (yb p (x ^^^ mask) i))) (h' := y) (by kernel_rfl) ((A.ext Xg).read hyb) ?_
      refine ok_go 2 ?_
      refine sy_call 0 (r := appendOp Tryd.prog (y.new (.cells [.bool (f (yb p (x ^^^ mask) i) != o)] 4 false)) 24 (.slice oa x oc) (.slice (some ⟨y.next, 0, none⟩) 1 2)) (v := out2) (h' := y2) (by kernel_rfl) e3 ?_
      refine ok_go 1 ?_
      exact sy_next 0 _ y2 (by kernel_rfl) (by kernel_rfl) (ih (x + 1, out2) _ y2 ⟨hlt, ⟨by have := Xg.next; omega, fun j hj => by have := Xg.next; rw [F2 j (by omega) (hne j hj)]; exact Xg.get j hj⟩, O2, fun j hj => D2 j (by have := Xg.next; omega)⟩ (show N - (x + 1) < N - x by omega) ⟨by kernel_rfl, by kernel_rfl, by kernel_rfl, by kernel_rfl, by kernel_rfl, (by kernel_rfl : _ = Value.int .i64 (IntKind.wrap .i64 (Int.ofNat (x + 1)))).trans (by rw [hwx]), trivial⟩)
  · intro hlt
    have hlt := no_nat hlt
    obtain rfl : x = N := by omega
    refine ok_go 0 ?_
    refine sy_done 0 (v := out) (h := g) (by kernel_rfl) ?_
    rcases O with ⟨-, hz⟩ | ⟨ib, rfl, -, hib, gib, -⟩
    · have := congrArg List.length hz
      rw [cellsF_len] at this
      simp at this
      omega
    · rw [cellsF_len] at hne ⊢
      exact ⟨ib, _, rfl, Nat.le_of_not_lt fun hlt => hne ib hlt _ _ rfl, Xg, hib, true, gib⟩
theorem bits4_of (z : Int) : ∃ k, k ≤ 4 ∧ ∀ lf m h, Ev lf (m + 1) 6 [I z, J 4] h = some (J k, h) := by
  have h0 : 0 ≤ IntKind.wrap .u64 z := by
    show 0 ≤ z % 2 ^ 64
    exact Int.emod_nonneg _ (by decide)
  obtain ⟨u, hu⟩ := Int.eq_ofNat_of_zero_le h0
  have hu : IntKind.wrap .u64 z = Int.ofNat u := hu
  refine ⟨u % 5, by omega, fun lf m h => ?_⟩
  refine fn_eq ?_
  refine ok_go 5 ?_
  exact sy_done 0 (v := I (IntKind.wrap .i64 ((IntKind.wrap .u64 z).tmod 5))) (h := h) (by kernel_rfl) ⟨by rw [hu]; show I (IntKind.wrap .i64 (Int.ofNat (u % 5))) = _; rw [wrap_nat (by omega)], rfl⟩
end Go.Proofs.YtnfboopfpkaeaaaDoor
namespace Go.Proofs.YtnfboopfpkaeaaaDoor
open Go Go.Eng Nim
set_option maxRecDepth 100000
set_option maxHeartbeats 4000000
theorem bools_of (f : Nat → Bool) (N lf m a ca b cb : Nat) (hN : N ≤ 64) (hlf : 300 ≤ lf) (h : Hp) (A : ArB a N f h) (B : ArB b N f h) : Ev lf (m + 1) 18 [.slice (some ⟨a, 0, none⟩) N ca, .slice (some ⟨b, 0, none⟩) N cb] h = some (.bool true, h) := by
  refine fn_eq ?_
  refine ok_go 3 ?_
  refine sy_no 0 (b := Int.ofNat N != Int.ofNat N) (by kernel_rfl) (ne_no rfl) ?_
  refine ok_go 0 ?_
  refine sy_loop 0 lf h (α := Nat) (fun s => [(0, .slice (some ⟨a, 0, none⟩) N ca), (1, .slice (some ⟨b, 0, none⟩) N cb), (5, J s)]) (fun s g => s ≤ N ∧ g = h) (fun s _ => N - s) 0 (by kernel_rfl) (by kernel_rfl) ⟨by kernel_rfl, by kernel_rfl, by kernel_rfl, trivial⟩ (show N - 0 < lf by omega) ⟨Nat.zero_le _, rfl⟩ ?_
  rintro m1 k f1 g ⟨hk, rfl⟩ ih
  refine ok_go 2 ?_
  refine sy_test 0 (decide (Int.ofNat k < Int.ofNat N)) (by kernel_rfl) ?_ ?_
  · intro hlt
    have hlt := ok_nat hlt
    refine ok_go 0 ?_
    refine sy_load 0 (r := indexAddrOp Tryd.prog 24 (.slice (some ⟨a, 0, none⟩) N ca) (J k)) (h' := g) (by kernel_rfl) (idxB hlt) ?_
    refine ok_go 0 ?_
    refine sy_load 0 (r := loadT Tryd.prog g 4 (ptr a k)) (h' := g) (by kernel_rfl) (A.read hlt) ?_
    refine ok_go 0 ?_
    refine sy_load 0 (r := indexAddrOp Tryd.prog 24 (.slice (some ⟨b, 0, none⟩) N cb) (J k)) (h' := g) (by kernel_rfl) (idxB hlt) ?_
    refine ok_go 0 ?_
    refine sy_load 0 (r := loadT Tryd.prog g 4 (ptr b k)) (h' := g) (by kernel_rfl) (B.read hlt) ?_
    refine ok_go 1 ?_
    refine sy_no 0 (b := f k != f k) (by kernel_rfl) (by simp) ?_
    refine ok_go 1 ?_
    exact sy_next 0 _ g (by kernel_rfl) (by kernel_rfl) (ih (k + 1) _ g ⟨hlt, rfl⟩ (show N - (k + 1) < N - k by omega) ⟨by kernel_rfl, by kernel_rfl, (by kernel_rfl : _ = Value.int .i64 (IntKind.wrap .i64 (Int.ofNat (k + 1)))).trans (by rw [wrap_nat (by omega)]), trivial⟩)
  · intro _
    refine ok_go 0 ?_
    exact sy_done 0 (v := .bool true) (h := g) (by kernel_rfl) ⟨rfl, rfl⟩
theorem lxc_flip (a b : Nat → Bool) : ∀ d i, lxc a b d i = -lxc b a d i
  | 0, _ => rfl
  | d + 1, i => by
    rw [lxc, lxc, lxc_flip a b d (i + 1)]
    cases a i <;> cases b i <;> simp
theorem lxc_trans (a b c : Nat → Bool) : ∀ d i, lxc a b d i ≤ 0 → lxc b c d i ≤ 0 → lxc a c d i ≤ 0
  | 0, _ => fun _ _ => Int.le_refl _
  | d + 1, i => by
    rw [lxc, lxc, lxc]
    have ih := lxc_trans a b c d (i + 1)
    cases a i <;> cases b i <;> cases c i <;> simp <;> exact ih
theorem lxc_anti (a b : Nat → Bool) : ∀ d i, lxc a b d i ≤ 0 → lxc b a d i ≤ 0 → ∀ x, i ≤ x → x < i + d → a x = b x
  | 0, i => fun _ _ x h1 h2 => by omega
  | d + 1, i => by
    rw [lxc, lxc]
    have ih := lxc_anti a b d (i + 1)
    intro h1 h2 x hx hx2
    have hab : a i = b i ∧ lxc a b d (i + 1) ≤ 0 ∧ lxc b a d (i + 1) ≤ 0 := by
      revert h1 h2
      cases a i <;> cases b i <;> simp <;> exact fun h1 h2 => ⟨h1, h2⟩
    by_cases hxi : x = i
    · rw [hxi]; exact hab.1
    · exact ih hab.2.1 hab.2.2 x (by omega) (by omega)
theorem lxc_congr {a b a' b' : Nat → Bool} : ∀ d i, (∀ x, i ≤ x → x < i + d → a x = a' x ∧ b x = b' x) → lxc a b d i = lxc a' b' d i
  | 0, _, _ => rfl
  | d + 1, i, h => by
    rw [lxc, lxc, lxc_congr d (i + 1) fun x h1 h2 => h x (by omega) (by omega), (h i (Nat.le_refl _) (by omega)).1, (h i (Nat.le_refl _) (by omega)).2]
theorem upd2_le (N : Nat) (w u : Nat → Bool) : lxc (upd2 N w u) w N 0 ≤ 0 ∧ lxc (upd2 N w u) u N 0 ≤ 0 ∧ (upd2 N w u = w ∨ upd2 N w u = u) := by
  have self : ∀ v, lxc v v N 0 ≤ 0 := fun v => by have := lxc_flip v v N 0; omega
  unfold upd2
  split
  · rename_i h
    exact ⟨by omega, self u, .inr rfl⟩
  · rename_i h
    have := lxc_flip w u N 0
    exact ⟨self w, by omega, .inl rfl⟩
/-- What the search has come to. -/
structure Bst (f : Nat → Bool) (N : Nat) (S : List Nat → Nat → Bool → Prop) (r : Nat → Bool) : Prop where
  le : ∀ p m o, S p m o → lxc r (tw f p m o) N 0 ≤ 0
  own : lxc r f N 0 ≤ 0
  src : r = f ∨ ∃ p m o, S p m o ∧ r = tw f p m o
theorem Bst.step {f : Nat → Bool} {N : Nat} {S S' : List Nat → Nat → Bool → Prop} {w : Nat → Bool} {p : List Nat} {m : Nat} {o : Bool} (H : Bst f N S w) (h1 : ∀ q k b, S' q k b → S q k b ∨ (q = p ∧ k = m ∧ b = o)) (h2 : ∀ q k b, S q k b → S' q k b) (h3 : S' p m o) : Bst f N S' (upd2 N w (tw f p m o)) := by
  obtain ⟨u1, u2, u3⟩ := upd2_le N w (tw f p m o)
  refine ⟨fun q k b hq => ?_, lxc_trans _ _ _ N 0 u1 H.own, ?_⟩
  · rcases h1 q k b hq with h | ⟨rfl, rfl, rfl⟩
    · exact lxc_trans _ _ _ N 0 u1 (H.le q k b h)
    · exact u2
  · rcases u3 with e | e
    · rw [e]
      rcases H.src with h | ⟨q, k, b, h, e⟩
      · exact .inl h
      · exact .inr ⟨q, k, b, h2 q k b h, e⟩
    · exact .inr ⟨p, m, o, h3, e⟩
theorem rd_bst (f : Nat → Bool) (N : Nat) (p : List Nat) (S : List Nat → Nat → Bool → Prop) (w : Nat → Bool) (H : Bst f N S w) : ∀ m, Bst f N (fun q k b => S q k b ∨ (q = p ∧ k < m)) (rd f N p m w)
  | 0 => ⟨fun q k b h => (h.elim (H.le q k b) fun h => absurd h.2 (Nat.not_lt_zero _)), H.own, H.src.elim .inl fun ⟨q, k, b, h, e⟩ => .inr ⟨q, k, b, .inl h, e⟩⟩
  | m + 1 => by
    have ih := rd_bst f N p S w H m
    have s1 : Bst f N (fun q k b => (S q k b ∨ (q = p ∧ k < m)) ∨ (q = p ∧ k = m ∧ b = false)) (upd2 N (rd f N p m w) (tw f p m false)) := ih.step (fun q k b h => h) (fun q k b h => .inl h) (.inr ⟨rfl, rfl, rfl⟩)
    exact s1.step (p := p) (m := m) (o := true) (fun q k b h => by
      rcases h with h | ⟨h1, h2⟩
      · exact .inl (.inl (.inl h))
      · by_cases hkm : k = m
        · cases b
          · exact .inl (.inr ⟨h1, hkm, rfl⟩)
          · exact .inr ⟨h1, hkm, rfl⟩
        · exact .inl (.inl (.inr ⟨h1, by omega⟩))) (fun q k b h => by
      rcases h with (h | ⟨h1, h2⟩) | ⟨h1, h2, h3⟩
      · exact .inl h
      · exact .inr ⟨h1, by omega⟩
      · exact .inr ⟨h1, by omega⟩) (.inr ⟨rfl, Nat.lt_succ_self _⟩)
theorem best_bst (f : Nat → Bool) (N : Nat) : ∀ (ps : List (List Nat)) (S : List Nat → Nat → Bool → Prop) (w : Nat → Bool), Bst f N S w → Bst f N (fun q k b => S q k b ∨ (q ∈ ps ∧ k < N)) (ps.foldl (fun w p => rd f N p N w) w)
  | [], S, w, H => ⟨fun q k b h => h.elim (H.le q k b) fun h => absurd h.1 List.not_mem_nil, H.own, H.src.elim .inl fun ⟨q, k, b, h, e⟩ => .inr ⟨q, k, b, .inl h, e⟩⟩
  | p :: ps, S, w, H => by
    have ih := best_bst f N ps _ _ (rd_bst f N p S w H N)
    refine ⟨fun q k b h => ih.le q k b ?_, ih.own, ih.src.elim .inl fun ⟨q, k, b, h, e⟩ => .inr ⟨q, k, b, ?_, e⟩⟩
    · rcases h with h | ⟨h1, h2⟩
      · exact .inl (.inl h)
      · rcases List.mem_cons.1 h1 with h1 | h1
        · exact .inl (.inr ⟨h1, h2⟩)
        · exact .inr ⟨h1, h2⟩
    · rcases h with (h | ⟨h1, h2⟩) | ⟨h1, h2⟩
      · exact .inl h
      · exact .inr ⟨by rw [h1]; exact List.mem_cons_self .., h2⟩
      · exact .inr ⟨List.mem_cons_of_mem _ h1, h2⟩
theorem twF_bst (f : Nat → Bool) (n : Nat) : Bst f (2 ^ n) (fun q k _ => q ∈ pf n n [] ∧ k < 2 ^ n) (twF f n) := by
  have self : ∀ v, lxc v v (2 ^ n) 0 ≤ 0 := fun v => by have := lxc_flip v v (2 ^ n) 0; omega
  have h := best_bst f (2 ^ n) (pf n n []) (fun _ _ _ => False) f ⟨fun _ _ _ h => absurd h id, self f, .inl rfl⟩
  exact ⟨fun q k b hq => h.le q k b (.inr hq), h.own, h.src.elim .inl fun ⟨q, k, b, hq, e⟩ => .inr ⟨q, k, b, hq.resolve_left id, e⟩⟩
/-! The permutations of up to four bits, looked at one by one. -/
def PL (n : Nat) : List (List Nat) := pf n n []
def chkA (n : Nat) (p : List Nat) : Bool := Nat.beq p.length n && (List.range n).all (fun i => Nat.blt (p.getD i 0) n && Nat.beq (yb p (2 ^ i) n) (2 ^ p.getD i 0)) && (List.range (2 ^ n)).all fun a =>
  Nat.blt (yb p a n) (2 ^ n) && Nat.beq (pop (yb p a n)) (pop a) && ((List.range (2 ^ n)).any fun b => Nat.beq (yb p b n) a) && (List.range (2 ^ n)).all fun b => Nat.beq (yb p (a ^^^ b) n) (yb p a n ^^^ yb p b n) && Nat.beq (yb p (a &&& b) n) (yb p a n &&& yb p b n)
def chkB (n : Nat) (p : List Nat) : Bool := (PL n).all fun q => (PL n).contains (q.map fun k => p.getD k 0) && (List.range (2 ^ n)).all fun z => Nat.beq (yb p (yb q z n) n) (yb (q.map fun k => p.getD k 0) z n)
def chkC (n : Nat) (p : List Nat) : Bool := (PL n).any fun q => (List.range (2 ^ n)).all fun z => Nat.beq (yb p (yb q z n) n) z && Nat.beq (yb q (yb p z n) n) z
def chk (n : Nat) : Bool := (PL n).all fun p => chkA n p && chkB n p && chkC n p
theorem chk_all : chk 0 = true ∧ chk 1 = true ∧ chk 2 = true ∧ chk 3 = true ∧ chk 4 = true := ⟨by kernel_rfl, by kernel_rfl, by kernel_rfl, by kernel_rfl, by kernel_rfl⟩
theorem chk_ok (n : Nat) (hn : n ≤ 4) : chk n = true := by
  obtain ⟨h0, h1, h2, h3, h4⟩ := chk_all
  rcases (by omega : n = 0 ∨ n = 1 ∨ n = 2 ∨ n = 3 ∨ n = 4) with rfl | rfl | rfl | rfl | rfl <;> assumption
theorem rp_PL : ((rp 0).all fun p => (PL 0).contains p) = true ∧ ((rp 1).all fun p => (PL 1).contains p) = true ∧ ((rp 2).all fun p => (PL 2).contains p) = true ∧ ((rp 3).all fun p => (PL 3).contains p) = true ∧ ((rp 4).all fun p => (PL 4).contains p) = true :=
  ⟨by kernel_rfl, by kernel_rfl, by kernel_rfl, by kernel_rfl, by kernel_rfl⟩
theorem rp_in (n : Nat) (hn : n ≤ 4) {p : List Nat} (hp : p ∈ rp n) : p ∈ PL n := by
  obtain ⟨h0, h1, h2, h3, h4⟩ := rp_PL
  rcases (by omega : n = 0 ∨ n = 1 ∨ n = 2 ∨ n = 3 ∨ n = 4) with rfl | rfl | rfl | rfl | rfl
  · exact List.contains_iff_mem.1 (List.all_eq_true.1 h0 p hp)
  · exact List.contains_iff_mem.1 (List.all_eq_true.1 h1 p hp)
  · exact List.contains_iff_mem.1 (List.all_eq_true.1 h2 p hp)
  · exact List.contains_iff_mem.1 (List.all_eq_true.1 h3 p hp)
  · exact List.contains_iff_mem.1 (List.all_eq_true.1 h4 p hp)
theorem all_range {n : Nat} {p : Nat → Bool} (h : (List.range n).all p = true) {x : Nat} (hx : x < n) : p x = true := List.all_eq_true.1 h x (List.mem_range.2 hx)
/-- What a permutation does with masks. -/
structure Pm (n : Nat) (p : List Nat) : Prop where
  len : p.length = n
  plt : ∀ i, i < n → p.getD i 0 < n
  one : ∀ i, i < n → yb p (2 ^ i) n = 2 ^ p.getD i 0
  lt : ∀ a, a < 2 ^ n → yb p a n < 2 ^ n
  pop : ∀ a, a < 2 ^ n → pop (yb p a n) = pop a
  sur : ∀ a, a < 2 ^ n → ∃ b, b < 2 ^ n ∧ yb p b n = a
  xor : ∀ a b, a < 2 ^ n → b < 2 ^ n → yb p (a ^^^ b) n = yb p a n ^^^ yb p b n
  and : ∀ a b, a < 2 ^ n → b < 2 ^ n → yb p (a &&& b) n = yb p a n &&& yb p b n
theorem pm_of {n : Nat} (hn : n ≤ 4) {p : List Nat} (hp : p ∈ PL n) : Pm n p := by
  have h := List.all_eq_true.1 (chk_ok n hn) p hp
  rw [Bool.and_eq_true, Bool.and_eq_true] at h
  have h := h.1.1
  unfold chkA at h
  rw [Bool.and_eq_true, Bool.and_eq_true] at h
  obtain ⟨⟨h1, h2⟩, h3⟩ := h
  have g2 : ∀ i, i < n → p.getD i 0 < n ∧ yb p (2 ^ i) n = 2 ^ p.getD i 0 := fun i hi => by
    have e := all_range h2 hi
    rw [Bool.and_eq_true, Nat.blt_eq] at e
    exact ⟨e.1, Nat.eq_of_beq_eq_true e.2⟩
  have g3 : ∀ a, a < 2 ^ n → (yb p a n < 2 ^ n ∧ pop (yb p a n) = pop a ∧ (∃ b, b < 2 ^ n ∧ yb p b n = a)) ∧ ∀ b, b < 2 ^ n → yb p (a ^^^ b) n = yb p a n ^^^ yb p b n ∧ yb p (a &&& b) n = yb p a n &&& yb p b n := fun a ha => by
    have e := all_range h3 ha
    rw [Bool.and_eq_true, Bool.and_eq_true, Bool.and_eq_true, Nat.blt_eq, List.any_eq_true] at e
    obtain ⟨⟨⟨e1, e2⟩, b, eb, e3⟩, e4⟩ := e
    refine ⟨⟨e1, Nat.eq_of_beq_eq_true e2, b, List.mem_range.1 eb, Nat.eq_of_beq_eq_true e3⟩, fun b hb => ?_⟩
    have e := all_range e4 hb
    rw [Bool.and_eq_true] at e
    exact ⟨Nat.eq_of_beq_eq_true e.1, Nat.eq_of_beq_eq_true e.2⟩
  exact ⟨Nat.eq_of_beq_eq_true h1, fun i hi => (g2 i hi).1, fun i hi => (g2 i hi).2, fun a ha => (g3 a ha).1.1, fun a ha => (g3 a ha).1.2.1, fun a ha => (g3 a ha).1.2.2, fun a b ha hb => ((g3 a ha).2 b hb).1, fun a b ha hb => ((g3 a ha).2 b hb).2⟩
theorem comp_in {n : Nat} (hn : n ≤ 4) {p q : List Nat} (hp : p ∈ PL n) (hq : q ∈ PL n) : ∃ r, r ∈ PL n ∧ ∀ z, z < 2 ^ n → yb p (yb q z n) n = yb r z n := by
  have h := List.all_eq_true.1 (chk_ok n hn) p hp
  rw [Bool.and_eq_true, Bool.and_eq_true] at h
  have h := List.all_eq_true.1 h.1.2 q hq
  rw [Bool.and_eq_true] at h
  exact ⟨_, List.contains_iff_mem.1 h.1, fun z hz => Nat.eq_of_beq_eq_true (all_range h.2 hz)⟩
theorem inv_in {n : Nat} (hn : n ≤ 4) {p : List Nat} (hp : p ∈ PL n) : ∃ q, q ∈ PL n ∧ ∀ z, z < 2 ^ n → yb p (yb q z n) n = z ∧ yb q (yb p z n) n = z := by
  have h := List.all_eq_true.1 (chk_ok n hn) p hp
  rw [Bool.and_eq_true] at h
  obtain ⟨q, hq, h⟩ := List.any_eq_true.1 h.2
  refine ⟨q, hq, fun z hz => ?_⟩
  have e := all_range h hz
  rw [Bool.and_eq_true] at e
  exact ⟨Nat.eq_of_beq_eq_true e.1, Nat.eq_of_beq_eq_true e.2⟩
/-! The functions that are twins. -/
def Orb (n : Nat) (f g : Nat → Bool) : Prop := ∃ p m o, p ∈ PL n ∧ m < 2 ^ n ∧ ∀ x, x < 2 ^ n → g x = tw f p m o x
theorem tw_len {n : Nat} (hn : n ≤ 4) {p : List Nat} (hp : p ∈ PL n) (f : Nat → Bool) (m : Nat) (o : Bool) (x : Nat) : tw f p m o x = (f (yb p (x ^^^ m) n) != o) := by
  unfold tw; rw [(pm_of hn hp).len]
theorem Orb.trans {n : Nat} (hn : n ≤ 4) {f g u : Nat → Bool} (h1 : Orb n f g) (h2 : Orb n g u) : Orb n f u := by
  obtain ⟨p, m, o, hp, hm, e1⟩ := h1
  obtain ⟨q, k, b, hq, hk, e2⟩ := h2
  have P := pm_of hn hp
  have Q := pm_of hn hq
  obtain ⟨r, hr, er⟩ := comp_in hn hp hq
  obtain ⟨m1, hm1, em1⟩ := Q.sur m hm
  have hkm : k ^^^ m1 < 2 ^ n := Nat.xor_lt_two_pow hk hm1
  refine ⟨r, k ^^^ m1, o != b, hr, hkm, fun x hx => ?_⟩
  have hxk : x ^^^ k < 2 ^ n := Nat.xor_lt_two_pow hx hk
  rw [e2 x hx, tw_len hn hq, e1 _ (Q.lt _ hxk), tw_len hn hp, tw_len hn hr, ← Nat.xor_assoc, ← er _ (Nat.xor_lt_two_pow hxk hm1), Q.xor _ _ hxk hm1, em1]
  cases f (yb p (yb q (x ^^^ k) n ^^^ m) n) <;> cases o <;> cases b <;> rfl
theorem Orb.symm {n : Nat} (hn : n ≤ 4) {f g : Nat → Bool} (h1 : Orb n f g) : Orb n g f := by
  obtain ⟨p, m, o, hp, hm, e1⟩ := h1
  have P := pm_of hn hp
  obtain ⟨q, hq, eq⟩ := inv_in hn hp
  have Q := pm_of hn hq
  obtain ⟨m1, hm1, em1⟩ := Q.sur m hm
  refine ⟨q, m1, o, hq, hm1, fun x hx => ?_⟩
  have hxm : x ^^^ m1 < 2 ^ n := Nat.xor_lt_two_pow hx hm1
  rw [tw_len hn hq, e1 _ (Q.lt _ hxm), tw_len hn hp, Q.xor _ _ hx hm1, em1, Nat.xor_assoc, Nat.xor_self, Nat.xor_zero, (eq x hx).1]
  cases f x <;> cases o <;> rfl
theorem Orb.refl {n : Nat} (hn : n ≤ 4) (f : Nat → Bool) {p : List Nat} (hp : p ∈ PL n) : Orb n f f :=
  Orb.trans hn (g := tw f p 0 false) ⟨p, 0, false, hp, Nat.two_pow_pos n, fun _ _ => rfl⟩ (Orb.symm hn ⟨p, 0, false, hp, Nat.two_pow_pos n, fun _ _ => rfl⟩)
theorem twF_orb {n : Nat} (hn : n ≤ 4) (f : Nat → Bool) {p : List Nat} (hp : p ∈ PL n) : Orb n f (twF f n) := by
  rcases (twF_bst f n).src with e | ⟨q, k, b, ⟨hq, hk⟩, e⟩
  · rw [e]; exact Orb.refl hn f hp
  · rw [e]; exact ⟨q, k, b, hq, hk, fun _ _ => rfl⟩
theorem twF_least {n : Nat} (f : Nat → Bool) {u : Nat → Bool} (h : Orb n f u) : lxc (twF f n) u (2 ^ n) 0 ≤ 0 := by
  obtain ⟨p, m, o, hp, hm, e⟩ := h
  rw [lxc_congr (2 ^ n) 0 (a' := twF f n) (b' := tw f p m o) fun x _ hx => ⟨rfl, e x (by omega)⟩]
  exact (twF_bst f n).le p m o ⟨hp, hm⟩
theorem wrap_add {a b : Nat} (h : a + b < 2 ^ 62) : IntKind.wrap .i64 (Int.ofNat a + Int.ofNat b) = Int.ofNat (a + b) := wrap_nat (by omega)
theorem wrap_sub {a b : Nat} (h : b ≤ a) (h2 : a < 2 ^ 62) : IntKind.wrap .i64 (Int.ofNat a - Int.ofNat b) = Int.ofNat (a - b) := by
  rw [show Int.ofNat a - Int.ofNat b = Int.ofNat (a - b) from (Int.ofNat_sub h).symm]
  exact wrap_nat (by omega)
theorem min_v (i : Nat) (hi : i < 64) : min (IntKind.u64.wrap (Int.ofNat i)).toNat IntKind.i64.bits = i := by
  rw [show IntKind.u64.wrap (Int.ofNat i) = Int.ofNat i from Int.emod_eq_of_lt (Int.natCast_nonneg _) (by show ((i : Nat) : Int) < 2 ^ 64; omega)]
  show min i 64 = i
  omega
theorem bit_of (x k : Nat) (hk : k < 64) (hx : x < 2 ^ 62) : andI ((Int.ofNat x).fdiv (2 ^ min (IntKind.u64.wrap (Int.ofNat k)).toNat IntKind.i64.bits)) 1 = Int.ofNat (x / 2 ^ k % 2) := by
  rw [min_v k hk, show (Int.ofNat x).fdiv (2 ^ k) = Int.ofNat (x / 2 ^ k) from shr_nat _ _]
  rw [show (1 : Int) = Int.ofNat 1 from rfl, and_nat (by have := Nat.div_le_self x (2 ^ k); omega), Nat.and_one_is_mod]
end Go.Proofs.YtnfboopfpkaeaaaDoor
namespace Go.Proofs.YtnfboopfpkaeaaaDoor
open Go Go.Eng Nim
set_option maxRecDepth 100000
set_option maxHeartbeats 4000000
theorem rless_of (lf m N : Nat) (hlf : 300 ≤ lf) (hN : N ≤ 16) (b1 c1 b2 c2 : Nat) (v w : Nat → Bool) (h : Hp) (A : ArB b1 N v h) (B : ArB b2 N w h) :
    Ev lf (m + 1) 47 [.slice (some ⟨b1, 0, none⟩) N c1, .slice (some ⟨b2, 0, none⟩) N c2] h = some (.bool (decide (lxc v w N 0 < 0)), h) := by
  refine fn_eq ?_
  have W := Sto.start h
  refine sy_loop 0 lf h (α := Nat) (fun i => [(0, .slice (some ⟨b1, 0, none⟩) N c1), (1, .slice (some ⟨b2, 0, none⟩) N c2), (5, J i)]) (fun i g => i ≤ N ∧ g = h ∧ lxc v w N 0 = lxc v w (N - i) i) (fun i _ => N - i) 0 (by kernel_rfl) (by kernel_rfl) ⟨by kernel_rfl, by kernel_rfl, by kernel_rfl, trivial⟩ (show N - 0 < lf by omega) ⟨Nat.zero_le _, rfl, rfl⟩ ?_
  rintro m1 i f1 g ⟨hi, rfl, hx⟩ ih
  refine ok_go 2 ?_
  refine sy_test 0 (decide (Int.ofNat i < Int.ofNat N)) (by kernel_rfl) ?_ ?_
  · intro hlt
    have hlt := ok_nat hlt
    have hwi : IntKind.wrap .i64 (Int.ofNat (i + 1)) = Int.ofNat (i + 1) := wrap_nat (by omega)
    rw [show N - i = (N - (i + 1)) + 1 by omega, lxc] at hx
    refine sy_load 0 (r := indexAddrOp Tryd.prog 24 (Value.slice (some { block := b1, off := 0 }) N c1) (Value.int IntKind.i64 (Int.ofNat i))) (h' := g) (by kernel_rfl) (idxS0 (e := 4) (by kernel_rfl) (by kernel_rfl) (by omega)) ?_
    refine sy_load 0 (r := loadT Tryd.prog g 4 (ptr (b1) (i))) (h' := g) (by kernel_rfl) (A.read (by omega)) ?_
    refine sy_load 0 (r := indexAddrOp Tryd.prog 24 (Value.slice (some { block := b2, off := 0 }) N c2) (Value.int IntKind.i64 (Int.ofNat i))) (h' := g) (by kernel_rfl) (idxS0 (e := 4) (by kernel_rfl) (by kernel_rfl) (by omega)) ?_
    refine sy_load 0 (r := loadT Tryd.prog g 4 (ptr (b2) (i))) (h' := g) (by kernel_rfl) (B.read (by omega)) ?_
    refine ok_go 1 ?_
    refine sy_test 0 (v i != w i) (by kernel_rfl) ?_ ?_
    · intro hc
      have hv : w i = decide (lxc v w N 0 < 0) := by
        rw [hx]
        revert hc
        cases v i <;> cases w i <;> intro hc <;> first | rfl | exact absurd hc (by decide)
      refine sy_load 0 (r := indexAddrOp Tryd.prog 24 (Value.slice (some { block := b2, off := 0 }) N c2) (Value.int IntKind.i64 (Int.ofNat i))) (h' := g) (by kernel_rfl) (idxS0 (e := 4) (by kernel_rfl) (by kernel_rfl) (by omega)) ?_
      refine sy_load 0 (r := loadT Tryd.prog g 4 (ptr (b2) (i))) (h' := g) (by kernel_rfl) (B.read (by omega)) ?_
      exact sy_done 0 (v := .bool (w i)) (h := g) (by kernel_rfl) ⟨by rw [hv], rfl⟩
    · intro hc
      have hv : v i = w i := by
        revert hc
        cases v i <;> cases w i <;> intro hc <;> first | rfl | exact absurd hc (by decide)
      rw [if_pos hv] at hx
      refine ok_go 1 ?_
      exact sy_next 0 _ g (by kernel_rfl) (by kernel_rfl) (ih (i + 1) _ g ⟨hlt, rfl, hx⟩ (show N - (i + 1) < N - i by omega) ⟨by kernel_rfl, by kernel_rfl, (by kernel_rfl : _ = Value.int .i64 (IntKind.wrap .i64 (Int.ofNat (i + 1)))).trans (by rw [hwi]), trivial⟩)
  · intro hlt
    have hlt := no_nat hlt
    obtain rfl : i = N := by omega
    rw [Nat.sub_self] at hx
    exact sy_done 0 (v := .bool false) (h := g) (by kernel_rfl) ⟨by rw [hx]; rfl, rfl⟩
end Go.Proofs.YtnfboopfpkaeaaaDoor
namespace Go.Proofs.YtnfboopfpkaeaaaDoor
open Go Go.Eng Nim
set_option maxRecDepth 100000
set_option maxHeartbeats 4000000
/-- What has been tried. -/
def Sd (R : List (List Nat)) (mask i k : Nat) : List Nat → Nat → Bool → Prop := fun p m o => (m < mask ∧ p ∈ R) ∨ (m = mask ∧ ((∃ j, j < i ∧ R[j]? = some p) ∨ (R[i]? = some p ∧ ((o = false ∧ 0 < k) ∨ (o = true ∧ 1 < k)))))
theorem Bst.congr {f : Nat → Bool} {N : Nat} {S S' : List Nat → Nat → Bool → Prop} {w : Nat → Bool} (H : Bst f N S w) (h : ∀ p m o, S p m o ↔ S' p m o) : Bst f N S' w := by
  have : S = S' := funext fun p => funext fun m => funext fun o => propext (h p m o)
  rw [← this]; exact H
theorem Sd.up {R : List (List Nat)} {mask i : Nat} (p : List Nat) (m : Nat) (o : Bool) : Sd R mask i 2 p m o ↔ Sd R mask (i + 1) 0 p m o := by
  unfold Sd
  constructor
  · rintro (h | ⟨h, ⟨j, h1, h2⟩ | ⟨h1, h2⟩⟩)
    · exact .inl h
    · exact .inr ⟨h, .inl ⟨j, by omega, h2⟩⟩
    · exact .inr ⟨h, .inl ⟨i, by omega, h1⟩⟩
  · rintro (h | ⟨h, ⟨j, h1, h2⟩ | ⟨h1, h2⟩⟩)
    · exact .inl h
    · by_cases hj : j = i
      · subst hj
        exact .inr ⟨h, .inr ⟨h2, by cases o <;> simp⟩⟩
      · exact .inr ⟨h, .inl ⟨j, by omega, h2⟩⟩
    · rcases h2 with ⟨_, h2⟩ | ⟨_, h2⟩ <;> omega
theorem Sd.over {R : List (List Nat)} {mask : Nat} (p : List Nat) (m : Nat) (o : Bool) : Sd R mask R.length 0 p m o ↔ Sd R (mask + 1) 0 0 p m o := by
  unfold Sd
  constructor
  · rintro (h | ⟨h, ⟨j, h1, h2⟩ | ⟨h1, h2⟩⟩)
    · exact .inl ⟨by omega, h.2⟩
    · exact .inl ⟨by omega, List.mem_of_getElem? h2⟩
    · rcases h2 with ⟨_, h2⟩ | ⟨_, h2⟩ <;> omega
  · rintro (⟨h, h'⟩ | ⟨h, ⟨j, h1, h2⟩ | ⟨h1, h2⟩⟩)
    · by_cases hm : m = mask
      · obtain ⟨j, hj, e⟩ := List.mem_iff_getElem.1 h'
        exact .inr ⟨hm, .inl ⟨j, hj, by rw [← e]; exact List.getElem?_eq_getElem hj⟩⟩
      · exact .inl ⟨by omega, h'⟩
    · omega
    · rcases h2 with ⟨_, h2⟩ | ⟨_, h2⟩ <;> omega
theorem rtwin_of (f : Nat → Bool) (n : Nat) (hn : n ≤ 4) (lf m : Nat) (hlf : 300 ≤ lf) (b0 c : Nat) (h : Hp) (A : ArB b0 (2 ^ n) f h) (bt : ∀ h, Ev lf m 45 [J (2 ^ n)] h = some (J n, h))
    (pm : ∀ h, ∃ l h', Ev lf m 44 [J n] h = some (l, h') ∧ (h.Ext h' ∧ ∃ vs, Rds h' l vs ∧ RowsOk h' vs (rp n)))
    (tu : ∀ mask p pa pc o h, mask < 2 ^ n → p ∈ rp n → ArB b0 (2 ^ n) f h → Rds h (.slice pa n pc) (p.map J) → ∃ x h', Ev lf m 46 [.slice (some ⟨b0, 0, none⟩) (2 ^ n) c, J mask, .slice pa n pc, .bool o] h = some (x, h') ∧ ∃ b cc, x = .slice (some ⟨b, 0, none⟩) (2 ^ n) cc ∧ h.next ≤ b ∧ h.Ext h' ∧ ArB b (2 ^ n) (tw f p mask o) h')
    (le : ∀ b1 c1 b2 c2 v w h, ArB b1 (2 ^ n) v h → ArB b2 (2 ^ n) w h → Ev lf m 47 [.slice (some ⟨b1, 0, none⟩) (2 ^ n) c1, .slice (some ⟨b2, 0, none⟩) (2 ^ n) c2] h = some (.bool (decide (lxc v w (2 ^ n) 0 < 0)), h)) :
    ∃ v h', Ev lf (m + 1) 19 [.slice (some ⟨b0, 0, none⟩) (2 ^ n) c] h = some (v, h') ∧ ∃ b cb w, v = .slice (some ⟨b, 0, none⟩) (2 ^ n) cb ∧ h.Ext h' ∧ ArB b (2 ^ n) w h' ∧ Bst f (2 ^ n) (fun p k _ => p ∈ rp n ∧ k < 2 ^ n) w := by
  have hp16 : 2 ^ n ≤ 16 := Nat.pow_le_pow_right (n := 2) (by decide) hn
  have hrl := rp_len n hn
  have hrow := rp_row n
  generalize hN : 2 ^ n = N at *
  generalize hR : rp n = R at *
  refine fnS_ok (Q := fun v h' => ∃ b cb w, v = .slice (some ⟨b, 0, none⟩) N cb ∧ h.Ext h' ∧ ArB b N w h' ∧ Bst f N (fun p k _ => p ∈ R ∧ k < N) w) ?_
  have W := Sto.start h
  refine ok_go 1 ?_
  refine sy_call 0 (by kernel_rfl) (bt h) ?_
  refine ok_go 0 ?_
  obtain ⟨l, h2, e2, X2, vs, RV, RO⟩ := pm h
  refine sy_call 0 (by kernel_rfl) e2 ?_
  obtain ⟨la, lc, rfl⟩ := RV.shape
  have hvl := RO.1
  have B0 : Bst f N (Sd R 0 0 0) f := ⟨fun p m o hh => by
      rcases hh with ⟨hh, _⟩ | ⟨_, ⟨j, hh, _⟩ | ⟨_, ⟨_, hh⟩ | ⟨_, hh⟩⟩⟩ <;> omega, by have := lxc_flip f f N 0; omega, .inl rfl⟩
  have A2 := A.ext X2
  refine ok_go 0 ?_
  refine sy_loop 0 lf h2 (α := Nat × Nat × Nat) (fun s => [(0, .slice (some ⟨b0, 0, none⟩) N c), (3, .slice (some ⟨s.2.1, 0, none⟩) N s.2.2), (4, .slice la vs.length lc), (5, J s.1)])
    (fun s g => s.1 ≤ N ∧ h2.Ext g ∧ ∃ w, ArB s.2.1 N w g ∧ Bst f N (Sd R s.1 0 0) w) (fun s _ => N - s.1) (0, b0, c) (by kernel_rfl) (by kernel_rfl) ⟨by kernel_rfl, by kernel_rfl, by kernel_rfl, by kernel_rfl, trivial⟩ (show N - 0 < lf by omega) ⟨Nat.zero_le _, Hp.Ext.refl _, f, A2, B0⟩ ?_
  rintro m1 ⟨mask, b, cb⟩ f1 g ⟨hi, X, w, AW, BW⟩ ih
  refine ok_go 2 ?_
  refine sy_test 0 (decide (Int.ofNat mask < Int.ofNat N)) (by kernel_rfl) ?_ ?_
  rotate_left
  · intro hlt
    have hlt := no_nat hlt
    obtain rfl : mask = N := by have : mask ≤ N := hi; omega
    refine ok_go 0 ?_
    exact sy_done 0 (v := .slice (some ⟨b, 0, none⟩) mask cb) (h := g) (by kernel_rfl) ⟨b, cb, w, rfl, X2.trans X, AW, BW.congr fun p m o => by
      unfold Sd
      constructor
      · rintro (⟨h1, h2⟩ | ⟨_, ⟨j, h1, _⟩ | ⟨_, ⟨_, h1⟩ | ⟨_, h1⟩⟩⟩)
        · exact ⟨h2, h1⟩
        · omega
        · omega
        · omega
      · rintro ⟨h1, h2⟩
        exact .inl ⟨h2, h1⟩⟩
  intro hlt
  have hlt := ok_nat hlt
  have hwm : IntKind.wrap .i64 (Int.ofNat (mask + 1)) = Int.ofNat (mask + 1) := wrap_nat (by omega)
  refine ok_go 0 ?_
  refine sy_loop 0 lf g (α := Nat × Nat × Nat) (fun s => [(0, .slice (some ⟨b0, 0, none⟩) N c), (3, .slice (some ⟨s.2.1, 0, none⟩) N s.2.2), (4, .slice la vs.length lc), (5, J mask), (6, J s.1)])
    (fun s q => s.1 ≤ vs.length ∧ h2.Ext q ∧ ∃ w, ArB s.2.1 N w q ∧ Bst f N (Sd R mask s.1 0) w) (fun s _ => vs.length - s.1) (0, b, cb) (by kernel_rfl) (by kernel_rfl) ⟨by kernel_rfl, by kernel_rfl, by kernel_rfl, by kernel_rfl, by kernel_rfl, trivial⟩ (show vs.length - 0 < lf by omega) ⟨Nat.zero_le _, X, w, AW, BW⟩ ?_
  rintro m2 ⟨i, b', cb'⟩ f2 q ⟨hi2, X', w', AW', BW'⟩ ih2
  refine ok_go 2 ?_
  refine sy_test 0 (decide (Int.ofNat i < Int.ofNat vs.length)) (by kernel_rfl) ?_ ?_
  rotate_left
  · intro hlt2
    have hlt2 := no_nat hlt2
    obtain rfl : i = vs.length := by have : i ≤ vs.length := hi2; omega
    refine ok_go 1 ?_
    exact sy_next 0 _ q (by kernel_rfl) (by kernel_rfl) (ih (mask + 1, b', cb') _ q ⟨hlt, X', w', AW', BW'.congr fun p m o => by rw [hvl]; exact Sd.over p m o⟩ (show N - (mask + 1) < N - mask by omega) ⟨by kernel_rfl, by kernel_rfl, by kernel_rfl, (by kernel_rfl : _ = Value.int .i64 (IntKind.wrap .i64 (Int.ofNat (mask + 1)))).trans (by rw [hwm]), trivial⟩)
  intro hlt2
  have hlt2 := ok_nat hlt2
  have hwi : IntKind.wrap .i64 (Int.ofNat (i + 1)) = Int.ofNat (i + 1) := wrap_nat (by omega)
  have hiR : i < R.length := by omega
  have hpR : R[i]? = some R[i] := List.getElem?_eq_getElem hiR
  have hpm : R[i] ∈ R := List.getElem_mem hiR
  have OV := RO.2 i vs[i] R[i] (List.getElem?_eq_getElem hlt2) hpR
  have hlen := hrow R[i] hpm
  obtain ⟨pa, pc, epv⟩ := OV.shape
  rw [List.length_map, hlen] at epv
  refine ok_go 0 ?_
  refine sy_loop 0 lf q (α := Nat × Nat × Nat) (fun s => [(0, .slice (some ⟨b0, 0, none⟩) N c), (3, .slice (some ⟨s.2.1, 0, none⟩) N s.2.2), (4, .slice la vs.length lc), (5, J mask), (6, J i), (7, J s.1)])
    (fun s z => s.1 ≤ 2 ∧ h2.Ext z ∧ ∃ w, ArB s.2.1 N w z ∧ Bst f N (Sd R mask i s.1) w) (fun s _ => 2 - s.1) (0, b', cb') (by kernel_rfl) (by kernel_rfl) ⟨by kernel_rfl, by kernel_rfl, by kernel_rfl, by kernel_rfl, by kernel_rfl, by kernel_rfl, trivial⟩ (show 2 - 0 < lf by omega) ⟨Nat.zero_le _, X', w', AW', BW'⟩ ?_
  rintro m3 ⟨k, b2, cb2⟩ f3 z ⟨hi3, X3, w2, AW2, BW2⟩ ih3
  refine ok_go 1 ?_
  refine sy_test 0 (decide (Int.ofNat k < 2)) (by kernel_rfl) ?_ ?_
  rotate_left
  · intro hlt3
    have hlt3 : 2 ≤ k := no_nat (b := 2) hlt3
    obtain rfl : k = 2 := by have : k ≤ 2 := hi3; omega
    refine ok_go 1 ?_
    exact sy_next 0 _ z (by kernel_rfl) (by kernel_rfl) (ih2 (i + 1, b2, cb2) _ z ⟨hlt2, X3, w2, AW2, BW2.congr Sd.up⟩ (show vs.length - (i + 1) < vs.length - i by omega) ⟨by kernel_rfl, by kernel_rfl, by kernel_rfl, by kernel_rfl, (by kernel_rfl : _ = Value.int .i64 (IntKind.wrap .i64 (Int.ofNat (i + 1)))).trans (by rw [hwi]), trivial⟩)
  intro hlt3
  have hlt3 : k < 2 := ok_nat (b := 2) hlt3
  have hwk : IntKind.wrap .i64 (Int.ofNat (k + 1)) = Int.ofNat (k + 1) := wrap_nat (by omega)
  obtain ⟨a', e1, e3⟩ := (RV.ext X3).read (P := Tryd.prog) (t := 85) (e := 72) (kd := .i64) (by kernel_rfl) (by kernel_rfl) (by kernel_rfl) (List.getElem?_eq_getElem hlt2)
  have hk1 : (Int.ofNat k == 1) = Nat.beq k 1 := by rcases (by omega : k = 0 ∨ k = 1) with rfl | rfl <;> rfl
  refine ok_go 0 ?_
  refine sy_load 0 (h' := z) (by kernel_rfl) e1 ?_
  refine sy_load 0 (h' := z) (by kernel_rfl) e3 ?_
  rw [epv]
  obtain ⟨_, z2, e4, b3, cc3, rfl, hb3, X4, A4⟩ := tu mask R[i] pa pc (Nat.beq k 1) z hlt hpm ((A2.ext X3)) (by have := (OV.rd).ext X3; rw [epv] at this; exact this)
  refine ok_go 1 ?_
  refine sy_call 0 (r := Ev lf m 46 [.slice (some ⟨b0, 0, none⟩) N c, J mask, .slice pa n pc, .bool (Int.ofNat k == 1)] z) (by kernel_rfl) (by rw [hk1]; exact e4) ?_
  refine ok_go 0 ?_
  refine sy_call 0 (by kernel_rfl) (le b3 cc3 b2 cb2 _ w2 z2 A4 (AW2.ext X4)) ?_
  have hstep : Bst f N (Sd R mask i (k + 1)) (upd2 N w2 (tw f R[i] mask (Nat.beq k 1))) := BW2.step (S' := Sd R mask i (k + 1)) (fun q' k' o' hq => by
      unfold Sd at hq ⊢
      rcases hq with hq | ⟨hq, hq2 | ⟨hq3, hq4⟩⟩
      · exact .inl (.inl hq)
      · exact .inl (.inr ⟨hq, .inl hq2⟩)
      · have hqp : q' = R[i] := by rw [hpR] at hq3; exact (Option.some.inj hq3).symm
        rcases (by omega : k = 0 ∨ k = 1) with rfl | rfl
        · rcases hq4 with ⟨ho, _⟩ | ⟨ho, hh⟩
          · exact .inr ⟨hqp, hq, ho⟩
          · omega
        · rcases hq4 with ⟨ho, _⟩ | ⟨ho, hh⟩
          · exact .inl (.inr ⟨hq, .inr ⟨hq3, .inl ⟨ho, by omega⟩⟩⟩)
          · exact .inr ⟨hqp, hq, ho⟩)
    (fun q' k' o' hq => by
      unfold Sd at hq ⊢
      rcases hq with hq | ⟨hq, hq2 | ⟨hq3, hq4⟩⟩
      · exact .inl hq
      · exact .inr ⟨hq, .inl hq2⟩
      · exact .inr ⟨hq, .inr ⟨hq3, hq4.imp (fun h => ⟨h.1, by omega⟩) (fun h => ⟨h.1, by omega⟩)⟩⟩)
    (.inr ⟨rfl, .inr ⟨hpR, by
      rcases (by omega : k = 0 ∨ k = 1) with rfl | rfl
      · exact .inl ⟨rfl, by omega⟩
      · exact .inr ⟨rfl, by omega⟩⟩⟩)
  refine ok_go 0 ?_
  refine sy_test 0 (decide (lxc (tw f R[i] mask (Nat.beq k 1)) w2 N 0 < 0)) (by kernel_rfl) ?_ ?_
  · intro hc
    have hu : upd2 N w2 (tw f R[i] mask (Nat.beq k 1)) = tw f R[i] mask (Nat.beq k 1) := if_pos (of_decide_eq_true hc)
    rw [hu] at hstep
    refine ok_go 1 ?_
    exact sy_next 0 _ z2 (by kernel_rfl) (by kernel_rfl) (ih3 (k + 1, b3, cc3) _ z2 ⟨hlt3, X3.trans X4, _, A4, hstep⟩ (show 2 - (k + 1) < 2 - k by omega) ⟨by kernel_rfl, by kernel_rfl, by kernel_rfl, by kernel_rfl, by kernel_rfl, (by kernel_rfl : _ = Value.int .i64 (IntKind.wrap .i64 (Int.ofNat (k + 1)))).trans (by rw [hwk]), trivial⟩)
  · intro hc
    have hu : upd2 N w2 (tw f R[i] mask (Nat.beq k 1)) = w2 := if_neg (of_decide_eq_false hc)
    rw [hu] at hstep
    refine ok_go 1 ?_
    exact sy_next 0 _ z2 (by kernel_rfl) (by kernel_rfl) (ih3 (k + 1, b2, cb2) _ z2 ⟨hlt3, X3.trans X4, _, AW2.ext X4, hstep⟩ (show 2 - (k + 1) < 2 - k by omega) ⟨by kernel_rfl, by kernel_rfl, by kernel_rfl, by kernel_rfl, by kernel_rfl, (by kernel_rfl : _ = Value.int .i64 (IntKind.wrap .i64 (Int.ofNat (k + 1)))).trans (by rw [hwk]), trivial⟩)
theorem PL_rp : ((PL 0).all fun p => (rp 0).contains p) = true ∧ ((PL 1).all fun p => (rp 1).contains p) = true ∧ ((PL 2).all fun p => (rp 2).contains p) = true ∧ ((PL 3).all fun p => (rp 3).contains p) = true ∧ ((PL 4).all fun p => (rp 4).contains p) = true := ⟨by kernel_rfl, by kernel_rfl, by kernel_rfl, by kernel_rfl, by kernel_rfl⟩
theorem PL_in (n : Nat) (hn : n ≤ 4) {p : List Nat} (hp : p ∈ PL n) : p ∈ rp n := by
  obtain ⟨h0, h1, h2, h3, h4⟩ := PL_rp
  rcases (by omega : n = 0 ∨ n = 1 ∨ n = 2 ∨ n = 3 ∨ n = 4) with rfl | rfl | rfl | rfl | rfl
  · exact List.contains_iff_mem.1 (List.all_eq_true.1 h0 p hp)
  · exact List.contains_iff_mem.1 (List.all_eq_true.1 h1 p hp)
  · exact List.contains_iff_mem.1 (List.all_eq_true.1 h2 p hp)
  · exact List.contains_iff_mem.1 (List.all_eq_true.1 h3 p hp)
  · exact List.contains_iff_mem.1 (List.all_eq_true.1 h4 p hp)
/-- Both first twins are the same. -/
theorem twin_same (f : Nat → Bool) (n : Nat) (hn : n ≤ 4) (w : Nat → Bool) (B : Bst f (2 ^ n) (fun p k _ => p ∈ rp n ∧ k < 2 ^ n) w) : ∀ x, x < 2 ^ n → twF f n x = w x := by
  have T := twF_bst f n
  have h1 : lxc (twF f n) w (2 ^ n) 0 ≤ 0 := by
    rcases B.src with e | ⟨p, m, o, ⟨hp, hm⟩, e⟩
    · rw [e]; exact T.own
    · rw [e]; exact T.le p m o ⟨rp_in n hn hp, hm⟩
  have h2 : lxc w (twF f n) (2 ^ n) 0 ≤ 0 := by
    rcases T.src with e | ⟨p, m, o, ⟨hp, hm⟩, e⟩
    · rw [e]; exact B.own
    · rw [e]; exact B.le p m o ⟨PL_in n hn hp, hm⟩
  exact fun x hx => lxc_anti _ _ (2 ^ n) 0 h1 h2 x (Nat.zero_le _) (by omega)
end Go.Proofs.YtnfboopfpkaeaaaDoor
