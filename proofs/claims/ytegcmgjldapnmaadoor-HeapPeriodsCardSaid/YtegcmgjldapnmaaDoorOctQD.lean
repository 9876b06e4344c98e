/- OctQD: contracts and laws of AftA, RValA, RPerA, RPerB, RPerC, RPerD, PerC, LawB. -/
import Derived.Test.YtegcmgjldapnmaaDoorProg
import Derived.KernelRfl
import Derived.Test.YtegcmgjldapnmaaDoorSyF
import Derived.Test.YtegcmgjldapnmaaDoorOctQC
namespace Go.Proofs.YtegcmgjldapnmaaDoor
open Go Go.Eng Nim Oct
set_option maxRecDepth 100000
set_option maxHeartbeats 8000000
/-- The heaps of a position that are not empty. -/
def rowL (p : Nat × Nat) : List Nat := if p.1 = 0 then [] else if p.2 = 0 then [p.1] else [p.1, p.2]
/-- A row, wherever these blocks stand. -/
def RowIn (L : List (Nat × AObj)) (rv : Value) (r : List Nat) : Prop := ∀ H, Hold H L → Rds H rv (r.map J)
theorem RowIn.mono {L L' : List (Nat × AObj)} {rv : Value} {r : List Nat} (R : RowIn L rv r) (h : ∀ p ∈ L, p ∈ L') : RowIn L' rv r := fun H K => R H (K.sub h)
structure RowsS (L : List (Nat × AObj)) (vs : List Value) (rows : List (List Nat)) : Prop where
  len : vs.length = rows.length
  sc : ∀ v ∈ vs, scalar v = true
  row : ∀ (i : Nat) (rv : Value) (r : List Nat), vs[i]? = some rv → rows[i]? = some r → RowIn L rv r
theorem RowsS.snoc {L : List (Nat × AObj)} {vs : List Value} {rows : List (List Nat)} (R : RowsS L vs rows) {L2 : List (Nat × AObj)} {rv : Value} {r : List Nat} (hs : scalar rv = true) (hr : RowIn L2 rv r) : RowsS (L2 ++ L) (vs ++ [rv]) (rows ++ [r]) := by
  refine ⟨by simp [R.len], fun v hv => ?_, fun i a b ha hb => ?_⟩
  · rcases List.mem_append.1 hv with h | h
    · exact R.sc v h
    · obtain rfl := List.mem_singleton.1 h; exact hs
  · rcases Nat.lt_or_ge i vs.length with h | h
    · rw [List.getElem?_append_left h] at ha
      rw [List.getElem?_append_left (by rw [← R.len]; exact h)] at hb
      exact (R.row i a b ha hb).mono fun p hp => List.mem_append_right _ hp
    · rw [List.getElem?_append_right h] at ha
      rw [List.getElem?_append_right (by rw [← R.len]; exact h)] at hb
      have hi : i - vs.length = 0 := by have := (List.getElem?_eq_some_iff.1 ha).1; simp at this; omega
      rw [hi] at ha
      rw [← R.len, hi] at hb
      cases ha
      cases hb
      exact hr.mono fun p hp => List.mem_append_left _ hp
theorem slz31 : SlTz Tryd.prog 31 32 1 := ⟨by kernel_rfl, by kernel_rfl, ⟨_, rfl, by kernel_rfl⟩, ⟨_, rfl, by kernel_rfl⟩, by decide⟩
theorem row0 : RowIn [] (.slice none 0 0) [] := fun H _ => .inl ⟨⟨none, rfl⟩, rfl⟩
theorem row1 {a x : Nat} : RowIn [(a, .cells [J x] 3 false)] (.slice (some ⟨a, 0, none⟩) 1 2) [x] := fun H K => by
  obtain ⟨h1, h2⟩ := K _ (List.mem_singleton.2 rfl)
  exact .inr ⟨a, 0, 2, rfl, fun _ => ⟨h1, by simp only [loadN, h2]; rfl⟩⟩
theorem row2 {a x y : Nat} : RowIn [(a, .cells [J x, J y] 3 false)] (.slice (some ⟨a, 0, none⟩) 2 4) [x, y] := fun H K => by
  obtain ⟨h1, h2⟩ := K _ (List.mem_singleton.2 rfl)
  exact .inr ⟨a, 0, 4, rfl, fun _ => ⟨h1, by simp only [loadN, h2]; rfl⟩⟩
theorem app_row {h H : Hp} {Q : Value → Hp → Prop} (n : Nat) {t : SA} {j q : Nat} {rv sl : Value} {L L2 : List (Nat × AObj)} {vs : List Value} {RR : List (List Nat)} {r : List Nat} (W : Sto h H ((j, .cells [rv] 32 false) :: (L2 ++ (L ++ oent q 32 vs)))) (hsl : sl = oslV q vs.length) (R : RowsS L vs RR) (hs : scalar rv = true) (hr : RowIn L2 rv r) (hlen : RR.length < 100000)
    (he : askR (goS n t) = appendOp Tryd.prog H 31 sl (.slice (some ⟨j, 0, none⟩) 1 2)) (hq : ∀ H' sl2, sl2 = oslV H.next (vs ++ [rv]).length → scalar sl2 = true → RowsS (L2 ++ L) (vs ++ [rv]) (RR ++ [r]) → Sto h H' ((L2 ++ L) ++ oent H.next 32 (vs ++ [rv])) → Ok Q (askK (goS n t) sl2 H')) : Ok Q t := by
  rw [← List.append_assoc] at W
  refine ow_app (P := Tryd.prog) (t := 31) (e := 32) (z := 1) (c := vs.length) (i := q) n W slz31 (by rw [Nat.mul_one]) rfl (by simp [hs]) (by rw [R.len]; omega) (by rw [← hsl]; exact he) fun H' sl2 nH hsl2 hsc2 W2 => hq H' sl2 (by rw [hsl2, List.length_append]; rfl) hsc2 (R.snoc hs hr) W2
theorem op1_abc {g i n : Nat} (h : i + 1 ≤ n) : op1 g i n = (if g % 2 = 1 ∧ n = i + 1 then [(0, 0)] else []) ++ (if g / 2 % 2 = 1 ∧ i + 1 < n then [(n - (i + 1), 0)] else []) ++ (if g / 4 % 2 = 1 then (List.range ((n - (i + 1)) / 2)).map fun a => (a + 1, n - (i + 1) - (a + 1)) else []) := by
  unfold op1
  rw [if_neg (by omega)]
  by_cases h0 : n = i + 1
  · rw [if_pos h0]
    have e : (n - (i + 1)) / 2 = 0 := by omega
    rw [e, List.range_zero, List.map_nil, if_neg (show ¬ (g / 2 % 2 = 1 ∧ i + 1 < n) by omega)]
    by_cases h1 : g % 2 = 1
    · rw [if_pos h1, if_pos ⟨h1, h0⟩]; simp
    · rw [if_neg h1, if_neg (fun hh => h1 hh.1)]; simp
  · rw [if_neg h0, if_neg (show ¬ (g % 2 = 1 ∧ n = i + 1) by omega), List.nil_append]
    congr 1
    by_cases h1 : g / 2 % 2 = 1
    · rw [if_pos h1, if_pos ⟨h1, by omega⟩]
    · rw [if_neg h1, if_neg (fun hh => h1 hh.1)]
theorem ops_none {n : Nat} : ∀ (d : List Nat) (i : Nat), n < i + 1 → ops d i n = []
  | [], _, _ => rfl
  | g :: d, i, h => by
    rw [ops, ops_none d (i + 1) (by omega)]
    unfold op1
    rw [if_pos h]
    rfl
theorem op1_len (g i n : Nat) : (op1 g i n).length ≤ n + 1 := by
  unfold op1
  split
  · simp
  · split
    · split <;> simp
    · rw [List.length_append]
      have h1 : (if g / 2 % 2 = 1 then [(n - (i + 1), 0)] else ([] : List (Nat × Nat))).length ≤ 1 := by split <;> simp
      have h2 : (if g / 4 % 2 = 1 then (List.range ((n - (i + 1)) / 2)).map fun a => (a + 1, n - (i + 1) - (a + 1)) else ([] : List (Nat × Nat))).length ≤ n / 2 := by
        split
        · rw [List.length_map, List.length_range]; omega
        · simp
      omega
theorem ops_len (n : Nat) : ∀ (d : List Nat) (i : Nat), (ops d i n).length ≤ d.length * (n + 1)
  | [], i => by simp [ops]
  | g :: d, i => by
    rw [ops, List.length_append, List.length_cons, Nat.add_mul]
    have := op1_len g i n
    have := ops_len n d (i + 1)
    omega
theorem after_of (d : List Nat) (hd : ∀ x ∈ d, x < 8) (hl : d.length ≤ 8) (n : Nat) (hn : n ≤ 2000) (lf m : Nat) (hlf : 20000 ≤ lf) (h : Hp) :
    ∃ v h', Ev lf (m + 1) 63 [.string (strL (codeS d)), J n] h = some (v, h') ∧ ∃ q vs L, v = oslV q vs.length ∧ RowsS L vs ((ops d 0 n).map rowL) ∧ Sto h h' (L ++ oent q 32 vs) := by
  refine fnS_ok (Q := fun v h' => ∃ q vs L, v = oslV q vs.length ∧ RowsS L vs ((ops d 0 n).map rowL) ∧ Sto h h' (L ++ oent q 32 vs)) ?_
  have hD : IntKind.wrap .i64 (Int.ofNat (strL (codeS d)).size - 2) = Int.ofNat d.length := by
    rw [strL_size]
    have : (codeS d).length = d.length + 2 := by simp [codeS]
    rw [this]
    exact wrap_sub (a := d.length + 2) (b := 2) (by omega) (by omega)
  have W := Sto.start h
  refine ok_go 0 ?_
  refine sy_loop 0 lf h (α := Nat × Value × Nat × List Value × List (Nat × AObj)) (fun x => [(0, .string (strL (codeS d))), (1, J n), (5, x.2.1), (6, J (x.1 + 1))]) (fun x g => x.1 ≤ d.length ∧ x.2.1 = oslV x.2.2.1 x.2.2.2.1.length ∧ scalar x.2.1 = true ∧ RowsS x.2.2.2.2 x.2.2.2.1 ((ops (d.take x.1) 0 n).map rowL) ∧ Sto h g (x.2.2.2.2 ++ oent x.2.2.1 32 x.2.2.2.1)) (fun x _ => d.length - x.1) (0, .slice none 0 0, 0, [], []) (by kernel_rfl) (by kernel_rfl)
    ⟨by kernel_rfl, by kernel_rfl, by kernel_rfl, by kernel_rfl, trivial⟩ (show d.length - 0 < lf by omega) ⟨Nat.zero_le _, rfl, rfl, ⟨rfl, fun v hv => (by cases hv), fun i rv r h1 h2 => (by cases h1)⟩, W⟩ ?_
  rintro m1 ⟨i, sl, q, vs, L⟩ f1 g ⟨hi, hsl, hsc, R, W⟩ ih
  dsimp only at hi hsl hsc R W
  have hw : IntKind.wrap .i64 (Int.ofNat (i + 1 + 1)) = Int.ofNat (i + 1 + 1) := wrap_nat (by omega)
  refine ok_go 3 ?_
  refine sy_test 0 (decide (Int.ofNat (i + 1) ≤ IntKind.wrap .i64 (Int.ofNat (strL (codeS d)).size - 2))) (by kernel_rfl) ?_ ?_
  · intro hle
    have hlt : i < d.length := by rw [hD] at hle; exact Int.ofNat_le.1 (of_decide_eq_true hle)
    refine ok_go 4 ?_
    refine sy_test 0 (decide (Int.ofNat (i + 1) ≤ Int.ofNat n)) (by kernel_rfl) ?_ ?_
    · intro hle2
      have hin : i + 1 ≤ n := Int.ofNat_le.1 (of_decide_eq_true hle2)
      have hg8 := hd _ (List.getElem_mem hlt)
      have hsn : ops (d.take (i + 1)) 0 n = ops (d.take i) 0 n ++ op1 d[i] i n := by
        rw [List.take_succ_eq_append_getElem hlt, ops_snoc, List.length_take, Nat.zero_add, Nat.min_eq_left (by omega)]
      have hix : (codeS d)[i + 1 + 1]? = some (48 + d[i]) := by
        show (48 :: 46 :: d.map (48 + ·))[i + 1 + 1]? = _
        rw [List.getElem?_cons_succ, List.getElem?_cons_succ, List.getElem?_map, List.getElem?_eq_getElem hlt]; rfl
      refine ok_go 1 ?_
      refine sy_load 0 (r := pureX (Instr.index 9 (.string (strL (codeS d))) (I (IntKind.wrap .i64 (Int.ofNat (i + 1 + 1)))))) (h' := g) (by kernel_rfl) (by rw [hw]; exact x_index hix (by omega)) ?_
      have hz : (IntKind.wrap .i64 (IntKind.wrap .u8 (Int.ofNat (48 + d[i]) - 48))) = Int.ofNat d[i] := by
        have : (Int.ofNat (48 + d[i]) - 48 : Int) = Int.ofNat d[i] := by show ((48 + d[i] : Nat) : Int) - 48 = ((d[i] : Nat) : Int); omega
        rw [this]
        rcases (by omega : d[i] = 0 ∨ d[i] = 1 ∨ d[i] = 2 ∨ d[i] = 3 ∨ d[i] = 4 ∨ d[i] = 5 ∨ d[i] = 6 ∨ d[i] = 7) with e | e | e | e | e | e | e | e <;> rw [e] <;> rfl
      have hLV : (IntKind.wrap .i64 (Int.ofNat n - Int.ofNat (i + 1))) = Int.ofNat (n - (i + 1)) := wrap_sub hin (by omega)
      have hdl : (ops (d.take i) 0 n).length ≤ 16008 := by
        have h1 := ops_len n (d.take i) 0
        have h2 : (d.take i).length * (n + 1) ≤ 8 * 2001 := Nat.mul_le_mul (by rw [List.length_take]; omega) (by omega)
        omega
      have t1 : (((IntKind.wrap .i64 (IntKind.wrap .u8 (Int.ofNat (48 + d[i]) - 48)))).tmod 2 == 1) = (d[i] % 2 == 1) := by
        rw [hz]
        rcases (by omega : d[i] = 0 ∨ d[i] = 1 ∨ d[i] = 2 ∨ d[i] = 3 ∨ d[i] = 4 ∨ d[i] = 5 ∨ d[i] = 6 ∨ d[i] = 7) with e | e | e | e | e | e | e | e <;> rw [e] <;> rfl
      have t2 : ((IntKind.wrap .i64 (((IntKind.wrap .i64 (IntKind.wrap .u8 (Int.ofNat (48 + d[i]) - 48)))).tdiv 2)).tmod 2 == 1) = (d[i] / 2 % 2 == 1) := by
        rw [hz]
        rcases (by omega : d[i] = 0 ∨ d[i] = 1 ∨ d[i] = 2 ∨ d[i] = 3 ∨ d[i] = 4 ∨ d[i] = 5 ∨ d[i] = 6 ∨ d[i] = 7) with e | e | e | e | e | e | e | e <;> rw [e] <;> rfl
      have t4 : (IntKind.wrap .i64 (((IntKind.wrap .i64 (IntKind.wrap .u8 (Int.ofNat (48 + d[i]) - 48)))).tdiv 4) == 1) = (d[i] / 4 % 2 == 1) := by
        rw [hz]
        rcases (by omega : d[i] = 0 ∨ d[i] = 1 ∨ d[i] = 2 ∨ d[i] = 3 ∨ d[i] = 4 ∨ d[i] = 5 ∨ d[i] = 6 ∨ d[i] = 7) with e | e | e | e | e | e | e | e <;> rw [e] <;> rfl
      have habc := op1_abc (g := d[i]) hin
      rw [habc] at hsn
      refine ok_go 5 ?_
      by_cases ho : d[i] % 2 = 1
      · refine sy_yes 0 (b := (((IntKind.wrap .i64 (IntKind.wrap .u8 (Int.ofNat (48 + d[i]) - 48)))).tmod 2 == 1)) (by kernel_rfl) (by rw [t1, ho]; rfl) ?_
        refine ok_go 3 ?_
        by_cases hn0 : n = i + 1
        · refine sy_yes 0 (b := ((IntKind.wrap .i64 (Int.ofNat n - Int.ofNat (i + 1))) == 0)) (by kernel_rfl) (by rw [hLV, show n - (i + 1) = 0 by omega]; rfl) ?_
          have ha : (d[i] % 2 = 1 ∧ n = i + 1) = True := eq_true ⟨ho, hn0⟩
          refine ow_new 0 W (AObj.cells [Value.slice none 0 0] 32 false) (fun q => Value.slice (some { block := q, off := 0 }) 1 2) (by kernel_rfl) fun z1 nz1 Wz1 => ?_
          have W := Wz1
          refine app_row (L2 := []) 0 W hsl R rfl row0 (by simp; omega) (by kernel_rfl) fun g0a sl0a hsl0a hsc0a R0a W => ?_
          have hrl : ([] : List Nat) = rowL (0, 0) := rfl
          rw [hrl] at R0a
          refine ok_go 3 ?_
          by_cases h2 : d[i] / 2 % 2 = 1
          · refine sy_yes 0 (b := ((IntKind.wrap .i64 (((IntKind.wrap .i64 (IntKind.wrap .u8 (Int.ofNat (48 + d[i]) - 48)))).tdiv 2)).tmod 2 == 1)) (by kernel_rfl) (by rw [t2, h2]; rfl) ?_
            refine ok_go 3 ?_
            refine sy_no 0 (b := (decide ((IntKind.wrap .i64 (Int.ofNat n - Int.ofNat (i + 1))) > 0))) (by kernel_rfl) (by rw [hLV, show n - (i + 1) = 0 by omega]; rfl) ?_
            have hb : (d[i] / 2 % 2 = 1 ∧ i + 1 < n) = False := eq_false (by omega)
            refine ok_go 2 ?_
            by_cases h4 : d[i] / 4 % 2 = 1
            · refine sy_yes 0 (b := (IntKind.wrap .i64 (((IntKind.wrap .i64 (IntKind.wrap .u8 (Int.ofNat (48 + d[i]) - 48)))).tdiv 4) == 1)) (by kernel_rfl) (by rw [t4, h4]; rfl) ?_
              refine ok_go 0 ?_
              refine sy_loop 0 lf g0a (α := Nat × Value × Nat × List Value × List (Nat × AObj)) (fun x => [(0, .string (strL (codeS d))), (1, J n), (5, x.2.1), (6, J (i + 1)), (8, I (IntKind.wrap .i64 (Int.ofNat n - Int.ofNat (i + 1)))), (9, J x.1)])
                (fun x g => 1 ≤ x.1 ∧ 2 * (x.1 - 1) ≤ n - (i + 1) ∧ x.2.1 = oslV x.2.2.1 x.2.2.2.1.length ∧ scalar x.2.1 = true ∧ RowsS x.2.2.2.2 x.2.2.2.1 ((((ops (d.take i) 0 n).map rowL) ++ [rowL (0, 0)]) ++ (List.range (x.1 - 1)).map (fun a => rowL (a + 1, n - (i + 1) - (a + 1)))) ∧ Sto h g (x.2.2.2.2 ++ oent x.2.2.1 32 x.2.2.2.1)) (fun x _ => n - x.1) (1, sl0a, _, _, _) (by kernel_rfl) (by kernel_rfl)
                ⟨by kernel_rfl, by kernel_rfl, by kernel_rfl, by kernel_rfl, by kernel_rfl, by kernel_rfl, trivial⟩ (show n - 1 < lf by omega) ⟨Nat.le_refl 1, by simp, hsl0a, hsc0a, by rw [show (1 : Nat) - 1 = 0 from rfl, List.range_zero, List.map_nil, List.append_nil]; exact R0a, W⟩ ?_
              rintro m2 ⟨x, slx, qx, vx, Lx⟩ f2 gx ⟨hx1, hx2, hslx, hscx, Rx, W⟩ ih2
              dsimp only at hx1 hx2 hslx hscx Rx W
              have hxx : IntKind.wrap .i64 (Int.ofNat x + Int.ofNat x) = Int.ofNat (x + x) := wrap_add (by omega)
              have hwx : IntKind.wrap .i64 (Int.ofNat (x + 1)) = Int.ofNat (x + 1) := wrap_nat (by omega)
              refine ok_go 2 ?_
              refine sy_test 0 (decide (IntKind.wrap .i64 (Int.ofNat x + Int.ofNat x) ≤ (IntKind.wrap .i64 (Int.ofNat n - Int.ofNat (i + 1))))) (by kernel_rfl) ?_ ?_
              · intro hle3
                have hle3 : x + x ≤ n - (i + 1) := by rw [hxx, hLV] at hle3; exact Int.ofNat_le.1 (of_decide_eq_true hle3)
                have hsub : IntKind.wrap .i64 ((IntKind.wrap .i64 (Int.ofNat n - Int.ofNat (i + 1))) - Int.ofNat x) = Int.ofNat (n - (i + 1) - x) := by rw [hLV]; exact wrap_sub (by omega) (by omega)
                refine ow_new 1 W (AObj.cells [Value.int IntKind.i64 (Int.ofNat (Prod.fst (x, slx, qx, vx, Lx))), Value.int IntKind.i64 (IntKind.wrap IntKind.i64 (IntKind.wrap IntKind.i64 (Int.ofNat n - Int.ofNat (i + 1)) - Int.ofNat (Prod.fst (x, slx, qx, vx, Lx))))] 3 false) (fun q => Value.slice (some { block := q, off := 0 }) 2 4) (by kernel_rfl) fun c1x1 nc1x1 Wc1x1 => ?_
                have W := Wc1x1
                refine ow_new 0 W (AObj.cells [Value.slice (some { block := Hp.next gx, off := 0 }) 2 4] 32 false) (fun q => Value.slice (some { block := q, off := 0 }) 1 2) (by kernel_rfl) fun c1x2 nc1x2 Wc1x2 => ?_
                have W := Wc1x2
                rw [hsub] at W
                refine app_row (L2 := [(_, .cells [J x, J (n - (i + 1) - x)] 3 false)]) 0 W hslx Rx rfl row2 (by simp; omega) (by kernel_rfl) fun g1b sl1b hsl1b hsc1b R1b W => ?_
                have hrl : [x, n - (i + 1) - x] = rowL (x - 1 + 1, n - (i + 1) - (x - 1 + 1)) := by
                  rw [show x - 1 + 1 = x by omega]
                  unfold rowL; rw [if_neg (by show ¬ x = 0; omega), if_neg (by show ¬ n - (i + 1) - x = 0; omega)]
                rw [hrl, List.append_assoc] at R1b
                refine ok_go 1 ?_
                exact sy_next 0 _ g1b (by kernel_rfl) (by kernel_rfl) (ih2 (x + 1, sl1b, _, _, _) _ g1b ⟨by show 1 ≤ x + 1; omega, by show 2 * (x + 1 - 1) ≤ _; omega, hsl1b, hsc1b, by
                  show RowsS _ _ ((((ops (d.take i) 0 n).map rowL) ++ [rowL (0, 0)]) ++ (List.range (x + 1 - 1)).map (fun a => rowL (a + 1, n - (i + 1) - (a + 1))))
                  rw [show x + 1 - 1 = (x - 1) + 1 by omega, List.range_succ, List.map_append]
                  exact R1b, W⟩ (show n - (x + 1) < n - x by omega) ⟨by kernel_rfl, by kernel_rfl, by kernel_rfl, by kernel_rfl, by kernel_rfl, (by kernel_rfl : _ = Value.int .i64 (IntKind.wrap .i64 (Int.ofNat (x + 1)))).trans (by rw [hwx]), trivial⟩)
              · intro hle3
                have hle3 : n - (i + 1) < x + x := by rw [hxx, hLV] at hle3; have := of_decide_eq_false hle3; exact Nat.lt_of_not_le fun h => this (Int.ofNat_le.2 h)
                have hx3 : x - 1 = (n - (i + 1)) / 2 := by omega
                rw [hx3] at Rx
                have hcm : ((List.range ((n - (i + 1)) / 2)).map fun a => (a + 1, n - (i + 1) - (a + 1))).map rowL = (List.range ((n - (i + 1)) / 2)).map (fun a => rowL (a + 1, n - (i + 1) - (a + 1))) := by rw [List.map_map]; rfl
                refine ok_go 1 ?_
                exact sy_next 0 _ gx (by kernel_rfl) (by kernel_rfl) (ih (i + 1, slx, qx, vx, Lx) _ gx ⟨hlt, hslx, hscx, by rw [hsn]; simp only [ha, hb, h4, if_true, if_false, List.append_nil, List.nil_append, List.map_append, hcm, List.map_cons, List.map_nil]; simpa only [List.append_assoc] using Rx, W⟩ (show d.length - (i + 1) < d.length - i by omega) ⟨by kernel_rfl, by kernel_rfl, by kernel_rfl, (by kernel_rfl : _ = Value.int .i64 (IntKind.wrap .i64 (Int.ofNat (i + 1 + 1)))).trans (by rw [hw]), trivial⟩)
            · refine sy_no 0 (b := (IntKind.wrap .i64 (((IntKind.wrap .i64 (IntKind.wrap .u8 (Int.ofNat (48 + d[i]) - 48)))).tdiv 4) == 1)) (by kernel_rfl) (by rw [t4]; exact beq_eq_false_iff_ne.2 h4) ?_
              refine ok_go 1 ?_
              exact sy_next 0 _ g0a (by kernel_rfl) (by kernel_rfl) (ih (i + 1, sl0a, _, _, _) _ g0a ⟨hlt, hsl0a, hsc0a, by rw [hsn]; simpa only [ha, hb, h4, if_true, if_false, List.append_nil, List.nil_append, List.map_append, List.map_cons, List.map_nil, List.append_assoc] using R0a, W⟩ (show d.length - (i + 1) < d.length - i by omega) ⟨by kernel_rfl, by kernel_rfl, by kernel_rfl, (by kernel_rfl : _ = Value.int .i64 (IntKind.wrap .i64 (Int.ofNat (i + 1 + 1)))).trans (by rw [hw]), trivial⟩)
          · refine sy_no 0 (b := ((IntKind.wrap .i64 (((IntKind.wrap .i64 (IntKind.wrap .u8 (Int.ofNat (48 + d[i]) - 48)))).tdiv 2)).tmod 2 == 1)) (by kernel_rfl) (by rw [t2]; exact beq_eq_false_iff_ne.2 h2) ?_
            have hb : (d[i] / 2 % 2 = 1 ∧ i + 1 < n) = False := eq_false (by omega)
            refine ok_go 5 ?_
            by_cases h4 : d[i] / 4 % 2 = 1
            · refine sy_yes 0 (b := (IntKind.wrap .i64 (((IntKind.wrap .i64 (IntKind.wrap .u8 (Int.ofNat (48 + d[i]) - 48)))).tdiv 4) == 1)) (by kernel_rfl) (by rw [t4, h4]; rfl) ?_
              refine ok_go 0 ?_
              refine sy_loop 0 lf g0a (α := Nat × Value × Nat × List Value × List (Nat × AObj)) (fun x => [(0, .string (strL (codeS d))), (1, J n), (5, x.2.1), (6, J (i + 1)), (8, I (IntKind.wrap .i64 (Int.ofNat n - Int.ofNat (i + 1)))), (9, J x.1)])
                (fun x g => 1 ≤ x.1 ∧ 2 * (x.1 - 1) ≤ n - (i + 1) ∧ x.2.1 = oslV x.2.2.1 x.2.2.2.1.length ∧ scalar x.2.1 = true ∧ RowsS x.2.2.2.2 x.2.2.2.1 ((((ops (d.take i) 0 n).map rowL) ++ [rowL (0, 0)]) ++ (List.range (x.1 - 1)).map (fun a => rowL (a + 1, n - (i + 1) - (a + 1)))) ∧ Sto h g (x.2.2.2.2 ++ oent x.2.2.1 32 x.2.2.2.1)) (fun x _ => n - x.1) (1, sl0a, _, _, _) (by kernel_rfl) (by kernel_rfl)
                ⟨by kernel_rfl, by kernel_rfl, by kernel_rfl, by kernel_rfl, by kernel_rfl, by kernel_rfl, trivial⟩ (show n - 1 < lf by omega) ⟨Nat.le_refl 1, by simp, hsl0a, hsc0a, by rw [show (1 : Nat) - 1 = 0 from rfl, List.range_zero, List.map_nil, List.append_nil]; exact R0a, W⟩ ?_
              rintro m2 ⟨x, slx, qx, vx, Lx⟩ f2 gx ⟨hx1, hx2, hslx, hscx, Rx, W⟩ ih2
              dsimp only at hx1 hx2 hslx hscx Rx W
              have hxx : IntKind.wrap .i64 (Int.ofNat x + Int.ofNat x) = Int.ofNat (x + x) := wrap_add (by omega)
              have hwx : IntKind.wrap .i64 (Int.ofNat (x + 1)) = Int.ofNat (x + 1) := wrap_nat (by omega)
              refine ok_go 2 ?_
              refine sy_test 0 (decide (IntKind.wrap .i64 (Int.ofNat x + Int.ofNat x) ≤ (IntKind.wrap .i64 (Int.ofNat n - Int.ofNat (i + 1))))) (by kernel_rfl) ?_ ?_
              · intro hle3
                have hle3 : x + x ≤ n - (i + 1) := by rw [hxx, hLV] at hle3; exact Int.ofNat_le.1 (of_decide_eq_true hle3)
                have hsub : IntKind.wrap .i64 ((IntKind.wrap .i64 (Int.ofNat n - Int.ofNat (i + 1))) - Int.ofNat x) = Int.ofNat (n - (i + 1) - x) := by rw [hLV]; exact wrap_sub (by omega) (by omega)
                refine ow_new 1 W (AObj.cells [Value.int IntKind.i64 (Int.ofNat (Prod.fst (x, slx, qx, vx, Lx))), Value.int IntKind.i64 (IntKind.wrap IntKind.i64 (IntKind.wrap IntKind.i64 (Int.ofNat n - Int.ofNat (i + 1)) - Int.ofNat (Prod.fst (x, slx, qx, vx, Lx))))] 3 false) (fun q => Value.slice (some { block := q, off := 0 }) 2 4) (by kernel_rfl) fun c2x1 nc2x1 Wc2x1 => ?_
                have W := Wc2x1
                refine ow_new 0 W (AObj.cells [Value.slice (some { block := Hp.next gx, off := 0 }) 2 4] 32 false) (fun q => Value.slice (some { block := q, off := 0 }) 1 2) (by kernel_rfl) fun c2x2 nc2x2 Wc2x2 => ?_
                have W := Wc2x2
                rw [hsub] at W
                refine app_row (L2 := [(_, .cells [J x, J (n - (i + 1) - x)] 3 false)]) 0 W hslx Rx rfl row2 (by simp; omega) (by kernel_rfl) fun g2b sl2b hsl2b hsc2b R2b W => ?_
                have hrl : [x, n - (i + 1) - x] = rowL (x - 1 + 1, n - (i + 1) - (x - 1 + 1)) := by
                  rw [show x - 1 + 1 = x by omega]
                  unfold rowL; rw [if_neg (by show ¬ x = 0; omega), if_neg (by show ¬ n - (i + 1) - x = 0; omega)]
                rw [hrl, List.append_assoc] at R2b
                refine ok_go 1 ?_
                exact sy_next 0 _ g2b (by kernel_rfl) (by kernel_rfl) (ih2 (x + 1, sl2b, _, _, _) _ g2b ⟨by show 1 ≤ x + 1; omega, by show 2 * (x + 1 - 1) ≤ _; omega, hsl2b, hsc2b, by
                  show RowsS _ _ ((((ops (d.take i) 0 n).map rowL) ++ [rowL (0, 0)]) ++ (List.range (x + 1 - 1)).map (fun a => rowL (a + 1, n - (i + 1) - (a + 1))))
                  rw [show x + 1 - 1 = (x - 1) + 1 by omega, List.range_succ, List.map_append]
                  exact R2b, W⟩ (show n - (x + 1) < n - x by omega) ⟨by kernel_rfl, by kernel_rfl, by kernel_rfl, by kernel_rfl, by kernel_rfl, (by kernel_rfl : _ = Value.int .i64 (IntKind.wrap .i64 (Int.ofNat (x + 1)))).trans (by rw [hwx]), trivial⟩)
              · intro hle3
                have hle3 : n - (i + 1) < x + x := by rw [hxx, hLV] at hle3; have := of_decide_eq_false hle3; exact Nat.lt_of_not_le fun h => this (Int.ofNat_le.2 h)
                have hx3 : x - 1 = (n - (i + 1)) / 2 := by omega
                rw [hx3] at Rx
                have hcm : ((List.range ((n - (i + 1)) / 2)).map fun a => (a + 1, n - (i + 1) - (a + 1))).map rowL = (List.range ((n - (i + 1)) / 2)).map (fun a => rowL (a + 1, n - (i + 1) - (a + 1))) := by rw [List.map_map]; rfl
                refine ok_go 1 ?_
                exact sy_next 0 _ gx (by kernel_rfl) (by kernel_rfl) (ih (i + 1, slx, qx, vx, Lx) _ gx ⟨hlt, hslx, hscx, by rw [hsn]; simp only [ha, hb, h4, if_true, if_false, List.append_nil, List.nil_append, List.map_append, hcm, List.map_cons, List.map_nil]; simpa only [List.append_assoc] using Rx, W⟩ (show d.length - (i + 1) < d.length - i by omega) ⟨by kernel_rfl, by kernel_rfl, by kernel_rfl, (by kernel_rfl : _ = Value.int .i64 (IntKind.wrap .i64 (Int.ofNat (i + 1 + 1)))).trans (by rw [hw]), trivial⟩)
            · refine sy_no 0 (b := (IntKind.wrap .i64 (((IntKind.wrap .i64 (IntKind.wrap .u8 (Int.ofNat (48 + d[i]) - 48)))).tdiv 4) == 1)) (by kernel_rfl) (by rw [t4]; exact beq_eq_false_iff_ne.2 h4) ?_
              refine ok_go 1 ?_
              exact sy_next 0 _ g0a (by kernel_rfl) (by kernel_rfl) (ih (i + 1, sl0a, _, _, _) _ g0a ⟨hlt, hsl0a, hsc0a, by rw [hsn]; simpa only [ha, hb, h4, if_true, if_false, List.append_nil, List.nil_append, List.map_append, List.map_cons, List.map_nil, List.append_assoc] using R0a, W⟩ (show d.length - (i + 1) < d.length - i by omega) ⟨by kernel_rfl, by kernel_rfl, by kernel_rfl, (by kernel_rfl : _ = Value.int .i64 (IntKind.wrap .i64 (Int.ofNat (i + 1 + 1)))).trans (by rw [hw]), trivial⟩)
        · refine sy_no 0 (b := ((IntKind.wrap .i64 (Int.ofNat n - Int.ofNat (i + 1))) == 0)) (by kernel_rfl) (by rw [hLV]; exact beq_eq_false_iff_ne.2 (by show ((n - (i + 1) : Nat) : Int) ≠ 0; omega)) ?_
          have ha : (d[i] % 2 = 1 ∧ n = i + 1) = False := eq_false (by omega)
          refine ok_go 3 ?_
          by_cases h2 : d[i] / 2 % 2 = 1
          · refine sy_yes 0 (b := ((IntKind.wrap .i64 (((IntKind.wrap .i64 (IntKind.wrap .u8 (Int.ofNat (48 + d[i]) - 48)))).tdiv 2)).tmod 2 == 1)) (by kernel_rfl) (by rw [t2, h2]; rfl) ?_
            refine ok_go 3 ?_
            refine sy_yes 0 (b := (decide ((IntKind.wrap .i64 (Int.ofNat n - Int.ofNat (i + 1))) > 0))) (by kernel_rfl) (by rw [hLV]; exact decide_eq_true (by show (0 : Int) < ((n - (i + 1) : Nat) : Int); omega)) ?_
            have hb : (d[i] / 2 % 2 = 1 ∧ i + 1 < n) = True := eq_true ⟨h2, by omega⟩
            refine ow_new 0 W (AObj.cells [Value.int IntKind.i64 (IntKind.wrap IntKind.i64 (Int.ofNat n - Int.ofNat (Prod.fst (i, sl, q, vs, L) + 1)))] 3 false) (fun q => Value.slice (some { block := q, off := 0 }) 1 2) (by kernel_rfl) fun c3x1 nc3x1 Wc3x1 => ?_
            have W := Wc3x1
            refine ow_new 0 W (AObj.cells [Value.slice (some { block := Hp.next g, off := 0 }) 1 2] 32 false) (fun q => Value.slice (some { block := q, off := 0 }) 1 2) (by kernel_rfl) fun c3x2 nc3x2 Wc3x2 => ?_
            have W := Wc3x2
            rw [hLV] at W
            refine app_row (L2 := [(_, .cells [J (n - (i + 1))] 3 false)]) 0 W hsl R rfl row1 (by simp; omega) (by kernel_rfl) fun g3a sl3a hsl3a hsc3a R3a W => ?_
            have hrl : [n - (i + 1)] = rowL (n - (i + 1), 0) := by unfold rowL; rw [if_neg (by show ¬ n - (i + 1) = 0; omega), if_pos rfl]
            rw [hrl] at R3a
            refine ok_go 2 ?_
            by_cases h4 : d[i] / 4 % 2 = 1
            · refine sy_yes 0 (b := (IntKind.wrap .i64 (((IntKind.wrap .i64 (IntKind.wrap .u8 (Int.ofNat (48 + d[i]) - 48)))).tdiv 4) == 1)) (by kernel_rfl) (by rw [t4, h4]; rfl) ?_
              refine ok_go 0 ?_
              refine sy_loop 0 lf g3a (α := Nat × Value × Nat × List Value × List (Nat × AObj)) (fun x => [(0, .string (strL (codeS d))), (1, J n), (5, x.2.1), (6, J (i + 1)), (8, I (IntKind.wrap .i64 (Int.ofNat n - Int.ofNat (i + 1)))), (9, J x.1)])
                (fun x g => 1 ≤ x.1 ∧ 2 * (x.1 - 1) ≤ n - (i + 1) ∧ x.2.1 = oslV x.2.2.1 x.2.2.2.1.length ∧ scalar x.2.1 = true ∧ RowsS x.2.2.2.2 x.2.2.2.1 ((((ops (d.take i) 0 n).map rowL) ++ [rowL (n - (i + 1), 0)]) ++ (List.range (x.1 - 1)).map (fun a => rowL (a + 1, n - (i + 1) - (a + 1)))) ∧ Sto h g (x.2.2.2.2 ++ oent x.2.2.1 32 x.2.2.2.1)) (fun x _ => n - x.1) (1, sl3a, _, _, _) (by kernel_rfl) (by kernel_rfl)
                ⟨by kernel_rfl, by kernel_rfl, by kernel_rfl, by kernel_rfl, by kernel_rfl, by kernel_rfl, trivial⟩ (show n - 1 < lf by omega) ⟨Nat.le_refl 1, by simp, hsl3a, hsc3a, by rw [show (1 : Nat) - 1 = 0 from rfl, List.range_zero, List.map_nil, List.append_nil]; exact R3a, W⟩ ?_
              rintro m2 ⟨x, slx, qx, vx, Lx⟩ f2 gx ⟨hx1, hx2, hslx, hscx, Rx, W⟩ ih2
              dsimp only at hx1 hx2 hslx hscx Rx W
              have hxx : IntKind.wrap .i64 (Int.ofNat x + Int.ofNat x) = Int.ofNat (x + x) := wrap_add (by omega)
              have hwx : IntKind.wrap .i64 (Int.ofNat (x + 1)) = Int.ofNat (x + 1) := wrap_nat (by omega)
              refine ok_go 2 ?_
              refine sy_test 0 (decide (IntKind.wrap .i64 (Int.ofNat x + Int.ofNat x) ≤ (IntKind.wrap .i64 (Int.ofNat n - Int.ofNat (i + 1))))) (by kernel_rfl) ?_ ?_
              · intro hle3
                have hle3 : x + x ≤ n - (i + 1) := by rw [hxx, hLV] at hle3; exact Int.ofNat_le.1 (of_decide_eq_true hle3)
                have hsub : IntKind.wrap .i64 ((IntKind.wrap .i64 (Int.ofNat n - Int.ofNat (i + 1))) - Int.ofNat x) = Int.ofNat (n - (i + 1) - x) := by rw [hLV]; exact wrap_sub (by omega) (by omega)
                refine ow_new 1 W (AObj.cells [Value.int IntKind.i64 (Int.ofNat (Prod.fst (x, slx, qx, vx, Lx))), Value.int IntKind.i64 (IntKind.wrap IntKind.i64 (IntKind.wrap IntKind.i64 (Int.ofNat n - Int.ofNat (i + 1)) - Int.ofNat (Prod.fst (x, slx, qx, vx, Lx))))] 3 false) (fun q => Value.slice (some { block := q, off := 0 }) 2 4) (by kernel_rfl) fun c4x1 nc4x1 Wc4x1 => ?_
                have W := Wc4x1
                refine ow_new 0 W (AObj.cells [Value.slice (some { block := Hp.next gx, off := 0 }) 2 4] 32 false) (fun q => Value.slice (some { block := q, off := 0 }) 1 2) (by kernel_rfl) fun c4x2 nc4x2 Wc4x2 => ?_
                have W := Wc4x2
                rw [hsub] at W
                refine app_row (L2 := [(_, .cells [J x, J (n - (i + 1) - x)] 3 false)]) 0 W hslx Rx rfl row2 (by simp; omega) (by kernel_rfl) fun g4b sl4b hsl4b hsc4b R4b W => ?_
                have hrl : [x, n - (i + 1) - x] = rowL (x - 1 + 1, n - (i + 1) - (x - 1 + 1)) := by
                  rw [show x - 1 + 1 = x by omega]
                  unfold rowL; rw [if_neg (by show ¬ x = 0; omega), if_neg (by show ¬ n - (i + 1) - x = 0; omega)]
                rw [hrl, List.append_assoc] at R4b
                refine ok_go 1 ?_
                exact sy_next 0 _ g4b (by kernel_rfl) (by kernel_rfl) (ih2 (x + 1, sl4b, _, _, _) _ g4b ⟨by show 1 ≤ x + 1; omega, by show 2 * (x + 1 - 1) ≤ _; omega, hsl4b, hsc4b, by
                  show RowsS _ _ ((((ops (d.take i) 0 n).map rowL) ++ [rowL (n - (i + 1), 0)]) ++ (List.range (x + 1 - 1)).map (fun a => rowL (a + 1, n - (i + 1) - (a + 1))))
                  rw [show x + 1 - 1 = (x - 1) + 1 by omega, List.range_succ, List.map_append]
                  exact R4b, W⟩ (show n - (x + 1) < n - x by omega) ⟨by kernel_rfl, by kernel_rfl, by kernel_rfl, by kernel_rfl, by kernel_rfl, (by kernel_rfl : _ = Value.int .i64 (IntKind.wrap .i64 (Int.ofNat (x + 1)))).trans (by rw [hwx]), trivial⟩)
              · intro hle3
                have hle3 : n - (i + 1) < x + x := by rw [hxx, hLV] at hle3; have := of_decide_eq_false hle3; exact Nat.lt_of_not_le fun h => this (Int.ofNat_le.2 h)
                have hx3 : x - 1 = (n - (i + 1)) / 2 := by omega
                rw [hx3] at Rx
                have hcm : ((List.range ((n - (i + 1)) / 2)).map fun a => (a + 1, n - (i + 1) - (a + 1))).map rowL = (List.range ((n - (i + 1)) / 2)).map (fun a => rowL (a + 1, n - (i + 1) - (a + 1))) := by rw [List.map_map]; rfl
                refine ok_go 1 ?_
                exact sy_next 0 _ gx (by kernel_rfl) (by kernel_rfl) (ih (i + 1, slx, qx, vx, Lx) _ gx ⟨hlt, hslx, hscx, by rw [hsn]; simp only [ha, hb, h4, if_true, if_false, List.append_nil, List.nil_append, List.map_append, hcm, List.map_cons, List.map_nil]; simpa only [List.append_assoc] using Rx, W⟩ (show d.length - (i + 1) < d.length - i by omega) ⟨by kernel_rfl, by kernel_rfl, by kernel_rfl, (by kernel_rfl : _ = Value.int .i64 (IntKind.wrap .i64 (Int.ofNat (i + 1 + 1)))).trans (by rw [hw]), trivial⟩)
            · refine sy_no 0 (b := (IntKind.wrap .i64 (((IntKind.wrap .i64 (IntKind.wrap .u8 (Int.ofNat (48 + d[i]) - 48)))).tdiv 4) == 1)) (by kernel_rfl) (by rw [t4]; exact beq_eq_false_iff_ne.2 h4) ?_
              refine ok_go 1 ?_
              exact sy_next 0 _ g3a (by kernel_rfl) (by kernel_rfl) (ih (i + 1, sl3a, _, _, _) _ g3a ⟨hlt, hsl3a, hsc3a, by rw [hsn]; simpa only [ha, hb, h4, if_true, if_false, List.append_nil, List.nil_append, List.map_append, List.map_cons, List.map_nil, List.append_assoc] using R3a, W⟩ (show d.length - (i + 1) < d.length - i by omega) ⟨by kernel_rfl, by kernel_rfl, by kernel_rfl, (by kernel_rfl : _ = Value.int .i64 (IntKind.wrap .i64 (Int.ofNat (i + 1 + 1)))).trans (by rw [hw]), trivial⟩)
          · refine sy_no 0 (b := ((IntKind.wrap .i64 (((IntKind.wrap .i64 (IntKind.wrap .u8 (Int.ofNat (48 + d[i]) - 48)))).tdiv 2)).tmod 2 == 1)) (by kernel_rfl) (by rw [t2]; exact beq_eq_false_iff_ne.2 h2) ?_
            have hb : (d[i] / 2 % 2 = 1 ∧ i + 1 < n) = False := eq_false (by omega)
            refine ok_go 5 ?_
            by_cases h4 : d[i] / 4 % 2 = 1
            · refine sy_yes 0 (b := (IntKind.wrap .i64 (((IntKind.wrap .i64 (IntKind.wrap .u8 (Int.ofNat (48 + d[i]) - 48)))).tdiv 4) == 1)) (by kernel_rfl) (by rw [t4, h4]; rfl) ?_
              refine ok_go 0 ?_
              refine sy_loop 0 lf g (α := Nat × Value × Nat × List Value × List (Nat × AObj)) (fun x => [(0, .string (strL (codeS d))), (1, J n), (5, x.2.1), (6, J (i + 1)), (8, I (IntKind.wrap .i64 (Int.ofNat n - Int.ofNat (i + 1)))), (9, J x.1)])
                (fun x g => 1 ≤ x.1 ∧ 2 * (x.1 - 1) ≤ n - (i + 1) ∧ x.2.1 = oslV x.2.2.1 x.2.2.2.1.length ∧ scalar x.2.1 = true ∧ RowsS x.2.2.2.2 x.2.2.2.1 (((ops (d.take i) 0 n).map rowL) ++ (List.range (x.1 - 1)).map (fun a => rowL (a + 1, n - (i + 1) - (a + 1)))) ∧ Sto h g (x.2.2.2.2 ++ oent x.2.2.1 32 x.2.2.2.1)) (fun x _ => n - x.1) (1, sl, _, _, _) (by kernel_rfl) (by kernel_rfl)
                ⟨by kernel_rfl, by kernel_rfl, by kernel_rfl, by kernel_rfl, by kernel_rfl, by kernel_rfl, trivial⟩ (show n - 1 < lf by omega) ⟨Nat.le_refl 1, by simp, hsl, hsc, by rw [show (1 : Nat) - 1 = 0 from rfl, List.range_zero, List.map_nil, List.append_nil]; exact R, W⟩ ?_
              rintro m2 ⟨x, slx, qx, vx, Lx⟩ f2 gx ⟨hx1, hx2, hslx, hscx, Rx, W⟩ ih2
              dsimp only at hx1 hx2 hslx hscx Rx W
              have hxx : IntKind.wrap .i64 (Int.ofNat x + Int.ofNat x) = Int.ofNat (x + x) := wrap_add (by omega)
              have hwx : IntKind.wrap .i64 (Int.ofNat (x + 1)) = Int.ofNat (x + 1) := wrap_nat (by omega)
              refine ok_go 2 ?_
              refine sy_test 0 (decide (IntKind.wrap .i64 (Int.ofNat x + Int.ofNat x) ≤ (IntKind.wrap .i64 (Int.ofNat n - Int.ofNat (i + 1))))) (by kernel_rfl) ?_ ?_
              · intro hle3
                have hle3 : x + x ≤ n - (i + 1) := by rw [hxx, hLV] at hle3; exact Int.ofNat_le.1 (of_decide_eq_true hle3)
                have hsub : IntKind.wrap .i64 ((IntKind.wrap .i64 (Int.ofNat n - Int.ofNat (i + 1))) - Int.ofNat x) = Int.ofNat (n - (i + 1) - x) := by rw [hLV]; exact wrap_sub (by omega) (by omega)
                refine ow_new 1 W (AObj.cells [Value.int IntKind.i64 (Int.ofNat (Prod.fst (x, slx, qx, vx, Lx))), Value.int IntKind.i64 (IntKind.wrap IntKind.i64 (IntKind.wrap IntKind.i64 (Int.ofNat n - Int.ofNat (i + 1)) - Int.ofNat (Prod.fst (x, slx, qx, vx, Lx))))] 3 false) (fun q => Value.slice (some { block := q, off := 0 }) 2 4) (by kernel_rfl) fun c5x1 nc5x1 Wc5x1 => ?_
                have W := Wc5x1
                refine ow_new 0 W (AObj.cells [Value.slice (some { block := Hp.next gx, off := 0 }) 2 4] 32 false) (fun q => Value.slice (some { block := q, off := 0 }) 1 2) (by kernel_rfl) fun c5x2 nc5x2 Wc5x2 => ?_
                have W := Wc5x2
                rw [hsub] at W
                refine app_row (L2 := [(_, .cells [J x, J (n - (i + 1) - x)] 3 false)]) 0 W hslx Rx rfl row2 (by simp; omega) (by kernel_rfl) fun g5b sl5b hsl5b hsc5b R5b W => ?_
                have hrl : [x, n - (i + 1) - x] = rowL (x - 1 + 1, n - (i + 1) - (x - 1 + 1)) := by
                  rw [show x - 1 + 1 = x by omega]
                  unfold rowL; rw [if_neg (by show ¬ x = 0; omega), if_neg (by show ¬ n - (i + 1) - x = 0; omega)]
                rw [hrl, List.append_assoc] at R5b
                refine ok_go 1 ?_
                exact sy_next 0 _ g5b (by kernel_rfl) (by kernel_rfl) (ih2 (x + 1, sl5b, _, _, _) _ g5b ⟨by show 1 ≤ x + 1; omega, by show 2 * (x + 1 - 1) ≤ _; omega, hsl5b, hsc5b, by
                  show RowsS _ _ (((ops (d.take i) 0 n).map rowL) ++ (List.range (x + 1 - 1)).map (fun a => rowL (a + 1, n - (i + 1) - (a + 1))))
                  rw [show x + 1 - 1 = (x - 1) + 1 by omega, List.range_succ, List.map_append]
                  exact R5b, W⟩ (show n - (x + 1) < n - x by omega) ⟨by kernel_rfl, by kernel_rfl, by kernel_rfl, by kernel_rfl, by kernel_rfl, (by kernel_rfl : _ = Value.int .i64 (IntKind.wrap .i64 (Int.ofNat (x + 1)))).trans (by rw [hwx]), trivial⟩)
              · intro hle3
                have hle3 : n - (i + 1) < x + x := by rw [hxx, hLV] at hle3; have := of_decide_eq_false hle3; exact Nat.lt_of_not_le fun h => this (Int.ofNat_le.2 h)
                have hx3 : x - 1 = (n - (i + 1)) / 2 := by omega
                rw [hx3] at Rx
                have hcm : ((List.range ((n - (i + 1)) / 2)).map fun a => (a + 1, n - (i + 1) - (a + 1))).map rowL = (List.range ((n - (i + 1)) / 2)).map (fun a => rowL (a + 1, n - (i + 1) - (a + 1))) := by rw [List.map_map]; rfl
                refine ok_go 1 ?_
                exact sy_next 0 _ gx (by kernel_rfl) (by kernel_rfl) (ih (i + 1, slx, qx, vx, Lx) _ gx ⟨hlt, hslx, hscx, by rw [hsn]; simp only [ha, hb, h4, if_true, if_false, List.append_nil, List.nil_append, List.map_append, hcm, List.map_cons, List.map_nil]; simpa only [List.append_assoc] using Rx, W⟩ (show d.length - (i + 1) < d.length - i by omega) ⟨by kernel_rfl, by kernel_rfl, by kernel_rfl, (by kernel_rfl : _ = Value.int .i64 (IntKind.wrap .i64 (Int.ofNat (i + 1 + 1)))).trans (by rw [hw]), trivial⟩)
            · refine sy_no 0 (b := (IntKind.wrap .i64 (((IntKind.wrap .i64 (IntKind.wrap .u8 (Int.ofNat (48 + d[i]) - 48)))).tdiv 4) == 1)) (by kernel_rfl) (by rw [t4]; exact beq_eq_false_iff_ne.2 h4) ?_
              refine ok_go 1 ?_
              exact sy_next 0 _ g (by kernel_rfl) (by kernel_rfl) (ih (i + 1, sl, q, vs, L) _ g ⟨hlt, hsl, hsc, by rw [hsn]; simpa only [ha, hb, h4, if_true, if_false, List.append_nil, List.nil_append, List.map_append, List.map_cons, List.map_nil, List.append_assoc] using R, W⟩ (show d.length - (i + 1) < d.length - i by omega) ⟨by kernel_rfl, by kernel_rfl, by kernel_rfl, (by kernel_rfl : _ = Value.int .i64 (IntKind.wrap .i64 (Int.ofNat (i + 1 + 1)))).trans (by rw [hw]), trivial⟩)
      · refine sy_no 0 (b := (((IntKind.wrap .i64 (IntKind.wrap .u8 (Int.ofNat (48 + d[i]) - 48)))).tmod 2 == 1)) (by kernel_rfl) (by rw [t1]; exact beq_eq_false_iff_ne.2 ho) ?_
        have ha : (d[i] % 2 = 1 ∧ n = i + 1) = False := eq_false (by omega)
        refine ok_go 6 ?_
        by_cases hn0 : n = i + 1
        · skip
          by_cases h2 : d[i] / 2 % 2 = 1
          · refine sy_yes 0 (b := ((IntKind.wrap .i64 (((IntKind.wrap .i64 (IntKind.wrap .u8 (Int.ofNat (48 + d[i]) - 48)))).tdiv 2)).tmod 2 == 1)) (by kernel_rfl) (by rw [t2, h2]; rfl) ?_
            refine ok_go 3 ?_
            refine sy_no 0 (b := (decide ((IntKind.wrap .i64 (Int.ofNat n - Int.ofNat (i + 1))) > 0))) (by kernel_rfl) (by rw [hLV, show n - (i + 1) = 0 by omega]; rfl) ?_
            have hb : (d[i] / 2 % 2 = 1 ∧ i + 1 < n) = False := eq_false (by omega)
            refine ok_go 2 ?_
            by_cases h4 : d[i] / 4 % 2 = 1
            · refine sy_yes 0 (b := (IntKind.wrap .i64 (((IntKind.wrap .i64 (IntKind.wrap .u8 (Int.ofNat (48 + d[i]) - 48)))).tdiv 4) == 1)) (by kernel_rfl) (by rw [t4, h4]; rfl) ?_
              refine ok_go 0 ?_
              refine sy_loop 0 lf g (α := Nat × Value × Nat × List Value × List (Nat × AObj)) (fun x => [(0, .string (strL (codeS d))), (1, J n), (5, x.2.1), (6, J (i + 1)), (8, I (IntKind.wrap .i64 (Int.ofNat n - Int.ofNat (i + 1)))), (9, J x.1)])
                (fun x g => 1 ≤ x.1 ∧ 2 * (x.1 - 1) ≤ n - (i + 1) ∧ x.2.1 = oslV x.2.2.1 x.2.2.2.1.length ∧ scalar x.2.1 = true ∧ RowsS x.2.2.2.2 x.2.2.2.1 (((ops (d.take i) 0 n).map rowL) ++ (List.range (x.1 - 1)).map (fun a => rowL (a + 1, n - (i + 1) - (a + 1)))) ∧ Sto h g (x.2.2.2.2 ++ oent x.2.2.1 32 x.2.2.2.1)) (fun x _ => n - x.1) (1, sl, _, _, _) (by kernel_rfl) (by kernel_rfl)
                ⟨by kernel_rfl, by kernel_rfl, by kernel_rfl, by kernel_rfl, by kernel_rfl, by kernel_rfl, trivial⟩ (show n - 1 < lf by omega) ⟨Nat.le_refl 1, by simp, hsl, hsc, by rw [show (1 : Nat) - 1 = 0 from rfl, List.range_zero, List.map_nil, List.append_nil]; exact R, W⟩ ?_
              rintro m2 ⟨x, slx, qx, vx, Lx⟩ f2 gx ⟨hx1, hx2, hslx, hscx, Rx, W⟩ ih2
              dsimp only at hx1 hx2 hslx hscx Rx W
              have hxx : IntKind.wrap .i64 (Int.ofNat x + Int.ofNat x) = Int.ofNat (x + x) := wrap_add (by omega)
              have hwx : IntKind.wrap .i64 (Int.ofNat (x + 1)) = Int.ofNat (x + 1) := wrap_nat (by omega)
              refine ok_go 2 ?_
              refine sy_test 0 (decide (IntKind.wrap .i64 (Int.ofNat x + Int.ofNat x) ≤ (IntKind.wrap .i64 (Int.ofNat n - Int.ofNat (i + 1))))) (by kernel_rfl) ?_ ?_
              · intro hle3
                have hle3 : x + x ≤ n - (i + 1) := by rw [hxx, hLV] at hle3; exact Int.ofNat_le.1 (of_decide_eq_true hle3)
                have hsub : IntKind.wrap .i64 ((IntKind.wrap .i64 (Int.ofNat n - Int.ofNat (i + 1))) - Int.ofNat x) = Int.ofNat (n - (i + 1) - x) := by rw [hLV]; exact wrap_sub (by omega) (by omega)
                refine ow_new 1 W (AObj.cells [Value.int IntKind.i64 (Int.ofNat (Prod.fst (x, slx, qx, vx, Lx))), Value.int IntKind.i64 (IntKind.wrap IntKind.i64 (IntKind.wrap IntKind.i64 (Int.ofNat n - Int.ofNat (i + 1)) - Int.ofNat (Prod.fst (x, slx, qx, vx, Lx))))] 3 false) (fun q => Value.slice (some { block := q, off := 0 }) 2 4) (by kernel_rfl) fun c6x1 nc6x1 Wc6x1 => ?_
                have W := Wc6x1
                refine ow_new 0 W (AObj.cells [Value.slice (some { block := Hp.next gx, off := 0 }) 2 4] 32 false) (fun q => Value.slice (some { block := q, off := 0 }) 1 2) (by kernel_rfl) fun c6x2 nc6x2 Wc6x2 => ?_
                have W := Wc6x2
                rw [hsub] at W
                refine app_row (L2 := [(_, .cells [J x, J (n - (i + 1) - x)] 3 false)]) 0 W hslx Rx rfl row2 (by simp; omega) (by kernel_rfl) fun g6b sl6b hsl6b hsc6b R6b W => ?_
                have hrl : [x, n - (i + 1) - x] = rowL (x - 1 + 1, n - (i + 1) - (x - 1 + 1)) := by
                  rw [show x - 1 + 1 = x by omega]
                  unfold rowL; rw [if_neg (by show ¬ x = 0; omega), if_neg (by show ¬ n - (i + 1) - x = 0; omega)]
                rw [hrl, List.append_assoc] at R6b
                refine ok_go 1 ?_
                exact sy_next 0 _ g6b (by kernel_rfl) (by kernel_rfl) (ih2 (x + 1, sl6b, _, _, _) _ g6b ⟨by show 1 ≤ x + 1; omega, by show 2 * (x + 1 - 1) ≤ _; omega, hsl6b, hsc6b, by
                  show RowsS _ _ (((ops (d.take i) 0 n).map rowL) ++ (List.range (x + 1 - 1)).map (fun a => rowL (a + 1, n - (i + 1) - (a + 1))))
                  rw [show x + 1 - 1 = (x - 1) + 1 by omega, List.range_succ, List.map_append]
                  exact R6b, W⟩ (show n - (x + 1) < n - x by omega) ⟨by kernel_rfl, by kernel_rfl, by kernel_rfl, by kernel_rfl, by kernel_rfl, (by kernel_rfl : _ = Value.int .i64 (IntKind.wrap .i64 (Int.ofNat (x + 1)))).trans (by rw [hwx]), trivial⟩)
              · intro hle3
                have hle3 : n - (i + 1) < x + x := by rw [hxx, hLV] at hle3; have := of_decide_eq_false hle3; exact Nat.lt_of_not_le fun h => this (Int.ofNat_le.2 h)
                have hx3 : x - 1 = (n - (i + 1)) / 2 := by omega
                rw [hx3] at Rx
                have hcm : ((List.range ((n - (i + 1)) / 2)).map fun a => (a + 1, n - (i + 1) - (a + 1))).map rowL = (List.range ((n - (i + 1)) / 2)).map (fun a => rowL (a + 1, n - (i + 1) - (a + 1))) := by rw [List.map_map]; rfl
                refine ok_go 1 ?_
                exact sy_next 0 _ gx (by kernel_rfl) (by kernel_rfl) (ih (i + 1, slx, qx, vx, Lx) _ gx ⟨hlt, hslx, hscx, by rw [hsn]; simp only [ha, hb, h4, if_true, if_false, List.append_nil, List.nil_append, List.map_append, hcm, List.map_cons, List.map_nil]; simpa only [List.append_assoc] using Rx, W⟩ (show d.length - (i + 1) < d.length - i by omega) ⟨by kernel_rfl, by kernel_rfl, by kernel_rfl, (by kernel_rfl : _ = Value.int .i64 (IntKind.wrap .i64 (Int.ofNat (i + 1 + 1)))).trans (by rw [hw]), trivial⟩)
            · refine sy_no 0 (b := (IntKind.wrap .i64 (((IntKind.wrap .i64 (IntKind.wrap .u8 (Int.ofNat (48 + d[i]) - 48)))).tdiv 4) == 1)) (by kernel_rfl) (by rw [t4]; exact beq_eq_false_iff_ne.2 h4) ?_
              refine ok_go 1 ?_
              exact sy_next 0 _ g (by kernel_rfl) (by kernel_rfl) (ih (i + 1, sl, q, vs, L) _ g ⟨hlt, hsl, hsc, by rw [hsn]; simpa only [ha, hb, h4, if_true, if_false, List.append_nil, List.nil_append, List.map_append, List.map_cons, List.map_nil, List.append_assoc] using R, W⟩ (show d.length - (i + 1) < d.length - i by omega) ⟨by kernel_rfl, by kernel_rfl, by kernel_rfl, (by kernel_rfl : _ = Value.int .i64 (IntKind.wrap .i64 (Int.ofNat (i + 1 + 1)))).trans (by rw [hw]), trivial⟩)
          · refine sy_no 0 (b := ((IntKind.wrap .i64 (((IntKind.wrap .i64 (IntKind.wrap .u8 (Int.ofNat (48 + d[i]) - 48)))).tdiv 2)).tmod 2 == 1)) (by kernel_rfl) (by rw [t2]; exact beq_eq_false_iff_ne.2 h2) ?_
            have hb : (d[i] / 2 % 2 = 1 ∧ i + 1 < n) = False := eq_false (by omega)
            refine ok_go 5 ?_
            by_cases h4 : d[i] / 4 % 2 = 1
            · refine sy_yes 0 (b := (IntKind.wrap .i64 (((IntKind.wrap .i64 (IntKind.wrap .u8 (Int.ofNat (48 + d[i]) - 48)))).tdiv 4) == 1)) (by kernel_rfl) (by rw [t4, h4]; rfl) ?_
              refine ok_go 0 ?_
              refine sy_loop 0 lf g (α := Nat × Value × Nat × List Value × List (Nat × AObj)) (fun x => [(0, .string (strL (codeS d))), (1, J n), (5, x.2.1), (6, J (i + 1)), (8, I (IntKind.wrap .i64 (Int.ofNat n - Int.ofNat (i + 1)))), (9, J x.1)])
                (fun x g => 1 ≤ x.1 ∧ 2 * (x.1 - 1) ≤ n - (i + 1) ∧ x.2.1 = oslV x.2.2.1 x.2.2.2.1.length ∧ scalar x.2.1 = true ∧ RowsS x.2.2.2.2 x.2.2.2.1 (((ops (d.take i) 0 n).map rowL) ++ (List.range (x.1 - 1)).map (fun a => rowL (a + 1, n - (i + 1) - (a + 1)))) ∧ Sto h g (x.2.2.2.2 ++ oent x.2.2.1 32 x.2.2.2.1)) (fun x _ => n - x.1) (1, sl, _, _, _) (by kernel_rfl) (by kernel_rfl)
                ⟨by kernel_rfl, by kernel_rfl, by kernel_rfl, by kernel_rfl, by kernel_rfl, by kernel_rfl, trivial⟩ (show n - 1 < lf by omega) ⟨Nat.le_refl 1, by simp, hsl, hsc, by rw [show (1 : Nat) - 1 = 0 from rfl, List.range_zero, List.map_nil, List.append_nil]; exact R, W⟩ ?_
              rintro m2 ⟨x, slx, qx, vx, Lx⟩ f2 gx ⟨hx1, hx2, hslx, hscx, Rx, W⟩ ih2
              dsimp only at hx1 hx2 hslx hscx Rx W
              have hxx : IntKind.wrap .i64 (Int.ofNat x + Int.ofNat x) = Int.ofNat (x + x) := wrap_add (by omega)
              have hwx : IntKind.wrap .i64 (Int.ofNat (x + 1)) = Int.ofNat (x + 1) := wrap_nat (by omega)
              refine ok_go 2 ?_
              refine sy_test 0 (decide (IntKind.wrap .i64 (Int.ofNat x + Int.ofNat x) ≤ (IntKind.wrap .i64 (Int.ofNat n - Int.ofNat (i + 1))))) (by kernel_rfl) ?_ ?_
              · intro hle3
                have hle3 : x + x ≤ n - (i + 1) := by rw [hxx, hLV] at hle3; exact Int.ofNat_le.1 (of_decide_eq_true hle3)
                have hsub : IntKind.wrap .i64 ((IntKind.wrap .i64 (Int.ofNat n - Int.ofNat (i + 1))) - Int.ofNat x) = Int.ofNat (n - (i + 1) - x) := by rw [hLV]; exact wrap_sub (by omega) (by omega)
                refine ow_new 1 W (AObj.cells [Value.int IntKind.i64 (Int.ofNat (Prod.fst (x, slx, qx, vx, Lx))), Value.int IntKind.i64 (IntKind.wrap IntKind.i64 (IntKind.wrap IntKind.i64 (Int.ofNat n - Int.ofNat (i + 1)) - Int.ofNat (Prod.fst (x, slx, qx, vx, Lx))))] 3 false) (fun q => Value.slice (some { block := q, off := 0 }) 2 4) (by kernel_rfl) fun c7x1 nc7x1 Wc7x1 => ?_
                have W := Wc7x1
                refine ow_new 0 W (AObj.cells [Value.slice (some { block := Hp.next gx, off := 0 }) 2 4] 32 false) (fun q => Value.slice (some { block := q, off := 0 }) 1 2) (by kernel_rfl) fun c7x2 nc7x2 Wc7x2 => ?_
                have W := Wc7x2
                rw [hsub] at W
                refine app_row (L2 := [(_, .cells [J x, J (n - (i + 1) - x)] 3 false)]) 0 W hslx Rx rfl row2 (by simp; omega) (by kernel_rfl) fun g7b sl7b hsl7b hsc7b R7b W => ?_
                have hrl : [x, n - (i + 1) - x] = rowL (x - 1 + 1, n - (i + 1) - (x - 1 + 1)) := by
                  rw [show x - 1 + 1 = x by omega]
                  unfold rowL; rw [if_neg (by show ¬ x = 0; omega), if_neg (by show ¬ n - (i + 1) - x = 0; omega)]
                rw [hrl, List.append_assoc] at R7b
                refine ok_go 1 ?_
                exact sy_next 0 _ g7b (by kernel_rfl) (by kernel_rfl) (ih2 (x + 1, sl7b, _, _, _) _ g7b ⟨by show 1 ≤ x + 1; omega, by show 2 * (x + 1 - 1) ≤ _; omega, hsl7b, hsc7b, by
                  show RowsS _ _ (((ops (d.take i) 0 n).map rowL) ++ (List.range (x + 1 - 1)).map (fun a => rowL (a + 1, n - (i + 1) - (a + 1))))
                  rw [show x + 1 - 1 = (x - 1) + 1 by omega, List.range_succ, List.map_append]
                  exact R7b, W⟩ (show n - (x + 1) < n - x by omega) ⟨by kernel_rfl, by kernel_rfl, by kernel_rfl, by kernel_rfl, by kernel_rfl, (by kernel_rfl : _ = Value.int .i64 (IntKind.wrap .i64 (Int.ofNat (x + 1)))).trans (by rw [hwx]), trivial⟩)
              · intro hle3
                have hle3 : n - (i + 1) < x + x := by rw [hxx, hLV] at hle3; have := of_decide_eq_false hle3; exact Nat.lt_of_not_le fun h => this (Int.ofNat_le.2 h)
                have hx3 : x - 1 = (n - (i + 1)) / 2 := by omega
                rw [hx3] at Rx
                have hcm : ((List.range ((n - (i + 1)) / 2)).map fun a => (a + 1, n - (i + 1) - (a + 1))).map rowL = (List.range ((n - (i + 1)) / 2)).map (fun a => rowL (a + 1, n - (i + 1) - (a + 1))) := by rw [List.map_map]; rfl
                refine ok_go 1 ?_
                exact sy_next 0 _ gx (by kernel_rfl) (by kernel_rfl) (ih (i + 1, slx, qx, vx, Lx) _ gx ⟨hlt, hslx, hscx, by rw [hsn]; simp only [ha, hb, h4, if_true, if_false, List.append_nil, List.nil_append, List.map_append, hcm, List.map_cons, List.map_nil]; simpa only [List.append_assoc] using Rx, W⟩ (show d.length - (i + 1) < d.length - i by omega) ⟨by kernel_rfl, by kernel_rfl, by kernel_rfl, (by kernel_rfl : _ = Value.int .i64 (IntKind.wrap .i64 (Int.ofNat (i + 1 + 1)))).trans (by rw [hw]), trivial⟩)
            · refine sy_no 0 (b := (IntKind.wrap .i64 (((IntKind.wrap .i64 (IntKind.wrap .u8 (Int.ofNat (48 + d[i]) - 48)))).tdiv 4) == 1)) (by kernel_rfl) (by rw [t4]; exact beq_eq_false_iff_ne.2 h4) ?_
              refine ok_go 1 ?_
              exact sy_next 0 _ g (by kernel_rfl) (by kernel_rfl) (ih (i + 1, sl, q, vs, L) _ g ⟨hlt, hsl, hsc, by rw [hsn]; simpa only [ha, hb, h4, if_true, if_false, List.append_nil, List.nil_append, List.map_append, List.map_cons, List.map_nil, List.append_assoc] using R, W⟩ (show d.length - (i + 1) < d.length - i by omega) ⟨by kernel_rfl, by kernel_rfl, by kernel_rfl, (by kernel_rfl : _ = Value.int .i64 (IntKind.wrap .i64 (Int.ofNat (i + 1 + 1)))).trans (by rw [hw]), trivial⟩)
        · skip
          by_cases h2 : d[i] / 2 % 2 = 1
          · refine sy_yes 0 (b := ((IntKind.wrap .i64 (((IntKind.wrap .i64 (IntKind.wrap .u8 (Int.ofNat (48 + d[i]) - 48)))).tdiv 2)).tmod 2 == 1)) (by kernel_rfl) (by rw [t2, h2]; rfl) ?_
            refine ok_go 3 ?_
            refine sy_yes 0 (b := (decide ((IntKind.wrap .i64 (Int.ofNat n - Int.ofNat (i + 1))) > 0))) (by kernel_rfl) (by rw [hLV]; exact decide_eq_true (by show (0 : Int) < ((n - (i + 1) : Nat) : Int); omega)) ?_
            have hb : (d[i] / 2 % 2 = 1 ∧ i + 1 < n) = True := eq_true ⟨h2, by omega⟩
            refine ow_new 0 W (AObj.cells [Value.int IntKind.i64 (IntKind.wrap IntKind.i64 (Int.ofNat n - Int.ofNat (Prod.fst (i, sl, q, vs, L) + 1)))] 3 false) (fun q => Value.slice (some { block := q, off := 0 }) 1 2) (by kernel_rfl) fun c8x1 nc8x1 Wc8x1 => ?_
            have W := Wc8x1
            refine ow_new 0 W (AObj.cells [Value.slice (some { block := Hp.next g, off := 0 }) 1 2] 32 false) (fun q => Value.slice (some { block := q, off := 0 }) 1 2) (by kernel_rfl) fun c8x2 nc8x2 Wc8x2 => ?_
            have W := Wc8x2
            rw [hLV] at W
            refine app_row (L2 := [(_, .cells [J (n - (i + 1))] 3 false)]) 0 W hsl R rfl row1 (by simp; omega) (by kernel_rfl) fun g8a sl8a hsl8a hsc8a R8a W => ?_
            have hrl : [n - (i + 1)] = rowL (n - (i + 1), 0) := by unfold rowL; rw [if_neg (by show ¬ n - (i + 1) = 0; omega), if_pos rfl]
            rw [hrl] at R8a
            refine ok_go 2 ?_
            by_cases h4 : d[i] / 4 % 2 = 1
            · refine sy_yes 0 (b := (IntKind.wrap .i64 (((IntKind.wrap .i64 (IntKind.wrap .u8 (Int.ofNat (48 + d[i]) - 48)))).tdiv 4) == 1)) (by kernel_rfl) (by rw [t4, h4]; rfl) ?_
              refine ok_go 0 ?_
              refine sy_loop 0 lf g8a (α := Nat × Value × Nat × List Value × List (Nat × AObj)) (fun x => [(0, .string (strL (codeS d))), (1, J n), (5, x.2.1), (6, J (i + 1)), (8, I (IntKind.wrap .i64 (Int.ofNat n - Int.ofNat (i + 1)))), (9, J x.1)])
                (fun x g => 1 ≤ x.1 ∧ 2 * (x.1 - 1) ≤ n - (i + 1) ∧ x.2.1 = oslV x.2.2.1 x.2.2.2.1.length ∧ scalar x.2.1 = true ∧ RowsS x.2.2.2.2 x.2.2.2.1 ((((ops (d.take i) 0 n).map rowL) ++ [rowL (n - (i + 1), 0)]) ++ (List.range (x.1 - 1)).map (fun a => rowL (a + 1, n - (i + 1) - (a + 1)))) ∧ Sto h g (x.2.2.2.2 ++ oent x.2.2.1 32 x.2.2.2.1)) (fun x _ => n - x.1) (1, sl8a, _, _, _) (by kernel_rfl) (by kernel_rfl)
                ⟨by kernel_rfl, by kernel_rfl, by kernel_rfl, by kernel_rfl, by kernel_rfl, by kernel_rfl, trivial⟩ (show n - 1 < lf by omega) ⟨Nat.le_refl 1, by simp, hsl8a, hsc8a, by rw [show (1 : Nat) - 1 = 0 from rfl, List.range_zero, List.map_nil, List.append_nil]; exact R8a, W⟩ ?_
              rintro m2 ⟨x, slx, qx, vx, Lx⟩ f2 gx ⟨hx1, hx2, hslx, hscx, Rx, W⟩ ih2
              dsimp only at hx1 hx2 hslx hscx Rx W
              have hxx : IntKind.wrap .i64 (Int.ofNat x + Int.ofNat x) = Int.ofNat (x + x) := wrap_add (by omega)
              have hwx : IntKind.wrap .i64 (Int.ofNat (x + 1)) = Int.ofNat (x + 1) := wrap_nat (by omega)
              refine ok_go 2 ?_
              refine sy_test 0 (decide (IntKind.wrap .i64 (Int.ofNat x + Int.ofNat x) ≤ (IntKind.wrap .i64 (Int.ofNat n - Int.ofNat (i + 1))))) (by kernel_rfl) ?_ ?_
              · intro hle3
                have hle3 : x + x ≤ n - (i + 1) := by rw [hxx, hLV] at hle3; exact Int.ofNat_le.1 (of_decide_eq_true hle3)
                have hsub : IntKind.wrap .i64 ((IntKind.wrap .i64 (Int.ofNat n - Int.ofNat (i + 1))) - Int.ofNat x) = Int.ofNat (n - (i + 1) - x) := by rw [hLV]; exact wrap_sub (by omega) (by omega)
                refine ow_new 1 W (AObj.cells [Value.int IntKind.i64 (Int.ofNat (Prod.fst (x, slx, qx, vx, Lx))), Value.int IntKind.i64 (IntKind.wrap IntKind.i64 (IntKind.wrap IntKind.i64 (Int.ofNat n - Int.ofNat (i + 1)) - Int.ofNat (Prod.fst (x, slx, qx, vx, Lx))))] 3 false) (fun q => Value.slice (some { block := q, off := 0 }) 2 4) (by kernel_rfl) fun c9x1 nc9x1 Wc9x1 => ?_
                have W := Wc9x1
                refine ow_new 0 W (AObj.cells [Value.slice (some { block := Hp.next gx, off := 0 }) 2 4] 32 false) (fun q => Value.slice (some { block := q, off := 0 }) 1 2) (by kernel_rfl) fun c9x2 nc9x2 Wc9x2 => ?_
                have W := Wc9x2
                rw [hsub] at W
                refine app_row (L2 := [(_, .cells [J x, J (n - (i + 1) - x)] 3 false)]) 0 W hslx Rx rfl row2 (by simp; omega) (by kernel_rfl) fun g9b sl9b hsl9b hsc9b R9b W => ?_
                have hrl : [x, n - (i + 1) - x] = rowL (x - 1 + 1, n - (i + 1) - (x - 1 + 1)) := by
                  rw [show x - 1 + 1 = x by omega]
                  unfold rowL; rw [if_neg (by show ¬ x = 0; omega), if_neg (by show ¬ n - (i + 1) - x = 0; omega)]
                rw [hrl, List.append_assoc] at R9b
                refine ok_go 1 ?_
                exact sy_next 0 _ g9b (by kernel_rfl) (by kernel_rfl) (ih2 (x + 1, sl9b, _, _, _) _ g9b ⟨by show 1 ≤ x + 1; omega, by show 2 * (x + 1 - 1) ≤ _; omega, hsl9b, hsc9b, by
                  show RowsS _ _ ((((ops (d.take i) 0 n).map rowL) ++ [rowL (n - (i + 1), 0)]) ++ (List.range (x + 1 - 1)).map (fun a => rowL (a + 1, n - (i + 1) - (a + 1))))
                  rw [show x + 1 - 1 = (x - 1) + 1 by omega, List.range_succ, List.map_append]
                  exact R9b, W⟩ (show n - (x + 1) < n - x by omega) ⟨by kernel_rfl, by kernel_rfl, by kernel_rfl, by kernel_rfl, by kernel_rfl, (by kernel_rfl : _ = Value.int .i64 (IntKind.wrap .i64 (Int.ofNat (x + 1)))).trans (by rw [hwx]), trivial⟩)
              · intro hle3
                have hle3 : n - (i + 1) < x + x := by rw [hxx, hLV] at hle3; have := of_decide_eq_false hle3; exact Nat.lt_of_not_le fun h => this (Int.ofNat_le.2 h)
                have hx3 : x - 1 = (n - (i + 1)) / 2 := by omega
                rw [hx3] at Rx
                have hcm : ((List.range ((n - (i + 1)) / 2)).map fun a => (a + 1, n - (i + 1) - (a + 1))).map rowL = (List.range ((n - (i + 1)) / 2)).map (fun a => rowL (a + 1, n - (i + 1) - (a + 1))) := by rw [List.map_map]; rfl
                refine ok_go 1 ?_
                exact sy_next 0 _ gx (by kernel_rfl) (by kernel_rfl) (ih (i + 1, slx, qx, vx, Lx) _ gx ⟨hlt, hslx, hscx, by rw [hsn]; simp only [ha, hb, h4, if_true, if_false, List.append_nil, List.nil_append, List.map_append, hcm, List.map_cons, List.map_nil]; simpa only [List.append_assoc] using Rx, W⟩ (show d.length - (i + 1) < d.length - i by omega) ⟨by kernel_rfl, by kernel_rfl, by kernel_rfl, (by kernel_rfl : _ = Value.int .i64 (IntKind.wrap .i64 (Int.ofNat (i + 1 + 1)))).trans (by rw [hw]), trivial⟩)
            · refine sy_no 0 (b := (IntKind.wrap .i64 (((IntKind.wrap .i64 (IntKind.wrap .u8 (Int.ofNat (48 + d[i]) - 48)))).tdiv 4) == 1)) (by kernel_rfl) (by rw [t4]; exact beq_eq_false_iff_ne.2 h4) ?_
              refine ok_go 1 ?_
              exact sy_next 0 _ g8a (by kernel_rfl) (by kernel_rfl) (ih (i + 1, sl8a, _, _, _) _ g8a ⟨hlt, hsl8a, hsc8a, by rw [hsn]; simpa only [ha, hb, h4, if_true, if_false, List.append_nil, List.nil_append, List.map_append, List.map_cons, List.map_nil, List.append_assoc] using R8a, W⟩ (show d.length - (i + 1) < d.length - i by omega) ⟨by kernel_rfl, by kernel_rfl, by kernel_rfl, (by kernel_rfl : _ = Value.int .i64 (IntKind.wrap .i64 (Int.ofNat (i + 1 + 1)))).trans (by rw [hw]), trivial⟩)
          · refine sy_no 0 (b := ((IntKind.wrap .i64 (((IntKind.wrap .i64 (IntKind.wrap .u8 (Int.ofNat (48 + d[i]) - 48)))).tdiv 2)).tmod 2 == 1)) (by kernel_rfl) (by rw [t2]; exact beq_eq_false_iff_ne.2 h2) ?_
            have hb : (d[i] / 2 % 2 = 1 ∧ i + 1 < n) = False := eq_false (by omega)
            refine ok_go 5 ?_
            by_cases h4 : d[i] / 4 % 2 = 1
            · refine sy_yes 0 (b := (IntKind.wrap .i64 (((IntKind.wrap .i64 (IntKind.wrap .u8 (Int.ofNat (48 + d[i]) - 48)))).tdiv 4) == 1)) (by kernel_rfl) (by rw [t4, h4]; rfl) ?_
              refine ok_go 0 ?_
              refine sy_loop 0 lf g (α := Nat × Value × Nat × List Value × List (Nat × AObj)) (fun x => [(0, .string (strL (codeS d))), (1, J n), (5, x.2.1), (6, J (i + 1)), (8, I (IntKind.wrap .i64 (Int.ofNat n - Int.ofNat (i + 1)))), (9, J x.1)])
                (fun x g => 1 ≤ x.1 ∧ 2 * (x.1 - 1) ≤ n - (i + 1) ∧ x.2.1 = oslV x.2.2.1 x.2.2.2.1.length ∧ scalar x.2.1 = true ∧ RowsS x.2.2.2.2 x.2.2.2.1 (((ops (d.take i) 0 n).map rowL) ++ (List.range (x.1 - 1)).map (fun a => rowL (a + 1, n - (i + 1) - (a + 1)))) ∧ Sto h g (x.2.2.2.2 ++ oent x.2.2.1 32 x.2.2.2.1)) (fun x _ => n - x.1) (1, sl, _, _, _) (by kernel_rfl) (by kernel_rfl)
                ⟨by kernel_rfl, by kernel_rfl, by kernel_rfl, by kernel_rfl, by kernel_rfl, by kernel_rfl, trivial⟩ (show n - 1 < lf by omega) ⟨Nat.le_refl 1, by simp, hsl, hsc, by rw [show (1 : Nat) - 1 = 0 from rfl, List.range_zero, List.map_nil, List.append_nil]; exact R, W⟩ ?_
              rintro m2 ⟨x, slx, qx, vx, Lx⟩ f2 gx ⟨hx1, hx2, hslx, hscx, Rx, W⟩ ih2
              dsimp only at hx1 hx2 hslx hscx Rx W
              have hxx : IntKind.wrap .i64 (Int.ofNat x + Int.ofNat x) = Int.ofNat (x + x) := wrap_add (by omega)
              have hwx : IntKind.wrap .i64 (Int.ofNat (x + 1)) = Int.ofNat (x + 1) := wrap_nat (by omega)
              refine ok_go 2 ?_
              refine sy_test 0 (decide (IntKind.wrap .i64 (Int.ofNat x + Int.ofNat x) ≤ (IntKind.wrap .i64 (Int.ofNat n - Int.ofNat (i + 1))))) (by kernel_rfl) ?_ ?_
              · intro hle3
                have hle3 : x + x ≤ n - (i + 1) := by rw [hxx, hLV] at hle3; exact Int.ofNat_le.1 (of_decide_eq_true hle3)
                have hsub : IntKind.wrap .i64 ((IntKind.wrap .i64 (Int.ofNat n - Int.ofNat (i + 1))) - Int.ofNat x) = Int.ofNat (n - (i + 1) - x) := by rw [hLV]; exact wrap_sub (by omega) (by omega)
                refine ow_new 1 W (AObj.cells [Value.int IntKind.i64 (Int.ofNat (Prod.fst (x, slx, qx, vx, Lx))), Value.int IntKind.i64 (IntKind.wrap IntKind.i64 (IntKind.wrap IntKind.i64 (Int.ofNat n - Int.ofNat (i + 1)) - Int.ofNat (Prod.fst (x, slx, qx, vx, Lx))))] 3 false) (fun q => Value.slice (some { block := q, off := 0 }) 2 4) (by kernel_rfl) fun c10x1 nc10x1 Wc10x1 => ?_
                have W := Wc10x1
                refine ow_new 0 W (AObj.cells [Value.slice (some { block := Hp.next gx, off := 0 }) 2 4] 32 false) (fun q => Value.slice (some { block := q, off := 0 }) 1 2) (by kernel_rfl) fun c10x2 nc10x2 Wc10x2 => ?_
                have W := Wc10x2
                rw [hsub] at W
                refine app_row (L2 := [(_, .cells [J x, J (n - (i + 1) - x)] 3 false)]) 0 W hslx Rx rfl row2 (by simp; omega) (by kernel_rfl) fun g10b sl10b hsl10b hsc10b R10b W => ?_
                have hrl : [x, n - (i + 1) - x] = rowL (x - 1 + 1, n - (i + 1) - (x - 1 + 1)) := by
                  rw [show x - 1 + 1 = x by omega]
                  unfold rowL; rw [if_neg (by show ¬ x = 0; omega), if_neg (by show ¬ n - (i + 1) - x = 0; omega)]
                rw [hrl, List.append_assoc] at R10b
                refine ok_go 1 ?_
                exact sy_next 0 _ g10b (by kernel_rfl) (by kernel_rfl) (ih2 (x + 1, sl10b, _, _, _) _ g10b ⟨by show 1 ≤ x + 1; omega, by show 2 * (x + 1 - 1) ≤ _; omega, hsl10b, hsc10b, by
                  show RowsS _ _ (((ops (d.take i) 0 n).map rowL) ++ (List.range (x + 1 - 1)).map (fun a => rowL (a + 1, n - (i + 1) - (a + 1))))
                  rw [show x + 1 - 1 = (x - 1) + 1 by omega, List.range_succ, List.map_append]
                  exact R10b, W⟩ (show n - (x + 1) < n - x by omega) ⟨by kernel_rfl, by kernel_rfl, by kernel_rfl, by kernel_rfl, by kernel_rfl, (by kernel_rfl : _ = Value.int .i64 (IntKind.wrap .i64 (Int.ofNat (x + 1)))).trans (by rw [hwx]), trivial⟩)
              · intro hle3
                have hle3 : n - (i + 1) < x + x := by rw [hxx, hLV] at hle3; have := of_decide_eq_false hle3; exact Nat.lt_of_not_le fun h => this (Int.ofNat_le.2 h)
                have hx3 : x - 1 = (n - (i + 1)) / 2 := by omega
                rw [hx3] at Rx
                have hcm : ((List.range ((n - (i + 1)) / 2)).map fun a => (a + 1, n - (i + 1) - (a + 1))).map rowL = (List.range ((n - (i + 1)) / 2)).map (fun a => rowL (a + 1, n - (i + 1) - (a + 1))) := by rw [List.map_map]; rfl
                refine ok_go 1 ?_
                exact sy_next 0 _ gx (by kernel_rfl) (by kernel_rfl) (ih (i + 1, slx, qx, vx, Lx) _ gx ⟨hlt, hslx, hscx, by rw [hsn]; simp only [ha, hb, h4, if_true, if_false, List.append_nil, List.nil_append, List.map_append, hcm, List.map_cons, List.map_nil]; simpa only [List.append_assoc] using Rx, W⟩ (show d.length - (i + 1) < d.length - i by omega) ⟨by kernel_rfl, by kernel_rfl, by kernel_rfl, (by kernel_rfl : _ = Value.int .i64 (IntKind.wrap .i64 (Int.ofNat (i + 1 + 1)))).trans (by rw [hw]), trivial⟩)
            · refine sy_no 0 (b := (IntKind.wrap .i64 (((IntKind.wrap .i64 (IntKind.wrap .u8 (Int.ofNat (48 + d[i]) - 48)))).tdiv 4) == 1)) (by kernel_rfl) (by rw [t4]; exact beq_eq_false_iff_ne.2 h4) ?_
              refine ok_go 1 ?_
              exact sy_next 0 _ g (by kernel_rfl) (by kernel_rfl) (ih (i + 1, sl, q, vs, L) _ g ⟨hlt, hsl, hsc, by rw [hsn]; simpa only [ha, hb, h4, if_true, if_false, List.append_nil, List.nil_append, List.map_append, List.map_cons, List.map_nil, List.append_assoc] using R, W⟩ (show d.length - (i + 1) < d.length - i by omega) ⟨by kernel_rfl, by kernel_rfl, by kernel_rfl, (by kernel_rfl : _ = Value.int .i64 (IntKind.wrap .i64 (Int.ofNat (i + 1 + 1)))).trans (by rw [hw]), trivial⟩)
    · intro hle2
      have hin : ¬ i + 1 ≤ n := fun hh => of_decide_eq_false hle2 (Int.ofNat_le.2 hh)
      refine sy_done 0 (v := sl) (h := g) (by kernel_rfl) ?_
      refine ⟨q, vs, L, hsl, ?_, W⟩
      have : ops d 0 n = ops (d.take i) 0 n := by
        have e : ops d 0 n = ops (d.take i) 0 n ++ ops (d.drop i) (0 + (d.take i).length) n := by rw [← ops_app, List.take_append_drop]
        rw [e, ops_none (d.drop i) (0 + (d.take i).length) (by rw [List.length_take]; omega), List.append_nil]
      rw [this]
      exact R
  · intro hle
    have hlt : d.length ≤ i := by rw [hD] at hle; have := of_decide_eq_false hle; exact Nat.le_of_not_lt fun hh => this (Int.ofNat_le.2 hh)
    refine sy_done 4 (v := sl) (h := g) (by kernel_rfl) ?_
    refine ⟨q, vs, L, hsl, ?_, W⟩
    rw [List.take_of_length_le hlt] at R
    exact R
end Go.Proofs.YtegcmgjldapnmaaDoor
namespace Go.Proofs.YtegcmgjldapnmaaDoor
open Go Go.Eng Nim Oct
set_option maxRecDepth 100000
set_option maxHeartbeats 8000000
theorem uT69 : Tryd.prog.underlying 69 = some (.slice 4) := by kernel_rfl
theorem makeSl {P : Program} {h : Hp} {t e : TypeId} {len : Nat} {z : Value} {inf : TypeInfo} {kd kd' : IntKind} (hu : P.underlying t = some (.slice e)) (hz : zeroOf P e = some z) (hi : P.info? e = some inf) (hb : Nat.ble inf.bytes 4096 = true)
    (hs : Nat.beq z.cells.size inf.size = true) (hsc : z.cells.toList.all scalar = true) (hn : len < 16777216) :
    makeSliceOp P h t (.int kd (Int.ofNat len)) (.int kd' (Int.ofNat len)) = some (.slice (some ⟨h.next, 0, none⟩) len (2 * len), h.new (.cells (zeros z.cells.toList len) e false)) := by
  have h1 : Nat.ble len len = true := Nat.ble_eq_true_of_le (Nat.le_refl _)
  have h2 : Nat.ble len most = true := Nat.ble_eq_true_of_le (by unfold most; omega)
  simp only [makeSliceOp, hu, natOf, hz, hi, h1, h2, hb, hs, hsc]
theorem osl_shape (q n : Nat) : ∃ a c, oslV q n = .slice a n c := by
  cases n
  · exact ⟨_, _, rfl⟩
  · exact ⟨_, _, rfl⟩
theorem rd31 {h : Hp} {l : Value} {vs : List Value} {k : Nat} {v : Value} (hl : Rds h l vs) (hk : vs[k]? = some v) : ∃ p, indexAddrOp Tryd.prog 31 l (J k) = some p ∧ loadT Tryd.prog h 32 p = some v := hl.read (by kernel_rfl) (by kernel_rfl) (by kernel_rfl) hk
theorem rd32 {h : Hp} {l : Value} {r : List Nat} {k : Nat} (hl : Rds h l (r.map J)) (hk : k < r.length) : ∃ p, indexAddrOp Tryd.prog 32 l (J k) = some p ∧ loadT Tryd.prog h 3 p = some (J r[k]) := hl.read (e := 3) (by kernel_rfl) (by kernel_rfl) (by kernel_rfl) (by rw [List.getElem?_map, List.getElem?_eq_getElem hk]; rfl)
def accR (d : List Nat) (r : List Nat) : Nat := r.foldl (fun a x => a ^^^ gv d x) 0
theorem accR_take (d r : List Nat) {x : Nat} (hx : x < r.length) : accR d (r.take (x + 1)) = accR d (r.take x) ^^^ gv d r[x] := by
  unfold accR
  rw [List.take_succ_eq_append_getElem hx, List.foldl_append]
  rfl
theorem xor_12 {a b : Nat} (ha : a < 4096) (hb : b < 4096) : a ^^^ b < 4096 := Nat.xor_lt_two_pow (n := 12) ha hb
theorem fold_lt (d : List Nat) : ∀ (r : List Nat) (a : Nat), a < 4096 → (∀ x ∈ r, x < 4096) → r.foldl (fun a x => a ^^^ gv d x) a < 4096
  | [], _, ha, _ => ha
  | y :: r, a, ha, h => fold_lt d r _ (xor_12 ha (Nat.lt_of_le_of_lt (gv_self d y) (h y List.mem_cons_self))) fun x hx => h x (List.mem_cons_of_mem _ hx)
theorem gv_zero (d : List Nat) : gv d 0 = 0 := rfl
theorem accR_row (d : List Nat) (p : Nat × Nat) (h : p.1 = 0 → p.2 = 0) : accR d (rowL p) = gv d p.1 ^^^ gv d p.2 := by
  unfold accR rowL
  split
  · rename_i h0
    rw [h0, h h0, gv_zero]; rfl
  · split
    · rename_i h0
      rw [h0, gv_zero]
      show 0 ^^^ gv d p.1 = _
      rw [Nat.zero_xor, Nat.xor_zero]
    · show 0 ^^^ gv d p.1 ^^^ gv d p.2 = _
      rw [Nat.zero_xor]
theorem ops_zero {d : List Nat} {n : Nat} {p : Nat × Nat} (h : p ∈ ops d 0 n) : p.1 = 0 → p.2 = 0 := by
  obtain ⟨a, b⟩ := p
  obtain ⟨k, g, _, ho⟩ := ops_iff.1 h
  have := (op1_iff a b).1 ho
  intro h0
  dsimp only at h0 ⊢
  omega
theorem rvalues_of (d : List Nat) (hd : ∀ x ∈ d, x < 8) (hl : d.length ≤ 8) (n : Nat) (hn : n ≤ 2000) (lf m : Nat) (hlf : 20000 ≤ lf) (h : Hp)
    (af : ∀ k h, k ≤ 2000 → ∃ v h', Ev lf m 63 [.string (strL (codeS d)), J k] h = some (v, h') ∧ ∃ q vs L, v = oslV q vs.length ∧ RowsS L vs ((ops d 0 k).map rowL) ∧ Sto h h' (L ++ oent q 32 vs)) :
    ∃ v h', Ev lf (m + 1) 43 [.string (strL (codeS d)), J n] h = some (v, h') ∧ ∃ q, v = .slice (some ⟨q, 0, none⟩) (n + 1) (kc n) ∧ Sto h h' [(q, .cells (cellsF (n + 1) fun k => J (gv d k)) 3 (opn n))] := by
  refine fnS_ok (Q := fun v h' => ∃ q, v = .slice (some ⟨q, 0, none⟩) (n + 1) (kc n) ∧ Sto h h' [(q, .cells (cellsF (n + 1) fun k => J (gv d k)) 3 (opn n))]) ?_
  have W := Sto.start h
  refine ow_new 0 W (AObj.cells [Value.int IntKind.i64 (Int.ofNat 0)] 3 false) (fun q => Value.slice (some { block := q, off := 0 }) 1 2) (by kernel_rfl) fun g1 ng1 Wg1 => ?_
  have W := Wg1
  refine sy_loop 0 lf g1 (α := Nat × Nat) (fun x => [(0, .string (strL (codeS d))), (1, J n), (5, .slice (some ⟨x.2, 0, none⟩) (x.1 + 1) (kc x.1)), (6, J (x.1 + 1))]) (fun x g => x.1 ≤ n ∧ Sto h g [(x.2, .cells (cellsF (x.1 + 1) fun k => J (gv d k)) 3 (opn x.1))]) (fun x _ => n - x.1) (0, h.next) (by kernel_rfl) (by kernel_rfl)
    ⟨by kernel_rfl, by kernel_rfl, by kernel_rfl, by kernel_rfl, trivial⟩ (show n - 0 < lf by omega) ⟨Nat.zero_le _, W⟩ ?_
  rintro m1 ⟨nn, ki⟩ f1 g ⟨hnn, W⟩ ih
  dsimp only at hnn W
  have hw : IntKind.wrap .i64 (Int.ofNat (nn + 1 + 1)) = Int.ofNat (nn + 1 + 1) := wrap_nat (by omega)
  refine ok_go 1 ?_
  refine sy_test 0 (decide (Int.ofNat (nn + 1) ≤ Int.ofNat n)) (by kernel_rfl) ?_ ?_
  · intro hle
    have hle : nn + 1 ≤ n := Int.ofNat_le.1 (of_decide_eq_true hle)
    have hsz : IntKind.wrap .i64 (IntKind.wrap .i64 (2 * Int.ofNat n) + 4) = Int.ofNat (2 * n + 4) := by
      rw [show IntKind.wrap .i64 (2 * Int.ofNat n) = Int.ofNat (2 * n) from wrap_nat (n := 2 * n) (by omega)]
      exact wrap_add (b := 4) (by omega)
    refine ok_go 2 ?_
    refine ow_new 0 W (.cells (cellsF (2 * n + 4) fun _ => .bool false) 4 false) (fun q => .slice (some ⟨q, 0, none⟩) (2 * n + 4) (2 * (2 * n + 4))) ((by kernel_rfl : _ = makeSliceOp Tryd.prog g 69 (.int .i64 (IntKind.wrap .i64 (IntKind.wrap .i64 (2 * Int.ofNat n) + 4))) (.int .i64 (IntKind.wrap .i64 (IntKind.wrap .i64 (2 * Int.ofNat n) + 4)))).trans (by rw [hsz, ← zeros_one]; exact makeSl (z := .bool false) (inf := (Tryd.prog.info? 4).get!) uT69 (by kernel_rfl) (by kernel_rfl) (by kernel_rfl) (by kernel_rfl) (by kernel_rfl) (by omega))) fun g2 ng2 W => ?_
    refine ok_go 0 ?_
    obtain ⟨sl, g3, e3, qv, vs, L, hsl, RS, W3⟩ := af (nn + 1) g2 (by omega)
    obtain ⟨sa, sc, hsh⟩ := osl_shape qv vs.length
    rw [hsh] at hsl
    subst hsl
    have W := W.over W3
    refine sy_call 0 (by kernel_rfl) e3 ?_
    have hll : vs.length = (ops d 0 (nn + 1)).length := by rw [RS.len, List.length_map]
    have hop := ops_len (nn + 1) d 0
    have hlb : vs.length ≤ 8 * 2001 := by
      rw [hll]; exact Nat.le_trans hop (Nat.mul_le_mul hl (by omega))
    refine ok_go 0 ?_
    have W : Sto h g3 ((g.next, .cells (cellsF (2 * n + 4) fun _ => .bool false) 4 false) :: ((L ++ oent qv 32 vs) ++ [(ki, .cells (cellsF (nn + 1) fun k => J (gv d k)) 3 (opn nn))])) := W.perm List.perm_middle
    generalize hov : (ops d 0 (nn + 1)).map (fun p => gv d p.1 ^^^ gv d p.2) = ov at *
    refine sy_loop 0 lf g3 (α := Nat) (fun j => [(0, .string (strL (codeS d))), (1, J n), (5, .slice (some ⟨ki, 0, none⟩) (nn + 1) (kc nn)), (6, J (nn + 1)), (7, .slice (some ⟨g.next, 0, none⟩) (2 * n + 4) (2 * (2 * n + 4))), (8, .slice sa vs.length sc), (9, J j)])
      (fun j q => j ≤ vs.length ∧ Sto h q ((g.next, .cells (cellsF (2 * n + 4) fun c => .bool ((ov.take j).contains c)) 4 false) :: ((L ++ oent qv 32 vs) ++ [(ki, .cells (cellsF (nn + 1) fun k => J (gv d k)) 3 (opn nn))]))) (fun j _ => vs.length - j) 0 (by kernel_rfl) (by kernel_rfl)
      ⟨by kernel_rfl, by kernel_rfl, by kernel_rfl, by kernel_rfl, by kernel_rfl, by kernel_rfl, by kernel_rfl, trivial⟩ (show vs.length - 0 < lf by omega) ⟨Nat.zero_le _, (by rw [List.take_zero]; exact W)⟩ ?_
    rintro m2 j f2 q ⟨hj, W⟩ ih2
    have Rq : Rds q (.slice sa vs.length sc) vs := by
      rw [← hsh]
      exact osl_rd (e := 32) (W.hold.sub fun p hp => List.mem_cons_of_mem _ (List.mem_append_left _ (List.mem_append_right _ hp)))
    have HL : Hold q L := W.hold.sub fun p hp => List.mem_cons_of_mem _ (List.mem_append_left _ (List.mem_append_left _ hp))
    refine ok_go 2 ?_
    refine sy_test 0 (decide (Int.ofNat j < Int.ofNat vs.length)) (by kernel_rfl) ?_ ?_
    · intro hlt
      have hlt : j < vs.length := Int.ofNat_lt.1 (of_decide_eq_true hlt)
      have hlt' : j < (ops d 0 (nn + 1)).length := by omega
      obtain ⟨rv, hrv⟩ : ∃ rv, vs[j]? = some rv := ⟨_, List.getElem?_eq_getElem hlt⟩
      obtain ⟨pp, hpp⟩ : ∃ pp, (ops d 0 (nn + 1))[j]? = some pp := ⟨_, List.getElem?_eq_getElem hlt'⟩
      have hrr := RS.row j rv (rowL pp) hrv (by rw [List.getElem?_map, hpp]; rfl) q HL
      obtain ⟨ra, rc, hrs⟩ := hrr.shape
      rw [List.length_map] at hrs
      subst hrs
      obtain ⟨p1, e4, e5⟩ := rd31 Rq hrv
      have hjw : IntKind.wrap .i64 (Int.ofNat (j + 1)) = Int.ofNat (j + 1) := wrap_nat (by omega)
      have hpl := ops_lt (List.mem_of_getElem? hpp)
      have hrl : (rowL pp).length ≤ 2 ∧ ∀ x ∈ rowL pp, x ≤ nn := by
        unfold rowL
        split
        · exact ⟨by simp, by simp⟩
        · split
          · exact ⟨by simp, fun x hx => by rw [List.mem_singleton.1 hx]; omega⟩
          · exact ⟨by simp, fun x hx => by simp only [List.mem_cons, List.not_mem_nil, or_false] at hx; rcases hx with rfl | rfl <;> omega⟩
      generalize hrr0 : rowL pp = r at *
      refine ok_go 0 ?_
      refine sy_loop 0 lf q (α := Nat) (fun x => [(0, .string (strL (codeS d))), (1, J n), (5, .slice (some ⟨ki, 0, none⟩) (nn + 1) (kc nn)), (6, J (nn + 1)), (7, .slice (some ⟨g.next, 0, none⟩) (2 * n + 4) (2 * (2 * n + 4))), (8, .slice sa vs.length sc), (9, J j), (10, J (accR d (r.take x))), (11, J x)])
        (fun x k => k = q ∧ x ≤ r.length) (fun x _ => r.length - x) 0 (by kernel_rfl) (by kernel_rfl)
        ⟨by kernel_rfl, by kernel_rfl, by kernel_rfl, by kernel_rfl, by kernel_rfl, by kernel_rfl, by kernel_rfl, (by rw [List.take_zero]; kernel_rfl), by kernel_rfl, trivial⟩ (show r.length - 0 < lf by omega) ⟨rfl, Nat.zero_le _⟩ ?_
      rintro m3 x f3 k ⟨rfl, hx⟩ ih3
      refine ok_go 0 ?_
      refine sy_load 0 (r := indexAddrOp Tryd.prog 31 (.slice sa vs.length sc) (J j)) (h' := k) (by kernel_rfl) e4 ?_
      refine ok_go 0 ?_
      refine sy_load 0 (r := loadT Tryd.prog k 32 p1) (h' := k) (by kernel_rfl) e5 ?_
      refine ok_go 2 ?_
      have hxw : IntKind.wrap .i64 (Int.ofNat (x + 1)) = Int.ofNat (x + 1) := wrap_nat (by have := hrl.1; omega)
      refine sy_test 0 (decide (Int.ofNat x < Int.ofNat r.length)) (by kernel_rfl) ?_ ?_
      · intro hlx
        have hlx : x < r.length := Int.ofNat_lt.1 (of_decide_eq_true hlx)
        obtain ⟨p2, e6, e7⟩ := rd32 hrr hlx
        have hxn := hrl.2 _ (List.getElem_mem hlx)
        refine ok_go 0 ?_
        refine sy_load 0 (r := indexAddrOp Tryd.prog 31 (.slice sa vs.length sc) (J j)) (h' := k) (by kernel_rfl) e4 ?_
        refine ok_go 0 ?_
        refine sy_load 0 (r := loadT Tryd.prog k 32 p1) (h' := k) (by kernel_rfl) e5 ?_
        refine ok_go 0 ?_
        refine sy_load 0 (r := indexAddrOp Tryd.prog 32 (.slice ra r.length rc) (J x)) (h' := k) (by kernel_rfl) e6 ?_
        refine ok_go 0 ?_
        refine sy_load 0 (r := loadT Tryd.prog k 3 p2) (h' := k) (by kernel_rfl) e7 ?_
        refine ok_go 0 ?_
        refine sy_load 0 (r := indexAddrOp Tryd.prog 32 (Value.slice (some { block := ki, off := 0 }) (nn + 1) (kc nn)) (J r[x])) (h' := k) (by kernel_rfl) (idxS0 (e := 3) (by kernel_rfl) (by kernel_rfl) (by omega)) ?_
        have hki : (ki, AObj.cells (cellsF (nn + 1) fun k => J (gv d k)) 3 (opn nn)) ∈ ((g.next, AObj.cells (cellsF (2 * n + 4) fun c => .bool ((ov.take j).contains c)) 4 false) :: ((L ++ oent qv 32 vs) ++ [(ki, .cells (cellsF (nn + 1) fun k => J (gv d k)) 3 (opn nn))])) := List.mem_cons_of_mem _ (List.mem_append_right _ (List.mem_singleton.2 rfl))
        obtain ⟨kk, hkk⟩ := List.mem_iff_getElem?.1 hki
        refine ow_loadF (P := Tryd.prog) (T := 3) (off := r[x]) 0 kk W hkk (by omega) (by kernel_rfl) (by kernel_rfl) ?_
        have ga := gv_self d r[x]
        have hacc : accR d (r.take x) < 4096 := fold_lt d _ 0 (by omega) fun y hy => by have := hrl.2 y (List.mem_of_mem_take hy); omega
        have hxx : xorI (Int.ofNat (accR d (r.take x))) (Int.ofNat (gv d r[x])) = Int.ofNat (accR d (r.take (x + 1))) := by rw [accR_take d r hlx]; exact xor_nat (by omega) (by omega)
        refine ok_go 2 ?_
        refine sy_next 0 _ k (by kernel_rfl) (by kernel_rfl) (ih3 (x + 1) _ k ⟨rfl, hlx⟩ (show r.length - (x + 1) < r.length - x by omega) ⟨by kernel_rfl, by kernel_rfl, by kernel_rfl, by kernel_rfl, by kernel_rfl, by kernel_rfl, by kernel_rfl, (by kernel_rfl : _ = Value.int .i64 (xorI (Int.ofNat (accR d (r.take x))) (Int.ofNat (gv d r[x])))).trans (by rw [hxx]), (by kernel_rfl : _ = Value.int .i64 (IntKind.wrap .i64 (Int.ofNat (x + 1)))).trans (by rw [hxw]), trivial⟩)
      · intro hlx
        obtain rfl : x = r.length := by
          have := of_decide_eq_false hlx
          exact Nat.le_antisymm hx (Nat.le_of_not_lt fun h => this (Int.ofNat_lt.2 h))
        rw [List.take_length]
        refine ok_go 2 ?_
        have hov' : ov[j]? = some (accR d r) := by
          rw [← hov, List.getElem?_map, hpp, ← hrr0, accR_row d pp (ops_zero (List.mem_of_getElem? hpp))]; rfl
        have hbd : accR d r < 2 * n + 4 := by
          have := opt_le d (nn + 1) (List.mem_of_getElem? hpp)
          rw [← hrr0, accR_row d pp (ops_zero (List.mem_of_getElem? hpp))]; omega
        have hcu := updc (N := 2 * n + 4) hov'
        refine sy_test 0 (decide (Int.ofNat (accR d r) < Int.ofNat (2 * n + 4))) (by kernel_rfl) ?_ ?_
        · intro _
          refine ok_go 0 ?_
          refine sy_load 0 (r := indexAddrOp Tryd.prog 69 (.slice (some ⟨g.next, 0, none⟩) (2 * n + 4) (2 * (2 * n + 4))) (J (accR d r))) (h' := k) (by kernel_rfl) (idxS0 (e := 4) uT69 (by kernel_rfl) hbd) ?_
          refine ok_go 0 ?_
          refine ow_storeF (P := Tryd.prog) (T := 4) (off := accR d r) (v := .bool true) 0 0 W rfl hbd (by kernel_rfl) rfl (by kernel_rfl) fun b2 nb2 W => ?_
          refine ok_go 1 ?_
          have W : Sto h b2 ((g.next, .cells (cellsF (2 * n + 4) fun c => .bool ((ov.take (j + 1)).contains c)) 4 false) :: ((L ++ oent qv 32 vs) ++ [(ki, .cells (cellsF (nn + 1) fun k => J (gv d k)) 3 (opn nn))])) := by rw [← hcu]; exact W
          exact sy_next 0 _ b2 (by kernel_rfl) (by kernel_rfl) (ih2 (j + 1) _ b2 ⟨hlt, W⟩ (show vs.length - (j + 1) < vs.length - j by omega) ⟨by kernel_rfl, by kernel_rfl, by kernel_rfl, by kernel_rfl, by kernel_rfl, by kernel_rfl, (by kernel_rfl : _ = Value.int .i64 (IntKind.wrap .i64 (Int.ofNat (j + 1)))).trans (by rw [hjw]), trivial⟩)
        · intro hc
          exact absurd (Int.ofNat_lt.2 hbd) (of_decide_eq_false hc)
    · intro hlt
      obtain rfl : j = vs.length := by
        have := of_decide_eq_false hlt
        exact Nat.le_antisymm hj (Nat.le_of_not_lt fun h => this (Int.ofNat_lt.2 h))
      have hvo : ov.length = vs.length := by rw [← hov, List.length_map, hll]
      rw [← hvo, List.take_length] at W
      obtain ⟨mx1, mx2⟩ := mex_spec ov
      have hmex : gv d (nn + 1) = mex ov := by rw [← hov]; exact gv_succ d nn
      have hgs := gv_self d (nn + 1)
      rw [← hmex] at mx1 mx2
      refine ok_go 0 ?_
      refine sy_loop 0 lf q (α := Nat) (fun x => [(0, .string (strL (codeS d))), (1, J n), (5, .slice (some ⟨ki, 0, none⟩) (nn + 1) (kc nn)), (6, J (nn + 1)), (7, .slice (some ⟨g.next, 0, none⟩) (2 * n + 4) (2 * (2 * n + 4))), (12, J x)])
        (fun x k => k = q ∧ x ≤ gv d (nn + 1)) (fun x _ => gv d (nn + 1) - x) 0 (by kernel_rfl) (by kernel_rfl)
        ⟨by kernel_rfl, by kernel_rfl, by kernel_rfl, by kernel_rfl, by kernel_rfl, by kernel_rfl, trivial⟩ (show gv d (nn + 1) - 0 < lf by omega) ⟨rfl, Nat.zero_le _⟩ ?_
      rintro m3 x f3 k ⟨rfl, hx⟩ ih3
      have hxw : IntKind.wrap .i64 (Int.ofNat (x + 1)) = Int.ofNat (x + 1) := wrap_nat (by omega)
      refine ok_go 0 ?_
      refine sy_load 0 (r := indexAddrOp Tryd.prog 69 (.slice (some ⟨g.next, 0, none⟩) (2 * n + 4) (2 * (2 * n + 4))) (J x)) (h' := k) (by kernel_rfl) (idxS0 (e := 4) uT69 (by kernel_rfl) (by omega)) ?_
      refine ow_loadF (P := Tryd.prog) (T := 4) (off := x) 0 0 W rfl (by omega) (by kernel_rfl) (by kernel_rfl) ?_
      rcases Nat.lt_or_ge x (gv d (nn + 1)) with hlx | hge
      · rw [List.contains_iff_mem.2 (mx1 x hlx)]
        refine ok_go 2 ?_
        exact sy_next 0 _ k (by kernel_rfl) (by kernel_rfl) (ih3 (x + 1) _ k ⟨rfl, hlx⟩ (show gv d (nn + 1) - (x + 1) < gv d (nn + 1) - x by omega) ⟨by kernel_rfl, by kernel_rfl, by kernel_rfl, by kernel_rfl, by kernel_rfl, (by kernel_rfl : _ = Value.int .i64 (IntKind.wrap .i64 (Int.ofNat (x + 1)))).trans (by rw [hxw]), trivial⟩)
      · obtain rfl : x = gv d (nn + 1) := Nat.le_antisymm hx hge
        have hcf : ov.contains (gv d (nn + 1)) = false := by
          cases hc : ov.contains (gv d (nn + 1)) with
          | false => rfl
          | true => exact absurd (List.contains_iff_mem.1 hc) mx2
        rw [hcf]
        refine ok_go 1 ?_
        refine ow_new 0 W (AObj.cells [J (gv d (nn + 1))] 3 false) (fun q => Value.slice (some { block := q, off := 0 }) 1 2) (by kernel_rfl) fun r1 nr1 W => ?_
        have Wp := (W.perm (List.Perm.cons _ ((List.Perm.cons _ (List.perm_append_comm (l₂ := [_]))).trans (List.Perm.swap _ _ _))))
        obtain ⟨r2, e10, nr2, W⟩ := kn_app (v := J (gv d (nn + 1))) rfl (cellsF_all (N := nn + 1) (f := fun k => J (gv d k)) fun c => rfl) (cellsF_len _ _) (by omega) Wp
        have hcs : cellsF (nn + 1) (fun k => J (gv d k)) ++ [J (gv d (nn + 1))] = cellsF (nn + 2) (fun k => J (gv d k)) := by
          show ((List.range (nn + 1)).map _) ++ _ = (List.range (nn + 1 + 1)).map _
          rw [List.range_succ (n := nn + 1), List.map_append]; rfl
        rw [hcs] at W
        have W := W.sub (l' := [(r1.next, .cells (cellsF (nn + 2) fun k => J (gv d k)) 3 true)]) (List.Sublist.cons_cons _ (List.nil_sublist _))
        refine sy_call 0 (by kernel_rfl) e10 ?_
        refine ok_go 1 ?_
        exact sy_next 0 _ r2 (by kernel_rfl) (by kernel_rfl) (ih (nn + 1, r1.next) _ r2 ⟨hle, W⟩ (show n - (nn + 1) < n - nn by omega) ⟨by kernel_rfl, by kernel_rfl, by kernel_rfl, (by kernel_rfl : _ = Value.int .i64 (IntKind.wrap .i64 (Int.ofNat (nn + 1 + 1)))).trans (by rw [hw]), trivial⟩)
  · intro hle
    have hge : n ≤ nn := by have := of_decide_eq_false hle; exact Nat.le_of_not_lt fun h => this (Int.ofNat_le.2 h)
    obtain rfl : nn = n := by omega
    refine sy_done 0 (v := Value.slice (some { block := Prod.snd (nn, ki), off := 0 }) (Prod.fst (nn, ki) + 1) (kc (Prod.fst (nn, ki)))) (h := g) (by kernel_rfl) ?_
    exact ⟨ki, rfl, W⟩
end Go.Proofs.YtegcmgjldapnmaaDoor
namespace Go.Proofs.YtegcmgjldapnmaaDoor
open Go Go.Eng Nim Oct
set_option maxRecDepth 100000
set_option maxHeartbeats 8000000
theorem rgo_of (d : List Nat) (D q L a p lf m : Nat) (hD : D ≤ 8) (hL : L ≤ 2000) (hsz : 2 * a + 3 * p + D ≤ L) (hp1 : 1 ≤ p) (hlf : 20000 ≤ lf) (h : Hp) (hg : h.get q = some (.cells (cellsF (L + 1) fun k => J (gv d k)) 3 (opn L))) :
    ∃ v h', Ev lf (m + 1) 44 [.slice (some ⟨q, 0, none⟩) (L + 1) (kc L), J D, J a, J p] h = some (v, h') ∧ h' = h ∧ ∃ b, v = .bool b ∧ (b = true ↔ goes (gv d) D a p) := by
  refine fnS_ok (Q := fun v h' => h' = h ∧ ∃ b, v = .bool b ∧ (b = true ↔ goes (gv d) D a p)) ?_
  have h2a : IntKind.wrap .i64 (2 * Int.ofNat a) = Int.ofNat (2 * a) := wrap_nat (n := 2 * a) (by omega)
  have h2p : IntKind.wrap .i64 (2 * Int.ofNat p) = Int.ofNat (2 * p) := wrap_nat (n := 2 * p) (by omega)
  have htop : IntKind.wrap .i64 (IntKind.wrap .i64 (IntKind.wrap .i64 (2 * Int.ofNat a) + IntKind.wrap .i64 (2 * Int.ofNat p)) + Int.ofNat D) = Int.ofNat (2 * a + 2 * p + D) := by
    rw [h2a, h2p, wrap_add (by omega), wrap_add (by omega)]
  let SL : Value := .slice (some ⟨q, 0, none⟩) (L + 1) (kc L)
  refine ok_go 0 ?_
  refine sy_loop 0 lf h (α := Nat) (fun n => [(0, SL), (1, J D), (2, J a), (3, J p), (9, J n)]) (fun n g => a ≤ n ∧ n ≤ 2 * a + 2 * p + D + 1 ∧ g = h ∧ ∀ j, a ≤ j → j < n → gv d j = gv d (j + p)) (fun n _ => 10000 - n) a (by kernel_rfl) (by kernel_rfl)
      ⟨by kernel_rfl, by kernel_rfl, by kernel_rfl, by kernel_rfl, by kernel_rfl, trivial⟩ (show 10000 - a < lf by omega) ⟨Nat.le_refl _, by omega, rfl, fun j h1 h2 => by omega⟩ ?_
  rintro m1 n f1 g ⟨hn1, hn2, rfl, hs⟩ ih
  have hw : IntKind.wrap .i64 (Int.ofNat (n + 1)) = Int.ofNat (n + 1) := wrap_nat (by omega)
  refine ok_go 5 ?_
  refine sy_test 0 (decide (Int.ofNat n ≤ IntKind.wrap .i64 (IntKind.wrap .i64 (IntKind.wrap .i64 (2 * Int.ofNat a) + IntKind.wrap .i64 (2 * Int.ofNat p)) + Int.ofNat D))) (by kernel_rfl) ?_ ?_
  · intro hle
    have hle : n ≤ 2 * a + 2 * p + D := by rw [htop] at hle; exact Int.ofNat_le.1 (of_decide_eq_true hle)
    have hadd : IntKind.wrap .i64 (Int.ofNat n + Int.ofNat p) = Int.ofNat (n + p) := wrap_add (by omega)
    refine ok_go 1 ?_
    refine sy_load 0 (r := indexAddrOp Tryd.prog 32 SL (I (IntKind.wrap .i64 (Int.ofNat n + Int.ofNat p)))) (h' := g) (by kernel_rfl) (by rw [hadd]; exact idxS0 (e := 3) (by kernel_rfl) (by kernel_rfl) (by omega)) ?_
    refine ok_go 0 ?_
    refine sy_load 0 (r := loadT Tryd.prog g 3 (ptr q (n + p))) (h' := g) (v := J (gv d (n + p))) (by kernel_rfl) (load1 agI hg (cellsF_get (by omega))) ?_
    refine ok_go 0 ?_
    refine sy_load 0 (r := indexAddrOp Tryd.prog 32 SL (J n)) (h' := g) (by kernel_rfl) (idxS0 (e := 3) (by kernel_rfl) (by kernel_rfl) (by omega)) ?_
    refine ok_go 0 ?_
    refine sy_load 0 (r := loadT Tryd.prog g 3 (ptr q n)) (h' := g) (v := J (gv d n)) (by kernel_rfl) (load1 agI hg (cellsF_get (by omega))) ?_
    refine ok_go 1 ?_
    refine sy_test 0 (Int.ofNat (gv d (n + p)) != Int.ofNat (gv d n)) (by kernel_rfl) ?_ ?_
    · intro hne
      refine sy_done 0 (v := Value.bool false) (h := g) (by kernel_rfl) ?_
      refine ⟨rfl, false, rfl, ⟨fun h => (by cases h), fun h => ?_⟩⟩
      have := h n hn1 hle
      rw [this] at hne
      simp at hne
    · intro heq
      have heq : gv d n = gv d (n + p) := (Int.ofNat.inj (bne_eq_false_iff_eq.1 heq)).symm
      refine ok_go 1 ?_
      exact sy_next 0 _ g (by kernel_rfl) (by kernel_rfl) (ih (n + 1) _ g ⟨by omega, by omega, rfl, fun j h1 h2 => by
          rcases Nat.lt_or_ge j n with h3 | h3
          · exact hs j h1 h3
          · obtain rfl : j = n := by omega
            exact heq⟩ (show 10000 - (n + 1) < 10000 - n by omega) ⟨by kernel_rfl, by kernel_rfl, by kernel_rfl, by kernel_rfl, (by kernel_rfl : _ = Value.int .i64 (IntKind.wrap .i64 (Int.ofNat (n + 1)))).trans (by rw [hw]), trivial⟩)
  · intro hle
    have hle : 2 * a + 2 * p + D < n := by rw [htop] at hle; have := of_decide_eq_false hle; exact Nat.lt_of_not_le fun h => this (Int.ofNat_le.2 h)
    refine sy_done 0 (v := Value.bool true) (h := g) (by kernel_rfl) ?_
    exact ⟨rfl, true, rfl, ⟨fun _ => fun j h1 h2 => hs j h1 (by omega), fun _ => rfl⟩⟩
end Go.Proofs.YtegcmgjldapnmaaDoor
namespace Go.Proofs.YtegcmgjldapnmaaDoor
open Go Go.Eng Nim Oct
set_option maxRecDepth 100000
set_option maxHeartbeats 8000000
theorem RPeriod_of (d : List Nat) (hd8 : d.length ≤ 8) (L : Nat) (hL : L ≤ 2000) (lf m : Nat) (hlf : 20000 ≤ lf) (h : Hp)
    (vl : ∀ n h, n ≤ 2000 → ∃ v h', Ev lf m 43 [.string (strL (codeS d)), J n] h = some (v, h') ∧ ∃ q, v = .slice (some ⟨q, 0, none⟩) (n + 1) (kc n) ∧ Sto h h' [(q, .cells (cellsF (n + 1) fun k => J (gv d k)) 3 (opn n))])
    (go : ∀ q a p h, 2 * a + 3 * p + d.length ≤ L → 1 ≤ p → h.get q = some (.cells (cellsF (L + 1) fun k => J (gv d k)) 3 (opn L)) → ∃ v h', Ev lf m 44 [.slice (some ⟨q, 0, none⟩) (L + 1) (kc L), J d.length, J a, J p] h = some (v, h') ∧ h' = h ∧ ∃ b, v = .bool b ∧ (b = true ↔ goes (gv d) d.length a p)) :
    ∃ v h', Ev lf (m + 1) 30 [.string (strL (codeS d)), J L] h = some (v, h') ∧ h.Ext h' ∧ ∃ a p s, v = .tuple #[J a, J p, .bool s] ∧ First (gv d) d.length L a p s := by
  refine fnS_ok (Q := fun v h' => h.Ext h' ∧ ∃ a p s, v = .tuple #[J a, J p, .bool s] ∧ First (gv d) d.length L a p s) ?_
  have W := Sto.start h
  have hD : IntKind.wrap .i64 (Int.ofNat (strL (codeS d)).size - 2) = Int.ofNat d.length := by
    rw [strL_size]
    have : (codeS d).length = d.length + 2 := by simp [codeS]
    rw [this]
    exact wrap_sub (a := d.length + 2) (b := 2) (by omega) (by omega)
  obtain ⟨y2, q2, ec2, q, rfl, W2⟩ := vl L h hL
  refine ok_go 2 ?_
  refine sy_call 0 (by kernel_rfl) ec2 ?_
  have hg := W2.get 0 rfl
  have X := W2.ext
  generalize d.length = D at *
  let SL : Value := .slice (some ⟨q, 0, none⟩) (L + 1) (kc L)
  let v : Nat → Nat := gv d
  refine ok_go 0 ?_
  refine sy_loop 0 lf q2 (α := Nat) (fun p => [(1, J L), (8, SL), (7, J D), (9, J p)]) (fun p g => 1 ≤ p ∧ p ≤ 2001 ∧ g = q2 ∧ ∀ q k, 1 ≤ q → q < p → 2 * k + 3 * q + D ≤ L → ¬ goes v D k q) (fun p _ => 2002 - p) 1 (by kernel_rfl) (by kernel_rfl)
    ⟨by kernel_rfl, by kernel_rfl, (by kernel_rfl : _ = I (IntKind.wrap .i64 (Int.ofNat (strL (codeS d)).size - 2))).trans (by rw [hD]), by kernel_rfl, trivial⟩ (show 2002 - 1 < lf by omega) ⟨Nat.le_refl 1, by decide, rfl, fun q k h1 h2 => by omega⟩ ?_
  rintro m1 p f1 g ⟨hp1, hp2, rfl, hno⟩ ih
  have hw : IntKind.wrap .i64 (Int.ofNat (p + 1)) = Int.ofNat (p + 1) := wrap_nat (by omega)
  have h3p : IntKind.wrap .i64 (3 * Int.ofNat p) = Int.ofNat (3 * p) := wrap_nat (n := 3 * p) (by omega)
  refine ok_go 3 ?_
  refine sy_test 0 (decide (IntKind.wrap .i64 (IntKind.wrap .i64 (3 * Int.ofNat p) + Int.ofNat D) ≤ Int.ofNat L)) (by kernel_rfl) ?_ ?_
  · intro hle
    have hle : 3 * p + D ≤ L := by
      rw [h3p, wrap_add (by omega)] at hle
      exact Int.ofNat_le.1 (of_decide_eq_true hle)
    refine ok_go 0 ?_
    refine sy_loop 0 lf g (α := Nat) (fun a => [(1, J L), (8, SL), (7, J D), (9, J p), (10, J a)]) (fun a g' => a ≤ 2001 ∧ g' = g ∧ ∀ k, k < a → ¬ goes v D k p) (fun a _ => 2002 - a) 0 (by kernel_rfl) (by kernel_rfl)
      ⟨by kernel_rfl, by kernel_rfl, by kernel_rfl, by kernel_rfl, by kernel_rfl, trivial⟩ (show 2002 - 0 < lf by omega) ⟨by decide, rfl, fun k hk => by omega⟩ ?_
    rintro m2 a f2 g ⟨ha, rfl, hna⟩ ih2
    have h2a : IntKind.wrap .i64 (2 * Int.ofNat a) = Int.ofNat (2 * a) := wrap_nat (n := 2 * a) (by omega)
    have haw : IntKind.wrap .i64 (Int.ofNat (a + 1)) = Int.ofNat (a + 1) := wrap_nat (by omega)
    have hsum : IntKind.wrap .i64 (IntKind.wrap .i64 (IntKind.wrap .i64 (2 * Int.ofNat a) + IntKind.wrap .i64 (3 * Int.ofNat p)) + Int.ofNat D) = Int.ofNat (2 * a + 3 * p + D) := by
      rw [h2a, h3p, wrap_add (by omega), wrap_add (by omega)]
    refine ok_go 5 ?_
    refine sy_test 0 (decide (IntKind.wrap .i64 (IntKind.wrap .i64 (IntKind.wrap .i64 (2 * Int.ofNat a) + IntKind.wrap .i64 (3 * Int.ofNat p)) + Int.ofNat D) ≤ Int.ofNat L)) (by kernel_rfl) ?_ ?_
    · intro hle2
      have hle2 : 2 * a + 3 * p + D ≤ L := by rw [hsum] at hle2; exact Int.ofNat_le.1 (of_decide_eq_true hle2)
      obtain ⟨_, g4, e3, hg4, b, rfl, hb⟩ := go q a p g hle2 hp1 hg
      rw [hg4] at e3
      refine ok_go 0 ?_
      refine sy_call 0 (by kernel_rfl) e3 ?_
      cases b with
      | true =>
        have hgo : goes v D a p := hb.1 rfl
        refine ok_go 1 ?_
        refine sy_done 0 (v := .tuple #[J a, J p, .bool true]) (h := g) (by kernel_rfl) ?_
        exact ⟨X, a, p, true, rfl, hp1, hle2, hgo, hno, hna⟩
      | false =>
        have hgo : ¬ goes v D a p := fun h => by have := hb.2 h; cases this
        refine ok_go 2 ?_
        exact sy_next 0 _ g (by kernel_rfl) (by kernel_rfl) (ih2 (a + 1) _ g ⟨by omega, rfl, fun k hk => by
          rcases Nat.lt_or_ge k a with h3 | h3
          · exact hna k h3
          · obtain rfl : k = a := by omega
            exact hgo⟩ (show 2002 - (a + 1) < 2002 - a by omega) ⟨by kernel_rfl, by kernel_rfl, by kernel_rfl, by kernel_rfl, (by kernel_rfl : _ = Value.int .i64 (IntKind.wrap .i64 (Int.ofNat (a + 1)))).trans (by rw [haw]), trivial⟩)
    · intro hle2
      have hle2 : L < 2 * a + 3 * p + D := by rw [hsum] at hle2; have := of_decide_eq_false hle2; exact Nat.lt_of_not_le fun h => this (Int.ofNat_le.2 h)
      refine ok_go 1 ?_
      exact sy_next 0 _ g (by kernel_rfl) (by kernel_rfl) (ih (p + 1) _ g ⟨by omega, by omega, rfl, fun q k h1 h2 h3 => by
        rcases Nat.lt_or_ge q p with h4 | h4
        · exact hno q k h1 h4 h3
        · obtain rfl : q = p := by omega
          exact hna k (by omega)⟩ (show 2002 - (p + 1) < 2002 - p by omega) ⟨by kernel_rfl, by kernel_rfl, by kernel_rfl, (by kernel_rfl : _ = Value.int .i64 (IntKind.wrap .i64 (Int.ofNat (p + 1)))).trans (by rw [hw]), trivial⟩)
  · intro hle
    have hle : L < 3 * p + D := by
      rw [h3p, wrap_add (by omega)] at hle
      have := of_decide_eq_false hle; exact Nat.lt_of_not_le fun h => this (Int.ofNat_le.2 h)
    refine ok_go 0 ?_
    refine sy_done 0 (v := .tuple #[J 0, J 0, .bool false]) (h := g) (by kernel_rfl) ?_
    exact ⟨X, 0, 0, false, rfl, rfl, rfl, fun q k h1 h3 => hno q k h1 (by omega) h3⟩
end Go.Proofs.YtegcmgjldapnmaaDoor
namespace Go.Proofs.YtegcmgjldapnmaaDoor
open Go Go.Eng Nim Oct
set_option maxRecDepth 100000
set_option maxHeartbeats 8000000
theorem RIsP_of (d : List Nat) (hd8 : d.length ≤ 8) (L a p : Nat) (hL : L ≤ 2000) (hp1 : 1 ≤ p) (hsz : 2 * a + 3 * p + d.length ≤ L) (lf m : Nat) (hlf : 20000 ≤ lf) (h : Hp)
    (vl : ∀ n h, n ≤ 2000 → ∃ v h', Ev lf m 43 [.string (strL (codeS d)), J n] h = some (v, h') ∧ ∃ q, v = .slice (some ⟨q, 0, none⟩) (n + 1) (kc n) ∧ Sto h h' [(q, .cells (cellsF (n + 1) fun k => J (gv d k)) 3 (opn n))])
    (go : ∀ q a p h, 2 * a + 3 * p + d.length ≤ L → 1 ≤ p → h.get q = some (.cells (cellsF (L + 1) fun k => J (gv d k)) 3 (opn L)) → ∃ v h', Ev lf m 44 [.slice (some ⟨q, 0, none⟩) (L + 1) (kc L), J d.length, J a, J p] h = some (v, h') ∧ h' = h ∧ ∃ b, v = .bool b ∧ (b = true ↔ goes (gv d) d.length a p)) :
    ∃ v h', Ev lf (m + 1) 31 [.string (strL (codeS d)), J L, J a, J p] h = some (v, h') ∧ h.Ext h' ∧ ∃ b, v = .bool b ∧ (b = true ↔ goes (gv d) d.length a p) := by
  refine fnS_ok (Q := fun v h' => h.Ext h' ∧ ∃ b, v = .bool b ∧ (b = true ↔ goes (gv d) d.length a p)) ?_
  have hD : IntKind.wrap .i64 (Int.ofNat (strL (codeS d)).size - 2) = Int.ofNat d.length := by
    rw [strL_size]
    have : (codeS d).length = d.length + 2 := by simp [codeS]
    rw [this]
    exact wrap_sub (a := d.length + 2) (b := 2) (by omega) (by omega)
  obtain ⟨y2, q2, ec2, q, rfl, W2⟩ := vl L h hL
  have h2a : IntKind.wrap .i64 (2 * Int.ofNat a) = Int.ofNat (2 * a) := wrap_nat (n := 2 * a) (by omega)
  have h3p : IntKind.wrap .i64 (3 * Int.ofNat p) = Int.ofNat (3 * p) := wrap_nat (n := 3 * p) (by omega)
  refine ok_go 7 ?_
  refine sy_no 0 (b := decide (Int.ofNat p < 1)) (by kernel_rfl) (decide_eq_false (by show ¬ ((p : Int) < 1); omega)) ?_
  refine ok_go 4 ?_
  refine sy_no 0 (b := decide (Int.ofNat a > Int.ofNat L)) (by kernel_rfl) (decide_eq_false (by show ¬ ((L : Int) < (a : Int)); omega)) ?_
  refine ok_go 4 ?_
  refine sy_no 0 (b := decide (Int.ofNat p > Int.ofNat L)) (by kernel_rfl) (decide_eq_false (by show ¬ ((L : Int) < (p : Int)); omega)) ?_
  refine ok_go 14 ?_
  refine sy_no 0 (b := decide (IntKind.wrap .i64 (IntKind.wrap .i64 (IntKind.wrap .i64 (2 * Int.ofNat a) + IntKind.wrap .i64 (3 * Int.ofNat p)) + IntKind.wrap .i64 (Int.ofNat (strL (codeS d)).size - 2)) > Int.ofNat L)) (by kernel_rfl) (decide_eq_false (by
    rw [hD, h2a, h3p, wrap_add (by omega), wrap_add (by omega)]
    show ¬ ((L : Int) < ((2 * a + 3 * p + d.length : Nat) : Int)); omega)) ?_
  refine ok_go 0 ?_
  refine sy_call 0 (by kernel_rfl) ec2 ?_
  obtain ⟨_, g4, e3, hg4, b, rfl, hb⟩ := go q a p q2 hsz hp1 (W2.get 0 rfl)
  have e3 : Ev lf m 44 [.slice (some ⟨q, 0, none⟩) (L + 1) (kc L), I (IntKind.wrap .i64 (Int.ofNat (strL (codeS d)).size - 2)), J a, J p] q2 = some (.bool b, q2) := by
    rw [hD, ← hg4]; rw [hg4] at e3 ⊢; exact e3
  refine ok_go 0 ?_
  refine sy_call 0 (by kernel_rfl) e3 ?_
  refine ok_go 0 ?_
  refine sy_done 0 (v := .bool b) (h := q2) (by kernel_rfl) ?_
  exact ⟨W2.ext, b, rfl, hb⟩
end Go.Proofs.YtegcmgjldapnmaaDoor
namespace Go.Proofs.YtegcmgjldapnmaaDoor
open Go Go.Eng Nim Oct
set_option maxRecDepth 100000
set_option maxHeartbeats 8000000
theorem RIsP_any (d : List Nat) (hd8 : d.length ≤ 8) (L : Nat) (a p : Int) (hL1 : 1 ≤ L) (hL : L ≤ 2000) (lf m : Nat) (hlf : 20000 ≤ lf) (h : Hp)
    (vl : ∀ n h, n ≤ 2000 → ∃ v h', Ev lf m 43 [.string (strL (codeS d)), J n] h = some (v, h') ∧ ∃ q, v = .slice (some ⟨q, 0, none⟩) (n + 1) (kc n) ∧ Sto h h' [(q, .cells (cellsF (n + 1) fun k => J (gv d k)) 3 (opn n))])
    (go : ∀ q a p h, 2 * a + 3 * p + d.length ≤ L → 1 ≤ p → h.get q = some (.cells (cellsF (L + 1) fun k => J (gv d k)) 3 (opn L)) → ∃ v h', Ev lf m 44 [.slice (some ⟨q, 0, none⟩) (L + 1) (kc L), J d.length, J a, J p] h = some (v, h') ∧ h' = h ∧ ∃ b, v = .bool b ∧ (b = true ↔ goes (gv d) d.length a p)) :
    ∃ v h', Ev lf (m + 1) 31 [.string (strL (codeS d)), J L, I a, I p] h = some (v, h') ∧ h.Ext h' ∧ ∃ b, v = .bool b ∧ (b = true ↔ IsP d (Int.ofNat L) a p) := by
  by_cases hin : 0 ≤ a ∧ a ≤ Int.ofNat L ∧ 1 ≤ p ∧ p ≤ Int.ofNat L
  · obtain ⟨i1, i2, i3, i4⟩ := hin
    obtain ⟨A, rfl⟩ := Int.eq_ofNat_of_zero_le i1
    obtain ⟨P, rfl⟩ := Int.eq_ofNat_of_zero_le (show 0 ≤ p by omega)
    have i2 : A ≤ L := Int.ofNat_le.1 i2
    have i3 : 1 ≤ P := Int.ofNat_le.1 i3
    have i4 : P ≤ L := Int.ofNat_le.1 i4
    by_cases hsz : 2 * A + 3 * P + d.length ≤ L
    · obtain ⟨v, h', e, X, b, hv, hb⟩ := RIsP_of d hd8 L A P hL i3 hsz lf m hlf h vl go
      exact ⟨v, h', e, X, b, hv, hb.trans ⟨fun hg => ⟨Int.ofNat_le.2 hL1, Int.ofNat_le.2 hL, Int.natCast_nonneg A, Int.ofNat_le.2 i2, Int.ofNat_le.2 i3, Int.ofNat_le.2 i4, hsz, hg⟩, fun hg => hg.2.2.2.2.2.2.2⟩⟩
    · refine fnS_ok (Q := fun v h' => h.Ext h' ∧ ∃ b, v = .bool b ∧ (b = true ↔ IsP d (Int.ofNat L) (Int.ofNat A) (Int.ofNat P))) ?_
      have hD : IntKind.wrap .i64 (Int.ofNat (strL (codeS d)).size - 2) = Int.ofNat d.length := by
        rw [strL_size]
        have : (codeS d).length = d.length + 2 := by simp [codeS]
        rw [this]
        exact wrap_sub (a := d.length + 2) (b := 2) (by omega) (by omega)
      have h2a : IntKind.wrap .i64 (2 * Int.ofNat A) = Int.ofNat (2 * A) := wrap_nat (n := 2 * A) (by omega)
      have h3p : IntKind.wrap .i64 (3 * Int.ofNat P) = Int.ofNat (3 * P) := wrap_nat (n := 3 * P) (by omega)
      refine ok_go 7 ?_
      refine sy_no 0 (b := decide (Int.ofNat P < 1)) (by kernel_rfl) (decide_eq_false (by show ¬ ((P : Int) < 1); omega)) ?_
      refine ok_go 4 ?_
      refine sy_no 0 (b := decide (Int.ofNat A > Int.ofNat L)) (by kernel_rfl) (decide_eq_false (by show ¬ ((L : Int) < (A : Int)); omega)) ?_
      refine ok_go 4 ?_
      refine sy_no 0 (b := decide (Int.ofNat P > Int.ofNat L)) (by kernel_rfl) (decide_eq_false (by show ¬ ((L : Int) < (P : Int)); omega)) ?_
      refine ok_go 14 ?_
      refine sy_yes 0 (b := decide (IntKind.wrap .i64 (IntKind.wrap .i64 (IntKind.wrap .i64 (2 * Int.ofNat A) + IntKind.wrap .i64 (3 * Int.ofNat P)) + IntKind.wrap .i64 (Int.ofNat (strL (codeS d)).size - 2)) > Int.ofNat L)) (by kernel_rfl) (decide_eq_true (by
        rw [hD, h2a, h3p, wrap_add (by omega), wrap_add (by omega)]
        show ((L : Int) < ((2 * A + 3 * P + d.length : Nat) : Int)); omega)) ?_
      refine sy_done 0 (v := Value.bool false) (h := h) (by kernel_rfl) ?_
      exact ⟨.refl _, false, rfl, ⟨fun h => (by cases h), fun h => absurd h.2.2.2.2.2.2.1 hsz⟩⟩
  · refine fnS_ok (Q := fun v h' => h.Ext h' ∧ ∃ b, v = .bool b ∧ (b = true ↔ IsP d (Int.ofNat L) a p)) ?_
    have no : ¬ IsP d (Int.ofNat L) a p := fun h => hin ⟨h.2.2.1, h.2.2.2.1, h.2.2.2.2.1, h.2.2.2.2.2.1⟩
    refine ok_go 3 ?_
    by_cases h1 : a < 0
    · refine sy_yes 0 (b := decide (a < 0)) (by kernel_rfl) (decide_eq_true h1) ?_
      refine sy_done 21 (v := Value.bool false) (h := h) (by kernel_rfl) ?_
      exact ⟨.refl _, false, rfl, ⟨fun h => (by cases h), fun h => absurd h no⟩⟩
    refine sy_no 0 (b := decide (a < 0)) (by kernel_rfl) (decide_eq_false h1) ?_
    refine ok_go 3 ?_
    by_cases h2 : p < 1
    · refine sy_yes 0 (b := decide (p < 1)) (by kernel_rfl) (decide_eq_true h2) ?_
      refine sy_done 18 (v := Value.bool false) (h := h) (by kernel_rfl) ?_
      exact ⟨.refl _, false, rfl, ⟨fun h => (by cases h), fun h => absurd h no⟩⟩
    refine sy_no 0 (b := decide (p < 1)) (by kernel_rfl) (decide_eq_false h2) ?_
    refine ok_go 4 ?_
    by_cases h3 : a > Int.ofNat L
    · refine sy_yes 0 (b := decide (a > Int.ofNat L)) (by kernel_rfl) (decide_eq_true h3) ?_
      refine sy_done 14 (v := Value.bool false) (h := h) (by kernel_rfl) ?_
      exact ⟨.refl _, false, rfl, ⟨fun h => (by cases h), fun h => absurd h no⟩⟩
    refine sy_no 0 (b := decide (a > Int.ofNat L)) (by kernel_rfl) (decide_eq_false h3) ?_
    refine ok_go 4 ?_
    have h4 : p > Int.ofNat L := by
      by_cases h4 : p > Int.ofNat L
      · exact h4
      · exact absurd ⟨by omega, by omega, by omega, by omega⟩ hin
    refine sy_yes 0 (b := decide (p > Int.ofNat L)) (by kernel_rfl) (decide_eq_true h4) ?_
    refine sy_done 10 (v := Value.bool false) (h := h) (by kernel_rfl) ?_
    exact ⟨.refl _, false, rfl, ⟨fun h => (by cases h), fun h => absurd h no⟩⟩
end Go.Proofs.YtegcmgjldapnmaaDoor
namespace Go.Proofs.YtegcmgjldapnmaaDoor
open Go Go.Eng Nim Oct
set_option maxRecDepth 100000
set_option maxHeartbeats 8000000
theorem Period_bad (d : List Nat) (l : Int) (hl : l < 1 ∨ 2000 < l) (lf m : Nat) (U : UpV d lf m) (h : Hp) : ∃ v h', Ev lf (m + 1) 28 [.string (strL (codeS d)), I l] h = some (v, h') ∧ h.Ext h' ∧ v = .tuple #[J 0, J 0, .bool false, .int .i64 1] := by
  refine fnS_ok (Q := fun v h' => h.Ext h' ∧ v = .tuple #[J 0, J 0, .bool false, .int .i64 1]) ?_
  have ck := U.ck
  obtain ⟨y1, q1, ec1, rc1⟩ := ck (h)
  refine sy_call 0 (by kernel_rfl) ec1 ?_
  obtain ⟨rfl, X⟩ := rc1
  refine ok_go 3 ?_
  by_cases h1 : l < 1
  · refine sy_yes 0 (b := decide (l < 1)) (by kernel_rfl) (decide_eq_true h1) ?_
    refine ok_go 3 ?_
    refine sy_done 0 (v := .tuple #[J 0, J 0, .bool false, .int .i64 1]) (h := q1) (by kernel_rfl) ⟨X, rfl⟩
  · refine sy_no 0 (b := decide (l < 1)) (by kernel_rfl) (decide_eq_false h1) ?_
    refine ok_go 3 ?_
    refine sy_yes 0 (b := decide (l > 2000)) (by kernel_rfl) (decide_eq_true (by omega)) ?_
    refine ok_go 0 ?_
    refine sy_done 0 (v := .tuple #[J 0, J 0, .bool false, .int .i64 1]) (h := q1) (by kernel_rfl) ⟨X, rfl⟩
end Go.Proofs.YtegcmgjldapnmaaDoor
namespace Go.Proofs.YtegcmgjldapnmaaDoor
open Go Go.Eng Nim Oct
set_option maxRecDepth 100000
set_option maxHeartbeats 8000000
/-- What the law of periods calls. -/
structure UpB (m : Nat) : Prop where
  cd : ∀ l h, (∀ n ∈ l, n < 256) → ∃ v h', Ev 100000 m 27 [.string (strL l)] h = some (v, h') ∧ v = .string (strL (codeS (codeD l))) ∧ h.Ext h'
  pe : ∀ d L h, Good d → 1 ≤ L → L ≤ 2000 → ∃ v h', Ev 100000 m 28 [.string (strL (codeS d)), J L] h = some (v, h') ∧ h.Ext h' ∧ ∃ a p s, v = .tuple #[J a, J p, .bool s, J 0] ∧ First (gv d) d.length L a p s
  pb : ∀ d l h, Good d → l < 1 ∨ 2000 < l → ∃ v h', Ev 100000 m 28 [.string (strL (codeS d)), I l] h = some (v, h') ∧ h.Ext h' ∧ v = .tuple #[J 0, J 0, .bool false, .int .i64 1]
  is : ∀ d l a p h, Good d → ∃ v h', Ev 100000 m 29 [.string (strL (codeS d)), I l, I a, I p] h = some (v, h') ∧ h.Ext h' ∧ ∃ b, v = .bool b ∧ (b = true ↔ IsP d l a p)
  rp : ∀ d L h, Good d → L ≤ 2000 → ∃ v h', Ev 100000 m 30 [.string (strL (codeS d)), J L] h = some (v, h') ∧ h.Ext h' ∧ ∃ a p s, v = .tuple #[J a, J p, .bool s] ∧ First (gv d) d.length L a p s
  ri : ∀ d L a p h, Good d → 1 ≤ L → L ≤ 2000 → ∃ v h', Ev 100000 m 31 [.string (strL (codeS d)), J L, I a, I p] h = some (v, h') ∧ h.Ext h' ∧ ∃ b, v = .bool b ∧ (b = true ↔ IsP d (Int.ofNat L) a p)
  aw : ∀ h, Ev 100000 m 14 [] h = some (.bool true, h)
theorem upB (k : Nat) : UpB (k + 5) where
  cd := (upO k).cd
  pe := (upO k).pe
  is := (upO k).is
  aw := fun h => rfl
  pb := fun d l h G hl => Period_bad d l hl 100000 (k + 4) (upV k d G) h
  rp := fun d L h G hL => RPeriod_of d G.most L hL 100000 (k + 4) (by decide) h
    (fun n h hn => rvalues_of d G.lt G.most n hn 100000 (k + 3) (by decide) h fun j h hj => after_of d G.lt G.most j hj 100000 (k + 2) (by decide) h)
    (fun q a p h hsz hp1 hq => rgo_of d d.length q L a p 100000 (k + 3) G.most hL hsz hp1 (by decide) h hq)
  ri := fun d L a p h G h1 hL => RIsP_any d G.most L a p h1 hL 100000 (k + 4) (by decide) h
    (fun n h hn => rvalues_of d G.lt G.most n hn 100000 (k + 3) (by decide) h fun j h hj => after_of d G.lt G.most j hj 100000 (k + 2) (by decide) h)
    (fun q a p h hsz hp1 hq => rgo_of d d.length q L a p 100000 (k + 3) G.most hL hsz hp1 (by decide) h hq)
theorem s8 (l : List Nat) (hl : ∀ n ∈ l, n < 256) (z a p : Int) (m : Nat) (U : UpB m) (h : Hp) : ∃ H, Ev 100000 (m + 1) 8 [.string (strL l), I z, .agg #[I a, I p]] h = some (.bool true, H) := by
  refine fn_val ?_
  have W := Sto.start h
  have G := codeD_good l
  have cd := U.cd l
  have aw := U.aw
  generalize codeD l = d at *
  refine ow_new 0 W (AObj.cells [Value.int IntKind.i64 a, Value.int IntKind.i64 p] 46 false) (fun q => Value.pointer (some { block := q, off := 0 })) (by kernel_rfl) fun g1 ng1 Wg1 => ?_
  have W := Wg1
  obtain ⟨y1, q1, ec1, rc1⟩ := cd (g1) (by first | assumption | omega | exact rfl)
  refine sy_call 0 (by kernel_rfl) ec1 ?_
  obtain ⟨rfl, X1⟩ := rc1
  have W := W.call X1
  refine ok_go 0 ?_
  refine sy_loop 0 100000 q1 (α := Nat × Int × Int × Int) (fun x => [(1, I x.2.1), (5, ptr h.next 0), (7, .string (strL (codeS d))), (8, J x.1)]) (fun x g => x.1 ≤ 3 ∧ Sto h g [(h.next, .cells [I x.2.2.1, I x.2.2.2] 46 false)]) (fun x _ => 3 - x.1) (0, z, a, p) (by kernel_rfl) (by kernel_rfl)
    ⟨by kernel_rfl, by kernel_rfl, by kernel_rfl, by kernel_rfl, trivial⟩ (show 3 - 0 < 100000 by decide) ⟨Nat.zero_le 3, W⟩ ?_
  rintro m1 ⟨k, z, a, p⟩ f1 g ⟨hk, W⟩ ih
  dsimp only at hk W
  have hw : IntKind.wrap .i64 (Int.ofNat (k + 1)) = Int.ofNat (k + 1) := wrap_nat (by omega)
  refine ok_go 1 ?_
  refine sy_test 0 (decide (Int.ofNat k < 3)) (by kernel_rfl) ?_ ?_
  · intro hk3
    have hk3 : k < 3 := Int.ofNat_lt.1 (of_decide_eq_true hk3)
    by_cases hz : z < 1 ∨ 2000 < z
    · have pb := fun h => U.pb d z h G hz
      have is := fun h => U.is d z a p h G
      obtain ⟨y2, q2, ec2, rc2⟩ := pb (g)
      refine sy_call 0 (by kernel_rfl) ec2 ?_
      obtain ⟨X2, rfl⟩ := rc2
      have W := W.call X2
      refine ow_load (P := Tryd.prog) (T := 3) (off := 0) 5 0 W rfl rfl (by kernel_rfl) (by kernel_rfl) ?_
      refine ow_load (P := Tryd.prog) (T := 3) (off := 1) 1 0 W rfl rfl (by kernel_rfl) (by kernel_rfl) ?_
      obtain ⟨y3, q3, ec3, rc3⟩ := is (q2)
      refine sy_call 0 (by kernel_rfl) ec3 ?_
      obtain ⟨X3, b, rfl, hb⟩ := rc3
      have W := W.call X3
      obtain rfl : b = false := by
        cases b with
        | false => rfl
        | true => have := hb.1 rfl; exact absurd this (fun h => by have h1 := h.1; have h2 := h.2.1; omega)
      refine ok_go 1 ?_
      by_cases h1 : z < 1
      · refine sy_yes 0 (b := decide (z < 1)) (by kernel_rfl) (decide_eq_true h1) ?_
        refine ow_load (P := Tryd.prog) (T := 3) (off := 0) 22 0 W rfl rfl (by kernel_rfl) (by kernel_rfl) ?_
        refine ow_load (P := Tryd.prog) (T := 3) (off := 1) 4 0 W rfl rfl (by kernel_rfl) (by kernel_rfl) ?_
        refine ow_storeA (P := Tryd.prog) (T := 46) (v := Value.agg { toList := [Value.int IntKind.i64 (IntKind.wrap IntKind.i64 (Int.tmod (IntKind.wrap IntKind.u64 a) 30)), Value.int IntKind.i64 (IntKind.wrap IntKind.i64 (Int.tmod (IntKind.wrap IntKind.u64 p) 20))] }) 4 0 W ([Value.int IntKind.i64 (IntKind.wrap IntKind.i64 (Int.tmod (IntKind.wrap IntKind.u64 a) 30)), Value.int IntKind.i64 (IntKind.wrap IntKind.i64 (Int.tmod (IntKind.wrap IntKind.u64 p) 20))]) rfl rfl rfl (by kernel_rfl) (by first | rfl | (repeat' (first | exact rfl | assumption | apply sc_cons))) (by kernel_rfl) fun s1 ns1 Ws1 => ?_
        have W := Ws1
        refine ok_go 1 ?_
        exact sy_next 0 _ s1 (by kernel_rfl) (by kernel_rfl) (ih (k + 1, IntKind.wrap .i64 (1 + IntKind.wrap .i64 ((IntKind.wrap .u64 z).tmod 200)), IntKind.wrap .i64 ((IntKind.wrap .u64 a).tmod 30), IntKind.wrap .i64 ((IntKind.wrap .u64 p).tmod 20)) _ s1 ⟨hk3, Ws1⟩ (show 3 - (k + 1) < 3 - k by omega) ⟨by kernel_rfl, by kernel_rfl, by kernel_rfl, (by kernel_rfl : _ = Value.int .i64 (IntKind.wrap .i64 (Int.ofNat (k + 1)))).trans (by rw [hw]), trivial⟩)
      · refine sy_no 0 (b := decide (z < 1)) (by kernel_rfl) (decide_eq_false h1) ?_
        refine ok_go 3 ?_
        refine sy_yes 0 (b := decide (z > 2000)) (by kernel_rfl) (decide_eq_true (show 2000 < z by omega)) ?_
        refine ow_load (P := Tryd.prog) (T := 3) (off := 0) 19 0 W rfl rfl (by kernel_rfl) (by kernel_rfl) ?_
        refine ow_load (P := Tryd.prog) (T := 3) (off := 1) 4 0 W rfl rfl (by kernel_rfl) (by kernel_rfl) ?_
        refine ow_storeA (P := Tryd.prog) (T := 46) (v := Value.agg { toList := [Value.int IntKind.i64 (IntKind.wrap IntKind.i64 (Int.tmod (IntKind.wrap IntKind.u64 a) 30)), Value.int IntKind.i64 (IntKind.wrap IntKind.i64 (Int.tmod (IntKind.wrap IntKind.u64 p) 20))] }) 4 0 W ([Value.int IntKind.i64 (IntKind.wrap IntKind.i64 (Int.tmod (IntKind.wrap IntKind.u64 a) 30)), Value.int IntKind.i64 (IntKind.wrap IntKind.i64 (Int.tmod (IntKind.wrap IntKind.u64 p) 20))]) rfl rfl rfl (by kernel_rfl) (by first | rfl | (repeat' (first | exact rfl | assumption | apply sc_cons))) (by kernel_rfl) fun s1 ns1 Ws1 => ?_
        have W := Ws1
        refine ok_go 1 ?_
        exact sy_next 0 _ s1 (by kernel_rfl) (by kernel_rfl) (ih (k + 1, IntKind.wrap .i64 (1 + IntKind.wrap .i64 ((IntKind.wrap .u64 z).tmod 200)), IntKind.wrap .i64 ((IntKind.wrap .u64 a).tmod 30), IntKind.wrap .i64 ((IntKind.wrap .u64 p).tmod 20)) _ s1 ⟨hk3, Ws1⟩ (show 3 - (k + 1) < 3 - k by omega) ⟨by kernel_rfl, by kernel_rfl, by kernel_rfl, (by kernel_rfl : _ = Value.int .i64 (IntKind.wrap .i64 (Int.ofNat (k + 1)))).trans (by rw [hw]), trivial⟩)
    · obtain ⟨L, rfl⟩ := Int.eq_ofNat_of_zero_le (show 0 ≤ z by omega)
      have hL1 : 1 ≤ L := by have : ¬ (L : Int) < 1 := fun h => hz (.inl h); omega
      have hL2 : L ≤ 2000 := by have : ¬ (2000 : Int) < L := fun h => hz (.inr h); omega
      have pe := fun h => U.pe d L h G hL1 hL2
      have is := fun h => U.is d (Int.ofNat L) a p h G
      have rp := fun h => U.rp d L h G hL2
      have ri := fun a p h => U.ri d L a p h G hL1 hL2
      obtain ⟨y2, q2, ec2, rc2⟩ := pe (g)
      refine sy_call 0 (by kernel_rfl) ec2 ?_
      obtain ⟨X2, a2, p2, s2, rfl, F2⟩ := rc2
      have W := W.call X2
      refine ow_load (P := Tryd.prog) (T := 3) (off := 0) 5 0 W rfl rfl (by kernel_rfl) (by kernel_rfl) ?_
      refine ow_load (P := Tryd.prog) (T := 3) (off := 1) 1 0 W rfl rfl (by kernel_rfl) (by kernel_rfl) ?_
      obtain ⟨y3, q3, ec3, rc3⟩ := is (q2)
      refine sy_call 0 (by kernel_rfl) ec3 ?_
      obtain ⟨X3, b3, rfl, hb3⟩ := rc3
      have W := W.call X3
      refine ok_go 1 ?_
      refine sy_no 0 (b := decide (Int.ofNat L < 1)) (by kernel_rfl) (decide_eq_false (by show ¬ ((L : Int) < 1); omega)) ?_
      refine ok_go 3 ?_
      refine sy_no 0 (b := decide (Int.ofNat L > 2000)) (by kernel_rfl) (decide_eq_false (by show ¬ ((2000 : Int) < (L : Int)); omega)) ?_
      refine ok_go 1 ?_
      refine sy_test 0 (decide (Int.ofNat L ≤ 300)) (by kernel_rfl) ?_ ?_
      · intro _
        obtain ⟨y4, q4, ec4, rc4⟩ := rp (q3)
        refine sy_call 0 (by kernel_rfl) ec4 ?_
        obtain ⟨X4, a4, p4, s4, rfl, F4⟩ := rc4
        have W := W.call X4
        obtain ⟨rfl, rfl, rfl⟩ := First.uniq F2 F4
        refine ok_go 9 ?_
        refine sy_no 0 (b := !(s2 == s2)) (by kernel_rfl) (by cases s2 <;> rfl) ?_
        refine ok_go 4 ?_
        refine sy_no 0 (b := Int.ofNat a2 != Int.ofNat a2) (by kernel_rfl) (bne_self_eq_false _) ?_
        refine ok_go 4 ?_
        refine sy_no 0 (b := Int.ofNat p2 != Int.ofNat p2) (by kernel_rfl) (bne_self_eq_false _) ?_
        refine ow_load (P := Tryd.prog) (T := 3) (off := 0) 5 0 W rfl rfl (by kernel_rfl) (by kernel_rfl) ?_
        refine ow_load (P := Tryd.prog) (T := 3) (off := 1) 3 0 W rfl rfl (by kernel_rfl) (by kernel_rfl) ?_
        refine ok_go 1 ?_
        obtain ⟨y6, q6, ec6, rc6⟩ := ri (a) (p) (q4)
        refine sy_call 0 (by kernel_rfl) ec6 ?_
        obtain ⟨X6, b6, rfl, hb6⟩ := rc6
        have W := W.call X6
        obtain rfl : b3 = b6 := by
          have := hb3.trans hb6.symm
          cases b3 <;> cases b6 <;> simp_all
        refine ok_go 3 ?_
        refine sy_no 0 (b := !(b3 == b3)) (by kernel_rfl) (by cases b3 <;> rfl) ?_
        refine ow_load (P := Tryd.prog) (T := 3) (off := 0) 5 0 W rfl rfl (by kernel_rfl) (by kernel_rfl) ?_
        refine ow_load (P := Tryd.prog) (T := 3) (off := 1) 4 0 W rfl rfl (by kernel_rfl) (by kernel_rfl) ?_
        refine ow_storeA (P := Tryd.prog) (T := 46) (v := Value.agg { toList := [Value.int IntKind.i64 (IntKind.wrap IntKind.i64 (Int.tmod (IntKind.wrap IntKind.u64 a) 30)), Value.int IntKind.i64 (IntKind.wrap IntKind.i64 (Int.tmod (IntKind.wrap IntKind.u64 p) 20))] }) 4 0 W ([Value.int IntKind.i64 (IntKind.wrap IntKind.i64 (Int.tmod (IntKind.wrap IntKind.u64 a) 30)), Value.int IntKind.i64 (IntKind.wrap IntKind.i64 (Int.tmod (IntKind.wrap IntKind.u64 p) 20))]) rfl rfl rfl (by kernel_rfl) (by first | rfl | (repeat' (first | exact rfl | assumption | apply sc_cons))) (by kernel_rfl) fun s1 ns1 Ws1 => ?_
        have W := Ws1
        refine ok_go 1 ?_
        exact sy_next 0 _ s1 (by kernel_rfl) (by kernel_rfl) (ih (k + 1, IntKind.wrap .i64 (1 + IntKind.wrap .i64 ((IntKind.wrap .u64 (Int.ofNat L)).tmod 200)), IntKind.wrap .i64 ((IntKind.wrap .u64 a).tmod 30), IntKind.wrap .i64 ((IntKind.wrap .u64 p).tmod 20)) _ s1 ⟨hk3, Ws1⟩ (show 3 - (k + 1) < 3 - k by omega) ⟨by kernel_rfl, by kernel_rfl, by kernel_rfl, (by kernel_rfl : _ = Value.int .i64 (IntKind.wrap .i64 (Int.ofNat (k + 1)))).trans (by rw [hw]), trivial⟩)
      · intro _
        cases s2 with
        | false =>
          refine ow_load (P := Tryd.prog) (T := 3) (off := 0) 18 0 W rfl rfl (by kernel_rfl) (by kernel_rfl) ?_
          refine ow_load (P := Tryd.prog) (T := 3) (off := 1) 4 0 W rfl rfl (by kernel_rfl) (by kernel_rfl) ?_
          refine ow_storeA (P := Tryd.prog) (T := 46) (v := Value.agg { toList := [Value.int IntKind.i64 (IntKind.wrap IntKind.i64 (Int.tmod (IntKind.wrap IntKind.u64 a) 30)), Value.int IntKind.i64 (IntKind.wrap IntKind.i64 (Int.tmod (IntKind.wrap IntKind.u64 p) 20))] }) 4 0 W ([Value.int IntKind.i64 (IntKind.wrap IntKind.i64 (Int.tmod (IntKind.wrap IntKind.u64 a) 30)), Value.int IntKind.i64 (IntKind.wrap IntKind.i64 (Int.tmod (IntKind.wrap IntKind.u64 p) 20))]) rfl rfl rfl (by kernel_rfl) (by first | rfl | (repeat' (first | exact rfl | assumption | apply sc_cons))) (by kernel_rfl) fun s1 ns1 Ws1 => ?_
          have W := Ws1
          refine ok_go 1 ?_
          exact sy_next 0 _ s1 (by kernel_rfl) (by kernel_rfl) (ih (k + 1, IntKind.wrap .i64 (1 + IntKind.wrap .i64 ((IntKind.wrap .u64 (Int.ofNat L)).tmod 200)), IntKind.wrap .i64 ((IntKind.wrap .u64 a).tmod 30), IntKind.wrap .i64 ((IntKind.wrap .u64 p).tmod 20)) _ s1 ⟨hk3, Ws1⟩ (show 3 - (k + 1) < 3 - k by omega) ⟨by kernel_rfl, by kernel_rfl, by kernel_rfl, (by kernel_rfl : _ = Value.int .i64 (IntKind.wrap .i64 (Int.ofNat (k + 1)))).trans (by rw [hw]), trivial⟩)
        | true =>
          obtain ⟨hp1, hlim, hgo, _, _⟩ := F2
          refine ok_go 8 ?_
          obtain ⟨y4, q4, ec4, rc4⟩ := ri (Int.ofNat a2) (Int.ofNat p2) (q3)
          refine sy_call 0 (by kernel_rfl) ec4 ?_
          obtain ⟨X4, b4, rfl, hb4⟩ := rc4
          have W := W.call X4
          obtain rfl : b4 = true := hb4.2 (isP_nat hL1 hL2 (by omega) hp1 (by omega) hlim hgo)
          refine ow_load (P := Tryd.prog) (T := 3) (off := 0) 11 0 W rfl rfl (by kernel_rfl) (by kernel_rfl) ?_
          refine ow_load (P := Tryd.prog) (T := 3) (off := 1) 4 0 W rfl rfl (by kernel_rfl) (by kernel_rfl) ?_
          refine ow_storeA (P := Tryd.prog) (T := 46) (v := Value.agg { toList := [Value.int IntKind.i64 (IntKind.wrap IntKind.i64 (Int.tmod (IntKind.wrap IntKind.u64 a) 30)), Value.int IntKind.i64 (IntKind.wrap IntKind.i64 (Int.tmod (IntKind.wrap IntKind.u64 p) 20))] }) 4 0 W ([Value.int IntKind.i64 (IntKind.wrap IntKind.i64 (Int.tmod (IntKind.wrap IntKind.u64 a) 30)), Value.int IntKind.i64 (IntKind.wrap IntKind.i64 (Int.tmod (IntKind.wrap IntKind.u64 p) 20))]) rfl rfl rfl (by kernel_rfl) (by first | rfl | (repeat' (first | exact rfl | assumption | apply sc_cons))) (by kernel_rfl) fun s1 ns1 Ws1 => ?_
          have W := Ws1
          refine ok_go 1 ?_
          exact sy_next 0 _ s1 (by kernel_rfl) (by kernel_rfl) (ih (k + 1, IntKind.wrap .i64 (1 + IntKind.wrap .i64 ((IntKind.wrap .u64 (Int.ofNat L)).tmod 200)), IntKind.wrap .i64 ((IntKind.wrap .u64 a).tmod 30), IntKind.wrap .i64 ((IntKind.wrap .u64 p).tmod 20)) _ s1 ⟨hk3, Ws1⟩ (show 3 - (k + 1) < 3 - k by omega) ⟨by kernel_rfl, by kernel_rfl, by kernel_rfl, (by kernel_rfl : _ = Value.int .i64 (IntKind.wrap .i64 (Int.ofNat (k + 1)))).trans (by rw [hw]), trivial⟩)
  · intro hk3
    refine ok_go 0 ?_
    refine sy_call 0 (by kernel_rfl) (aw (g)) ?_
    refine sy_done 0 (v := Value.bool true) (h := g) (by kernel_rfl) ?_
    rfl
theorem said8 (l : List Nat) (hl : ∀ n ∈ l, n < 256) (z a p : Int) (h : Hp) : ∃ H, evInv Tryd.prog orc 100000 1000 (.fn 8 [.string (strL l), .int .i64 z, .agg #[.int .i64 a, .int .i64 p]]) h = some (.bool true, H) := s8 l hl z a p 999 (upB 994) h
end Go.Proofs.YtegcmgjldapnmaaDoor
