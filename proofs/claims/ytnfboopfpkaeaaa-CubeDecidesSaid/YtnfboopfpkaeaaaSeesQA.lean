/- Sensitivity, certificates, blocks that are told: contracts. -/
import Derived.Test.YtnfboopfpkaeaaaProg
import Derived.KernelRfl
import Derived.Test.YtnfboopfpkaeaaaSyF
import Derived.Test.YtnfboopfpkaeaaaCubeQB
/- SeesA: contracts of functions. -/
namespace Go.Proofs.Ytnfboopfpkaeaaa
open Go Go.Eng Nim
set_option maxRecDepth 100000
set_option maxHeartbeats 4000000
/-- Other places are as they were. -/
structure Exc (S : List Nat) (h g : Hp) : Prop where
  next : h.next ≤ g.next
  get : ∀ j, j < h.next → j ∉ S → g.get j = h.get j

/-- The masks of one bit, given to a round each. -/
theorem single_run (n : Nat) (hn : n ≤ 6) (lf m b l : Nat) (hlf : 300 ≤ lf) (a : Option Addr) (c : Nat) (I : Nat → Hp → Prop) (E : Hp → Prop)
    (hb : ∀ i g, I i g → loadT Try.prog g 27 (ptr b 0) = some (.slice a (2 ^ n) c))
    (hy : ∀ i g, i < n → I i g → (∃ g', evInv Try.prog orc lf m (.yield l [J (2 ^ i)]) g = some (.bool true, g') ∧ I (i + 1) g') ∨ (∃ g', evInv Try.prog orc lf m (.yield l [J (2 ^ i)]) g = some (.bool false, g') ∧ E g'))
    {h : Hp} (h0 : I 0 h) : ∃ v h', Ev lf (m + 1) 96 [.func (.yield l) #[] #[], ptr b 0] h = some (v, h') ∧ (I n h' ∨ E h') := by
  refine fnS_ok (Q := fun _ h' => I n h' ∨ E h') ?_
  refine sy_loop 0 lf h (α := Nat) (fun i => [(0, .func (.yield l) #[] #[]), (1, ptr b 0), (3, J (2 ^ i))]) (fun i g => i ≤ n ∧ I i g) (fun i _ => n - i) 0 (by kernel_rfl) (by kernel_rfl) ⟨by kernel_rfl, by kernel_rfl, by kernel_rfl, trivial⟩ (by omega) ⟨Nat.zero_le _, h0⟩ ?_
  rintro m1 i f1 g ⟨hi, hI⟩ ih
  refine ok_go 0 ?_
  refine sy_load 0 (h' := g) (by kernel_rfl) (hb i g hI) ?_
  refine ok_go 2 ?_
  refine sy_test 0 (decide (Int.ofNat (2 ^ i) < Int.ofNat (2 ^ n))) (by kernel_rfl) ?_ ?_
  · intro hlt
    have hlt : i < n := (Nat.pow_lt_pow_iff_right (by decide)).1 (ok_nat hlt)
    refine ok_go 0 ?_
    rcases hy i g hlt hI with ⟨g', e, hI'⟩ | ⟨g', e, hE⟩
    · refine sy_call 0 (by kernel_rfl) e ?_
      have hw : IntKind.i64.wrap (Int.ofNat (2 ^ i) * 2) = Int.ofNat (2 ^ (i + 1)) := by
        have h6 : 2 ^ (i + 1) ≤ 2 ^ 6 := Nat.pow_le_pow_right (by decide) (by omega)
        have h7 : Int.ofNat (2 ^ i) * 2 = Int.ofNat (2 ^ (i + 1)) := by rw [Nat.pow_succ]; rfl
        rw [h7, wrap_small (by exact Int.natCast_nonneg _) (by have : Int.ofNat (2 ^ (i + 1)) ≤ 64 := Int.ofNat_le.2 h6; omega)]
      refine ok_go 3 ?_
      exact sy_next 0 _ g' (by kernel_rfl) (by kernel_rfl) (ih (i + 1) _ g' ⟨hlt, hI'⟩ (by show n - (i + 1) < n - i; omega) ⟨by kernel_rfl, by kernel_rfl, (by kernel_rfl : _ = Value.int .i64 (IntKind.i64.wrap (Int.ofNat (2 ^ i) * 2))).trans (by rw [hw]), trivial⟩)
    · refine sy_call 0 (by kernel_rfl) e ?_
      refine ok_go 2 ?_
      exact sy_done 0 (v := undef) (h := g') (by kernel_rfl) (.inr hE)
  · intro hlt
    have hlt := no_nat hlt
    have hin : i = n := by
      have := (Nat.pow_le_pow_iff_right (a := 2) (by decide)).1 hlt
      omega
    subst hin
    refine ok_go 0 ?_
    exact sy_done 0 (v := undef) (h := g) (by kernel_rfl) (.inl hI)

/-- What the mask behind s is within M, as the code has it. -/
def nxZ (s M : Nat) : Int := andI (IntKind.i64.wrap (Int.ofNat s - Int.ofNat M)) (Int.ofNat M)
noncomputable def nxB (M s : Nat) : Bool := (Nat.beq (s &&& M) s).not || (match Nat.beq s M, nxZ s M with
  | true, .ofNat 0 => true
  | false, .ofNat t => Nat.blt s t && Nat.ble t M && Nat.beq (t &&& M) t && allB t fun v => (Nat.blt s v).not || (Nat.beq (v &&& M) v).not
  | _, _ => false)
theorem nx_all : allB 64 (fun M => allB 64 fun s => nxB M s) = true := by kernel_rfl
theorem nx_end {M : Nat} (hM : M < 64) : nxZ M M = 0 := by
  have h := allB_ok (allB_ok nx_all M hM) M hM
  unfold nxB at h
  rw [Nat.and_self, Nat.beq_refl, Bool.not_true, Bool.false_or] at h
  split at h
  · rename_i e; exact e
  · rename_i e _; cases e
  · cases h
theorem nx_ok {M s : Nat} (hM : M < 64) (hs : s &&& M = s) (hne : s ≠ M) : ∃ t, nxZ s M = Int.ofNat t ∧ s < t ∧ t ≤ M ∧ t &&& M = t ∧ ∀ v, s < v → v < t → v &&& M ≠ v := by
  have hsM : s ≤ M := by rw [← hs]; exact Nat.and_le_right
  have h := allB_ok (allB_ok nx_all M hM) s (by omega)
  unfold nxB at h
  rw [hs, Nat.beq_refl, Bool.not_true, Bool.false_or] at h
  split at h
  · rename_i e _; exact absurd (Nat.eq_of_beq_eq_true e) hne
  · rename_i t _ e
    simp only [Bool.and_eq_true] at h
    obtain ⟨⟨⟨h1, h2⟩, h3⟩, h4⟩ := h
    refine ⟨t, e, Nat.le_of_ble_eq_true h1, Nat.le_of_ble_eq_true h2, Nat.eq_of_beq_eq_true h3, fun v hv1 hv2 hv3 => ?_⟩
    have := allB_ok h4 v hv2
    rw [blt_true hv1, hv3, Nat.beq_refl] at this
    cases this
  · cases h

/-- The masks within a mask, rising, but 0, given to a round each: I s says that those up to s are done. -/
theorem within_run (lf k b l M : Nat) (hM : M < 64) (hlf : 300 ≤ lf) (I : Nat → Hp → Prop) (E : Hp → Prop)
    (hb : ∀ s g, I s g → loadT Try.prog g 3 (ptr b 0) = some (J M))
    (hy : ∀ s t g, s < t → t ≤ M → t &&& M = t → (∀ v, s < v → v < t → v &&& M ≠ v) → I s g → (∃ g', evInv Try.prog orc lf k (.yield l [J t]) g = some (.bool true, g') ∧ I t g') ∨ (∃ g', evInv Try.prog orc lf k (.yield l [J t]) g = some (.bool false, g') ∧ E g'))
    {h : Hp} (h0 : I 0 h) : ∃ v h', Ev lf (k + 1) 103 [.func (.yield l) #[] #[], ptr b 0] h = some (v, h') ∧ (I M h' ∨ E h') := by
  refine fnS_ok (Q := fun _ h' => I M h' ∨ E h') ?_
  refine ok_go 0 ?_
  refine sy_load 0 (h' := h) (by kernel_rfl) (hb _ _ h0) ?_
  refine ok_go 1 ?_
  refine sy_load 0 (h' := h) (by kernel_rfl) (hb _ _ h0) ?_
  refine ok_go 1 ?_
  refine sy_loop 0 lf h (α := Nat) (fun s => [(0, .func (.yield l) #[] #[]), (1, ptr b 0), (3, .int .i64 (nxZ s M))]) (fun s g => s ≤ M ∧ s &&& M = s ∧ I s g) (fun s _ => M - s) 0 (by kernel_rfl) (by kernel_rfl) ⟨by kernel_rfl, by kernel_rfl, by kernel_rfl, trivial⟩ (by omega) ⟨Nat.zero_le _, Nat.zero_and _, h0⟩ ?_
  rintro m1 s f1 g ⟨hs, hsM, hI⟩ ih
  by_cases hend : s = M
  · subst hend
    refine sy_no 1 (b := (nxZ s s != 0)) (by kernel_rfl) (by rw [nx_end hM]; rfl) ?_
    refine ok_go 0 ?_
    exact sy_done 0 (v := undef) (h := g) (by kernel_rfl) (.inl hI)
  · obtain ⟨t, e, h1, h2, h3, h4⟩ := nx_ok hM hsM hend
    rw [e]
    refine sy_yes 1 (b := (Int.ofNat t != 0)) (by kernel_rfl) (by
      cases t with
      | zero => omega
      | succ t => rfl) ?_
    refine ok_go 0 ?_
    rcases hy s t g h1 h2 h3 h4 hI with ⟨g', e', hI'⟩ | ⟨g', e', hE⟩
    · refine sy_call 0 (by kernel_rfl) e' ?_
      refine ok_go 2 ?_
      refine sy_load 0 (h' := g') (by kernel_rfl) (hb _ _ hI') ?_
      refine ok_go 1 ?_
      refine sy_load 0 (h' := g') (by kernel_rfl) (hb _ _ hI') ?_
      refine ok_go 1 ?_
      exact sy_next 0 _ g' (by kernel_rfl) (by kernel_rfl) (ih t _ g' ⟨h2, h3, hI'⟩ (by show M - t < M - s; omega) ⟨by kernel_rfl, by kernel_rfl, by kernel_rfl, trivial⟩)
    · refine sy_call 0 (by kernel_rfl) e' ?_
      refine ok_go 2 ?_
      exact sy_done 0 (v := undef) (h := g') (by kernel_rfl) (.inr hE)
end Go.Proofs.Ytnfboopfpkaeaaa
/- SeesB: contracts of functions. -/
namespace Go.Proofs.Ytnfboopfpkaeaaa
open Go Go.Eng Nim
set_option maxRecDepth 100000
set_option maxHeartbeats 4000000
theorem single_of (m : Nat) (lf : Nat) (a : Option Addr) (N c : Nat) (h : Hp) : Ev lf (m + 1) 83 [.slice a N c] h = some (.func (.func 96) #[] #[ptr h.next 0], h.new (.cells [.slice a N c] 27 false)) := by
  kernel_rfl
theorem within_of (m : Nat) (lf : Nat) (x : Int) (h : Hp) : Ev lf (m + 1) 91 [.int .i64 x] h = some (.func (.func 103) #[] #[ptr h.next 0], h.new (.cells [.int .i64 x] 3 false)) := by
  kernel_rfl
/-- The ints of an array of 64 in a block. -/
structure AgI (b : Nat) (v : Nat → Int) (h : Hp) : Prop where
  lt : b < h.next
  get : ∃ opn, h.get b = some (.cells (cellsF 64 fun x => I (v x)) 102 opn)
theorem u102 : Try.prog.underlying 102 = some (.array 64 3) := by kernel_rfl
theorem idx102 {b v : Nat} (hv : v < 64) : indexAddrOp Try.prog 102 (ptr b 0) (J v) = some (ptr b v) := by
  rw [idxArr u102 zI hv, Nat.zero_add, Nat.mul_one]
theorem AgI.read {b : Nat} {v : Nat → Int} {h : Hp} (H : AgI b v h) {x : Nat} (hx : x < 64) : loadT Try.prog h 3 (ptr b x) = some (I (v x)) := by
  obtain ⟨o, e⟩ := H.get
  exact load1 agI e (cellsF_get hx)
theorem AgI.store {b : Nat} {v : Nat → Int} {h : Hp} (H : AgI b v h) {x : Nat} (hx : x < 64) (z : Int) : ∃ g, storeT Try.prog h 3 (ptr b x) (I z) = some g ∧ AgI b (fun y => if y = x then z else v y) g ∧ g.next = h.next ∧ ∀ j, j ≠ b → g.get j = h.get j := by
  obtain ⟨o, e⟩ := H.get
  refine ⟨_, store1 zI rfl e (by rw [cellsF_len]; exact hx), ⟨H.lt, o, ?_⟩, rfl, fun j hj => Hp.get_put_ne hj⟩
  rw [cellsF_set, get_put]
  refine congrArg (fun l => some (AObj.cells l 102 o)) (cellsF_congr fun y _ => ?_)
  show (if y = x then I z else I (v y)) = I (if y = x then z else v y)
  by_cases hy : y = x
  · rw [if_pos hy, if_pos hy]
  · rw [if_neg hy, if_neg hy]
theorem AgI.congr {b : Nat} {v w : Nat → Int} {h : Hp} (H : AgI b v h) (e : ∀ y, y < 64 → v y = w y) : AgI b w h := by
  obtain ⟨o, eg⟩ := H.get
  refine ⟨H.lt, o, ?_⟩
  rw [eg]
  exact congrArg (fun l => some (AObj.cells l 102 o)) (cellsF_congr fun y hy => by rw [e y hy])
theorem AgI.of {b : Nat} {v : Nat → Int} {h g : Hp} (H : AgI b v h) (hn : h.next ≤ g.next) (e : g.get b = h.get b) : AgI b v g :=
  ⟨Nat.lt_of_lt_of_le H.lt hn, by rw [e]; exact H.get⟩
theorem zero64 : (cellsF 64 fun _ => I 0) = List.replicate 64 (I 0) := by kernel_rfl

theorem AgI.load {b : Nat} {v : Nat → Int} {h : Hp} (H : AgI b v h) : loadT Try.prog h 102 (ptr b 0) = some (.agg (cellsF 64 fun x => I (v x)).toArray) := by
  obtain ⟨o, e⟩ := H.get
  have h1 : isAggT Try.prog 102 = some true := by kernel_rfl
  have h2 : sizeT Try.prog 102 = some 64 := by kernel_rfl
  simp only [loadT, h1, h2, loadN, e, List.drop_zero]
  have := takeN_all (cellsF 64 fun x => I (v x))
  rw [cellsF_len] at this
  rw [this]
theorem AgI.put {b b' : Nat} {v w : Nat → Int} {h : Hp} (H : AgI b v h) (hb : b' < h.next) {cs : List Value} {o' : Bool} (hb' : h.get b' = some (.cells cs 102 o')) (hc : cs.length = 64) : ∃ g, storeT Try.prog h 102 (ptr b' 0) (.agg (cellsF 64 fun x => I (w x)).toArray) = some g ∧ AgI b' w g ∧ g.next = h.next ∧ ∀ j, j ≠ b' → g.get j = h.get j := by
  have h2 : sizeT Try.prog 102 = some 64 := by kernel_rfl
  have hall : (cellsF 64 fun x => I (w x)).all scalar = true := by
    unfold cellsF
    rw [List.all_map]
    exact List.all_eq_true.2 fun _ _ => rfl
  have hv : (Value.agg (cellsF 64 fun x => I (w x)).toArray).cells.toList = cellsF 64 fun x => I (w x) := rfl
  have hsz : Nat.beq (Value.agg (cellsF 64 fun x => I (w x)).toArray).cells.size 64 = true := by
    rw [← Array.length_toList, hv, cellsF_len]; rfl
  refine ⟨h.put b' (.cells (cellsF 64 fun x => I (w x)) 102 o'), ?_, ⟨hb, o', get_put _ _ _⟩, rfl, fun j hj => Hp.get_put_ne hj⟩
  have hb2 : Nat.ble (0 + (cellsF 64 fun x => I (w x)).length) cs.length = true := by rw [cellsF_len, hc]; rfl
  simp only [storeT, h2, hsz, hv, storeN, hb', hb2, hall]
  unfold splice
  rw [List.take_zero, cellsF_len, List.drop_eq_nil_of_le (by omega)]
  simp
/-- To how many of the first bits an input is sensitive. -/
def sp (f : Nat → Bool) (x i : Nat) : Int := ((List.range i).map fun k => if (f (x ^^^ 2 ^ k) != f x) = true then (1 : Int) else 0).sum
theorem sp_succ (f : Nat → Bool) (x i : Nat) : sp f x (i + 1) = sp f x i + (if (f (x ^^^ 2 ^ i) != f x) = true then 1 else 0) := by
  unfold sp
  rw [List.range_succ, List.map_append, List.sum_append]
  simp
theorem sp_le (f : Nat → Bool) (x : Nat) : ∀ i, 0 ≤ sp f x i ∧ sp f x i ≤ i
  | 0 => by simp [sp]
  | i + 1 => by
    rw [sp_succ]
    have := sp_le f x i
    split <;> omega

theorem sensitive_of (f : Nat → Bool) (n : Nat) (hn : n ≤ 6) (lf m : Nat) (hlf : 300 ≤ lf) (nb : ∀ b h, Ev lf m 74 [.bool b] h = some (I (if b = true then 1 else 0), h)) (b0 c : Nat) (h : Hp) (A : ArB b0 (2 ^ n) f h) :
    ∃ v h', Ev lf (m + 3) 75 [.slice (some ⟨b0, 0, none⟩) (2 ^ n) c] h = some (v, h') ∧ v = .agg (cellsF 64 fun x => I (if x < 2 ^ n then sp f x n else 0)).toArray ∧ h.Ext h' := by
  have hp64 : 2 ^ n ≤ 64 := Nat.pow_le_pow_right (n := 2) (by decide) hn
  have hfl : ∀ x i, i < n → x < 2 ^ n → x ^^^ 2 ^ i < 2 ^ n := fun x i hi hx => flip_lt hi hx
  refine fnS_ok (Q := fun v h' => v = .agg (cellsF 64 fun x => I (if x < 2 ^ n then sp f x n else 0)).toArray ∧ h.Ext h') ?_
  generalize hN : 2 ^ n = N at *
  refine ok_go 3 ?_
  let SL : Value := .slice (some ⟨b0, 0, none⟩) N c
  let H1 : Hp := h.new (.cells [SL] 27 false)
  let H2 : Hp := H1.new (.cells (cellsF 64 fun _ => I 0) 102 false)
  let H3 : Hp := H2.new (.cells (cellsF 64 fun _ => I 0) 102 false)
  have e1 : H3.get h.next = some (.cells [SL] 27 false) := by
    show (H2.new _).get _ = _
    rw [Hp.get_new_ne (by show h.next ≠ h.next + 1 + 1; omega)]
    show (H1.new _).get _ = _
    rw [Hp.get_new_ne (by show h.next ≠ h.next + 1; omega)]
    exact get_new _ _
  refine sy_load 0 (r := loadT Try.prog H3 27 (ptr h.next 0)) (h' := H3) (v := SL) (by kernel_rfl) (load1 (by kernel_rfl) e1 rfl) ?_
  refine ok_go 1 ?_
  have hn3 : H3.next = h.next + 3 := rfl
  have old3 : ∀ j, j < h.next → H3.get j = h.get j := fun j hj => by
    show (H2.new _).get _ = _
    rw [Hp.get_new_ne (by show j ≠ h.next + 1 + 1; omega)]
    show (H1.new _).get _ = _
    rw [Hp.get_new_ne (by show j ≠ h.next + 1; omega)]
    show (h.new _).get _ = _
    rw [Hp.get_new_ne (by omega)]
  have AH : ∀ g, Exc [h.next + 2] H3 g → ArB b0 N f g := fun g X => by
    obtain ⟨o, e⟩ := A.get
    refine ⟨Nat.lt_of_lt_of_le A.lt (by have := X.next; omega), o, ?_⟩
    have hlt := A.lt
    rw [X.get b0 (by omega) (by simp; omega), old3 b0 hlt]
    exact e
  have A3 : AgI (h.next + 2) (fun _ => 0) H3 := ⟨by omega, false, get_new _ _⟩
  refine sy_loop 0 lf H3 (α := Nat × List Nat) (fun s => [(1, ptr h.next 0), (2, ptr (h.next + 1) 0), (3, ptr (h.next + 2) 0), (7, SL), (8, J N), (9, J s.1), (slotD, marksV s.2)])
    (fun s g => s.1 ≤ N ∧ Exc [h.next + 2] H3 g ∧ AgI (h.next + 2) (fun y => if y < s.1 then sp f y n else 0) g ∧ s.2.Nodup ∧ ∀ d ∈ s.2, H3.next ≤ d ∧ d < g.next ∧ g.get d = some (.defd false)) (fun s _ => N - s.1) (0, []) (by kernel_rfl) (by kernel_rfl)
    ⟨by kernel_rfl, by kernel_rfl, by kernel_rfl, by kernel_rfl, by kernel_rfl, by kernel_rfl, by kernel_rfl, trivial⟩ (show N - 0 < lf by omega)
    ⟨Nat.zero_le _, ⟨Nat.le_refl _, fun _ _ _ => rfl⟩, A3.congr (fun y _ => (if_neg (Nat.not_lt_zero y)).symm), List.nodup_nil, fun d hd => (by cases hd)⟩ ?_
  rintro m1 ⟨x, ds⟩ f1 g ⟨hx, X, G, nd, hds⟩ ih
  dsimp only at hx G nd hds
  refine ok_go 1 ?_
  refine sy_test 0 (decide (Int.ofNat x < Int.ofNat N)) (by kernel_rfl) ?_ ?_
  · intro hlt
    have hlt := ok_nat hlt
    have B := AH g X
    refine ok_go 0 ?_
    refine sy_load 0 (r := indexAddrOp Try.prog 27 SL (J x)) (h' := g) (by kernel_rfl) (idxB hlt) ?_
    refine ok_go 0 ?_
    refine sy_load 0 (r := loadT Try.prog g 4 (ptr b0 x)) (h' := g) (by kernel_rfl) (B.read hlt) ?_
    let x4 := g.next
    let g2 : Hp := (g.new (.cells [I 0] 3 false)).new (.cells [.bool false] 4 false)
    let g3 : Hp := g2.put g.next (.cells [J x] 3 false)
    let g4 : Hp := g3.put (g.next + 1) (.cells [.bool (f x)] 4 false)
    let g5 : Hp := g4.new (.cells [SL] 27 false)
    have k1 : g2.get g.next = some (.cells [I 0] 3 false) := by
      show ((g.new _).new _).get _ = _
      rw [Hp.get_new_ne (by show g.next ≠ g.next + 1; omega)]; exact get_new _ _
    have k2 : g3.get (g.next + 1) = some (.cells [.bool false] 4 false) := by
      show (g2.put _ _).get _ = _
      rw [Hp.get_put_ne (by omega)]; exact get_new (g.new _) _
    have XN := X.next
    refine ok_go 2 ?_
    refine sy_store 0 (h' := g3) (by kernel_rfl) (store1 zI rfl k1 (show 0 < 1 by omega)) ?_
    refine ok_go 0 ?_
    refine sy_store 0 (h' := g4) (by kernel_rfl) (store1 zB rfl k2 (show 0 < 1 by omega)) ?_
    have old4 : ∀ j, j < g.next → g4.get j = g.get j := fun j hj => by
      show ((g2.put _ _).put _ _).get _ = _
      rw [Hp.get_put_ne (by omega), Hp.get_put_ne (by omega)]
      show ((g.new _).new _).get _ = _
      rw [Hp.get_new_ne (by show j ≠ g.next + 1; omega), Hp.get_new_ne (by omega)]
    have e4 : g4.get h.next = some (.cells [SL] 27 false) := by
      rw [old4 _ (by omega), X.get _ (by omega) (by simp)]; exact e1
    refine ok_go 0 ?_
    refine sy_load 0 (r := loadT Try.prog g4 27 (ptr h.next 0)) (h' := g4) (v := SL) (by kernel_rfl) (load1 (by kernel_rfl) e4 rfl) ?_
    refine ok_go 1 ?_
    have hn5 : g5.next = g.next + 3 := rfl
    refine sy_range 0 (callF := evInv Try.prog orc lf (m + 2)) (P := Try.prog) (lf := lf) (m := 33) (rcOf Try.prog 75 0) g5 [(1, ptr h.next 0), (3, ptr (h.next + 2) 0), (4, ptr g.next 0), (5, ptr (g.next + 1) 0)] 96 [.func (.yield (g5.next + 1)) #[] #[], ptr g4.next 0]
      (by kernel_rfl) (fun F => by kernel_rfl) ⟨by kernel_rfl, by kernel_rfl, by kernel_rfl, by kernel_rfl, trivial⟩ (by kernel_rfl) (by kernel_rfl) fun F f2 hr => ?_
    let CC := rcOf Try.prog 75 0
    let HH : Hp := CC.heap F g5
    have hnH : HH.next = g.next + 5 := rfl
    have oldH : ∀ j, j < g.next + 3 → HH.get j = g5.get j := fun j hj => by
      show ((g5.new _).new _).get _ = _
      rw [Hp.get_new_ne (by show j ≠ g.next + 3 + 1; omega), Hp.get_new_ne (by show j ≠ g.next + 3; omega)]
    have old5 : ∀ j, j < g.next + 2 → g5.get j = g4.get j := fun j hj => by
      show (g4.new _).get _ = _
      rw [Hp.get_new_ne (by show j ≠ g.next + 2; omega)]
    have oH : ∀ j, j < g.next → HH.get j = g.get j := fun j hj => by rw [oldH j (by omega), old5 j (by omega), old4 j hj]
    have H4 : HH.get g.next = some (.cells [J x] 3 false) := by
      rw [oldH _ (by omega), old5 _ (by omega)]
      show (g3.put _ _).get _ = _
      rw [Hp.get_put_ne (by omega)]
      exact get_put _ _ _
    have H5 : HH.get (g.next + 1) = some (.cells [.bool (f x)] 4 false) := by
      rw [oldH _ (by omega), old5 _ (by omega)]
      exact get_put _ _ _
    have HB : HH.get (g.next + 2) = some (.cells [SL] 27 false) := by
      rw [oldH _ (by omega)]
      exact get_new g4 _
    have HD : HH.get (g.next + 3) = some (.defd false) := by
      show ((g5.new _).new _).get _ = _
      rw [Hp.get_new_ne (by show g.next + 3 ≠ g.next + 3 + 1; omega)]
      exact get_new g5 _
    have HL : HH.get (g.next + 4) = some (CC.obj F (g.next + 3) .ready none) := get_new (g5.new _) _
    have H1' : HH.get h.next = some (.cells [SL] 27 false) := by rw [oH _ (by omega), X.get _ (by omega) (by simp)]; exact e1
    have HG : AgI (h.next + 2) (fun y => if y < x then sp f y n else 0) HH := G.of (by omega) (oH _ (by omega))
    let Inv : Nat → Hp → Prop := fun i q => Exc [h.next + 2, g.next + 4] HH q ∧ AgI (h.next + 2) (fun y => if y = x then sp f x i else if y < x then sp f y n else 0) q ∧ q.get (g.next + 4) = some (CC.obj F (g.next + 3) .ready none)
    have hb : ∀ i q, Inv i q → loadT Try.prog q 27 (ptr (g.next + 2) 0) = some (.slice (some ⟨b0, 0, none⟩) (2 ^ n) c) := fun i q hq => by
      rw [hN]
      exact load1 (by kernel_rfl) (by rw [hq.1.get _ (by omega) (by simp; omega)]; exact HB) rfl
    have hy : ∀ i q, i < n → Inv i q → ∃ g', evInv Try.prog orc lf (m + 1) (.yield (g.next + 4) [J (2 ^ i)]) q = some (.bool true, g') ∧ Inv (i + 1) g' := fun i q hi hq => by
      obtain ⟨Xq, Gq, Lq⟩ := hq
      have key : ∃ v g', evInv Try.prog orc lf (m + 1) (.yield (g.next + 4) [J (2 ^ i)]) q = some (v, g') ∧ (v = .bool true ∧ Inv (i + 1) g') := by
        refine yld_ok (c := CC) (Q := fun v g' => v = .bool true ∧ Inv (i + 1) g') hr Lq (by kernel_rfl) ?_
        refine ok_go 0 ?_
        refine sy_busy 0 (by kernel_rfl) Lq ?_
        have Q' : ∀ j, j ≠ g.next + 4 → (q.put (g.next + 4) (CC.obj F (g.next + 3) .busy none)).get j = q.get j := fun j hj => Hp.get_put_ne hj
        generalize hq' : q.put (g.next + 4) (CC.obj F (g.next + 3) .busy none) = q' at Q' ⊢
        have Lq' : q'.get (g.next + 4) = some (CC.obj F (g.next + 3) .busy none) := by rw [← hq']; exact get_put _ _ _
        have nq' : q'.next = q.next := by rw [← hq']; rfl
        have Xq' : Exc [h.next + 2, g.next + 4] HH q' := ⟨by rw [nq']; exact Xq.next, fun j hj hm => by rw [Q' j (by simp at hm; omega)]; exact Xq.get j hj hm⟩
        have Gq' : AgI (h.next + 2) (fun y => if y = x then sp f x i else if y < x then sp f y n else 0) q' := Gq.of (by omega) (Q' _ (by omega))
        have r4 : q'.get g.next = some (.cells [J x] 3 false) := by rw [Xq'.get _ (by omega) (by simp; omega)]; exact H4
        have r5 : q'.get (g.next + 1) = some (.cells [.bool (f x)] 4 false) := by rw [Xq'.get _ (by omega) (by simp; omega)]; exact H5
        have r1 : q'.get h.next = some (.cells [SL] 27 false) := by rw [Xq'.get _ (by omega) (by simp; omega)]; exact H1'
        have rA : ArB b0 N f q' := by
          obtain ⟨o, e⟩ := B.get
          have hb0 := A.lt
          exact ⟨by have := Xq'.next; omega, o, by rw [Xq'.get _ (by omega) (by simp; omega), oH _ (by omega)]; exact e⟩
        have hx' := hfl x i hi hlt
        have hpi : 2 ^ i ≤ 64 := Nat.le_trans (Nat.pow_le_pow_right (n := 2) (by decide) (Nat.le_of_lt hi)) (by rw [hN]; exact hp64)
        have hxor : xorI (Int.ofNat x) (Int.ofNat (2 ^ i)) = Int.ofNat (x ^^^ 2 ^ i) := xor_nat (by omega) (by omega)
        have hsp := sp_le f x i
        have rd : loadT Try.prog q' 3 (ptr (h.next + 2) x) = some (I (sp f x i)) := by
          have := Gq'.read (x := x) (by omega)
          rwa [if_pos rfl] at this
        refine ok_go 0 ?_
        refine sy_load 0 (r := loadT Try.prog q' 3 (ptr g.next 0)) (h' := q') (v := J x) (by kernel_rfl) (load1 agI r4 rfl) ?_
        refine ok_go 0 ?_
        refine sy_load 0 (r := indexAddrOp Try.prog 102 (ptr (h.next + 2) 0) (J x)) (h' := q') (by kernel_rfl) (idx102 (by omega)) ?_
        refine ok_go 0 ?_
        refine sy_load 0 (r := loadT Try.prog q' 3 (ptr (h.next + 2) x)) (h' := q') (by kernel_rfl) rd ?_
        refine ok_go 0 ?_
        refine sy_load 0 (r := loadT Try.prog q' 27 (ptr h.next 0)) (h' := q') (v := SL) (by kernel_rfl) (load1 (by kernel_rfl) r1 rfl) ?_
        refine ok_go 0 ?_
        refine sy_load 0 (r := loadT Try.prog q' 3 (ptr g.next 0)) (h' := q') (v := J x) (by kernel_rfl) (load1 agI r4 rfl) ?_
        refine ok_go 1 ?_
        refine sy_load 0 (r := indexAddrOp Try.prog 27 SL (.int .i64 (xorI (Int.ofNat x) (Int.ofNat (2 ^ i))))) (h' := q') (by kernel_rfl) (by rw [hxor]; exact idxB hx') ?_
        refine ok_go 0 ?_
        refine sy_load 0 (r := loadT Try.prog q' 4 (ptr b0 (x ^^^ 2 ^ i))) (h' := q') (by kernel_rfl) (rA.read hx') ?_
        refine ok_go 0 ?_
        refine sy_load 0 (r := loadT Try.prog q' 4 (ptr (g.next + 1) 0)) (h' := q') (v := .bool (f x)) (by kernel_rfl) (load1 agB r5 rfl) ?_
        refine ok_go 1 ?_
        refine sy_call 0 (by kernel_rfl) (nb (f (x ^^^ 2 ^ i) != f x) q') ?_
        refine ok_go 1 ?_
        refine sy_load 0 (r := indexAddrOp Try.prog 102 (ptr (h.next + 2) 0) (J x)) (h' := q') (by kernel_rfl) (idx102 (by omega)) ?_
        obtain ⟨q2, es, Gs, ns, os⟩ := Gq'.store (x := x) (by omega) (sp f x (i + 1))
        have hi6 : i < 6 := by omega
        refine ok_go 0 ?_
        refine sy_store 0 (r := storeT Try.prog q' 3 (ptr (h.next + 2) x) (I (IntKind.wrap .i64 (sp f x i + (if (f (x ^^^ 2 ^ i) != f x) = true then 1 else 0))))) (h' := q2) (by kernel_rfl) (by
          rw [wrap_int (by split <;> omega) (by split <;> omega), ← sp_succ]; exact es) ?_
        refine ok_go 0 ?_
        refine sy_need 0 [11] [⟨some (Eng.undef, q'), Eng.undef, q'⟩] (by kernel_rfl) ⟨rfl, trivial⟩ ?_
        have L2 : q2.get (g.next + 4) = some (CC.obj F (g.next + 3) .busy none) := (os _ (by omega)).trans Lq'
        refine ok_go 0 ?_
        refine sy_round 0 (by kernel_rfl) L2 ?_
        refine ok_go 0 ?_
        refine sy_done 0 (v := .bool true) (h := q2.put (g.next + 4) (CC.obj F (g.next + 3) .ready none)) (by kernel_rfl) ⟨rfl, ⟨by show _ ≤ q2.next; rw [ns]; exact Xq'.next, fun j hj hm => ?_⟩, ?_, get_put _ _ _⟩
        · have hm' : j ≠ h.next + 2 ∧ j ≠ g.next + 4 := by simpa using hm
          rw [Hp.get_put_ne hm'.2, os j hm'.1]
          exact Xq'.get j hj hm
        · refine (Gs.of (g := q2.put (g.next + 4) (CC.obj F (g.next + 3) .ready none)) (Nat.le_refl _) (Hp.get_put_ne (by omega))).congr fun y _ => ?_
          by_cases hyx : y = x
          · rw [if_pos hyx, if_pos hyx]
          · rw [if_neg hyx, if_neg hyx, if_neg hyx]
      obtain ⟨v, g', e, rfl, hI⟩ := key
      exact ⟨g', e, hI⟩
    obtain ⟨v, h3, ev, hI⟩ := single_run n hn lf (m + 1) (g.next + 2) (g.next + 4) hlf (some ⟨b0, 0, none⟩) c Inv (fun _ => False) hb (fun i q hi hq => .inl (hy i q hi hq)) (h := HH)
      ⟨⟨Nat.le_refl _, fun _ _ _ => rfl⟩, HG.congr (fun y _ => by
          by_cases hy : y = x
          · subst hy; rw [if_neg (Nat.lt_irrefl _), if_pos rfl]; rfl
          · rw [if_neg hy]), HL⟩
    obtain ⟨X3, G3, L3⟩ := hI.resolve_right id
    refine ⟨v, h3, .ready, none, g.next + 3, .normal, ev, L3, by decide, rfl, ?_⟩
    let h4 : Hp := h3.put (g.next + 4) (CC.obj F (g.next + 3) .exhausted none)
    have nx3 := X3.next
    have O4 : ∀ j, j < g.next → j ≠ h.next + 2 → h4.get j = g.get j := fun j hj hne => by
      show (h3.put _ _).get _ = _
      rw [Hp.get_put_ne (by omega), X3.get j (by omega) (by simp; omega), oH j hj]
    have D4 : ∀ d, H3.next ≤ d → d < g.next → h4.get d = g.get d := fun d h1 h2 => O4 d h2 (by omega)
    have G4 : AgI (h.next + 2) (fun y => if y = x then sp f x n else if y < x then sp f y n else 0) h4 := G3.of (g := h4) (Nat.le_refl _) (Hp.get_put_ne (by omega))
    refine ok_go 1 ?_
    exact sy_next 0 _ h4 (by kernel_rfl) (by kernel_rfl) (ih (x + 1, (g.next + 3) :: ds) _ h4 ⟨hlt, ⟨by show H3.next ≤ h3.next; omega, fun j hj hm => by
        rw [O4 j (by omega) (by simpa using hm)]; exact X.get j hj hm⟩, G4.congr (fun y _ => by
          by_cases hyx : y = x
          · subst hyx; rw [if_pos rfl, if_pos (Nat.lt_succ_self _)]
          · rw [if_neg hyx]
            by_cases hl : y < x
            · rw [if_pos hl, if_pos (show y < x + 1 by omega)]
            · rw [if_neg hl, if_neg (show ¬ y < x + 1 by omega)]), List.nodup_cons.2 ⟨fun hd => by have := (hds _ hd).2.1; omega, nd⟩, fun d hd => by
          rcases List.mem_cons.1 hd with rfl | hd
          · refine ⟨by omega, by show _ < h3.next; omega, ?_⟩
            show (h3.put _ _).get _ = _
            rw [Hp.get_put_ne (by omega), X3.get _ (by omega) (by simp; omega)]
            exact HD
          · obtain ⟨h1, h2, h3'⟩ := hds d hd
            exact ⟨h1, by show d < h3.next; omega, by rw [D4 d h1 h2]; exact h3'⟩⟩ (show N - (x + 1) < N - x by omega)
      ⟨by kernel_rfl, by kernel_rfl, by kernel_rfl, by kernel_rfl, by kernel_rfl, (by kernel_rfl : _ = Value.int .i64 (IntKind.wrap .i64 (Int.ofNat (x + 1)))).trans (by rw [wrap_nat (by omega)]), by kernel_rfl, trivial⟩)
  · intro hlt
    have hlt := no_nat hlt
    have hxN : x = N := by omega
    subst hxN
    refine ok_go 0 ?_
    refine sy_load 0 (h' := g) (by kernel_rfl) G.load ?_
    have k2 : g.get (h.next + 1) = some (.cells (cellsF 64 fun _ => I 0) 102 false) := by
      rw [X.get _ (by omega) (by simp)]
      show (H2.new _).get _ = _
      rw [Hp.get_new_ne (by show h.next + 1 ≠ h.next + 1 + 1; omega)]; exact get_new _ _
    obtain ⟨g', e', R, n', o'⟩ := G.put (w := fun y => if y < x then sp f y n else 0) (by have := X.next; omega) k2 (cellsF_len _ _)
    refine ok_go 0 ?_
    refine sy_store 0 (h' := g') (by kernel_rfl) e' ?_
    refine ok_go 0 ?_
    refine sy_marks 0 (h := g') ds (by kernel_rfl) nd (fun d hd => ?_) fun h' n'' o'' => ?_
    · obtain ⟨h1, h2, h3⟩ := hds d hd
      rw [o' d (by omega)]; exact h3
    have R' : AgI (h.next + 1) (fun y => if y < x then sp f y n else 0) h' := R.of (by omega) (o'' _ (fun hd => by have := (hds _ hd).1; omega))
    refine ok_go 0 ?_
    refine sy_load 0 (h' := h') (by kernel_rfl) R'.load ?_
    refine ok_go 0 ?_
    have hn'' : h'.next = g.next := n''.trans n'
    refine sy_done 0 (v := .agg (cellsF 64 fun y => I (if y < x then sp f y n else 0)).toArray) (h := h') (by kernel_rfl) ⟨rfl, by have := X.next; omega, fun j hj => ?_⟩
    rw [o'' j (fun hd => by have := (hds _ hd).1; omega), o' j (by omega), X.get j (by omega) (by simp; omega)]
    exact old3 j hj
end Go.Proofs.Ytnfboopfpkaeaaa
/- SeesC: contracts of functions. -/
namespace Go.Proofs.Ytnfboopfpkaeaaa
open Go Go.Eng Nim
set_option maxRecDepth 100000
set_option maxHeartbeats 4000000
theorem max_int (a b : Int) : (if b > a then b else a) = max a b := by
  by_cases h : b > a
  · rw [if_pos h]; omega
  · rw [if_neg h]; omega
/-- The greatest of the first numbers. -/
def mx (v : Nat → Int) : Nat → Int
  | 0 => v 0
  | k + 1 => max (mx v k) (v (k + 1))
theorem max_of (v : Nat → Int) (N : Nat) (hN : 1 ≤ N) (hN2 : N ≤ 64) (lf m : Nat) (hlf : 300 ≤ lf) (a : Option Addr) (c : Nat) (h : Hp) (A : Rds h (.slice a N c) (cellsF N fun x => I (v x))) :
    Ev lf (m + 1) 76 [.slice a N c] h = some (I (mx v (N - 1)), h) := by
  refine fn_eq ?_
  refine ok_go 2 ?_
  refine sy_no 0 (b := decide (Int.ofNat N < 1)) (by kernel_rfl) (decide_eq_false (by simp; omega)) ?_
  obtain ⟨p, e1, e2⟩ := A.read (P := Try.prog) (kd := .i64) uI zI agI (k := 0) (v := I (v 0)) (by rw [cellsF_get (by omega)])
  refine ok_go 0 ?_
  refine sy_load 0 (r := indexAddrOp Try.prog 50 (.slice a N c) (J 0)) (h' := h) (by kernel_rfl) e1 ?_
  refine ok_go 0 ?_
  refine sy_load 0 (r := loadT Try.prog h 3 p) (h' := h) (by kernel_rfl) e2 ?_
  refine ok_go 0 ?_
  refine sy_loop 0 lf h (α := Nat) (fun k => [(0, .slice a N c), (3, I (mx v k)), (4, J (k + 1))]) (fun k g => k + 1 ≤ N ∧ g = h) (fun k _ => N - k) 0 (by kernel_rfl) (by kernel_rfl) ⟨by kernel_rfl, by kernel_rfl, by kernel_rfl, trivial⟩ (by omega) ⟨hN, rfl⟩ ?_
  rintro m1 k f1 g ⟨hk, rfl⟩ ih
  refine ok_go 2 ?_
  refine sy_test 0 (decide (Int.ofNat (k + 1) < Int.ofNat N)) (by kernel_rfl) ?_ ?_
  · intro hlt
    have hlt := ok_nat hlt
    obtain ⟨p, e1, e2⟩ := A.read (P := Try.prog) (kd := .i64) uI zI agI (k := k + 1) (v := I (v (k + 1))) (by rw [cellsF_get hlt])
    refine ok_go 0 ?_
    refine sy_load 0 (r := indexAddrOp Try.prog 50 (.slice a N c) (J (k + 1))) (h' := g) (by kernel_rfl) e1 ?_
    refine ok_go 0 ?_
    refine sy_load 0 (r := loadT Try.prog g 3 p) (h' := g) (by kernel_rfl) e2 ?_
    refine ok_go 2 ?_
    exact sy_next 0 _ g (by kernel_rfl) (by kernel_rfl) (ih (k + 1) _ g ⟨hlt, rfl⟩ (show N - (k + 1) < N - k by omega) ⟨by kernel_rfl, (by kernel_rfl : _ = I (if v (k + 1) > mx v k then v (k + 1) else mx v k)).trans (by rw [max_int]; rfl), (by kernel_rfl : _ = Value.int .i64 (IntKind.wrap .i64 (Int.ofNat (k + 2)))).trans (by rw [wrap_nat (by omega)]), trivial⟩)
  · intro hlt
    have hlt := no_nat hlt
    have hkN : k = N - 1 := by omega
    subst hkN
    refine ok_go 0 ?_
    exact sy_done 0 (v := I (mx v (N - 1))) (h := g) (by kernel_rfl) ⟨rfl, rfl⟩
/-- The greatest of the first numbers and 0. -/
def mz (v : Nat → Int) : Nat → Int
  | 0 => 0
  | k + 1 => max (mz v k) (v k)
theorem mz_nonneg (v : Nat → Int) : ∀ k, 0 ≤ mz v k
  | 0 => Int.le_refl _
  | k + 1 => Int.le_trans (mz_nonneg v k) (Int.le_max_left ..)
theorem mz_mx (v w : Nat → Int) (N : Nat) (h1 : ∀ x, x < N → v x = w x) (h0 : ∀ x, N ≤ x → v x = 0) (hw : ∀ x, 0 ≤ w x) : ∀ k, mx v k = mz w (min (k + 1) N)
  | 0 => by
    by_cases hN : N = 0
    · subst hN; rw [Nat.min_zero]; exact h0 0 (Nat.le_refl _)
    · rw [show min (0 + 1) N = 1 by omega]
      show v 0 = max 0 (w 0)
      rw [h1 0 (by omega)]
      have := hw 0
      omega
  | k + 1 => by
    rw [mx, mz_mx v w N h1 h0 hw k]
    by_cases hk : k + 1 < N
    · rw [show min (k + 1 + 1) N = k + 1 + 1 by omega, show min (k + 1) N = k + 1 by omega, h1 _ hk]; rfl
    · rw [show min (k + 1 + 1) N = N by omega, show min (k + 1) N = N by omega, h0 _ (by omega)]
      have := mz_nonneg w N
      omega
/-- The sensitivity, by the reference. -/
theorem rsens_of (f : Nat → Bool) (n : Nat) (hn : n ≤ 6) (lf m : Nat) (hlf : 300 ≤ lf) (b0 c : Nat) (h : Hp) (A : ArB b0 (2 ^ n) f h) :
    Ev lf (m + 1) 43 [.slice (some ⟨b0, 0, none⟩) (2 ^ n) c] h = some (I (mz (fun x => sp f x n) (2 ^ n)), h) := by
  have hp64 : 2 ^ n ≤ 64 := Nat.pow_le_pow_right (n := 2) (by decide) hn
  have hfl : ∀ x i, i < n → x < 2 ^ n → x ^^^ 2 ^ i < 2 ^ n := fun x i hi hx => flip_lt hi hx
  have hlg : ∀ i, 2 ^ i < 2 ^ n → i < n := fun i hi => (Nat.pow_lt_pow_iff_right (by decide)).1 hi
  have hgl : ∀ i, i ≤ n → ¬ 2 ^ i < 2 ^ n → i = n := fun i hi h2 => by
    rcases Nat.lt_or_ge i n with h3 | h3
    · exact absurd ((Nat.pow_lt_pow_iff_right (by decide)).2 h3) h2
    · omega
  refine fn_eq ?_
  generalize hN : 2 ^ n = N at *
  refine ok_go 0 ?_
  refine sy_loop 0 lf h (α := Nat) (fun x => [(0, .slice (some ⟨b0, 0, none⟩) N c), (3, I (mz (fun x => sp f x n) x)), (4, J x)]) (fun x g => x ≤ N ∧ g = h) (fun x _ => N - x) 0 (by kernel_rfl) (by kernel_rfl) ⟨by kernel_rfl, by kernel_rfl, by kernel_rfl, trivial⟩ (by omega) ⟨Nat.zero_le _, rfl⟩ ?_
  rintro m1 x f1 g ⟨hx, rfl⟩ ih
  refine ok_go 2 ?_
  refine sy_test 0 (decide (Int.ofNat x < Int.ofNat N)) (by kernel_rfl) ?_ ?_
  · intro hlt
    have hlt := ok_nat hlt
    refine ok_go 0 ?_
    refine sy_loop 0 lf g (α := Nat) (fun i => [(0, .slice (some ⟨b0, 0, none⟩) N c), (3, I (mz (fun x => sp f x n) x)), (4, J x), (5, I (sp f x i)), (6, J (2 ^ i))]) (fun i q => i ≤ n ∧ q = g) (fun i _ => n - i) 0 (by kernel_rfl) (by kernel_rfl) ⟨by kernel_rfl, by kernel_rfl, by kernel_rfl, by kernel_rfl, by kernel_rfl, trivial⟩ (by omega) ⟨Nat.zero_le _, rfl⟩ ?_
    rintro m2 i f2 q ⟨hi, rfl⟩ ih2
    refine ok_go 2 ?_
    refine sy_test 0 (decide (Int.ofNat (2 ^ i) < Int.ofNat N)) (by kernel_rfl) ?_ ?_
    · intro hl2
      have hl2 := hlg i (ok_nat hl2)
      have hx' := hfl x i hl2 hlt
      have hpi : 2 ^ i ≤ 64 := Nat.le_trans (Nat.pow_le_pow_right (n := 2) (by decide) (Nat.le_of_lt hl2)) (by rw [hN]; exact hp64)
      have hxor : xorI (Int.ofNat x) (Int.ofNat (2 ^ i)) = Int.ofNat (x ^^^ 2 ^ i) := xor_nat (by omega) (by omega)
      have hsp := sp_le f x i
      have hw : IntKind.i64.wrap (2 * Int.ofNat (2 ^ i)) = Int.ofNat (2 ^ (i + 1)) := by
        have h7 : 2 * Int.ofNat (2 ^ i) = Int.ofNat (2 ^ (i + 1)) := by rw [Nat.pow_succ, Nat.mul_comm]; rfl
        rw [h7, wrap_nat (by rw [Nat.pow_succ]; omega)]
      refine ok_go 0 ?_
      refine sy_load 0 (r := indexAddrOp Try.prog 27 (.slice (some ⟨b0, 0, none⟩) N c) (J x)) (h' := q) (by kernel_rfl) (idxB hlt) ?_
      refine ok_go 0 ?_
      refine sy_load 0 (r := loadT Try.prog q 4 (ptr b0 x)) (h' := q) (by kernel_rfl) (A.read hlt) ?_
      refine ok_go 1 ?_
      refine sy_load 0 (r := indexAddrOp Try.prog 27 (.slice (some ⟨b0, 0, none⟩) N c) (.int .i64 (xorI (Int.ofNat x) (Int.ofNat (2 ^ i))))) (h' := q) (by kernel_rfl) (by rw [hxor]; exact idxB hx') ?_
      refine ok_go 0 ?_
      refine sy_load 0 (r := loadT Try.prog q 4 (ptr b0 (x ^^^ 2 ^ i))) (h' := q) (by kernel_rfl) (A.read hx') ?_
      refine ok_go 1 ?_
      refine sy_test 0 (f x != f (x ^^^ 2 ^ i)) (by kernel_rfl) ?_ ?_
      · intro ht
        refine ok_go 2 ?_
        exact sy_next 0 _ q (by kernel_rfl) (by kernel_rfl) (ih2 (i + 1) _ q ⟨hl2, rfl⟩ (show n - (i + 1) < n - i by omega) ⟨by kernel_rfl, by kernel_rfl, by kernel_rfl, (by kernel_rfl : _ = I (IntKind.wrap .i64 (sp f x i + 1))).trans (by
          rw [wrap_int (by omega) (by omega), sp_succ, if_pos (by rw [bne_comm]; exact ht)]), (by kernel_rfl : _ = Value.int .i64 (IntKind.i64.wrap (2 * Int.ofNat (2 ^ i)))).trans (by rw [hw]), trivial⟩)
      · intro ht
        refine ok_go 1 ?_
        exact sy_next 0 _ q (by kernel_rfl) (by kernel_rfl) (ih2 (i + 1) _ q ⟨hl2, rfl⟩ (show n - (i + 1) < n - i by omega) ⟨by kernel_rfl, by kernel_rfl, by kernel_rfl, (by kernel_rfl : _ = I (sp f x i)).trans (by
          rw [sp_succ, if_neg (by rw [bne_comm, ht]; decide), Int.add_zero]), (by kernel_rfl : _ = Value.int .i64 (IntKind.i64.wrap (2 * Int.ofNat (2 ^ i)))).trans (by rw [hw]), trivial⟩)
    · intro hl2
      have hin := hgl i hi (fun hc => by have := no_nat hl2; omega)
      subst hin
      refine ok_go 2 ?_
      exact sy_next 0 _ q (by kernel_rfl) (by kernel_rfl) (ih (x + 1) _ q ⟨hlt, rfl⟩ (show N - (x + 1) < N - x by omega) ⟨by kernel_rfl, (by kernel_rfl : _ = I (if sp f x i > mz (fun x => sp f x i) x then sp f x i else mz (fun x => sp f x i) x)).trans (by rw [max_int]; rfl), (by kernel_rfl : _ = Value.int .i64 (IntKind.wrap .i64 (Int.ofNat (x + 1)))).trans (by rw [wrap_nat (by omega)]), trivial⟩)
  · intro hlt
    have hlt := no_nat hlt
    have hxN : x = N := by omega
    subst hxN
    refine ok_go 0 ?_
    exact sy_done 0 (v := I (mz (fun x => sp f x n) x)) (h := g) (by kernel_rfl) ⟨rfl, rfl⟩
/-- The sensitivity, by the program. -/
theorem sens_of (f : Nat → Bool) (n : Nat) (hn : n ≤ 6) (lf m : Nat) (hlf : 300 ≤ lf) (b0 c : Nat) (h : Hp) (A : ArB b0 (2 ^ n) f h)
    (ck : ∀ a c h, Ev lf m 54 [.slice a (2 ^ n) c] h = some (J 0, h))
    (se : ∃ v h', Ev lf m 75 [.slice (some ⟨b0, 0, none⟩) (2 ^ n) c] h = some (v, h') ∧ v = .agg (cellsF 64 fun x => I (if x < 2 ^ n then sp f x n else 0)).toArray ∧ h.Ext h')
    (mo : ∀ (v : Nat → Int) a c h, Rds h (.slice a 64 c) (cellsF 64 fun x => I (v x)) → Ev lf m 76 [.slice a 64 c] h = some (I (mx v 63), h)) :
    ∃ v h', Ev lf (m + 1) 36 [.slice (some ⟨b0, 0, none⟩) (2 ^ n) c] h = some (v, h') ∧ v = .tuple #[I (mz (fun x => sp f x n) (2 ^ n)), J 0] ∧ h.Ext h' := by
  have hp64 : 2 ^ n ≤ 64 := Nat.pow_le_pow_right (n := 2) (by decide) hn
  have ck := ck (some ⟨b0, 0, none⟩) c h
  refine fnS_ok (Q := fun v h' => v = .tuple #[I (mz (fun x => sp f x n) (2 ^ n)), J 0] ∧ h.Ext h') ?_
  generalize hN : 2 ^ n = N at *
  refine ok_go 0 ?_
  refine sy_call 0 (by kernel_rfl) ck ?_
  obtain ⟨v, h', e, rfl, X⟩ := se
  refine ok_go 2 ?_
  refine sy_call 0 (by kernel_rfl) e ?_
  have A0 : AgI h'.next (fun _ => 0) (h'.new (.cells (cellsF 64 fun _ => I 0) 102 false)) := ⟨Nat.lt_succ_self _, false, get_new _ _⟩
  obtain ⟨g', e', R, n', o'⟩ := A0.put (w := fun x => if x < N then sp f x n else 0) (Nat.lt_succ_self _) (get_new _ _) (cellsF_len _ _)
  refine ok_go 1 ?_
  refine sy_store 0 (h' := g') (by kernel_rfl) e' ?_
  have hr : Rds g' (.slice (some ⟨h'.next, 0, none⟩) 64 128) (cellsF 64 fun x => I (if x < N then sp f x n else 0)) := by
    obtain ⟨o, e⟩ := R.get
    exact rd_cells R.lt e
  refine ok_go 1 ?_
  refine sy_call 0 (by kernel_rfl) (mo _ (some ⟨h'.next, 0, none⟩) 128 g' hr) ?_
  refine ok_go 0 ?_
  refine sy_done 0 (v := .tuple #[I (mx (fun x => if x < N then sp f x n else 0) 63), J 0]) (h := g') (by kernel_rfl) ⟨?_, ?_, fun j hj => ?_⟩
  · rw [mz_mx (fun x => if x < N then sp f x n else 0) (fun x => sp f x n) N (fun x hx => if_pos hx) (fun x hx => if_neg (by omega)) (fun x => (sp_le f x n).1) 63, show min (63 + 1) N = N by omega]
  · have := X.next
    rw [n']
    show h.next ≤ h'.next + 1
    omega
  · have := X.next
    rw [o' j (by omega), Hp.get_new_ne (by omega)]
    exact X.get j hj
end Go.Proofs.Ytnfboopfpkaeaaa
/- SeesD: contracts of functions. -/
namespace Go.Proofs.Ytnfboopfpkaeaaa
open Go Go.Eng Nim
set_option maxRecDepth 100000
set_option maxHeartbeats 4000000
/-- Whether the first inputs that agree with x in a mask have its value. -/
def sme (f : Nat → Bool) (x k : Nat) : Nat → Bool
  | 0 => true
  | y + 1 => sme f x k y && ((y &&& k != x &&& k) || f y == f x)
def btr (k b : Nat) : Bool := decide (pop k < pop b) || (pop k == pop b && decide (k < b))
/-- The best mask of the first ones. -/
def ce (f : Nat → Bool) (x N : Nat) : Nat → Nat
  | 0 => N - 1
  | k + 1 => if (sme f x k N && btr k (ce f x N k)) = true then k else ce f x N k
theorem ce_lt (f : Nat → Bool) (x N : Nat) (hN : 1 ≤ N) : ∀ k, k ≤ N → ce f x N k < N
  | 0, _ => by show N - 1 < N; omega
  | k + 1, h => by
    have := ce_lt f x N hN k (by omega)
    unfold ce
    split
    · omega
    · exact this
theorem eq_int (a b : Nat) : (Int.ofNat a == Int.ofNat b) = (a == b) := by
  rw [Bool.eq_iff_iff, beq_iff_eq, beq_iff_eq]
  exact Int.ofNat_inj
theorem ne_int (a b : Nat) : (Int.ofNat a != Int.ofNat b) = (a != b) := by
  unfold bne; rw [eq_int]
theorem cert_of (f : Nat → Bool) (n : Nat) (hn : n ≤ 6) (lf m : Nat) (hlf : 300 ≤ lf) (co : ∀ z h, z < 64 → Ev lf m 66 [J z] h = some (J (pop z), h)) (b0 c x : Nat) (hx : x < 2 ^ n) (h : Hp) (A : ArB b0 (2 ^ n) f h) :
    Ev lf (m + 1) 78 [.slice (some ⟨b0, 0, none⟩) (2 ^ n) c, J x] h = some (J (ce f x (2 ^ n) (2 ^ n)), h) := by
  have hp64 : 2 ^ n ≤ 64 := Nat.pow_le_pow_right (n := 2) (by decide) hn
  refine fn_eq ?_
  generalize hN : 2 ^ n = N at *
  have hw1 : IntKind.i64.wrap (Int.ofNat N - 1) = Int.ofNat (N - 1) := by
    rw [show Int.ofNat N - 1 = Int.ofNat (N - 1) by simp; omega, wrap_nat (by omega)]
  refine ok_go 3 ?_
  refine sy_loop 0 lf h (α := Nat) (fun k => [(0, .slice (some ⟨b0, 0, none⟩) N c), (1, J x), (5, J (ce f x N k)), (13, .slice (some ⟨b0, 0, none⟩) N c), (14, J N), (15, J k)]) (fun k g => k ≤ N ∧ g = h) (fun k _ => N - k) 0 (by kernel_rfl) (by kernel_rfl) ⟨by kernel_rfl, by kernel_rfl, (by kernel_rfl : _ = Value.int .i64 (IntKind.i64.wrap (Int.ofNat N - 1))).trans (by rw [hw1]; rfl), by kernel_rfl, by kernel_rfl, by kernel_rfl, trivial⟩ (by omega) ⟨Nat.zero_le _, rfl⟩ ?_
  rintro m1 k f1 g ⟨hk, rfl⟩ ih
  have hb := ce_lt f x N (by omega) k hk
  generalize hbb : ce f x N k = bb at hb ⊢
  refine ok_go 1 ?_
  refine sy_test 0 (decide (Int.ofNat k < Int.ofNat N)) (by kernel_rfl) ?_ ?_
  · intro hlt
    have hlt := ok_nat hlt
    refine ok_go 0 ?_
    refine sy_call 0 (by kernel_rfl) (co k g (by omega)) ?_
    refine ok_go 0 ?_
    refine sy_call 0 (by kernel_rfl) (co bb g (by omega)) ?_
    refine ok_go 1 ?_
    refine sy_test 0 (decide (Int.ofNat (pop k) > Int.ofNat (pop bb))) (by kernel_rfl) ?_ ?_
    · intro h1
      have h1' : pop k > pop bb := by have := of_decide_eq_true h1; simpa using this
      have hno : btr k bb = false := by unfold btr; rw [decide_eq_false (by omega), show (pop k == pop bb) = false by simp; omega]; rfl
      refine ok_go 9 ?_
      exact sy_next 0 _ g (by kernel_rfl) (by kernel_rfl) (ih (k + 1) _ g ⟨hlt, rfl⟩ (show N - (k + 1) < N - k by omega) ⟨by kernel_rfl, by kernel_rfl, (by kernel_rfl : _ = J bb).trans (by rw [ce, hbb, hno, Bool.and_false]; rfl), by kernel_rfl, by kernel_rfl, (by kernel_rfl : _ = Value.int .i64 (IntKind.wrap .i64 (Int.ofNat (k + 1)))).trans (by rw [wrap_nat (by omega)]), trivial⟩)
    · intro h1
      have h1' : ¬ pop k > pop bb := by have := of_decide_eq_false h1; simpa using this
      refine ok_go 1 ?_
      refine sy_call 0 (by kernel_rfl) (co k g (by omega)) ?_
      refine ok_go 2 ?_
      refine sy_call 0 (by kernel_rfl) (co bb g (by omega)) ?_
      refine ok_go 3 ?_
      refine sy_test 0 (Int.ofNat (pop k) == Int.ofNat (pop bb)) (by kernel_rfl) ?_ ?_
      · intro h2
        rw [eq_int] at h2
        refine ok_go 6 ?_
        refine sy_test 0 (decide (Int.ofNat k ≥ Int.ofNat bb)) (by kernel_rfl) ?_ ?_
        · intro h3
          have h3' : k ≥ bb := by have := of_decide_eq_true h3; simpa using this
          have hno : btr k bb = false := by unfold btr; rw [decide_eq_false (by have := eq_of_beq h2; omega), decide_eq_false (show ¬ k < bb by omega), Bool.and_false]; rfl
          refine ok_go 1 ?_
          exact sy_next 0 _ g (by kernel_rfl) (by kernel_rfl) (ih (k + 1) _ g ⟨hlt, rfl⟩ (show N - (k + 1) < N - k by omega) ⟨by kernel_rfl, by kernel_rfl, (by kernel_rfl : _ = J bb).trans (by rw [ce, hbb, hno, Bool.and_false]; rfl), by kernel_rfl, by kernel_rfl, (by kernel_rfl : _ = Value.int .i64 (IntKind.wrap .i64 (Int.ofNat (k + 1)))).trans (by rw [wrap_nat (by omega)]), trivial⟩)
        · intro h3
          have h3' : ¬ k ≥ bb := by have := of_decide_eq_false h3; simpa using this
          have hyes : btr k bb = true := by unfold btr; rw [h2, decide_eq_true (show k < bb by omega), Bool.and_true, Bool.or_true]
          refine ok_go 1 ?_
          refine sy_loop 0 lf g (α := Nat) (fun y => [(0, .slice (some ⟨b0, 0, none⟩) N c), (1, J x), (5, J bb), (6, J k), (7, .bool (sme f x k y)), (13, .slice (some ⟨b0, 0, none⟩) N c), (14, J N), (15, J k), (35, .slice (some ⟨b0, 0, none⟩) N c), (36, J N), (37, J y)]) (fun y q => y ≤ N ∧ q = g) (fun y _ => N - y) 0 (by kernel_rfl) (by kernel_rfl) ⟨by kernel_rfl, by kernel_rfl, by kernel_rfl, by kernel_rfl, by kernel_rfl, by kernel_rfl, by kernel_rfl, by kernel_rfl, by kernel_rfl, by kernel_rfl, by kernel_rfl, trivial⟩ (by omega) ⟨Nat.zero_le _, rfl⟩ ?_
          rintro m2 y f2 q ⟨hy, rfl⟩ ih2
          refine ok_go 1 ?_
          refine sy_test 0 (decide (Int.ofNat y < Int.ofNat N)) (by kernel_rfl) ?_ ?_
          · intro hl2
            have hl2 := ok_nat hl2
            have hwy : IntKind.wrap .i64 (Int.ofNat (y + 1)) = Int.ofNat (y + 1) := wrap_nat (by omega)
            refine ok_go 0 ?_
            refine sy_load 0 (r := indexAddrOp Try.prog 27 (.slice (some ⟨b0, 0, none⟩) N c) (J y)) (h' := q) (by kernel_rfl) (idxB hl2) ?_
            refine ok_go 0 ?_
            refine sy_load 0 (r := loadT Try.prog q 4 (ptr b0 y)) (h' := q) (by kernel_rfl) (A.read hl2) ?_
            refine ok_go 0 ?_
            refine sy_test 0 (sme f x k y) (by kernel_rfl) ?_ ?_
            · intro hs
              refine ok_go 10 ?_
              refine sy_test 0 (andI (Int.ofNat y) (Int.ofNat k) != andI (Int.ofNat x) (Int.ofNat k)) (by kernel_rfl) ?_ ?_
              · intro hd
                rw [and_nat (by omega), and_nat (by omega), ne_int] at hd
                refine ok_go 9 ?_
                exact sy_next 0 _ q (by kernel_rfl) (by kernel_rfl) (ih2 (y + 1) _ q ⟨hl2, rfl⟩ (show N - (y + 1) < N - y by omega) ⟨by kernel_rfl, by kernel_rfl, by kernel_rfl, by kernel_rfl, (by kernel_rfl : _ = Value.bool true).trans (by rw [sme, hs, hd]; rfl), by kernel_rfl, by kernel_rfl, by kernel_rfl, by kernel_rfl, by kernel_rfl, (by kernel_rfl : _ = Value.int .i64 (IntKind.wrap .i64 (Int.ofNat (y + 1)))).trans (by rw [hwy]), trivial⟩)
              · intro hd
                rw [and_nat (by omega), and_nat (by omega), ne_int] at hd
                refine ok_go 3 ?_
                refine sy_load 0 (r := indexAddrOp Try.prog 27 (.slice (some ⟨b0, 0, none⟩) N c) (J x)) (h' := q) (by kernel_rfl) (idxB hx) ?_
                refine ok_go 1 ?_
                refine sy_load 0 (r := loadT Try.prog q 4 (ptr b0 x)) (h' := q) (by kernel_rfl) (A.read hx) ?_
                refine ok_go 6 ?_
                exact sy_next 0 _ q (by kernel_rfl) (by kernel_rfl) (ih2 (y + 1) _ q ⟨hl2, rfl⟩ (show N - (y + 1) < N - y by omega) ⟨by kernel_rfl, by kernel_rfl, by kernel_rfl, by kernel_rfl, (by kernel_rfl : _ = Value.bool (f y == f x)).trans (by rw [sme, hs, hd]; rfl), by kernel_rfl, by kernel_rfl, by kernel_rfl, by kernel_rfl, by kernel_rfl, (by kernel_rfl : _ = Value.int .i64 (IntKind.wrap .i64 (Int.ofNat (y + 1)))).trans (by rw [hwy]), trivial⟩)
            · intro hs
              refine ok_go 10 ?_
              exact sy_next 0 _ q (by kernel_rfl) (by kernel_rfl) (ih2 (y + 1) _ q ⟨hl2, rfl⟩ (show N - (y + 1) < N - y by omega) ⟨by kernel_rfl, by kernel_rfl, by kernel_rfl, by kernel_rfl, (by kernel_rfl : _ = Value.bool false).trans (by rw [sme, hs]; rfl), by kernel_rfl, by kernel_rfl, by kernel_rfl, by kernel_rfl, by kernel_rfl, (by kernel_rfl : _ = Value.int .i64 (IntKind.wrap .i64 (Int.ofNat (y + 1)))).trans (by rw [hwy]), trivial⟩)
          · intro hl2
            have hl2 := no_nat hl2
            have hyN : y = N := by omega
            subst hyN
            refine ok_go 0 ?_
            refine sy_test 0 (sme f x k y) (by kernel_rfl) ?_ ?_
            · intro hs
              refine ok_go 1 ?_
              exact sy_next 0 _ q (by kernel_rfl) (by kernel_rfl) (ih (k + 1) _ q ⟨hlt, rfl⟩ (show y - (k + 1) < y - k by omega) ⟨by kernel_rfl, by kernel_rfl, (by kernel_rfl : _ = J k).trans (by rw [ce, hbb, hyes, hs]; rfl), by kernel_rfl, by kernel_rfl, (by kernel_rfl : _ = Value.int .i64 (IntKind.wrap .i64 (Int.ofNat (k + 1)))).trans (by rw [wrap_nat (by omega)]), trivial⟩)
            · intro hs
              refine ok_go 1 ?_
              exact sy_next 0 _ q (by kernel_rfl) (by kernel_rfl) (ih (k + 1) _ q ⟨hlt, rfl⟩ (show y - (k + 1) < y - k by omega) ⟨by kernel_rfl, by kernel_rfl, (by kernel_rfl : _ = J bb).trans (by rw [ce, hbb, hs]; rfl), by kernel_rfl, by kernel_rfl, (by kernel_rfl : _ = Value.int .i64 (IntKind.wrap .i64 (Int.ofNat (k + 1)))).trans (by rw [wrap_nat (by omega)]), trivial⟩)
      · intro h2
        rw [eq_int] at h2
        have hyes : btr k bb = true := by unfold btr; rw [decide_eq_true (by have := ne_of_beq_false h2; omega), Bool.true_or]
        refine ok_go 7 ?_
        refine sy_loop 0 lf g (α := Nat) (fun y => [(0, .slice (some ⟨b0, 0, none⟩) N c), (1, J x), (5, J bb), (6, J k), (7, .bool (sme f x k y)), (13, .slice (some ⟨b0, 0, none⟩) N c), (14, J N), (15, J k), (35, .slice (some ⟨b0, 0, none⟩) N c), (36, J N), (37, J y)]) (fun y q => y ≤ N ∧ q = g) (fun y _ => N - y) 0 (by kernel_rfl) (by kernel_rfl) ⟨by kernel_rfl, by kernel_rfl, by kernel_rfl, by kernel_rfl, by kernel_rfl, by kernel_rfl, by kernel_rfl, by kernel_rfl, by kernel_rfl, by kernel_rfl, by kernel_rfl, trivial⟩ (by omega) ⟨Nat.zero_le _, rfl⟩ ?_
        rintro m2 y f2 q ⟨hy, rfl⟩ ih2
        refine ok_go 1 ?_
        refine sy_test 0 (decide (Int.ofNat y < Int.ofNat N)) (by kernel_rfl) ?_ ?_
        · intro hl2
          have hl2 := ok_nat hl2
          have hwy : IntKind.wrap .i64 (Int.ofNat (y + 1)) = Int.ofNat (y + 1) := wrap_nat (by omega)
          refine ok_go 0 ?_
          refine sy_load 0 (r := indexAddrOp Try.prog 27 (.slice (some ⟨b0, 0, none⟩) N c) (J y)) (h' := q) (by kernel_rfl) (idxB hl2) ?_
          refine ok_go 0 ?_
          refine sy_load 0 (r := loadT Try.prog q 4 (ptr b0 y)) (h' := q) (by kernel_rfl) (A.read hl2) ?_
          refine ok_go 0 ?_
          refine sy_test 0 (sme f x k y) (by kernel_rfl) ?_ ?_
          · intro hs
            refine ok_go 10 ?_
            refine sy_test 0 (andI (Int.ofNat y) (Int.ofNat k) != andI (Int.ofNat x) (Int.ofNat k)) (by kernel_rfl) ?_ ?_
            · intro hd
              rw [and_nat (by omega), and_nat (by omega), ne_int] at hd
              refine ok_go 9 ?_
              exact sy_next 0 _ q (by kernel_rfl) (by kernel_rfl) (ih2 (y + 1) _ q ⟨hl2, rfl⟩ (show N - (y + 1) < N - y by omega) ⟨by kernel_rfl, by kernel_rfl, by kernel_rfl, by kernel_rfl, (by kernel_rfl : _ = Value.bool true).trans (by rw [sme, hs, hd]; rfl), by kernel_rfl, by kernel_rfl, by kernel_rfl, by kernel_rfl, by kernel_rfl, (by kernel_rfl : _ = Value.int .i64 (IntKind.wrap .i64 (Int.ofNat (y + 1)))).trans (by rw [hwy]), trivial⟩)
            · intro hd
              rw [and_nat (by omega), and_nat (by omega), ne_int] at hd
              refine ok_go 3 ?_
              refine sy_load 0 (r := indexAddrOp Try.prog 27 (.slice (some ⟨b0, 0, none⟩) N c) (J x)) (h' := q) (by kernel_rfl) (idxB hx) ?_
              refine ok_go 1 ?_
              refine sy_load 0 (r := loadT Try.prog q 4 (ptr b0 x)) (h' := q) (by kernel_rfl) (A.read hx) ?_
              refine ok_go 6 ?_
              exact sy_next 0 _ q (by kernel_rfl) (by kernel_rfl) (ih2 (y + 1) _ q ⟨hl2, rfl⟩ (show N - (y + 1) < N - y by omega) ⟨by kernel_rfl, by kernel_rfl, by kernel_rfl, by kernel_rfl, (by kernel_rfl : _ = Value.bool (f y == f x)).trans (by rw [sme, hs, hd]; rfl), by kernel_rfl, by kernel_rfl, by kernel_rfl, by kernel_rfl, by kernel_rfl, (by kernel_rfl : _ = Value.int .i64 (IntKind.wrap .i64 (Int.ofNat (y + 1)))).trans (by rw [hwy]), trivial⟩)
          · intro hs
            refine ok_go 10 ?_
            exact sy_next 0 _ q (by kernel_rfl) (by kernel_rfl) (ih2 (y + 1) _ q ⟨hl2, rfl⟩ (show N - (y + 1) < N - y by omega) ⟨by kernel_rfl, by kernel_rfl, by kernel_rfl, by kernel_rfl, (by kernel_rfl : _ = Value.bool false).trans (by rw [sme, hs]; rfl), by kernel_rfl, by kernel_rfl, by kernel_rfl, by kernel_rfl, by kernel_rfl, (by kernel_rfl : _ = Value.int .i64 (IntKind.wrap .i64 (Int.ofNat (y + 1)))).trans (by rw [hwy]), trivial⟩)
        · intro hl2
          have hl2 := no_nat hl2
          have hyN : y = N := by omega
          subst hyN
          refine ok_go 0 ?_
          refine sy_test 0 (sme f x k y) (by kernel_rfl) ?_ ?_
          · intro hs
            refine ok_go 1 ?_
            exact sy_next 0 _ q (by kernel_rfl) (by kernel_rfl) (ih (k + 1) _ q ⟨hlt, rfl⟩ (show y - (k + 1) < y - k by omega) ⟨by kernel_rfl, by kernel_rfl, (by kernel_rfl : _ = J k).trans (by rw [ce, hbb, hyes, hs]; rfl), by kernel_rfl, by kernel_rfl, (by kernel_rfl : _ = Value.int .i64 (IntKind.wrap .i64 (Int.ofNat (k + 1)))).trans (by rw [wrap_nat (by omega)]), trivial⟩)
          · intro hs
            refine ok_go 1 ?_
            exact sy_next 0 _ q (by kernel_rfl) (by kernel_rfl) (ih (k + 1) _ q ⟨hlt, rfl⟩ (show y - (k + 1) < y - k by omega) ⟨by kernel_rfl, by kernel_rfl, (by kernel_rfl : _ = J bb).trans (by rw [ce, hbb, hs]; rfl), by kernel_rfl, by kernel_rfl, (by kernel_rfl : _ = Value.int .i64 (IntKind.wrap .i64 (Int.ofNat (k + 1)))).trans (by rw [wrap_nat (by omega)]), trivial⟩)
  · intro hlt
    have hlt := no_nat hlt
    have hkN : k = N := by omega
    subst hkN
    subst hbb
    refine ok_go 0 ?_
    exact sy_done 0 (v := J (ce f x k k)) (h := g) (by kernel_rfl) ⟨rfl, rfl⟩
end Go.Proofs.Ytnfboopfpkaeaaa
/- SeesE: contracts of functions. -/
namespace Go.Proofs.Ytnfboopfpkaeaaa
open Go Go.Eng Nim
set_option maxRecDepth 100000
set_option maxHeartbeats 4000000
theorem xor_zero {a b : Nat} : a ^^^ b = 0 ↔ a = b := by
  constructor
  · intro h
    refine Nat.eq_of_testBit_eq fun i => ?_
    have := congrArg (fun z => z.testBit i) h
    simp only [Nat.testBit_xor, Nat.zero_testBit] at this
    cases h1 : a.testBit i <;> cases h2 : b.testBit i <;> simp_all
  · rintro rfl; exact Nat.xor_self a
theorem xand (x y k : Nat) : (((x ^^^ y) &&& k) != 0) = (y &&& k != x &&& k) := by
  rw [Nat.and_xor_distrib_right]
  rw [Bool.eq_iff_iff, bne_iff_ne, bne_iff_ne, ne_eq, ne_eq, xor_zero]
  exact ⟨fun h e => h e.symm, fun h e => h e.symm⟩
theorem xor_small {a b n : Nat} (ha : a < 2 ^ n) (hb : b < 2 ^ n) : a ^^^ b < 2 ^ n := Nat.xor_lt_two_pow ha hb
theorem rcert_of (f : Nat → Bool) (n : Nat) (hn : n ≤ 6) (lf m : Nat) (hlf : 300 ≤ lf) (oo : ∀ z h, z < 64 → Ev lf m 71 [J z] h = some (J (pop z), h)) (b0 c x : Nat) (hx : x < 2 ^ n) (h : Hp) (A : ArB b0 (2 ^ n) f h) :
    Ev lf (m + 1) 49 [.slice (some ⟨b0, 0, none⟩) (2 ^ n) c, J x] h = some (J (ce f x (2 ^ n) (2 ^ n)), h) := by
  have hp64 : 2 ^ n ≤ 64 := Nat.pow_le_pow_right (n := 2) (by decide) hn
  have hxy : ∀ y, y < 2 ^ n → x ^^^ y < 2 ^ n := fun y hy => xor_small hx hy
  refine fn_eq ?_
  generalize hN : 2 ^ n = N at *
  have hw1 : IntKind.i64.wrap (Int.ofNat N - 1) = Int.ofNat (N - 1) := by
    rw [show Int.ofNat N - 1 = Int.ofNat (N - 1) by simp; omega, wrap_nat (by omega)]
  refine ok_go 2 ?_
  refine sy_loop 0 lf h (α := Nat) (fun k => [(0, .slice (some ⟨b0, 0, none⟩) N c), (1, J x), (5, J (ce f x N k)), (6, J k)]) (fun k g => k ≤ N ∧ g = h) (fun k _ => N - k) 0 (by kernel_rfl) (by kernel_rfl) ⟨by kernel_rfl, by kernel_rfl, (by kernel_rfl : _ = Value.int .i64 (IntKind.i64.wrap (Int.ofNat N - 1))).trans (by rw [hw1]; rfl), by kernel_rfl, trivial⟩ (by omega) ⟨Nat.zero_le _, rfl⟩ ?_
  rintro m1 k f1 g ⟨hk, rfl⟩ ih
  have hb := ce_lt f x N (by omega) k hk
  generalize hbb : ce f x N k = bb at hb ⊢
  refine ok_go 2 ?_
  refine sy_test 0 (decide (Int.ofNat k < Int.ofNat N)) (by kernel_rfl) ?_ ?_
  · intro hlt
    have hlt := ok_nat hlt
    have hwk : IntKind.wrap .i64 (Int.ofNat (k + 1)) = Int.ofNat (k + 1) := wrap_nat (by omega)
    refine ok_go 0 ?_
    refine sy_loop 0 lf g (α := Nat) (fun y => [(0, .slice (some ⟨b0, 0, none⟩) N c), (1, J x), (5, J bb), (6, J k), (7, .bool (sme f x k y)), (8, J y)]) (fun y q => y ≤ N ∧ q = g) (fun y _ => N - y) 0 (by kernel_rfl) (by kernel_rfl) ⟨by kernel_rfl, by kernel_rfl, by kernel_rfl, by kernel_rfl, by kernel_rfl, by kernel_rfl, trivial⟩ (by omega) ⟨Nat.zero_le _, rfl⟩ ?_
    rintro m2 y f2 q ⟨hy, rfl⟩ ih2
    refine ok_go 2 ?_
    refine sy_test 0 (decide (Int.ofNat y < Int.ofNat N)) (by kernel_rfl) ?_ ?_
    · intro hl2
      have hl2 := ok_nat hl2
      have hwy : IntKind.wrap .i64 (Int.ofNat (y + 1)) = Int.ofNat (y + 1) := wrap_nat (by omega)
      have hxy' := hxy y hl2
      have hxa : (andI (xorI (Int.ofNat x) (Int.ofNat y)) (Int.ofNat k) != 0) = (y &&& k != x &&& k) := by
        rw [xor_nat (by omega) (by omega), and_nat (by omega), ← xand]
        exact ne_int _ 0
      refine ok_go 0 ?_
      refine sy_test 0 (sme f x k y) (by kernel_rfl) ?_ ?_
      · intro hs
        refine ok_go 9 ?_
        refine sy_test 0 (andI (xorI (Int.ofNat x) (Int.ofNat y)) (Int.ofNat k) != 0) (by kernel_rfl) ?_ ?_
        · intro hd
          rw [hxa] at hd
          refine ok_go 12 ?_
          exact sy_next 0 _ q (by kernel_rfl) (by kernel_rfl) (ih2 (y + 1) _ q ⟨hl2, rfl⟩ (show N - (y + 1) < N - y by omega) ⟨by kernel_rfl, by kernel_rfl, by kernel_rfl, by kernel_rfl, (by kernel_rfl : _ = Value.bool true).trans (by rw [sme, hs, hd]; rfl), (by kernel_rfl : _ = Value.int .i64 (IntKind.wrap .i64 (Int.ofNat (y + 1)))).trans (by rw [hwy]), trivial⟩)
        · intro hd
          rw [hxa] at hd
          refine ok_go 2 ?_
          refine sy_load 0 (r := indexAddrOp Try.prog 27 (.slice (some ⟨b0, 0, none⟩) N c) (J x)) (h' := q) (by kernel_rfl) (idxB hx) ?_
          refine ok_go 1 ?_
          refine sy_load 0 (r := loadT Try.prog q 4 (ptr b0 x)) (h' := q) (by kernel_rfl) (A.read hx) ?_
          refine ok_go 3 ?_
          refine sy_load 0 (r := indexAddrOp Try.prog 27 (.slice (some ⟨b0, 0, none⟩) N c) (J y)) (h' := q) (by kernel_rfl) (idxB hl2) ?_
          refine ok_go 1 ?_
          refine sy_load 0 (r := loadT Try.prog q 4 (ptr b0 y)) (h' := q) (by kernel_rfl) (A.read hl2) ?_
          refine ok_go 6 ?_
          exact sy_next 0 _ q (by kernel_rfl) (by kernel_rfl) (ih2 (y + 1) _ q ⟨hl2, rfl⟩ (show N - (y + 1) < N - y by omega) ⟨by kernel_rfl, by kernel_rfl, by kernel_rfl, by kernel_rfl, (by kernel_rfl : _ = Value.bool (f x == f y)).trans (by rw [sme, hs, hd, Bool.true_and, Bool.false_or]; cases f x <;> cases f y <;> rfl), (by kernel_rfl : _ = Value.int .i64 (IntKind.wrap .i64 (Int.ofNat (y + 1)))).trans (by rw [hwy]), trivial⟩)
      · intro hs
        refine ok_go 9 ?_
        exact sy_next 0 _ q (by kernel_rfl) (by kernel_rfl) (ih2 (y + 1) _ q ⟨hl2, rfl⟩ (show N - (y + 1) < N - y by omega) ⟨by kernel_rfl, by kernel_rfl, by kernel_rfl, by kernel_rfl, (by kernel_rfl : _ = Value.bool false).trans (by rw [sme, hs]; rfl), (by kernel_rfl : _ = Value.int .i64 (IntKind.wrap .i64 (Int.ofNat (y + 1)))).trans (by rw [hwy]), trivial⟩)
    · intro hl2
      have hl2 := no_nat hl2
      have hyN : y = N := by omega
      subst hyN
      refine ok_go 0 ?_
      refine sy_test 0 (sme f x k y) (by kernel_rfl) ?_ ?_
      · intro hs
        refine ok_go 1 ?_
        refine sy_call 0 (by kernel_rfl) (oo k q (by omega)) ?_
        refine ok_go 2 ?_
        refine sy_call 0 (by kernel_rfl) (oo bb q (by omega)) ?_
        refine ok_go 3 ?_
        refine sy_test 0 (decide (Int.ofNat (pop k) < Int.ofNat (pop bb))) (by kernel_rfl) ?_ ?_
        · intro h1
          have h1 := ok_nat h1
          have hyes : btr k bb = true := by unfold btr; rw [decide_eq_true h1, Bool.true_or]
          refine ok_go 11 ?_
          exact sy_next 0 _ q (by kernel_rfl) (by kernel_rfl) (ih (k + 1) _ q ⟨hlt, rfl⟩ (show y - (k + 1) < y - k by omega) ⟨by kernel_rfl, by kernel_rfl, (by kernel_rfl : _ = J k).trans (by rw [ce, hbb, hyes, hs]; rfl), (by kernel_rfl : _ = Value.int .i64 (IntKind.wrap .i64 (Int.ofNat (k + 1)))).trans (by rw [hwk]), trivial⟩)
        · intro h1
          have h1 := no_nat h1
          refine ok_go 1 ?_
          refine sy_call 0 (by kernel_rfl) (oo k q (by omega)) ?_
          refine ok_go 2 ?_
          refine sy_call 0 (by kernel_rfl) (oo bb q (by omega)) ?_
          refine ok_go 3 ?_
          refine sy_test 0 (Int.ofNat (pop k) == Int.ofNat (pop bb)) (by kernel_rfl) ?_ ?_
          · intro h2
            rw [eq_int] at h2
            refine ok_go 8 ?_
            refine sy_test 0 (decide (Int.ofNat k < Int.ofNat bb)) (by kernel_rfl) ?_ ?_
            · intro h3
              have h3 := ok_nat h3
              have hyes : btr k bb = true := by unfold btr; rw [h2, decide_eq_true h3, Bool.and_true, Bool.or_true]
              refine ok_go 1 ?_
              exact sy_next 0 _ q (by kernel_rfl) (by kernel_rfl) (ih (k + 1) _ q ⟨hlt, rfl⟩ (show y - (k + 1) < y - k by omega) ⟨by kernel_rfl, by kernel_rfl, (by kernel_rfl : _ = J k).trans (by rw [ce, hbb, hyes, hs]; rfl), (by kernel_rfl : _ = Value.int .i64 (IntKind.wrap .i64 (Int.ofNat (k + 1)))).trans (by rw [hwk]), trivial⟩)
            · intro h3
              have h3 := no_nat h3
              have hno : btr k bb = false := by unfold btr; rw [decide_eq_false (by omega), decide_eq_false (show ¬ k < bb by omega), Bool.and_false]; rfl
              refine ok_go 1 ?_
              exact sy_next 0 _ q (by kernel_rfl) (by kernel_rfl) (ih (k + 1) _ q ⟨hlt, rfl⟩ (show y - (k + 1) < y - k by omega) ⟨by kernel_rfl, by kernel_rfl, (by kernel_rfl : _ = J bb).trans (by rw [ce, hbb, hno, Bool.and_false]; rfl), (by kernel_rfl : _ = Value.int .i64 (IntKind.wrap .i64 (Int.ofNat (k + 1)))).trans (by rw [hwk]), trivial⟩)
          · intro h2
            rw [eq_int] at h2
            have hno : btr k bb = false := by unfold btr; rw [decide_eq_false (by omega), h2]; rfl
            refine ok_go 9 ?_
            exact sy_next 0 _ q (by kernel_rfl) (by kernel_rfl) (ih (k + 1) _ q ⟨hlt, rfl⟩ (show y - (k + 1) < y - k by omega) ⟨by kernel_rfl, by kernel_rfl, (by kernel_rfl : _ = J bb).trans (by rw [ce, hbb, hno, Bool.and_false]; rfl), (by kernel_rfl : _ = Value.int .i64 (IntKind.wrap .i64 (Int.ofNat (k + 1)))).trans (by rw [hwk]), trivial⟩)
      · intro hs
        refine ok_go 9 ?_
        exact sy_next 0 _ q (by kernel_rfl) (by kernel_rfl) (ih (k + 1) _ q ⟨hlt, rfl⟩ (show y - (k + 1) < y - k by omega) ⟨by kernel_rfl, by kernel_rfl, (by kernel_rfl : _ = J bb).trans (by rw [ce, hbb, hs]; rfl), (by kernel_rfl : _ = Value.int .i64 (IntKind.wrap .i64 (Int.ofNat (k + 1)))).trans (by rw [hwk]), trivial⟩)
  · intro hlt
    have hlt := no_nat hlt
    have hkN : k = N := by omega
    subst hkN
    subst hbb
    refine ok_go 0 ?_
    exact sy_done 0 (v := J (ce f x k k)) (h := g) (by kernel_rfl) ⟨rfl, rfl⟩
end Go.Proofs.Ytnfboopfpkaeaaa
/- SeesF: contracts of functions. -/
namespace Go.Proofs.Ytnfboopfpkaeaaa
open Go Go.Eng Nim
set_option maxRecDepth 100000
set_option maxHeartbeats 4000000
/-- How many bits the best mask at x has. -/
def cp (f : Nat → Bool) (N x : Nat) : Int := Int.ofNat (pop (ce f x N N))
theorem certs_of (f : Nat → Bool) (n : Nat) (hn : n ≤ 6) (lf m : Nat) (hlf : 300 ≤ lf) (ck : ∀ a c h, Ev lf m 54 [.slice a (2 ^ n) c] h = some (J 0, h)) (co : ∀ z h, z < 64 → Ev lf m 66 [J z] h = some (J (pop z), h)) (b0 c : Nat) (h : Hp)
    (ce1 : ∀ x, x < 2 ^ n → Ev lf m 78 [.slice (some ⟨b0, 0, none⟩) (2 ^ n) c, J x] h = some (J (ce f x (2 ^ n) (2 ^ n)), h)) :
    Ev lf (m + 1) 38 [.slice (some ⟨b0, 0, none⟩) (2 ^ n) c] h = some (.tuple #[I (mz (cp f (2 ^ n)) (2 ^ n)), J 0], h) := by
  have hp64 : 2 ^ n ≤ 64 := Nat.pow_le_pow_right (n := 2) (by decide) hn
  have hp0 : 1 ≤ 2 ^ n := Nat.one_le_two_pow
  have ck := ck (some ⟨b0, 0, none⟩) c h
  refine fn_eq ?_
  generalize hN : 2 ^ n = N at *
  refine ok_go 0 ?_
  refine sy_call 0 (by kernel_rfl) ck ?_
  refine ok_go 3 ?_
  refine sy_loop 0 lf h (α := Nat) (fun x => [(0, .slice (some ⟨b0, 0, none⟩) N c), (5, I (mz (cp f N) x)), (13, J N), (14, J x)]) (fun x g => x ≤ N ∧ g = h) (fun x _ => N - x) 0 (by kernel_rfl) (by kernel_rfl) ⟨by kernel_rfl, by kernel_rfl, by kernel_rfl, by kernel_rfl, trivial⟩ (by omega) ⟨Nat.zero_le _, rfl⟩ ?_
  rintro m1 x f1 g ⟨hx, rfl⟩ ih
  refine ok_go 1 ?_
  refine sy_test 0 (decide (Int.ofNat x < Int.ofNat N)) (by kernel_rfl) ?_ ?_
  · intro hlt
    have hlt := ok_nat hlt
    have hc := ce_lt f x N hp0 N (Nat.le_refl _)
    refine ok_go 0 ?_
    refine sy_call 0 (by kernel_rfl) (ce1 x hlt) ?_
    refine ok_go 0 ?_
    refine sy_call 0 (by kernel_rfl) (co (ce f x N N) g (by omega)) ?_
    refine ok_go 2 ?_
    exact sy_next 0 _ g (by kernel_rfl) (by kernel_rfl) (ih (x + 1) _ g ⟨hlt, rfl⟩ (show N - (x + 1) < N - x by omega) ⟨by kernel_rfl, (by kernel_rfl : _ = I (if cp f N x > mz (cp f N) x then cp f N x else mz (cp f N) x)).trans (by rw [max_int]; rfl), by kernel_rfl, (by kernel_rfl : _ = Value.int .i64 (IntKind.wrap .i64 (Int.ofNat (x + 1)))).trans (by rw [wrap_nat (by omega)]), trivial⟩)
  · intro hlt
    have hlt := no_nat hlt
    have hxN : x = N := by omega
    subst hxN
    refine ok_go 0 ?_
    exact sy_done 0 (v := .tuple #[I (mz (cp f x) x), J 0]) (h := g) (by kernel_rfl) ⟨rfl, rfl⟩
theorem rcerts_of (f : Nat → Bool) (n : Nat) (hn : n ≤ 6) (lf m : Nat) (hlf : 300 ≤ lf) (oo : ∀ z h, z < 64 → Ev lf m 71 [J z] h = some (J (pop z), h)) (b0 c : Nat) (h : Hp)
    (ce1 : ∀ x, x < 2 ^ n → Ev lf m 49 [.slice (some ⟨b0, 0, none⟩) (2 ^ n) c, J x] h = some (J (ce f x (2 ^ n) (2 ^ n)), h)) :
    Ev lf (m + 1) 47 [.slice (some ⟨b0, 0, none⟩) (2 ^ n) c] h = some (I (mz (cp f (2 ^ n)) (2 ^ n)), h) := by
  have hp64 : 2 ^ n ≤ 64 := Nat.pow_le_pow_right (n := 2) (by decide) hn
  have hp0 : 1 ≤ 2 ^ n := Nat.one_le_two_pow
  refine fn_eq ?_
  generalize hN : 2 ^ n = N at *
  refine ok_go 0 ?_
  refine sy_loop 0 lf h (α := Nat) (fun x => [(0, .slice (some ⟨b0, 0, none⟩) N c), (3, I (mz (cp f N) x)), (4, J x)]) (fun x g => x ≤ N ∧ g = h) (fun x _ => N - x) 0 (by kernel_rfl) (by kernel_rfl) ⟨by kernel_rfl, by kernel_rfl, by kernel_rfl, trivial⟩ (by omega) ⟨Nat.zero_le _, rfl⟩ ?_
  rintro m1 x f1 g ⟨hx, rfl⟩ ih
  refine ok_go 2 ?_
  refine sy_test 0 (decide (Int.ofNat x < Int.ofNat N)) (by kernel_rfl) ?_ ?_
  · intro hlt
    have hlt := ok_nat hlt
    have hc := ce_lt f x N hp0 N (Nat.le_refl _)
    refine ok_go 0 ?_
    refine sy_call 0 (by kernel_rfl) (ce1 x hlt) ?_
    refine ok_go 0 ?_
    refine sy_call 0 (by kernel_rfl) (oo (ce f x N N) g (by omega)) ?_
    refine ok_go 2 ?_
    exact sy_next 0 _ g (by kernel_rfl) (by kernel_rfl) (ih (x + 1) _ g ⟨hlt, rfl⟩ (show N - (x + 1) < N - x by omega) ⟨by kernel_rfl, (by kernel_rfl : _ = I (if cp f N x > mz (cp f N) x then cp f N x else mz (cp f N) x)).trans (by rw [max_int]; rfl), (by kernel_rfl : _ = Value.int .i64 (IntKind.wrap .i64 (Int.ofNat (x + 1)))).trans (by rw [wrap_nat (by omega)]), trivial⟩)
  · intro hlt
    have hlt := no_nat hlt
    have hxN : x = N := by omega
    subst hxN
    refine ok_go 0 ?_
    exact sy_done 0 (v := I (mz (cp f x) x)) (h := g) (by kernel_rfl) ⟨rfl, rfl⟩
/-- A certificate at an input. -/
theorem Cert_of (f : Nat → Bool) (n x lf m : Nat) (ck : ∀ a c h, Ev lf m 54 [.slice a (2 ^ n) c] h = some (J 0, h)) (b0 c : Nat) (h : Hp) (hx : x < 2 ^ n)
    (ce1 : Ev lf m 78 [.slice (some ⟨b0, 0, none⟩) (2 ^ n) c, J x] h = some (J (ce f x (2 ^ n) (2 ^ n)), h)) :
    Ev lf (m + 1) 48 [.slice (some ⟨b0, 0, none⟩) (2 ^ n) c, J x] h = some (.tuple #[J (ce f x (2 ^ n) (2 ^ n)), J 0], h) := by
  have ck := ck (some ⟨b0, 0, none⟩) c h
  refine fn_eq ?_
  generalize hN : 2 ^ n = N at *
  refine ok_go 0 ?_
  refine sy_call 0 (by kernel_rfl) ck ?_
  refine ok_go 10 ?_
  refine sy_no 0 (b := decide (Int.ofNat x ≥ Int.ofNat N)) (by kernel_rfl) (decide_eq_false (by simp; omega)) ?_
  refine ok_go 0 ?_
  refine sy_call 0 (by kernel_rfl) ce1 ?_
  refine ok_go 0 ?_
  exact sy_done 0 (v := .tuple #[J (ce f x N N), J 0]) (h := h) (by kernel_rfl) ⟨rfl, rfl⟩
/-- There is no such input. -/
theorem Cert_no (n lf m : Nat) (x : Int) (ck : ∀ a c h, Ev lf m 54 [.slice a (2 ^ n) c] h = some (J 0, h)) (a : Option Addr) (c : Nat) (h : Hp) (hx : x < 0 ∨ (2 ^ n : Nat) ≤ x) :
    Ev lf (m + 1) 48 [.slice a (2 ^ n) c, I x] h = some (.tuple #[J 0, J 1], h) := by
  have ck := ck a c h
  refine fn_eq ?_
  generalize hN : 2 ^ n = N at *
  refine ok_go 0 ?_
  refine sy_call 0 (by kernel_rfl) ck ?_
  refine ok_go 3 ?_
  refine sy_test 0 (decide (x < 0)) (by kernel_rfl) ?_ ?_
  · intro h1
    refine ok_go 5 ?_
    exact sy_done 0 (v := .tuple #[J 0, J 1]) (h := h) (by kernel_rfl) ⟨rfl, rfl⟩
  · intro h1
    have h1 := of_decide_eq_false h1
    refine ok_go 6 ?_
    refine sy_yes 0 (b := decide (x ≥ Int.ofNat N)) (by kernel_rfl) (decide_eq_true (by
      rcases hx with h2 | h2
      · exact absurd h2 h1
      · exact h2)) ?_
    refine ok_go 0 ?_
    exact sy_done 0 (v := .tuple #[J 0, J 1]) (h := h) (by kernel_rfl) ⟨rfl, rfl⟩
end Go.Proofs.Ytnfboopfpkaeaaa
/- SeesG: contracts of functions. -/
namespace Go.Proofs.Ytnfboopfpkaeaaa
open Go Go.Eng Nim
set_option maxRecDepth 100000
set_option maxHeartbeats 4000000
/-- Whether masks are blocks at x. -/
def bl (f : Nat → Bool) (N x : Nat) : Nat → Nat → List Int → Bool
  | _, _, [] => true
  | used, last, s :: w => !(decide (s ≤ (last : Int)) || decide ((N : Int) ≤ s)) && (!(s.toNat &&& used != 0) && (!(f (x ^^^ s.toNat) == f x) && bl f N x (used ||| s.toNat) s.toNat w))
theorem or_small {a b n : Nat} (ha : a < 2 ^ n) (hb : b < 2 ^ n) : a ||| b < 2 ^ n := Nat.or_lt_two_pow ha hb
theorem isb_of (f : Nat → Bool) (n : Nat) (hn : n ≤ 6) (lf m : Nat) (hlf : 300 ≤ lf) (ck : ∀ a c h, Ev lf m 54 [.slice a (2 ^ n) c] h = some (J 0, h)) (b0 c x : Nat) (hx : x < 2 ^ n) (h : Hp) (A : ArB b0 (2 ^ n) f h)
    (w : List Int) (hw : w.length ≤ 64) (la : Option Addr) (lc : Nat) (L : Rds h (.slice la w.length lc) (w.map I)) :
    Ev lf (m + 1) 45 [.slice (some ⟨b0, 0, none⟩) (2 ^ n) c, J x, .slice la w.length lc] h = some (.bool (bl f (2 ^ n) x 0 0 w), h) := by
  have hp64 : 2 ^ n ≤ 64 := Nat.pow_le_pow_right (n := 2) (by decide) hn
  have hp0 : 1 ≤ 2 ^ n := Nat.one_le_two_pow
  have ck := ck (some ⟨b0, 0, none⟩) c h
  have hxs : ∀ s, s < 2 ^ n → x ^^^ s < 2 ^ n := fun s hs => xor_small hx hs
  have hos : ∀ a s, a < 2 ^ n → s < 2 ^ n → a ||| s < 2 ^ n := fun a s ha hs => or_small ha hs
  refine fn_eq ?_
  generalize hN : 2 ^ n = N at *
  refine ok_go 0 ?_
  refine sy_call 0 (by kernel_rfl) ck ?_
  refine ok_go 12 ?_
  refine sy_no 0 (b := decide (Int.ofNat x ≥ Int.ofNat N)) (by kernel_rfl) (decide_eq_false (by simp; omega)) ?_
  refine ok_go 1 ?_
  refine sy_loop 0 lf h (α := Nat × Nat × Nat) (fun s => [(0, .slice (some ⟨b0, 0, none⟩) N c), (1, J x), (7, J s.2.1), (8, J s.2.2), (24, .slice la w.length lc), (25, J w.length), (26, J s.1)])
    (fun s g => s.1 ≤ w.length ∧ s.2.1 < N ∧ s.2.2 < N ∧ bl f N x s.2.1 s.2.2 (w.drop s.1) = bl f N x 0 0 w ∧ g = h) (fun s _ => w.length - s.1) (0, 0, 0) (by kernel_rfl) (by kernel_rfl) ⟨by kernel_rfl, by kernel_rfl, by kernel_rfl, by kernel_rfl, by kernel_rfl, by kernel_rfl, by kernel_rfl, trivial⟩ (show w.length - 0 < lf by omega) ⟨Nat.zero_le _, hp0, hp0, rfl, rfl⟩ ?_
  rintro m1 ⟨i, u, la0⟩ f1 g ⟨hi, hu, hla, hbl, rfl⟩ ih
  dsimp only at hi hu hla hbl
  refine ok_go 1 ?_
  refine sy_test 0 (decide (Int.ofNat i < Int.ofNat w.length)) (by kernel_rfl) ?_ ?_
  · intro hlt
    have hlt := ok_nat hlt
    obtain ⟨p, e1, e2⟩ := L.read (P := Try.prog) (kd := .i64) uI zI agI (k := i) (v := I w[i]) (by simp [hlt])
    rw [List.drop_eq_getElem_cons hlt] at hbl
    generalize w[i] = s at hbl e2
    refine ok_go 0 ?_
    refine sy_load 0 (r := indexAddrOp Try.prog 50 (.slice la w.length lc) (J i)) (h' := g) (by kernel_rfl) e1 ?_
    refine ok_go 0 ?_
    refine sy_load 0 (r := loadT Try.prog g 3 p) (h' := g) (by kernel_rfl) e2 ?_
    refine ok_go 1 ?_
    have out : ∀ b, bl f N x u la0 (s :: w.drop (i + 1)) = b → b = bl f N x 0 0 w := fun b hb => hb.symm.trans hbl
    refine sy_test 0 (decide (s ≤ Int.ofNat la0)) (by kernel_rfl) ?_ ?_
    · intro h1
      refine ok_go 22 ?_
      exact sy_done 0 (v := .bool false) (h := g) (by kernel_rfl) ⟨by rw [← out false (by unfold bl; rw [show decide (s ≤ (la0 : Int)) = true from h1]; rfl)], rfl⟩
    · intro h1
      refine ok_go 6 ?_
      refine sy_test 0 (decide (s ≥ Int.ofNat N)) (by kernel_rfl) ?_ ?_
      · intro h2
        refine ok_go 17 ?_
        exact sy_done 0 (v := .bool false) (h := g) (by kernel_rfl) ⟨by rw [← out false (by unfold bl; rw [show decide ((N : Int) ≤ s) = true from h2, Bool.or_true]; rfl)], rfl⟩
      · intro h2
        have h1' : ¬ s ≤ (la0 : Int) := of_decide_eq_false h1
        have h2' : ¬ (N : Int) ≤ s := of_decide_eq_false h2
        obtain ⟨k, rfl⟩ : ∃ k : Nat, s = Int.ofNat k := ⟨s.toNat, by simp; omega⟩
        have hkN : k < N := by simp at h2'; omega
        have hk0 : la0 < k := by simp at h1'; omega
        have hub := out _ (by unfold bl; rw [show decide (Int.ofNat k ≤ (la0 : Int)) = false from h1, show decide ((N : Int) ≤ Int.ofNat k) = false from h2])
        rw [show (Int.ofNat k).toNat = k from rfl] at hub
        have hx' := hxs k hkN
        have hxor : xorI (Int.ofNat x) (Int.ofNat k) = Int.ofNat (x ^^^ k) := xor_nat (by omega) (by omega)
        refine ok_go 6 ?_
        refine sy_test 0 (andI (Int.ofNat k) (Int.ofNat u) != 0) (by kernel_rfl) ?_ ?_
        · intro h3
          rw [and_nat (by omega)] at h3
          have h3 : (k &&& u != 0) = true := (ne_int _ 0).symm.trans h3
          refine ok_go 12 ?_
          exact sy_done 0 (v := .bool false) (h := g) (by kernel_rfl) ⟨by rw [← hub, h3]; rfl, rfl⟩
        · intro h3
          rw [and_nat (by omega)] at h3
          have h3 : (k &&& u != 0) = false := (ne_int _ 0).symm.trans h3
          refine ok_go 5 ?_
          refine sy_load 0 (r := indexAddrOp Try.prog 27 (.slice (some ⟨b0, 0, none⟩) N c) (.int .i64 (xorI (Int.ofNat x) (Int.ofNat k)))) (h' := g) (by kernel_rfl) (by rw [hxor]; exact idxB hx') ?_
          refine ok_go 1 ?_
          refine sy_load 0 (r := loadT Try.prog g 4 (ptr b0 (x ^^^ k))) (h' := g) (by kernel_rfl) (A.read hx') ?_
          refine ok_go 3 ?_
          refine sy_load 0 (r := indexAddrOp Try.prog 27 (.slice (some ⟨b0, 0, none⟩) N c) (J x)) (h' := g) (by kernel_rfl) (idxB hx) ?_
          refine ok_go 1 ?_
          refine sy_load 0 (r := loadT Try.prog g 4 (ptr b0 x)) (h' := g) (by kernel_rfl) (A.read hx) ?_
          refine ok_go 3 ?_
          refine sy_test 0 (f (x ^^^ k) == f x) (by kernel_rfl) ?_ ?_
          · intro h4
            refine ok_go 0 ?_
            exact sy_done 0 (v := .bool false) (h := g) (by kernel_rfl) ⟨by rw [← hub, h3, h4]; rfl, rfl⟩
          · intro h4
            have hor : orI (Int.ofNat u) (Int.ofNat k) = Int.ofNat (u ||| k) := or_nat (by omega) (by omega)
            refine ok_go 2 ?_
            exact sy_next 0 _ g (by kernel_rfl) (by kernel_rfl) (ih (i + 1, u ||| k, k) _ g ⟨hlt, hos u k hu hkN, hkN, by rw [← hub, h3, h4]; rfl, rfl⟩ (show w.length - (i + 1) < w.length - i by omega) ⟨by kernel_rfl, by kernel_rfl, (by kernel_rfl : _ = Value.int .i64 (orI (Int.ofNat u) (Int.ofNat k))).trans (by rw [hor]), by kernel_rfl, by kernel_rfl, by kernel_rfl, (by kernel_rfl : _ = Value.int .i64 (IntKind.wrap .i64 (Int.ofNat (i + 1)))).trans (by rw [wrap_nat (by omega)]), trivial⟩)
  · intro hlt
    have hlt := no_nat hlt
    have hiN : i = w.length := by omega
    rw [hiN, List.drop_length] at hbl
    refine ok_go 0 ?_
    exact sy_done 0 (v := .bool true) (h := g) (by kernel_rfl) ⟨by rw [← hbl]; rfl, rfl⟩
end Go.Proofs.Ytnfboopfpkaeaaa
