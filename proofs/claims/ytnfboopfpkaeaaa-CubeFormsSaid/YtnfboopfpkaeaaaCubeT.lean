/- CubeT: contracts of functions. -/
import Derived.Test.YtnfboopfpkaeaaaProg
import Derived.KernelRfl
import Derived.Test.YtnfboopfpkaeaaaSyB
import Derived.Test.YtnfboopfpkaeaaaCubeA
namespace Go.Proofs.Ytnfboopfpkaeaaa
open Go Go.Eng Nim
set_option maxRecDepth 100000
set_option maxHeartbeats 4000000
/-- The lower of a pair. -/
def low (i y : Nat) : Nat := match y.testBit i with | true => y ^^^ 2 ^ i | false => y
/-- The vector when the pairs of which the lower is less than x are turned. -/
def mid {α : Type} (s : α → α → α × α) (i x : Nat) (v : Nat → α) : Nat → α := fun y => if low i y < x then stg s i v y else v y
theorem low_f {i y : Nat} (h : y.testBit i = false) : low i y = y := by unfold low; rw [h]
theorem low_t {i y : Nat} (h : y.testBit i = true) : low i y = y ^^^ 2 ^ i := by unfold low; rw [h]
theorem low_bit (i y : Nat) : (low i y).testBit i = false := by
  cases h : y.testBit i
  · rw [low_f h, h]
  · rw [low_t h, tb_same, h]; rfl
theorem low_lt {n i y : Nat} (hi : i < n) (hy : y < 2 ^ n) : low i y < 2 ^ n := by
  cases h : y.testBit i
  · rw [low_f h]; exact hy
  · rw [low_t h]; exact flip_lt hi hy
theorem mid_zero {α : Type} (s : α → α → α × α) (i : Nat) (v : Nat → α) : mid s i 0 v = v := by
  funext y
  unfold mid
  rw [if_neg (Nat.not_lt_zero _)]
theorem mid_end {α : Type} (s : α → α → α × α) {n i : Nat} (hi : i < n) (v : Nat → α) {y : Nat} (hy : y < 2 ^ n) : mid s i (2 ^ n) v y = stg s i v y := if_pos (low_lt hi hy)
theorem mid_skip {α : Type} (s : α → α → α × α) {i x : Nat} (h : x.testBit i = true) (v : Nat → α) : mid s i (x + 1) v = mid s i x v := by
  funext y
  unfold mid
  have : low i y ≠ x := fun hc => by have := low_bit i y; rw [hc, h] at this; cases this
  by_cases hl : low i y < x
  · rw [if_pos hl, if_pos (by omega)]
  · rw [if_neg hl, if_neg (by omega)]
theorem mid_lo {α : Type} (s : α → α → α × α) {i x : Nat} (h : x.testBit i = false) (v : Nat → α) : mid s i x v x = v x := by
  unfold mid
  rw [low_f h, if_neg (Nat.lt_irrefl _)]
theorem mid_hi {α : Type} (s : α → α → α × α) {i x : Nat} (h : x.testBit i = false) (v : Nat → α) : mid s i x v (x ^^^ 2 ^ i) = v (x ^^^ 2 ^ i) := by
  unfold mid
  rw [low_t (by rw [tb_same, h]; rfl), xx, if_neg (Nat.lt_irrefl _)]
theorem mid_next {α : Type} (s : α → α → α × α) {i x : Nat} (h : x.testBit i = false) (v : Nat → α) (y : Nat) : (if y = x ^^^ 2 ^ i then (s (v x) (v (x ^^^ 2 ^ i))).2 else if y = x then (s (v x) (v (x ^^^ 2 ^ i))).1 else mid s i x v y) = mid s i (x + 1) v y := by
  have ht : (x ^^^ 2 ^ i).testBit i = true := by rw [tb_same, h]; rfl
  by_cases h1 : y = x ^^^ 2 ^ i
  · rw [if_pos h1, h1]
    unfold mid
    rw [low_t ht, xx, if_pos (Nat.lt_succ_self _), stg_t ht, xx]
  · rw [if_neg h1]
    by_cases h2 : y = x
    · rw [if_pos h2, h2]
      unfold mid
      rw [low_f h, if_pos (Nat.lt_succ_self _), stg_f h]
    · rw [if_neg h2]
      have : low i y ≠ x := by
        intro hc
        cases hb : y.testBit i
        · rw [low_f hb] at hc; exact h2 hc
        · rw [low_t hb] at hc
          exact h1 (by rw [← hc, xx])
      unfold mid
      by_cases hl : low i y < x
      · rw [if_pos hl, if_pos (by omega)]
      · rw [if_neg hl, if_neg (by omega)]

/-- Ints in block b. -/
structure ArI (b N : Nat) (v : Nat → Int) (h : Hp) : Prop where
  lt : b < h.next
  get : ∃ opn, h.get b = some (.cells (cellsF N fun x => I (v x)) 3 opn)
theorem uI : Try.prog.underlying 50 = some (.slice 3) := by kernel_rfl
theorem zI : sizeT Try.prog 3 = some 1 := by kernel_rfl
theorem agI : isAggT Try.prog 3 = some false := by kernel_rfl
theorem idxI {b N c v : Nat} (hv : v < N) : indexAddrOp Try.prog 50 (.slice (some ⟨b, 0, none⟩) N c) (J v) = some (ptr b v) := by
  rw [idxSl uI zI hv, Nat.zero_add, Nat.mul_one]
theorem ArI.read {b N : Nat} {v : Nat → Int} {h : Hp} (H : ArI b N v h) {x : Nat} (hx : x < N) : loadT Try.prog h 3 (ptr b x) = some (I (v x)) := by
  obtain ⟨o, e⟩ := H.get
  exact load1 agI e (cellsF_get hx)
theorem ArI.store {b N : Nat} {v : Nat → Int} {h : Hp} (H : ArI b N v h) {x : Nat} (hx : x < N) (z : Int) : ∃ g, storeT Try.prog h 3 (ptr b x) (I z) = some g ∧ ArI b N (fun y => if y = x then z else v y) g ∧ g.next = h.next ∧ ∀ j, j ≠ b → g.get j = h.get j := by
  obtain ⟨o, e⟩ := H.get
  refine ⟨_, store1 zI rfl e (by rw [cellsF_len]; exact hx), ⟨H.lt, o, ?_⟩, rfl, fun j hj => Hp.get_put_ne hj⟩
  rw [cellsF_set, get_put]
  refine congrArg (fun l => some (AObj.cells l 3 o)) (cellsF_congr fun y _ => ?_)
  show (if y = x then I z else I (v y)) = I (if y = x then z else v y)
  by_cases hy : y = x
  · rw [if_pos hy, if_pos hy]
  · rw [if_neg hy, if_neg hy]
theorem ArI.congr {b N : Nat} {v v' : Nat → Int} {h : Hp} (H : ArI b N v h) (e : ∀ x, x < N → v x = v' x) : ArI b N v' h := by
  obtain ⟨o, e'⟩ := H.get
  exact ⟨H.lt, o, by rw [e']; exact congrArg (fun l => some (AObj.cells l 3 o)) (cellsF_congr fun x hx => by rw [e x hx])⟩
theorem ArI.rds {b N : Nat} {v : Nat → Int} {h : Hp} (H : ArI b N v h) (c : Nat) : Rds h (.slice (some ⟨b, 0, none⟩) N c) (cellsF N fun x => I (v x)) := by
  obtain ⟨o, e⟩ := H.get
  exact rd_cells H.lt e
theorem turnI (k : Nat) (s : Int → Int → Int × Int) (n : Nat) (hn : n ≤ 6) (Bd : Int → Prop) (v : Nat → Int) (hB : ∀ i x, i ≤ n → Bd (trn s i v x)) (lf m : Nat) (hlf : 300 ≤ lf) (h : Hp)
    (st : ∀ a b h, Bd a → Bd b → Ev lf m k [I a, I b] h = some (.tuple #[I (s a b).1, I (s a b).2], h)) (b c : Nat) (A : ArI b (2 ^ n) v h) :
    ∃ x h', Ev lf (m+1) 68 [.slice (some ⟨b, 0, none⟩) (2 ^ n) c, .func (.func k) #[] #[]] h = some (x, h') ∧ x = .tuple #[] ∧ ArI b (2 ^ n) (trn s n v) h' ∧ h'.next = h.next ∧ ∀ j, j ≠ b → h'.get j = h.get j := by
  have hp64 : 2 ^ n ≤ 64 := Nat.pow_le_pow_right (n := 2) (by decide) hn
  refine fnS_ok (Q := fun x h' => x = .tuple #[] ∧ ArI b (2 ^ n) (trn s n v) h' ∧ h'.next = h.next ∧ ∀ j, j ≠ b → h'.get j = h.get j) ?_
  generalize hN : 2 ^ n = N at *
  refine ok_go 0 ?_
  refine sy_loop 0 lf h (α := Nat) (fun i => [(0, .slice (some ⟨b, 0, none⟩) N c), (1, .func (.func k) #[] #[]), (4, J (2 ^ i))]) (fun i g => i ≤ n ∧ ArI b N (trn s i v) g ∧ g.next = h.next ∧ ∀ j, j ≠ b → g.get j = h.get j) (fun i _ => n - i) 0 (by kernel_rfl) (by kernel_rfl) ⟨by kernel_rfl, by kernel_rfl, by kernel_rfl, trivial⟩ (show n - 0 < lf by omega) ⟨Nat.zero_le _, A, rfl, fun _ _ => rfl⟩ ?_
  rintro m1 i f1 g1 ⟨hi, A1, n1, o1⟩ ih1
  have hpi : 2 ^ i ≤ 64 := Nat.le_trans (Nat.pow_le_pow_right (n := 2) (by decide) hi) (by omega)
  refine ok_go 2 ?_
  refine sy_test 0 (decide (Int.ofNat (2 ^ i) < Int.ofNat N)) (by kernel_rfl) ?_ ?_
  · intro hlt
    have hlt := ok_nat hlt
    have hin : i < n := by
      rw [← hN] at hlt
      exact (Nat.pow_lt_pow_iff_right (by decide)).1 hlt
    generalize hv : trn s i v = w at A1
    have hBw : ∀ x, Bd (w x) := fun x => by rw [← hv]; exact hB i x hi
    have hnext : trn s (i + 1) v = stg s i w := by rw [← hv]; rfl
    generalize hP : 2 ^ i = P at *
    refine ok_go 1 ?_
    refine sy_loop 0 lf g1 (α := Nat) (fun x => [(0, .slice (some ⟨b, 0, none⟩) N c), (1, .func (.func k) #[] #[]), (4, J P), (12, .slice (some ⟨b, 0, none⟩) N c), (13, J N), (14, J x)]) (fun x g => x ≤ N ∧ ArI b N (mid s i x w) g ∧ g.next = h.next ∧ ∀ j, j ≠ b → g.get j = h.get j) (fun x _ => N - x) 0 (by kernel_rfl) (by kernel_rfl) ⟨by kernel_rfl, by kernel_rfl, by kernel_rfl, by kernel_rfl, by kernel_rfl, by kernel_rfl, trivial⟩ (show N - 0 < lf by omega) ⟨Nat.zero_le _, by rw [mid_zero]; exact A1, n1, o1⟩ ?_
    rintro m2 x f2 g2 ⟨hx, A2, n2, o2⟩ ih2
    refine ok_go 1 ?_
    refine sy_test 0 (decide (Int.ofNat x < Int.ofNat N)) (by kernel_rfl) ?_ ?_
    · intro hxl
      have hxl := ok_nat hxl
      have hP63 : P < 2 ^ 63 := by omega
      have hx63 : x < 2 ^ 63 := by omega
      refine ok_go 2 ?_
      refine sy_test 0 (andI (Int.ofNat x) (Int.ofNat P) == 0) (by kernel_rfl) ?_ ?_
      · intro hb
        have hb : x.testBit i = false := by
          rw [and_nat hx63] at hb
          have hb : Int.ofNat (x &&& P) = Int.ofNat 0 := eq_of_beq hb
          rw [← hP] at hb
          exact (and_bit x i).1 (Int.ofNat.inj hb)
        have hor : orI (Int.ofNat x) (Int.ofNat P) = Int.ofNat (x ^^^ P) := by
          rw [or_nat hx63 hP63, ← hP, or_bit hb]
        have hfl : x ^^^ P < N := by
          rw [← hN, ← hP]
          exact flip_lt hin (by rw [hN]; exact hxl)
        have r1 := A2.read hxl
        rw [mid_lo s hb w] at r1
        have r2 := A2.read hfl
        rw [← hP, mid_hi s hb w, hP] at r2
        obtain ⟨g3, e3, A3, n3, o3⟩ := A2.store hxl (s (w x) (w (x ^^^ P))).1
        obtain ⟨g4, e4, A4, n4, o4⟩ := A3.store hfl (s (w x) (w (x ^^^ P))).2
        refine ok_go 1 ?_
        refine sy_load 0 (r := indexAddrOp Try.prog 50 (.slice (some ⟨b, 0, none⟩) N c) (J x)) (h' := g2) (by kernel_rfl) (idxI hxl) ?_
        refine ok_go 0 ?_
        refine sy_load 0 (r := loadT Try.prog g2 3 (ptr b x)) (h' := g2) (by kernel_rfl) r1 ?_
        refine ok_go 1 ?_
        refine sy_load 0 (r := indexAddrOp Try.prog 50 (.slice (some ⟨b, 0, none⟩) N c) (.int .i64 (orI (Int.ofNat x) (Int.ofNat P)))) (h' := g2) (by kernel_rfl) (by rw [hor]; exact idxI hfl) ?_
        refine ok_go 0 ?_
        refine sy_load 0 (r := loadT Try.prog g2 3 (ptr b (x ^^^ P))) (h' := g2) (by kernel_rfl) r2 ?_
        refine ok_go 0 ?_
        refine sy_call 0 (by kernel_rfl) (st (w x) (w (x ^^^ P)) g2 (hBw _) (hBw _)) ?_
        refine ok_go 2 ?_
        refine sy_load 0 (r := indexAddrOp Try.prog 50 (.slice (some ⟨b, 0, none⟩) N c) (J x)) (h' := g2) (by kernel_rfl) (idxI hxl) ?_
        refine ok_go 0 ?_
        refine sy_store 0 (r := storeT Try.prog g2 3 (ptr b x) (I (s (w x) (w (x ^^^ P))).1)) (by kernel_rfl) e3 ?_
        refine ok_go 0 ?_
        refine sy_load 0 (r := indexAddrOp Try.prog 50 (.slice (some ⟨b, 0, none⟩) N c) (.int .i64 (orI (Int.ofNat x) (Int.ofNat P)))) (h' := g3) (by kernel_rfl) (by rw [hor]; exact idxI hfl) ?_
        refine ok_go 0 ?_
        refine sy_store 0 (r := storeT Try.prog g3 3 (ptr b (x ^^^ P)) (I (s (w x) (w (x ^^^ P))).2)) (by kernel_rfl) e4 ?_
        refine ok_go 1 ?_
        exact sy_next 0 _ g4 (by kernel_rfl) (by kernel_rfl) (ih2 (x + 1) _ g4 ⟨hxl, A4.congr fun y _ => by rw [← hP]; exact mid_next s hb w y, by rw [n4, n3, n2], fun j hj => (o4 j hj).trans ((o3 j hj).trans (o2 j hj))⟩ (show N - (x + 1) < N - x by omega) ⟨by kernel_rfl, by kernel_rfl, by kernel_rfl, by kernel_rfl, by kernel_rfl, (by kernel_rfl : _ = Value.int .i64 (IntKind.wrap .i64 (Int.ofNat (x + 1)))).trans (by rw [wrap_nat (by omega)]), trivial⟩)
      · intro hb
        have hb : x.testBit i = true := by
          rw [and_nat hx63] at hb
          cases hc : x.testBit i with
          | true => rfl
          | false =>
            rw [← hP, (and_bit x i).2 hc] at hb
            cases hb
        refine ok_go 1 ?_
        exact sy_next 0 _ g2 (by kernel_rfl) (by kernel_rfl) (ih2 (x + 1) _ g2 ⟨hxl, by rw [mid_skip s hb]; exact A2, n2, o2⟩ (show N - (x + 1) < N - x by omega) ⟨by kernel_rfl, by kernel_rfl, by kernel_rfl, by kernel_rfl, by kernel_rfl, (by kernel_rfl : _ = Value.int .i64 (IntKind.wrap .i64 (Int.ofNat (x + 1)))).trans (by rw [wrap_nat (by omega)]), trivial⟩)
    · intro hxl
      have hxl := no_nat hxl
      have hxN : x = N := by omega
      rw [hxN] at A2
      have A5 : ArI b N (trn s (i + 1) v) g2 := by
        rw [hnext]
        refine A2.congr fun y hy => ?_
        rw [← hN] at hy ⊢
        exact mid_end s hin w hy
      refine ok_go 1 ?_
      exact sy_next 0 _ g2 (by kernel_rfl) (by kernel_rfl) (ih1 (i + 1) _ g2 ⟨hin, A5, n2, o2⟩ (show n - (i + 1) < n - i by omega) ⟨by kernel_rfl, by kernel_rfl, (by kernel_rfl : _ = Value.int .i64 (IntKind.wrap .i64 (Int.ofNat (P * 2)))).trans (by rw [wrap_nat (by omega), ← hP, ← Nat.pow_succ]), trivial⟩)
  · intro hlt
    have hlt := no_nat hlt
    have hin : i = n := by
      rcases Nat.lt_or_ge i n with hc | hc
      · have := (Nat.pow_lt_pow_iff_right (a := 2) (by decide)).2 hc
        omega
      · omega
    subst hin
    refine ok_go 0 ?_
    exact sy_done 0 (v := .tuple #[]) (h := g1) (by kernel_rfl) ⟨rfl, A1, n1, o1⟩

/-- Bools in block b. -/
structure ArB (b N : Nat) (v : Nat → Bool) (h : Hp) : Prop where
  lt : b < h.next
  get : ∃ opn, h.get b = some (.cells (cellsF N fun x => Value.bool (v x)) 4 opn)
theorem uB : Try.prog.underlying 27 = some (.slice 4) := by kernel_rfl
theorem zB : sizeT Try.prog 4 = some 1 := by kernel_rfl
theorem agB : isAggT Try.prog 4 = some false := by kernel_rfl
theorem idxB {b N c v : Nat} (hv : v < N) : indexAddrOp Try.prog 27 (.slice (some ⟨b, 0, none⟩) N c) (J v) = some (ptr b v) := by
  rw [idxSl uB zB hv, Nat.zero_add, Nat.mul_one]
theorem ArB.read {b N : Nat} {v : Nat → Bool} {h : Hp} (H : ArB b N v h) {x : Nat} (hx : x < N) : loadT Try.prog h 4 (ptr b x) = some (Value.bool (v x)) := by
  obtain ⟨o, e⟩ := H.get
  exact load1 agB e (cellsF_get hx)
theorem ArB.store {b N : Nat} {v : Nat → Bool} {h : Hp} (H : ArB b N v h) {x : Nat} (hx : x < N) (z : Bool) : ∃ g, storeT Try.prog h 4 (ptr b x) (Value.bool z) = some g ∧ ArB b N (fun y => if y = x then z else v y) g ∧ g.next = h.next ∧ ∀ j, j ≠ b → g.get j = h.get j := by
  obtain ⟨o, e⟩ := H.get
  refine ⟨_, store1 zB rfl e (by rw [cellsF_len]; exact hx), ⟨H.lt, o, ?_⟩, rfl, fun j hj => Hp.get_put_ne hj⟩
  rw [cellsF_set, get_put]
  refine congrArg (fun l => some (AObj.cells l 4 o)) (cellsF_congr fun y _ => ?_)
  show (if y = x then Value.bool z else Value.bool (v y)) = Value.bool (if y = x then z else v y)
  by_cases hy : y = x
  · rw [if_pos hy, if_pos hy]
  · rw [if_neg hy, if_neg hy]
theorem ArB.congr {b N : Nat} {v v' : Nat → Bool} {h : Hp} (H : ArB b N v h) (e : ∀ x, x < N → v x = v' x) : ArB b N v' h := by
  obtain ⟨o, e'⟩ := H.get
  exact ⟨H.lt, o, by rw [e']; exact congrArg (fun l => some (AObj.cells l 4 o)) (cellsF_congr fun x hx => by rw [e x hx])⟩
theorem ArB.rds {b N : Nat} {v : Nat → Bool} {h : Hp} (H : ArB b N v h) (c : Nat) : Rds h (.slice (some ⟨b, 0, none⟩) N c) (cellsF N fun x => Value.bool (v x)) := by
  obtain ⟨o, e⟩ := H.get
  exact rd_cells H.lt e
theorem turnB (k : Nat) (s : Bool → Bool → Bool × Bool) (n : Nat) (hn : n ≤ 6) (Bd : Bool → Prop) (v : Nat → Bool) (hB : ∀ i x, i ≤ n → Bd (trn s i v x)) (lf m : Nat) (hlf : 300 ≤ lf) (h : Hp)
    (st : ∀ a b h, Bd a → Bd b → Ev lf m k [Value.bool a, Value.bool b] h = some (.tuple #[Value.bool (s a b).1, Value.bool (s a b).2], h)) (b c : Nat) (A : ArB b (2 ^ n) v h) :
    ∃ x h', Ev lf (m+1) 63 [.slice (some ⟨b, 0, none⟩) (2 ^ n) c, .func (.func k) #[] #[]] h = some (x, h') ∧ x = .tuple #[] ∧ ArB b (2 ^ n) (trn s n v) h' ∧ h'.next = h.next ∧ ∀ j, j ≠ b → h'.get j = h.get j := by
  have hp64 : 2 ^ n ≤ 64 := Nat.pow_le_pow_right (n := 2) (by decide) hn
  refine fnS_ok (Q := fun x h' => x = .tuple #[] ∧ ArB b (2 ^ n) (trn s n v) h' ∧ h'.next = h.next ∧ ∀ j, j ≠ b → h'.get j = h.get j) ?_
  generalize hN : 2 ^ n = N at *
  refine ok_go 0 ?_
  refine sy_loop 0 lf h (α := Nat) (fun i => [(0, .slice (some ⟨b, 0, none⟩) N c), (1, .func (.func k) #[] #[]), (4, J (2 ^ i))]) (fun i g => i ≤ n ∧ ArB b N (trn s i v) g ∧ g.next = h.next ∧ ∀ j, j ≠ b → g.get j = h.get j) (fun i _ => n - i) 0 (by kernel_rfl) (by kernel_rfl) ⟨by kernel_rfl, by kernel_rfl, by kernel_rfl, trivial⟩ (show n - 0 < lf by omega) ⟨Nat.zero_le _, A, rfl, fun _ _ => rfl⟩ ?_
  rintro m1 i f1 g1 ⟨hi, A1, n1, o1⟩ ih1
  have hpi : 2 ^ i ≤ 64 := Nat.le_trans (Nat.pow_le_pow_right (n := 2) (by decide) hi) (by omega)
  refine ok_go 2 ?_
  refine sy_test 0 (decide (Int.ofNat (2 ^ i) < Int.ofNat N)) (by kernel_rfl) ?_ ?_
  · intro hlt
    have hlt := ok_nat hlt
    have hin : i < n := by
      rw [← hN] at hlt
      exact (Nat.pow_lt_pow_iff_right (by decide)).1 hlt
    generalize hv : trn s i v = w at A1
    have hBw : ∀ x, Bd (w x) := fun x => by rw [← hv]; exact hB i x hi
    have hnext : trn s (i + 1) v = stg s i w := by rw [← hv]; rfl
    generalize hP : 2 ^ i = P at *
    refine ok_go 1 ?_
    refine sy_loop 0 lf g1 (α := Nat) (fun x => [(0, .slice (some ⟨b, 0, none⟩) N c), (1, .func (.func k) #[] #[]), (4, J P), (12, .slice (some ⟨b, 0, none⟩) N c), (13, J N), (14, J x)]) (fun x g => x ≤ N ∧ ArB b N (mid s i x w) g ∧ g.next = h.next ∧ ∀ j, j ≠ b → g.get j = h.get j) (fun x _ => N - x) 0 (by kernel_rfl) (by kernel_rfl) ⟨by kernel_rfl, by kernel_rfl, by kernel_rfl, by kernel_rfl, by kernel_rfl, by kernel_rfl, trivial⟩ (show N - 0 < lf by omega) ⟨Nat.zero_le _, by rw [mid_zero]; exact A1, n1, o1⟩ ?_
    rintro m2 x f2 g2 ⟨hx, A2, n2, o2⟩ ih2
    refine ok_go 1 ?_
    refine sy_test 0 (decide (Int.ofNat x < Int.ofNat N)) (by kernel_rfl) ?_ ?_
    · intro hxl
      have hxl := ok_nat hxl
      have hP63 : P < 2 ^ 63 := by omega
      have hx63 : x < 2 ^ 63 := by omega
      refine ok_go 2 ?_
      refine sy_test 0 (andI (Int.ofNat x) (Int.ofNat P) == 0) (by kernel_rfl) ?_ ?_
      · intro hb
        have hb : x.testBit i = false := by
          rw [and_nat hx63] at hb
          have hb : Int.ofNat (x &&& P) = Int.ofNat 0 := eq_of_beq hb
          rw [← hP] at hb
          exact (and_bit x i).1 (Int.ofNat.inj hb)
        have hor : orI (Int.ofNat x) (Int.ofNat P) = Int.ofNat (x ^^^ P) := by
          rw [or_nat hx63 hP63, ← hP, or_bit hb]
        have hfl : x ^^^ P < N := by
          rw [← hN, ← hP]
          exact flip_lt hin (by rw [hN]; exact hxl)
        have r1 := A2.read hxl
        rw [mid_lo s hb w] at r1
        have r2 := A2.read hfl
        rw [← hP, mid_hi s hb w, hP] at r2
        obtain ⟨g3, e3, A3, n3, o3⟩ := A2.store hxl (s (w x) (w (x ^^^ P))).1
        obtain ⟨g4, e4, A4, n4, o4⟩ := A3.store hfl (s (w x) (w (x ^^^ P))).2
        refine ok_go 1 ?_
        refine sy_load 0 (r := indexAddrOp Try.prog 27 (.slice (some ⟨b, 0, none⟩) N c) (J x)) (h' := g2) (by kernel_rfl) (idxB hxl) ?_
        refine ok_go 0 ?_
        refine sy_load 0 (r := loadT Try.prog g2 4 (ptr b x)) (h' := g2) (by kernel_rfl) r1 ?_
        refine ok_go 1 ?_
        refine sy_load 0 (r := indexAddrOp Try.prog 27 (.slice (some ⟨b, 0, none⟩) N c) (.int .i64 (orI (Int.ofNat x) (Int.ofNat P)))) (h' := g2) (by kernel_rfl) (by rw [hor]; exact idxB hfl) ?_
        refine ok_go 0 ?_
        refine sy_load 0 (r := loadT Try.prog g2 4 (ptr b (x ^^^ P))) (h' := g2) (by kernel_rfl) r2 ?_
        refine ok_go 0 ?_
        refine sy_call 0 (by kernel_rfl) (st (w x) (w (x ^^^ P)) g2 (hBw _) (hBw _)) ?_
        refine ok_go 2 ?_
        refine sy_load 0 (r := indexAddrOp Try.prog 27 (.slice (some ⟨b, 0, none⟩) N c) (J x)) (h' := g2) (by kernel_rfl) (idxB hxl) ?_
        refine ok_go 0 ?_
        refine sy_store 0 (r := storeT Try.prog g2 4 (ptr b x) (Value.bool (s (w x) (w (x ^^^ P))).1)) (by kernel_rfl) e3 ?_
        refine ok_go 0 ?_
        refine sy_load 0 (r := indexAddrOp Try.prog 27 (.slice (some ⟨b, 0, none⟩) N c) (.int .i64 (orI (Int.ofNat x) (Int.ofNat P)))) (h' := g3) (by kernel_rfl) (by rw [hor]; exact idxB hfl) ?_
        refine ok_go 0 ?_
        refine sy_store 0 (r := storeT Try.prog g3 4 (ptr b (x ^^^ P)) (Value.bool (s (w x) (w (x ^^^ P))).2)) (by kernel_rfl) e4 ?_
        refine ok_go 1 ?_
        exact sy_next 0 _ g4 (by kernel_rfl) (by kernel_rfl) (ih2 (x + 1) _ g4 ⟨hxl, A4.congr fun y _ => by rw [← hP]; exact mid_next s hb w y, by rw [n4, n3, n2], fun j hj => (o4 j hj).trans ((o3 j hj).trans (o2 j hj))⟩ (show N - (x + 1) < N - x by omega) ⟨by kernel_rfl, by kernel_rfl, by kernel_rfl, by kernel_rfl, by kernel_rfl, (by kernel_rfl : _ = Value.int .i64 (IntKind.wrap .i64 (Int.ofNat (x + 1)))).trans (by rw [wrap_nat (by omega)]), trivial⟩)
      · intro hb
        have hb : x.testBit i = true := by
          rw [and_nat hx63] at hb
          cases hc : x.testBit i with
          | true => rfl
          | false =>
            rw [← hP, (and_bit x i).2 hc] at hb
            cases hb
        refine ok_go 1 ?_
        exact sy_next 0 _ g2 (by kernel_rfl) (by kernel_rfl) (ih2 (x + 1) _ g2 ⟨hxl, by rw [mid_skip s hb]; exact A2, n2, o2⟩ (show N - (x + 1) < N - x by omega) ⟨by kernel_rfl, by kernel_rfl, by kernel_rfl, by kernel_rfl, by kernel_rfl, (by kernel_rfl : _ = Value.int .i64 (IntKind.wrap .i64 (Int.ofNat (x + 1)))).trans (by rw [wrap_nat (by omega)]), trivial⟩)
    · intro hxl
      have hxl := no_nat hxl
      have hxN : x = N := by omega
      rw [hxN] at A2
      have A5 : ArB b N (trn s (i + 1) v) g2 := by
        rw [hnext]
        refine A2.congr fun y hy => ?_
        rw [← hN] at hy ⊢
        exact mid_end s hin w hy
      refine ok_go 1 ?_
      exact sy_next 0 _ g2 (by kernel_rfl) (by kernel_rfl) (ih1 (i + 1) _ g2 ⟨hin, A5, n2, o2⟩ (show n - (i + 1) < n - i by omega) ⟨by kernel_rfl, by kernel_rfl, (by kernel_rfl : _ = Value.int .i64 (IntKind.wrap .i64 (Int.ofNat (P * 2)))).trans (by rw [wrap_nat (by omega), ← hP, ← Nat.pow_succ]), trivial⟩)
  · intro hlt
    have hlt := no_nat hlt
    have hin : i = n := by
      rcases Nat.lt_or_ge i n with hc | hc
      · have := (Nat.pow_lt_pow_iff_right (a := 2) (by decide)).2 hc
        omega
      · omega
    subst hin
    refine ok_go 0 ?_
    exact sy_done 0 (v := .tuple #[]) (h := g1) (by kernel_rfl) ⟨rfl, A1, n1, o1⟩
end Go.Proofs.Ytnfboopfpkaeaaa
