/- All moves to positions of the value 0, heap by heap. -/
import Derived.Test.YtegcmgjldapnmaaDoorProg
import Derived.KernelRfl
import Derived.Test.YtegcmgjldapnmaaDoorSyF
import Derived.Test.YtegcmgjldapnmaaDoorWinQD
import Derived.Test.YtegcmgjldapnmaaDoorSyD
import Derived.ChangeSlices
import Derived.ChangeArms
namespace Go.Proofs.YtegcmgjldapnmaaDoor
open Go Go.Eng Nim Oct
def srtL (l : List Nat) : List Nat := l.mergeSort fun a b => decide (a ≤ b)
theorem srtL_perm (l : List Nat) : (srtL l).Perm l := List.mergeSort_perm l _
theorem srtL_pair (l : List Nat) : (srtL l).Pairwise (· ≤ ·) := by
  have := List.pairwise_mergeSort (le := fun a b => decide (a ≤ b)) (fun a b c h1 h2 => by simp at *; omega) (fun a b => by simp; omega) l
  exact this.imp fun h => of_decide_eq_true h
theorem srt_uniq {r c : List Nat} (hp : r.Perm c) (hs : r.Pairwise (· ≤ ·)) : r = srtL c :=
  List.Perm.eq_of_pairwise (fun a b _ _ h1 h2 => Nat.le_antisymm h1 h2) hs (srtL_pair c) (hp.trans (srtL_perm c).symm)
/-- The position after a move at the place i. -/
def mrow (ns : List Nat) (i : Nat) (p : Nat × Nat) : List Nat := srtL ((ns.eraseIdx i ++ [p.1, p.2]).filter nz)
def mopt (d ns : List Nat) (i : Nat) (p : Nat × Nat) : Option (List Nat) := if accR d ns ^^^ gv d (ns.getD i 0) ^^^ gv d p.1 ^^^ gv d p.2 = 0 then some (mrow ns i p) else none
def cands (d ns : List Nat) (k : Nat) : List (List Nat) := (List.range k).flatMap fun i => (ops d 0 (ns.getD i 0)).filterMap (mopt d ns i)
theorem cands_succ (d ns : List Nat) (k : Nat) : cands d ns (k + 1) = cands d ns k ++ (ops d 0 (ns.getD k 0)).filterMap (mopt d ns k) := by
  unfold cands
  rw [List.range_succ, List.flatMap_append]
  simp
theorem filt_snoc {d ns : List Nat} {i j : Nat} {l : List (Nat × Nat)} {p : Nat × Nat} (hp : l[j]? = some p) : (l.take (j + 1)).filterMap (mopt d ns i) = (l.take j).filterMap (mopt d ns i) ++ (mopt d ns i p).toList := by
  obtain ⟨hj, e⟩ := List.getElem?_eq_some_iff.1 hp
  rw [List.take_succ_eq_append_getElem hj, e, List.filterMap_append]
  refine congrArg _ ?_
  simp only [List.filterMap_cons, List.filterMap_nil]
  cases mopt d ns i p <;> rfl
end Go.Proofs.YtegcmgjldapnmaaDoor
namespace Go.Proofs.YtegcmgjldapnmaaDoor
open Go Go.Eng Nim Oct
set_option maxRecDepth 100000
set_option maxHeartbeats 8000000
theorem perm_mv {α : Type} (a b c d e f g k : α) (X Y Z : List α) : (a :: b :: (X ++ (c :: d :: e :: f :: g :: k :: (Y ++ Z)))).Perm (e :: c :: d :: f :: g :: k :: a :: b :: ((Y ++ X) ++ Z)) := by
  haveI : DecidableEq α := fun a b => Classical.propDecidable (a = b)
  rw [List.perm_iff_count]
  intro x
  simp only [List.count_cons, List.count_append]
  omega
theorem perm_row {α : Type} (a : α) (X T R O : List α) : (a :: (X ++ ((T ++ R) ++ O))).Perm (X ++ (T ++ ((a :: R) ++ O))) := by
  haveI : DecidableEq α := fun a b => Classical.propDecidable (a = b)
  rw [List.perm_iff_count]
  intro x
  simp only [List.count_cons, List.count_append]
  omega
theorem perm_rot {α : Type} (a b c : α) (l : List α) : (a :: b :: c :: l).Perm (c :: a :: b :: l) :=
  ((List.Perm.swap c b l).cons a).trans (List.Perm.swap c a (b :: l))
theorem perm_fin {α : Type} (x y b12 b10 b7 qv b3 m1 m2 : α) (D Q R : List α) : (x :: y :: b12 :: b10 :: b7 :: qv :: b3 :: m1 :: m2 :: ((D ++ Q) ++ R)).Perm ((x :: ((b7 :: qv :: b3 :: (y :: D)) ++ R)) ++ (b12 :: b10 :: m1 :: m2 :: Q)) := by
  haveI : DecidableEq α := fun a b => Classical.propDecidable (a = b)
  rw [List.perm_iff_count]
  intro x
  simp only [List.count_cons, List.count_append]
  omega
theorem kill2 {h H : Hp} {x : Nat × AObj} {i : Nat} {o : AObj} {l : List (Nat × AObj)} (W : Sto h H (x :: (i, o) :: l)) : Sto h (H.kill i) l := ((W.drop 1).perm (List.perm_append_comm (l₁ := [(i, o)]) (l₂ := l))).kill
theorem op1_len2 (g i n : Nat) : (op1 g i n).length ≤ 1 + n / 2 := by
  unfold op1
  split
  · simp
  · split
    · split <;> simp
    · rw [List.length_append]
      have h1 : (if g / 2 % 2 = 1 then [(n - (i + 1), 0)] else ([] : List (Nat × Nat))).length ≤ 1 := by split <;> simp
      have h2 : (if g / 4 % 2 = 1 then (List.range ((n - (i + 1)) / 2)).map fun a => (a + 1, n - (i + 1) - (a + 1)) else ([] : List (Nat × Nat))).length ≤ n / 2 := by
        split
        · rw [List.length_map, List.length_range]; omega
        · simp
      omega
theorem ops_len2 (n : Nat) : ∀ (d : List Nat) (i : Nat), (ops d i n).length ≤ d.length * (1 + n / 2)
  | [], _ => Nat.zero_le _
  | g :: d, i => by
    have h1 := op1_len2 g i n
    have h2 := ops_len2 n d (i + 1)
    rw [ops, List.length_append, List.length_cons, Nat.add_mul, Nat.one_mul]
    omega
theorem ops_808 {d : List Nat} (hd : d.length ≤ 8) {n : Nat} (hn : n ≤ 200) : (ops d 0 n).length ≤ 808 := by
  have h1 := ops_len2 n d 0
  have h2 : d.length * (1 + n / 2) ≤ 8 * 101 := Nat.mul_le_mul hd (by omega)
  omega
theorem cands_len {d ns : List Nat} (hd : d.length ≤ 8) (h : ∀ i, ns.getD i 0 ≤ 200) : ∀ k, (cands d ns k).length ≤ 808 * k
  | 0 => Nat.zero_le _
  | k + 1 => by
    have h1 := cands_len hd h k
    have h2 := ops_808 hd (h k)
    have h3 := List.length_filterMap_le (mopt d ns k) (ops d 0 (ns.getD k 0))
    rw [cands_succ, List.length_append]
    omega
theorem perm_mk {α : Type} (x : α) (F D R : List α) : (x :: ((F ++ D) ++ R)).Perm (D ++ (x :: (F ++ R))) := by
  haveI : DecidableEq α := fun a b => Classical.propDecidable (a = b)
  rw [List.perm_iff_count]
  intro x
  simp only [List.count_cons, List.count_append]
  omega
theorem perm_q {α : Type} (x o : α) (F R : List α) : (x :: (F ++ (R ++ [o]))).Perm (o :: (x :: (F ++ R))) := by
  haveI : DecidableEq α := fun a b => Classical.propDecidable (a = b)
  rw [List.perm_iff_count]
  intro x
  simp only [List.count_cons, List.count_append, List.count_nil]
  omega
theorem perm_mk2 {α : Type} (y x : α) (F D R : List α) : (y :: x :: ((F ++ D) ++ R)).Perm (D ++ (y :: x :: (F ++ R))) := by
  haveI : DecidableEq α := fun a b => Classical.propDecidable (a = b)
  rw [List.perm_iff_count]
  intro x
  simp only [List.count_cons, List.count_append]
  omega
theorem rds_uniq {H : Hp} {v : Value} {a b : List Value} (h1 : Rds H v a) (h2 : Rds H v b) : a = b := by
  obtain ⟨_, _, e1⟩ := h1.shape
  obtain ⟨_, _, e2⟩ := h2.shape
  have hl : a.length = b.length := by
    rw [e1] at e2
    injection e2
  have ha := (rds_elems h1).2
  have hb := (rds_elems h2).2
  rw [hl, hb] at ha
  exact (Option.some.inj ha).symm
theorem mapJ_inj {r s : List Nat} (h : r.map J = s.map J) : r = s := by
  have := congrArg (List.map fun v => (keyJ v).toNat) h
  rw [List.map_map, List.map_map] at this
  have e : ∀ l : List Nat, l.map ((fun v => (keyJ v).toNat) ∘ J) = l := fun l => (List.map_congr_left fun x _ => rfl).trans (List.map_id l)
  rwa [e, e] at this
theorem cands_row {d ns : List Nat} {k : Nat} {r : List Nat} (h : r ∈ cands d ns k) : r.length ≤ ns.length + 2 := by
  unfold cands at h
  obtain ⟨i, _, h⟩ := List.mem_flatMap.1 h
  obtain ⟨p, _, h⟩ := List.mem_filterMap.1 h
  unfold mopt at h
  split at h
  · cases h
    unfold mrow
    rw [(srtL_perm _).length_eq]
    refine Nat.le_trans (List.length_filter_le _ _) ?_
    rw [List.length_append]
    have := List.length_eraseIdx_le ns i
    simp
    omega
  · cases h
/-- What Moves comes to. -/
def MovR (h : Hp) (CS : List (List Nat)) (v : Value) (h' : Hp) : Prop :=
  h.Ext h' ∧ ∃ out ws rows P, v = .tuple #[out, J 0] ∧ Rds h' out ws ∧ ws.length = rows.length ∧ (∀ (k : Nat) (w : Value) (r : List Nat), ws[k]? = some w → rows[k]? = some r → Rds h' w (r.map J)) ∧ P.Perm CS ∧ P.Pairwise (fun a b => lexC a b ≤ 0) ∧ rows = ddK P
/-- The positions found so far. -/
def OutI (h : Hp) (F : List (Nat × AObj)) (b9 : Nat) (rws : List (List Nat)) (g : Hp) : Prop :=
  ∃ oa oc q vs Lr, Value.slice oa vs.length oc = oslV q vs.length ∧ RowsS Lr vs rws ∧ Sto h g ((b9, .cells [.slice oa vs.length oc] 31 false) :: (F ++ (Lr ++ oent q 32 vs)))
theorem mov_of (lf m : Nat) (hlf : 20000 ≤ lf) (hsm : lf < 2 ^ 62) (d : List Nat) (G : Good d) (ns : List Nat) (hn : ns.length ≤ 10) (h200 : ∀ n ∈ ns, n ≤ 200) (x : Value) (h : Hp) (hx : Rds h x (ns.map J))
    (ck : ∀ h, ∃ v h', Ev lf (m + 24) 40 [.string (strL (codeS d))] h = some (v, h') ∧ v = J 0 ∧ h.Ext h')
    (ls : ∀ n h, n ≤ 2000 → ∃ v h', Ev lf (m + 24) 41 [.string (strL (codeS d)), J n] h = some (v, h') ∧ ∃ q, v = .slice (some ⟨q, 0, none⟩) (n + 1) (2 * (n + 1) + 1) ∧ Sto h h' [(q, .cells (cellsF (n + 1) fun k => J (gv d k)) 3 true)])
    (cb : ∀ x g, Rds g x (ns.map J) → Ev lf (m + 24) 45 [x, .func (.func 46) #[] #[]] g = some (.bool false, g))
    (dg : ∀ h, ∃ v h', Ev lf (m + 24) 49 [.string (strL (codeS d))] h = some (v, h') ∧ ∃ q, v = oslV q d.length ∧ Sto h h' (oent q 3 (d.map J)))
    (mv : ∀ xa k xc n h, ∃ v h', Ev lf (m + 24) 48 [.slice xa k xc, I n] h = some (v, h') ∧ v = .func (.func 65) #[] #[ptr h.next 0, ptr (h.next + 1) 0] ∧ h'.next = h.next + 2 ∧ Sto h h' [(h.next + 1, .cells [I n] 3 false), (h.next, .cells [.slice xa k xc] 32 false)])
    (wo : ∀ x y g, Rds g x (cellsF 201 fun k => J (gv d k)) → Rds g y (ns.map J) → Ev lf (m + 24) 47 [x, y] g = some (J (accR d ns), g)) :
    ∃ v h', Ev lf (m + 25) 33 [.string (strL (codeS d)), x] h = some (v, h') ∧ MovR h (cands d ns ns.length) v h' := by
  refine fnS_ok (Q := fun v h' => MovR h (cands d ns ns.length) v h') ?_
  have W := Sto.start h
  have hgD : ∀ i, ns.getD i 0 ≤ 200 := fun i => by
    rw [List.getD_eq_getElem?_getD]
    cases hi : ns[i]? with
    | none => exact Nat.zero_le _
    | some y => exact h200 y (List.mem_of_getElem? hi)
  obtain ⟨xa, xc, hxs⟩ := hx.shape
  rw [List.length_map] at hxs
  subst hxs
  refine ow_new 0 W (AObj.cells [Value.slice xa (List.length ns) xc] 32 false) (fun q => Value.pointer (some { block := q, off := 0 })) (by kernel_rfl) fun g1 ng1 Wg1 => ?_
  have W := Wg1
  obtain ⟨y1, q1, ec1, rc1⟩ := ck (g1)
  refine sy_call 0 (by kernel_rfl) ec1 ?_
  obtain ⟨rfl, X1⟩ := rc1
  have W := W.call X1
  refine ow_load (P := Tryd.prog) (T := 32) (off := 0) 2 0 W rfl rfl (by kernel_rfl) (by kernel_rfl) ?_
  refine ok_go 2 ?_
  refine sy_no 0 (b := decide (Int.ofNat ns.length > 10)) (by kernel_rfl) (decide_eq_false (by show ¬ (10 : Int) < (ns.length : Int); omega)) ?_
  have hx1 := hx.ext W.ext
  have cb1 := cb _ q1 hx1
  refine ow_load (P := Tryd.prog) (T := 32) (off := 0) 0 0 W rfl rfl (by kernel_rfl) (by kernel_rfl) ?_
  refine sy_call 0 (by kernel_rfl) cb1 ?_
  refine ok_go 1 ?_
  obtain ⟨_, q2, e2, qv, rfl, W2⟩ := ls 200 q1 (by decide)
  have W := W.over W2
  refine sy_call 0 (by kernel_rfl) e2 ?_
  refine ow_new 0 W (AObj.cells [Value.slice none 0 0] 32 false) (fun q => Value.pointer (some { block := q, off := 0 })) (by kernel_rfl) fun u2 nu2 Wu2 => ?_
  have W := Wu2
  refine ow_store (P := Tryd.prog) (T := 32) (off := 0) (v := Value.slice (some { block := qv, off := 0 }) 201 403) 0 0 W rfl (Nat.le_of_ble_eq_true (by kernel_rfl)) (by kernel_rfl) (by first | rfl | assumption) (by kernel_rfl) fun u3 nu3 Wu3 => ?_
  have W := Wu3
  refine ow_load (P := Tryd.prog) (T := 32) (off := 0) 0 0 W rfl rfl (by kernel_rfl) (by kernel_rfl) ?_
  refine ow_load (P := Tryd.prog) (T := 32) (off := 0) 0 2 W rfl rfl (by kernel_rfl) (by kernel_rfl) ?_
  have hvr : Rds u3 (.slice (some ⟨qv, 0, none⟩) 201 403) (cellsF 201 fun k => J (gv d k)) := rd_cells (W.lt 1 rfl) (W.get 1 rfl)
  have wo1 := wo _ _ u3 hvr (hx.ext W.ext)
  refine sy_call 0 (by kernel_rfl) wo1 ?_
  generalize h.next = b3 at *
  generalize q2.next = b7 at *
  have W : Sto h u3 [(b7, .cells [.slice (some ⟨qv, 0, none⟩) 201 403] 32 false), (qv, .cells (cellsF 201 fun k => J (gv d k)) 3 true), (b3, .cells [.slice xa ns.length xc] 32 false)] := W
  refine ow_new 0 W (AObj.cells [Value.slice none 0 0] 31 false) (fun q => Value.pointer (some { block := q, off := 0 })) (by kernel_rfl) fun s2 ns2 Ws2 => ?_
  have W := Ws2
  refine ow_load (P := Tryd.prog) (T := 32) (off := 0) 0 3 W rfl rfl (by kernel_rfl) (by kernel_rfl) ?_
  refine ok_go 1 ?_
  generalize u3.next = b9 at *
  have W : Sto h s2 [(b9, .cells [.slice none 0 0] 31 false), (b7, .cells [.slice (some ⟨qv, 0, none⟩) 201 403] 32 false), (qv, .cells (cellsF 201 fun k => J (gv d k)) 3 true), (b3, .cells [.slice xa ns.length xc] 32 false)] := W
  let F0 : List (Nat × AObj) := [(b7, .cells [.slice (some ⟨qv, 0, none⟩) 201 403] 32 false), (qv, .cells (cellsF 201 fun k => J (gv d k)) 3 true), (b3, .cells [.slice xa ns.length xc] 32 false)]
  refine sy_loop 0 lf s2 (α := Nat × List Nat) (fun x => [(0, .string (strL (codeS d))), (3, ptr b3 0), (7, ptr b7 0), (8, J (accR d ns)), (9, ptr b9 0), (31, .slice xa ns.length xc), (32, J ns.length), (33, J x.1), (slotD, marksV x.2)]) (fun x g => x.1 ≤ ns.length ∧ OutI h (F0 ++ x.2.map fun d => (d, .defd false)) b9 (cands d ns x.1) g) (fun x _ => ns.length - x.1) (0, []) (by kernel_rfl) (by kernel_rfl)
    ⟨by kernel_rfl, by kernel_rfl, by kernel_rfl, by kernel_rfl, by kernel_rfl, by kernel_rfl, by kernel_rfl, by kernel_rfl, by kernel_rfl, trivial⟩ (show ns.length - 0 < lf by omega) ⟨Nat.zero_le _, none, 0, 0, [], [], rfl, ⟨rfl, fun v hv => (by cases hv), fun i rv r hv => (by cases hv)⟩, W⟩ ?_
  clear W e2 cb1 wo1 hvr
  rintro m1 ⟨i, ds⟩ F1 g ⟨hi, O⟩ ih
  dsimp only at hi O
  have hw : IntKind.wrap .i64 (Int.ofNat (i + 1)) = Int.ofNat (i + 1) := wrap_nat (by omega)
  refine ok_go 1 ?_
  refine sy_test 0 (decide (Int.ofNat i < Int.ofNat ns.length)) (by kernel_rfl) ?_ ?_
  · intro hlt
    have hlt : i < ns.length := ok_nat hlt
    obtain ⟨oa, oc, q, vs, Lr, hos, RS, W⟩ := O
    have hxg := hx.ext W.ext
    obtain ⟨p, hp1, hp2⟩ := rdN hxg hlt
    have hn2 := h200 _ (List.getElem_mem hlt)
    have hgd : ns.getD i 0 = ns[i] := by rw [List.getD_eq_getElem?_getD, List.getElem?_eq_getElem hlt]; rfl
    generalize ns[i] = n at *
    refine ok_go 0 ?_
    refine sy_load 0 (r := indexAddrOp Tryd.prog 32 (.slice xa ns.length xc) (J i)) (h' := g) (by kernel_rfl) hp1 ?_
    refine ok_go 0 ?_
    refine sy_load 0 (r := loadT Tryd.prog g 3 p) (h' := g) (by kernel_rfl) hp2 ?_
    refine ow_new 0 W (AObj.cells [Value.int IntKind.i64 (Int.ofNat 0)] 3 false) (fun q => Value.pointer (some { block := q, off := 0 })) (by kernel_rfl) fun k1 nk1 Wk1 => ?_
    have W := Wk1
    refine ow_store (P := Tryd.prog) (T := 3) (off := 0) (v := Value.int IntKind.i64 (Int.ofNat (Prod.fst (i, ds)))) 0 0 W rfl (Nat.le_of_ble_eq_true (by kernel_rfl)) (by kernel_rfl) (by first | rfl | assumption) (by kernel_rfl) fun k2 nk2 Wk2 => ?_
    have W := Wk2
    refine ow_load (P := Tryd.prog) (T := 32) (off := 0) 0 2 W rfl rfl (by kernel_rfl) (by kernel_rfl) ?_
    refine sy_load 0 (r := indexAddrOp Tryd.prog 32 (Value.slice (some { block := qv, off := 0 }) 201 403) (Value.int IntKind.i64 (Int.ofNat n))) (h' := k2) (by kernel_rfl) (idxS0 (e := 3) (by kernel_rfl) (by kernel_rfl) (by omega)) ?_
    refine ow_loadF (P := Tryd.prog) (T := 3) (off := n) 0 3 W rfl (by omega) (by kernel_rfl) (by kernel_rfl) ?_
    refine ow_new 1 W (AObj.cells [Value.int IntKind.i64 (Int.ofNat 0)] 3 false) (fun q => Value.pointer (some { block := q, off := 0 })) (by kernel_rfl) fun k3 nk3 Wk3 => ?_
    have W := Wk3
    refine ow_store (P := Tryd.prog) (T := 3) (off := 0) (v := Value.int IntKind.i64 (IntKind.wrap IntKind.i64 (Int.ofNat (BitVec.toNat (BitVec.ofInt (IntKind.bits IntKind.i64) (Int.ofNat (accR d ns)) ^^^ BitVec.ofInt (IntKind.bits IntKind.i64) (Int.ofNat (gv d n))))))) 0 0 W rfl (Nat.le_of_ble_eq_true (by kernel_rfl)) (by kernel_rfl) (by first | rfl | assumption) (by kernel_rfl) fun k4 nk4 Wk4 => ?_
    have W := Wk4
    have hs12 := accR_12 d ns fun x hx => by have := h200 x hx; omega
    have hg12 := gv_12 d n (by omega)
    have hxr : xorI (Int.ofNat (accR d ns)) (Int.ofNat (gv d n)) = Int.ofNat (accR d ns ^^^ gv d n) := xor_nat (by omega) (by omega)
    generalize g.next = b10 at *
    generalize k2.next = b12 at *
    have W : Sto h k4 ((b12, .cells [I (xorI (Int.ofNat (accR d ns)) (Int.ofNat (gv d n)))] 3 false) :: (b10, .cells [J i] 3 false) :: (b9, .cells [.slice oa vs.length oc] 31 false) :: (F0 ++ (ds.map fun d => (d, .defd false)) ++ (Lr ++ oent q 32 vs))) := W
    rw [hxr] at W
    obtain ⟨_, g5, e5, dq, hdq, W5⟩ := dg k4
    have W := W.over W5
    obtain ⟨da, dc, hsh⟩ : ∃ a c, oslV dq d.length = .slice a d.length c := by
      cases d.length <;> exact ⟨_, _, rfl⟩
    rw [hsh] at hdq
    subst hdq
    refine sy_call 0 (by kernel_rfl) e5 ?_
    refine ok_go 0 ?_
    obtain ⟨_, g7, e7, rfl, ng7, W7⟩ := mv da d.length dc (Int.ofNat n) g5
    have W := W.over W7
    refine sy_call 0 (by kernel_rfl) e7 ?_
    let TL : List (Nat × AObj) := (ds.map fun d => (d, .defd false)) ++ oent dq 3 (d.map J)
    have W : Sto h g7 ((b9, .cells [.slice oa vs.length oc] 31 false) :: (b12, .cells [J (accR d ns ^^^ gv d n)] 3 false) :: (b10, .cells [J i] 3 false) :: (b7, .cells [.slice (some ⟨qv, 0, none⟩) 201 403] 32 false) :: (qv, .cells (cellsF 201 fun k => J (gv d k)) 3 true) :: (b3, .cells [.slice xa ns.length xc] 32 false) ::
      (g5.next + 1, .cells [J n] 3 false) :: (g5.next, .cells [.slice da d.length dc] 32 false) :: (TL ++ (Lr ++ oent q 32 vs))) := W.perm (perm_mv ..)
    refine ow_range 0 (callF := evInv Tryd.prog orc lf (m + 24)) (P := Tryd.prog) (lf := lf) (m := 85) (rcOf Tryd.prog 33 0) W [(3, ptr b3 0), (7, ptr b7 0), (9, ptr b9 0), (10, ptr b10 0), (12, ptr b12 0)] 65 [.func (.yield (g7.next + 1)) #[] #[], ptr g5.next 0, ptr (g5.next + 1) 0]
      (by kernel_rfl) (fun F => by kernel_rfl) ⟨by kernel_rfl, by kernel_rfl, by kernel_rfl, by kernel_rfl, by kernel_rfl, trivial⟩ (by kernel_rfl) (by kernel_rfl) fun F1 f2 HH hr nH W => ?_
    let CC : RC := rcOf Tryd.prog 33 0
    let FF : List (Nat × AObj) := (g7.next + 1, CC.obj F1 g7.next .ready none) :: (g7.next, .defd false) :: (b12, .cells [J (accR d ns ^^^ gv d n)] 3 false) :: (b10, .cells [J i] 3 false) :: (b7, .cells [.slice (some ⟨qv, 0, none⟩) 201 403] 32 false) :: (qv, .cells (cellsF 201 fun k => J (gv d k)) 3 true) :: (b3, .cells [.slice xa ns.length xc] 32 false) ::
      (g5.next + 1, .cells [J n] 3 false) :: (g5.next, .cells [.slice da d.length dc] 32 false) :: TL
    let Iv : Nat → Hp → Prop := fun j q => OutI h FF b9 (cands d ns i ++ ((ops d 0 n).take j).filterMap (mopt d ns i)) q
    have hyI : ∀ j p q, (ops d 0 n)[j]? = some p → Iv j q → ∃ q', evInv Tryd.prog orc lf (m + 23) (.yield (g7.next + 1) [J p.1, J p.2]) q = some (.bool true, q') ∧ Iv (j + 1) q' := fun j p q hp O => by
      have key : ∃ w q', evInv Tryd.prog orc lf (m + 23) (.yield (g7.next + 1) [J p.1, J p.2]) q = some (w, q') ∧ (w = .bool true ∧ Iv (j + 1) q') := by
        obtain ⟨oa, oc, oq, vs, Lr, hos, RS, W⟩ := O
        refine yld_ok (c := CC) (Q := fun w q' => w = .bool true ∧ Iv (j + 1) q') hr (W.get 1 rfl) (by kernel_rfl) ?_
        have hlt2 := ops_lt (List.mem_of_getElem? hp)
        have W : Sto h q ((b9, .cells [.slice oa vs.length oc] 31 false) :: (g7.next + 1, CC.obj F1 g7.next .ready none) :: (g7.next, .defd false) :: (b12, .cells [J (accR d ns ^^^ gv d n)] 3 false) :: (b10, .cells [J i] 3 false) :: (b7, .cells [.slice (some ⟨qv, 0, none⟩) 201 403] 32 false) :: (qv, .cells (cellsF 201 fun k => J (gv d k)) 3 true) :: (b3, .cells [.slice xa ns.length xc] 32 false) ::
          (g5.next + 1, .cells [J n] 3 false) :: (g5.next, .cells [.slice da d.length dc] 32 false) :: (TL ++ (Lr ++ oent oq 32 vs))) := W
        refine ow_busy 0 1 W rfl (by kernel_rfl) fun b1 nb1 Wb1 => ?_
        have W := Wb1
        refine ow_load (P := Tryd.prog) (T := 3) (off := 0) 0 3 W rfl rfl (by kernel_rfl) (by kernel_rfl) ?_
        refine ow_load (P := Tryd.prog) (T := 32) (off := 0) 0 5 W rfl rfl (by kernel_rfl) (by kernel_rfl) ?_
        refine sy_load 0 (r := indexAddrOp Tryd.prog 32 (Value.slice (some { block := qv, off := 0 }) 201 403) (Value.int IntKind.i64 (Int.ofNat (Prod.fst p)))) (h' := b1) (by kernel_rfl) (idxS0 (e := 3) (by kernel_rfl) (by kernel_rfl) (by omega)) ?_
        refine ow_loadF (P := Tryd.prog) (T := 3) (off := Prod.fst p) 0 6 W rfl (by omega) (by kernel_rfl) (by kernel_rfl) ?_
        refine ow_load (P := Tryd.prog) (T := 32) (off := 0) 1 5 W rfl rfl (by kernel_rfl) (by kernel_rfl) ?_
        refine sy_load 0 (r := indexAddrOp Tryd.prog 32 (Value.slice (some { block := qv, off := 0 }) 201 403) (Value.int IntKind.i64 (Int.ofNat (Prod.snd p)))) (h' := b1) (by kernel_rfl) (idxS0 (e := 3) (by kernel_rfl) (by kernel_rfl) (by omega)) ?_
        refine ow_loadF (P := Tryd.prog) (T := 3) (off := Prod.snd p) 0 6 W rfl (by omega) (by kernel_rfl) (by kernel_rfl) ?_
        refine ok_go 2 ?_
        have ga := gv_12 d p.1 (by omega)
        have gb := gv_12 d p.2 (by omega)
        have hx1 : xorI (Int.ofNat (accR d ns ^^^ gv d n)) (Int.ofNat (gv d p.1)) = Int.ofNat (accR d ns ^^^ gv d n ^^^ gv d p.1) := xor_nat (by have := xor_12 hs12 hg12; omega) (by omega)
        have hx2 : xorI (xorI (Int.ofNat (accR d ns ^^^ gv d n)) (Int.ofNat (gv d p.1))) (Int.ofNat (gv d p.2)) = Int.ofNat (accR d ns ^^^ gv d n ^^^ gv d p.1 ^^^ gv d p.2) := by
          rw [hx1]
          exact xor_nat (by have := xor_12 (xor_12 hs12 hg12) ga; omega) (by omega)
        have hfs := filt_snoc (d := d) (ns := ns) (i := i) hp
        refine sy_test 0 (xorI (xorI (Int.ofNat (accR d ns ^^^ gv d n)) (Int.ofNat (gv d p.1))) (Int.ofNat (gv d p.2)) != 0) (by kernel_rfl) ?_ ?_
        · intro hne
          have hmo : mopt d ns i p = none := by
            unfold mopt
            rw [hgd, if_neg]
            intro h0
            rw [hx2, h0] at hne
            exact absurd hne (by decide)
          rw [hmo] at hfs
          have hfs : ((ops d 0 n).take (j + 1)).filterMap (mopt d ns i) = ((ops d 0 n).take j).filterMap (mopt d ns i) := hfs.trans (List.append_nil _)
          refine ow_round 0 1 W rfl (by kernel_rfl) fun c1 nc1 Wc1 => ?_
          have W := Wc1
          refine sy_done 0 (v := Value.bool true) (h := c1) (by kernel_rfl) ?_
          refine ⟨rfl, ?_⟩
          show OutI h FF b9 (cands d ns i ++ ((ops d 0 n).take (j + 1)).filterMap (mopt d ns i)) c1
          rw [hfs]
          exact ⟨oa, oc, oq, vs, Lr, hos, RS, W⟩
        · intro hne
          have hmo : mopt d ns i p = some (mrow ns i p) := by
            unfold mopt
            rw [hgd, if_pos]
            rw [hx2] at hne
            have : Int.ofNat (accR d ns ^^^ gv d n ^^^ gv d p.1 ^^^ gv d p.2) = 0 := by simpa using hne
            exact Int.ofNat.inj this
          rw [hmo] at hfs
          refine ow_load (P := Tryd.prog) (T := 32) (off := 0) 0 7 W rfl rfl (by kernel_rfl) (by kernel_rfl) ?_
          obtain ⟨N, hN⟩ : ∃ N, ns.length = N + 1 := ⟨ns.length - 1, by omega⟩
          have hml : (ns.map J).length = N + 1 := by rw [List.length_map]; exact hN
          have hsJ : ∀ l : List Nat, (l.map J).all scalar = true := fun l => List.all_eq_true.2 fun x hx => by obtain ⟨y, _, rfl⟩ := List.mem_map.1 hx; rfl
          obtain ⟨_, w1, e1, r1, hv1, W⟩ := clone_of lf (m + 21) (ns.map J) (by omega) (by omega) (hsJ ns) (.slice xa ns.length xc) h _ b1 (hx.ext W.ext) W
          rw [hml] at hv1
          subst hv1
          have Ww1 := W
          refine sy_call 0 (by kernel_rfl) e1 ?_
          refine ow_load (P := Tryd.prog) (T := 3) (off := 0) 0 5 W rfl rfl (by kernel_rfl) (by kernel_rfl) ?_
          refine ow_load (P := Tryd.prog) (T := 3) (off := 0) 0 5 W rfl rfl (by kernel_rfl) (by kernel_rfl) ?_
          refine ok_go 1 ?_
          obtain ⟨_, w2, e2, rfl, W⟩ := del_of lf (m + 21) N i r1 (by omega) (by omega) (ns.map J) hml (hsJ ns) h _ w1 W
          have Ww2 := W
          have e2 : Ev lf (m + 22) 50 [.slice (some ⟨r1, 0, none⟩) (N + 1) (2 * (N + 1) + 1), J i, I (IntKind.wrap .i64 (Int.ofNat (i + 1)))] w1 = some (.slice (some ⟨r1, 0, none⟩) N (2 * (N + 1) + 1), w2) := by rw [hw]; exact e2
          refine sy_call 0 (by kernel_rfl) e2 ?_
          refine ow_new 0 W (AObj.cells [Value.int IntKind.i64 (Int.ofNat (Prod.fst p)), Value.int IntKind.i64 (Int.ofNat (Prod.snd p))] 3 false) (fun q => Value.slice (some { block := q, off := 0 }) 2 4) (by kernel_rfl) fun c1 nc1 Wc1 => ?_
          have W := Wc1
          have hol : ((ns.map J).eraseIdx i).length = N := by rw [List.length_eraseIdx_of_lt (by omega), hml]; omega
          have hoe : (ns.map J).eraseIdx i ++ [J p.1, J p.2] = (ns.eraseIdx i ++ [p.1, p.2]).map J := by simp [List.eraseIdx_eq_take_drop_succ, List.map_append, List.map_take, List.map_drop]
          have hzl : (ns.eraseIdx i ++ [p.1, p.2]).length = N + 2 := by
            have := congrArg List.length hoe
            rw [List.length_append, hol, List.length_map] at this
            rw [← this]; rfl
          have happ := app_two (g := c1) (q := r1) (n := N) (N := N + 1) (cs := (ns.map J).eraseIdx i ++ [J 0]) (old := (ns.map J).eraseIdx i) (new := [J p.1, J p.2]) (x := .slice (some ⟨w2.next, 0, none⟩) 2 4) (W.get 1 rfl) (by rw [List.length_append, hol]; rfl) (by rw [List.take_append_of_le_length (by omega), List.take_of_length_le (by omega)]) (by omega) (by show N + 1 < N + 2; omega) (by show N + 2 ≤ 10000; omega) rfl (by simp only [elems, loadN, W.get 0 rfl]; rfl) rfl
          have W := (kill2 W).new (.cells ((ns.map J).eraseIdx i ++ [J p.1, J p.2]) 3 true)
          refine sy_call 0 (by kernel_rfl) happ ?_
          generalize hc2 : (c1.kill r1).new (.cells ((ns.map J).eraseIdx i ++ [J p.1, J p.2]) 3 true) = c2 at *
          rw [hoe] at W
          refine sy_need 0 [] [⟨(loadT Tryd.prog b1 3 (ptr (b10) (0))).map (·, b1), Value.int IntKind.i64 (Int.ofNat i), b1⟩, ⟨(loadT Tryd.prog b1 3 (ptr (b10) (0))).map (·, b1), Value.int IntKind.i64 (Int.ofNat i), b1⟩] (by kernel_rfl) ⟨ob_load (P := Tryd.prog) (T := 3) (k := 4) Wb1 rfl rfl (by kernel_rfl), ob_load (P := Tryd.prog) (T := 3) (k := 4) Wb1 rfl rfl (by kernel_rfl), trivial⟩ ?_
          generalize hr2 : (c1.kill r1).next = r2 at *
          have hzl2 : ns.eraseIdx i ++ [p.1, p.2] = ns.eraseIdx i ++ [p.1, p.2] := rfl
          obtain ⟨_, w3, e3, rfl, cs3, W, hc3, ht3⟩ := delf_of lf (m + 19) (by omega) hsm (ns.eraseIdx i ++ [p.1, p.2]) (N + 2) hzl (by omega) (by omega) r2 h _ c2 W
          have hfl : ((ns.eraseIdx i ++ [p.1, p.2]).filter nz).length ≤ N + 2 := by rw [← hzl]; exact List.length_filter_le _ _
          refine sy_call 0 (by kernel_rfl) e3 ?_
          obtain ⟨v4, w4, e4, cs4, ys, W, hc4, ht4, hpm, hpw⟩ := sortI_of lf (m + 17) hlf cs3 (N + 2) ((ns.eraseIdx i ++ [p.1, p.2]).filter nz).length (2 * (N + 2) + 1) r2 hc3 (by omega) hfl (by omega) _ rfl ht3 h _ w3 W
          have hys : ys = mrow ns i p := srt_uniq hpm hpw
          have hyl : ys.length = ((ns.eraseIdx i ++ [p.1, p.2]).filter nz).length := hpm.length_eq
          rw [← hyl] at ht4
          refine sy_call 0 (by kernel_rfl) e4 ?_
          refine ow_load (P := Tryd.prog) (T := 31) (off := 0) 0 1 W rfl rfl (by kernel_rfl) (by kernel_rfl) ?_
          refine ow_new 0 W (AObj.cells [Value.slice (some { block := r2, off := 0 }) (List.length (List.filter nz (List.eraseIdx ns i ++ [Prod.fst p, Prod.snd p]))) (2 * (N + 2) + 1)] 32 false) (fun q => Value.slice (some { block := q, off := 0 }) 1 2) (by kernel_rfl) fun e1 ne1 We1 => ?_
          have W := We1
          let FX : List (Nat × AObj) := (b9, .cells [.slice oa vs.length oc] 31 false) :: (g7.next + 1, CC.obj F1 g7.next .busy none) :: (g7.next, .defd false) :: (b12, .cells [J (accR d ns ^^^ gv d n)] 3 false) :: (b10, .cells [J i] 3 false) :: (b7, .cells [.slice (some ⟨qv, 0, none⟩) 201 403] 32 false) :: (qv, .cells (cellsF 201 fun k => J (gv d k)) 3 true) :: (b3, .cells [.slice xa ns.length xc] 32 false) ::
            (g5.next + 1, .cells [J n] 3 false) :: (g5.next, .cells [.slice da d.length dc] 32 false) :: (TL ++ Lr)
          let OV : Value := .slice (some ⟨r2, 0, none⟩) ((ns.eraseIdx i ++ [p.1, p.2]).filter nz).length (2 * (N + 2) + 1)
          have W : Sto h e1 ((w4.next, .cells [OV] 32 false) :: (((r2, .cells cs4 3 true) :: FX) ++ oent oq 32 vs)) := by
            simp only [FX, List.cons_append, List.append_assoc]
            exact W
          have hrow : RowIn [(r2, .cells cs4 3 true)] OV (mrow ns i p) := fun H K => by
            obtain ⟨k1, k2⟩ := K _ (List.mem_singleton.2 rfl)
            refine .inr ⟨r2, 0, _, by rw [← hys, List.length_map, hyl], fun _ => ⟨k1, ?_⟩⟩
            unfold loadN
            rw [k2]
            show takeN _ (cs4.drop 0) = _
            rw [List.drop_zero, ← hys, List.length_map]
            have := takeN_take (takeN_all cs4) ys.length (by omega)
            rw [this, ht4]
          have hvl : vs.length < 16777215 := by
            have k1 := cands_len (d := d) (ns := ns) G.most hgD i
            have k2 := ops_808 G.most hn2
            have k3 := List.length_filterMap_le (mopt d ns i) ((ops d 0 n).take j)
            have k4 := RS.len
            rw [List.length_append] at k4
            rw [List.length_take] at k3
            omega
          refine ow_app (P := Tryd.prog) (t := 31) (e := 32) (z := 1) (c := vs.length) (i := oq) 0 W slz31 (by rw [Nat.mul_one]) rfl rfl hvl (by rw [← hos]; kernel_rfl) fun e2 sl2 ne2 hsl2 hsc2 W => ?_
          obtain ⟨na, nc, hns⟩ : ∃ a c, oslV e1.next (vs ++ [OV]).length = .slice a (vs ++ [OV]).length c := by
            cases (vs ++ [OV]).length <;> exact ⟨_, _, rfl⟩
          have hsl3 : sl2 = .slice na (vs ++ [OV]).length nc := by rw [hsl2, ← hns, List.length_append]; rfl
          subst hsl3
          have RS2 := RS.snoc (rv := OV) rfl hrow
          have W : Sto h e2 ((r2, .cells cs4 3 true) :: (b9, .cells [.slice oa vs.length oc] 31 false) :: (g7.next + 1, CC.obj F1 g7.next .busy none) :: (g7.next, .defd false) :: (b12, .cells [J (accR d ns ^^^ gv d n)] 3 false) :: (b10, .cells [J i] 3 false) :: (b7, .cells [.slice (some ⟨qv, 0, none⟩) 201 403] 32 false) :: (qv, .cells (cellsF 201 fun k => J (gv d k)) 3 true) :: (b3, .cells [.slice xa ns.length xc] 32 false) ::
            (g5.next + 1, .cells [J n] 3 false) :: (g5.next, .cells [.slice da d.length dc] 32 false) :: ((TL ++ Lr) ++ oent e1.next 32 (vs ++ [OV]))) := W
          refine ow_store (P := Tryd.prog) (T := 31) (off := 0) (v := Value.slice na (List.length (vs ++ [OV])) nc) 0 1 W rfl (Nat.le_of_ble_eq_true (by kernel_rfl)) (by kernel_rfl) (by first | rfl | assumption) (by kernel_rfl) fun f1 nf1 Wf1 => ?_
          have W := Wf1
          refine ow_round 0 2 W rfl (by kernel_rfl) fun f2 nf2 Wf2 => ?_
          have W := Wf2
          refine sy_done 0 (v := Value.bool true) (h := f2) (by kernel_rfl) ?_
          refine ⟨rfl, ?_⟩
          show OutI h FF b9 (cands d ns i ++ ((ops d 0 n).take (j + 1)).filterMap (mopt d ns i)) f2
          rw [hfs, ← List.append_assoc]
          refine ⟨na, nc, e1.next, vs ++ [OV], (r2, .cells cs4 3 true) :: Lr, hns.symm, RS2, ?_⟩
          exact W.perm (perm_row _ [(b9, .cells [.slice na (vs ++ [OV]).length nc] 31 false), (g7.next + 1, CC.obj F1 g7.next .ready none), (g7.next, .defd false), (b12, .cells [J (accR d ns ^^^ gv d n)] 3 false), (b10, .cells [J i] 3 false), (b7, .cells [.slice (some ⟨qv, 0, none⟩) 201 403] 32 false), (qv, .cells (cellsF 201 fun k => J (gv d k)) 3 true), (b3, .cells [.slice xa ns.length xc] 32 false), (g5.next + 1, .cells [J n] 3 false), (g5.next, .cells [.slice da d.length dc] 32 false)] TL Lr _)
      obtain ⟨w, q', e, rfl, J1⟩ := key
      exact ⟨q', e, J1⟩
    have hI : ∀ j q, Iv j q → q.get g5.next = some (.cells [.slice da d.length dc] 32 false) ∧ q.get (g5.next + 1) = some (.cells [J n] 3 false) ∧ Rds q (.slice da d.length dc) (d.map J) := fun j q O => by
      obtain ⟨oa, oc, oq, vs, Lr, hos, RS, W⟩ := O
      refine ⟨W.get 9 rfl, W.get 8 rfl, ?_⟩
      have := osl_rd (e := 3) (i := dq) (zs := d.map J) (H := q) (fun p hp => by
        have := W.all p (by
          simp only [FF, TL, List.mem_cons, List.mem_append]
          simp [hp])
        exact this.2)
      rw [List.length_map, hsh] at this
      exact this
    obtain ⟨v8, h8, e8, O8⟩ := moves_run d n (by omega) G.lt G.most lf (m + 23) g5.next (g5.next + 1) (g7.next + 1) hlf da dc Iv hI hyI HH ⟨oa, oc, q, vs, Lr, hos, by
      show RowsS Lr vs (cands d ns i ++ [])
      rw [List.append_nil]; exact RS, by
      exact W.perm (perm_rot ..)⟩
    have O8 : OutI h FF b9 (cands d ns (i + 1)) h8 := by
      rw [cands_succ, hgd]
      have := O8
      simp only [Iv, List.take_length] at this
      exact this
    obtain ⟨oa8, oc8, q8, vs8, Lr8, hos8, RS8, W8⟩ := O8
    refine ⟨v8, h8, .ready, none, g7.next, .normal, _, e8, W8.perm (List.Perm.swap ..), by decide, rfl, fun h9 n9 W => ?_⟩
    have W := (W.perm (perm_fin _ _ _ _ _ _ _ _ _ (ds.map fun d => (d, .defd false)) (oent dq 3 (d.map J)) (Lr8 ++ oent q8 32 vs8))).sub (List.sublist_append_left _ _)
    refine ok_go 1 ?_
    exact sy_next 0 _ h9 (by kernel_rfl) (by kernel_rfl) (ih (i + 1, g7.next :: ds) _ h9 ⟨hlt, oa8, oc8, q8, vs8, Lr8, hos8, RS8, W⟩ (show ns.length - (i + 1) < ns.length - i by omega) ⟨by kernel_rfl, by kernel_rfl, by kernel_rfl, by kernel_rfl, by kernel_rfl, by kernel_rfl, by kernel_rfl, (by kernel_rfl : _ = Value.int .i64 (IntKind.wrap .i64 (Int.ofNat (i + 1)))).trans (by rw [hw]), by kernel_rfl, trivial⟩)
  · intro hlt
    obtain rfl : i = ns.length := Nat.le_antisymm hi (no_nat hlt)
    obtain ⟨oa, oc, q, vs, Lr, hos, RS, W⟩ := O
    have hcl := cands_len (d := d) (ns := ns) G.most hgD ns.length
    generalize hCS : cands d ns ns.length = CS at *
    have hvl := RS.len
    refine ow_load (P := Tryd.prog) (T := 31) (off := 0) 0 0 W rfl rfl (by kernel_rfl) (by kernel_rfl) ?_
    rcases Nat.eq_zero_or_pos vs.length with hv0 | hv0
    · obtain rfl : vs = [] := List.eq_nil_of_length_eq_zero hv0
      cases hos
      obtain ⟨v1, g1, e1, hg1⟩ := sortf_nil lf (m + 21) 56 hlf g
      rw [hg1] at e1
      refine sy_call 0 (by kernel_rfl) e1 ?_
      refine ow_load (P := Tryd.prog) (T := 31) (off := 0) 0 0 W rfl rfl (by kernel_rfl) (by kernel_rfl) ?_
      refine ok_go 1 ?_
      refine ow_marks 0 ds (W.perm (perm_mk ..)) (by kernel_rfl) fun g6 ng6 W => ?_
      refine sy_done 0 (v := Value.tuple { toList := [Value.slice none 0 0, Value.int IntKind.i64 (Int.ofNat 0)] }) (h := g6) (by kernel_rfl) ?_
      have hC0 : CS = [] := List.eq_nil_of_length_eq_zero hvl.symm
      exact ⟨W.ext, .slice none 0 0, [], [], [], rfl, .inl ⟨⟨_, rfl⟩, rfl⟩, rfl, fun k w r h1 => (by simp at h1), by rw [hC0], List.Pairwise.nil, rfl⟩
    · obtain ⟨N, hN⟩ : ∃ N, vs.length = N := ⟨_, rfl⟩
      have hos2 : Value.slice oa vs.length oc = .slice (some ⟨q, 0, none⟩) N (2 * N + 1) := by
        rw [hos, hN]
        obtain ⟨k, rfl⟩ : ∃ k, N = k + 1 := ⟨N - 1, by omega⟩
        rfl
      rw [hos2] at W ⊢
      have hN1 : N ≤ 10000 := by omega
      have hoe : oent q 32 vs = [(q, .cells vs 32 true)] := by
        cases vs with
        | nil => exact absurd hv0 (by decide)
        | cons v r => rfl
      rw [hoe] at W
      let LL : List (Nat × AObj) := (b9, .cells [.slice (some ⟨q, 0, none⟩) N (2 * N + 1)] 31 false) :: ((F0 ++ ds.map fun d => (d, .defd false)) ++ Lr)
      have W : Sto h g ((q, .cells vs 32 true) :: LL) := W.perm (perm_q ..)
      have hLr : ∀ cs g, Sto h g ((q, .cells cs 32 true) :: LL) → Hold g Lr := fun cs g W => W.hold.sub fun p hp => by
        refine List.mem_cons_of_mem _ (List.mem_cons_of_mem _ (List.mem_append_right _ hp))
      have hg0 := hLr _ g W
      obtain ⟨key, hkey⟩ : ∃ key : Value → List Nat, ∀ v, (∃ r, RowIn Lr v r) → RowIn Lr v (key v) := by
        classical
        refine ⟨fun v => if h : ∃ r, RowIn Lr v r then h.choose else [], fun v h => ?_⟩
        show RowIn Lr v (if h : ∃ r, RowIn Lr v r then h.choose else [])
        rw [dif_pos h]
        exact h.choose_spec
      have hku : ∀ v r, RowIn Lr v r → key v = r := fun v r hr => mapJ_inj (rds_uniq (hkey v ⟨r, hr⟩ g hg0) (hr g hg0))
      let V : Value → Prop := fun v => scalar v = true ∧ ∃ r, RowIn Lr v r ∧ r.length ≤ 1000
      have hVk : ∀ v, V v → RowIn Lr v (key v) ∧ (key v).length ≤ 1000 := fun v hv => by
        obtain ⟨_, r, hr, hl⟩ := hv
        exact ⟨hkey v ⟨r, hr⟩, by rw [hku v r hr]; exact hl⟩
      have hrow : ∀ k, ∀ hk : k < vs.length, RowIn Lr vs[k] (CS[k]'(by omega)) := fun k hk => RS.row k _ _ (List.getElem?_eq_getElem hk) (List.getElem?_eq_getElem (by omega))
      have hVv : ∀ v ∈ vs, V v := fun v hv => by
        obtain ⟨k, hk, rfl⟩ := List.getElem_of_mem hv
        refine ⟨RS.sc _ hv, _, hrow k hk, ?_⟩
        have := cands_row (d := d) (ns := ns) (k := ns.length) (r := CS[k]'(by omega)) (by rw [hCS]; exact List.getElem_mem _)
        omega
      have hvk : vs.map key = CS := by
        apply List.ext_getElem
        · rw [List.length_map]; exact hvl
        · intro k h1 h2
          rw [List.getElem_map]
          exact hku _ _ (hrow k (by rw [List.length_map] at h1; exact h1))
      have K : ∀ j, Cmp lf (m + 3 + j) 56 h LL q N true V (fun x y => lexC (key x) (key y) < 0) := fun j =>
        { ord := lex_ord key
          sc := fun x hx => hx.1
          cmp := fun f g x y W hx hy => by
            have hg := hLr _ g W
            refine ⟨lexC (key x) (key y), ?_, Iff.rfl⟩
            rw [show m + 3 + j = m + j + 3 by omega]
            exact comp_of lf (m + j) hlf (key x) (key y) (hVk x hx).2 x y g ((hVk x hx).1 g hg) ((hVk y hy).1 g hg) }
      have hcf := cells_fn vs
      rw [hN] at hcf
      have hVf : ∀ k, k < N → V (vs.getD k (J 0)) := fun k hk => by
        rw [List.getD_eq_getElem?_getD, List.getElem?_eq_getElem (by omega)]
        exact hVv _ (List.getElem_mem _)
      have Wd : Dat h LL q N true (fun i => vs.getD i (J 0)) g := by
        have := W
        rw [hcf] at this
        exact this
      obtain ⟨v1, g1, e1, f2, W, S2, Z2⟩ := sortf_of (m := m + 3) hlf K hN1 (2 * N + 1) (fun i => vs.getD i (J 0)) hVf g Wd
      refine sy_call 0 (by kernel_rfl) e1 ?_
      have W : Sto h g1 ((q, .cells (cellsF N f2) 32 true) :: (b9, .cells [.slice (some ⟨q, 0, none⟩) N (2 * N + 1)] 31 false) :: ((F0 ++ ds.map fun d => (d, .defd false)) ++ Lr)) := W
      have hV2 : ∀ x ∈ cellsF N f2, V x := fun x hx => by
        obtain ⟨k, hk, rfl⟩ := List.mem_map.1 hx
        exact S2.every (Nat.le_refl N) hVf k (List.mem_range.1 hk)
      obtain ⟨v3, g3, e3, k, cs3, rfl, hk, W3, hc3, hkeys, hV3⟩ := compact_of lf (m + 23) 58 hlf key V (fun x hx => hx.1) (cellsF N f2) N (cellsF_len _ _) (by omega) hN1 hV2 q h LL g1 W fun cs g x y W hx hy => by
        have hg := hLr _ g W
        exact equal_of lf (m + 22) hlf (key x) (key y) (hVk x hx).2 x y g ((hVk x hx).1 g hg) ((hVk y hy).1 g hg)
      refine ow_load (P := Tryd.prog) (T := 31) (off := 0) 0 1 W rfl rfl (by kernel_rfl) (by kernel_rfl) ?_
      refine sy_call 0 (by kernel_rfl) e3 ?_
      refine ok_go 0 ?_
      refine ow_marks 0 ds (W3.perm (perm_mk2 ..)) (by kernel_rfl) fun g6 ng6 W => ?_
      have hg6 : Hold g6 Lr := W.hold.sub fun p hp => by
        refine List.mem_cons_of_mem _ (List.mem_cons_of_mem _ (List.mem_append_right _ hp))
      have hb := W.get 0 rfl
      have hbl := W.lt 0 rfl
      have hperm := (S2.perm).map key
      have hf0 : ((List.range N).map fun i => vs.getD i (J 0)) = vs := hcf.symm
      rw [hf0, hvk] at hperm
      refine sy_done 0 (v := Value.tuple { toList := [Value.slice (some { block := q, off := 0 }) k (2 * N + 1), Value.int IntKind.i64 (Int.ofNat 0)] }) (h := g6) (by kernel_rfl) ?_
      refine ⟨W.ext, .slice (some ⟨q, 0, none⟩) k (2 * N + 1), cs3.take k, (cs3.take k).map key, (cellsF N f2).map key, rfl, ?_, by rw [List.length_map], fun i w r h1 h2 => ?_, hperm, ?_, hkeys⟩
      · refine .inr ⟨q, 0, _, by rw [List.length_take, Nat.min_eq_left (by omega)], fun _ => ⟨hbl, ?_⟩⟩
        unfold loadN
        rw [hb]
        show takeN _ (cs3.drop 0) = _
        rw [List.drop_zero, List.length_take, Nat.min_eq_left (by omega)]
        exact takeN_take (takeN_all cs3) k (by omega)
      · have hw : w ∈ cs3.take k := List.mem_of_getElem? h1
        rw [List.getElem?_map, h1] at h2
        cases h2
        exact (hVk w (hV3 w hw)).1 g6 hg6
      · rw [List.pairwise_map]
        refine (Z2.pair).imp fun {x y} hxy => ?_
        have := lexC_neg (key x) (key y)
        omega
end Go.Proofs.YtegcmgjldapnmaaDoor
namespace Go.Proofs.YtegcmgjldapnmaaDoor
open Go Go.Eng Nim Oct
theorem lt_bit {x y k : Nat} (hx : x.testBit k = false) (hy : y.testBit k = true) (h : ∀ j, k < j → x.testBit j = y.testBit j) : x < y := by
  have h1 : x >>> (k + 1) = y >>> (k + 1) := Nat.eq_of_testBit_eq fun i => by
    rw [Nat.testBit_shiftRight, Nat.testBit_shiftRight]
    exact h _ (by omega)
  rw [Nat.shiftRight_eq_div_pow, Nat.shiftRight_eq_div_pow, Nat.pow_succ, ← Nat.div_div_eq_div_mul, ← Nat.div_div_eq_div_mul] at h1
  rw [Nat.testBit_eq_decide_div_mod_eq] at hx hy
  have hx := of_decide_eq_false hx
  have hy := of_decide_eq_true hy
  refine Nat.lt_of_div_lt_div (c := 2 ^ k) (?_ : x / 2 ^ k < y / 2 ^ k)
  omega
theorem acc_init (d : List Nat) : ∀ (r : List Nat) (a : Nat), r.foldl (fun a x => a ^^^ gv d x) a = a ^^^ accR d r
  | [], a => (Nat.xor_zero a).symm
  | x :: r, a => by
    unfold accR
    rw [List.foldl_cons, List.foldl_cons, acc_init d r, acc_init d r (0 ^^^ gv d x), Nat.zero_xor, Nat.xor_assoc]
theorem acc_cons (d : List Nat) (x : Nat) (r : List Nat) : accR d (x :: r) = gv d x ^^^ accR d r := by
  show (r.foldl (fun a x => a ^^^ gv d x) (0 ^^^ gv d x)) = _
  rw [acc_init, Nat.zero_xor]
theorem acc_app (d : List Nat) : ∀ (r s : List Nat), accR d (r ++ s) = accR d r ^^^ accR d s
  | [], s => (Nat.zero_xor _).symm
  | x :: r, s => by rw [List.cons_append, acc_cons, acc_cons, acc_app d r s, Nat.xor_assoc]
theorem acc_perm (d : List Nat) {r s : List Nat} (h : r.Perm s) : accR d r = accR d s :=
  h.foldl_eq' (fun x _ y _ z => by rw [Nat.xor_assoc, Nat.xor_assoc, Nat.xor_comm (gv d x)]) 0
theorem acc_filt (d : List Nat) : ∀ r : List Nat, accR d (r.filter nz) = accR d r
  | [] => rfl
  | x :: r => by
    rw [List.filter_cons, acc_cons, ← acc_filt d r]
    by_cases h : x = 0
    · subst h
      rw [if_neg (by decide), show gv d 0 = 0 from rfl, Nat.zero_xor]
    · rw [if_pos (by unfold nz; simpa using h), acc_cons]
theorem acc_erase (d : List Nat) : ∀ (r : List Nat) (i : Nat) (hi : i < r.length), accR d (r.eraseIdx i) = accR d r ^^^ gv d r[i]
  | [], _, h => absurd h (by simp)
  | x :: r, 0, _ => by
    show accR d r = accR d (x :: r) ^^^ gv d x
    rw [acc_cons, Nat.xor_comm, ← Nat.xor_assoc, Nat.xor_self, Nat.zero_xor]
  | x :: r, i + 1, h => by
    show accR d (x :: r.eraseIdx i) = accR d (x :: r) ^^^ gv d (r[i]'(by simpa using h))
    rw [acc_cons, acc_cons, acc_erase d r i (by simpa using h), Nat.xor_assoc]
theorem acc_bit (d : List Nat) (k : Nat) : ∀ r : List Nat, (accR d r).testBit k = true → ∃ x ∈ r, (gv d x).testBit k = true
  | [], h => by simp [accR] at h
  | x :: r, h => by
    rw [acc_cons, Nat.testBit_xor] at h
    cases hx : (gv d x).testBit k with
    | true => exact ⟨x, by simp, hx⟩
    | false =>
      rw [hx] at h
      obtain ⟨y, hy, e⟩ := acc_bit d k r (by simpa using h)
      exact ⟨y, by simp [hy], e⟩
theorem nim_move (d : List Nat) (r : List Nat) (h : accR d r ≠ 0) : ∃ x ∈ r, accR d r ^^^ gv d x < gv d x := by
  obtain ⟨x, hx, hb⟩ := acc_bit d (accR d r).log2 r (Nat.testBit_log2 h)
  refine ⟨x, hx, lt_bit (k := (accR d r).log2) ?_ hb fun j hj => ?_⟩
  · rw [Nat.testBit_xor, Nat.testBit_log2 h, hb]; rfl
  · rw [Nat.testBit_xor, Nat.testBit_lt_two_pow (Nat.lt_of_lt_of_le Nat.lt_log2_self (Nat.pow_le_pow_right (by decide) hj))]
    simp
theorem opt_has (d : List Nat) {n t : Nat} (h : t < gv d n) : ∃ p ∈ ops d 0 n, gv d p.1 ^^^ gv d p.2 = t := by
  cases n with
  | zero => exact absurd h (by show ¬ t < 0; omega)
  | succ n =>
    rw [gv_succ] at h
    obtain ⟨p, hp, e⟩ := List.mem_map.1 ((mex_spec _).1 t h)
    exact ⟨p, hp, e⟩
theorem opt_not (d : List Nat) {n : Nat} {p : Nat × Nat} (hp : p ∈ ops d 0 n) : gv d p.1 ^^^ gv d p.2 ≠ gv d n := by
  cases n with
  | zero => have := ops_lt hp; omega
  | succ n =>
    intro h
    rw [gv_succ] at h
    have hm := List.mem_map_of_mem (f := fun p : Nat × Nat => gv d p.1 ^^^ gv d p.2) hp
    rw [h] at hm
    exact (mex_spec _).2 hm
theorem xor_zero_iff {a b : Nat} : a ^^^ b = 0 ↔ a = b := ⟨fun h => by rw [← Nat.xor_zero a, ← Nat.xor_self b, ← Nat.xor_assoc, h, Nat.zero_xor], fun h => by rw [h, Nat.xor_self]⟩
/-- There is a move just if the values do not cancel. -/
theorem cands_nil (d ns : List Nat) : cands d ns ns.length = [] ↔ accR d ns = 0 := by
  constructor
  · intro h
    refine Classical.byContradiction fun hne => ?_
    obtain ⟨x, hx, hlt⟩ := nim_move d ns hne
    obtain ⟨i, hi, rfl⟩ := List.getElem_of_mem hx
    obtain ⟨p, hp, e⟩ := opt_has d hlt
    have hgd : ns.getD i 0 = ns[i] := by rw [List.getD_eq_getElem?_getD, List.getElem?_eq_getElem hi]; rfl
    have hm : mrow ns i p ∈ cands d ns ns.length := by
      unfold cands
      refine List.mem_flatMap.2 ⟨i, List.mem_range.2 hi, List.mem_filterMap.2 ⟨p, by rw [hgd]; exact hp, ?_⟩⟩
      unfold mopt
      rw [if_pos]
      rw [hgd, Nat.xor_assoc, e, Nat.xor_self]
    rw [h] at hm
    cases hm
  · intro h
    cases hc : cands d ns ns.length with
    | nil => rfl
    | cons r l =>
      have hr : r ∈ cands d ns ns.length := by rw [hc]; simp
      unfold cands at hr
      obtain ⟨i, hi, hr⟩ := List.mem_flatMap.1 hr
      obtain ⟨p, hp, hr⟩ := List.mem_filterMap.1 hr
      unfold mopt at hr
      split at hr
      · rename_i h0
        rw [h, Nat.zero_xor, Nat.xor_assoc, xor_zero_iff] at h0
        exact absurd h0.symm (opt_not d hp)
      · cases hr
/-- Where a move leads. -/
theorem cands_to (d ns : List Nat) (h30 : ∀ n ∈ ns, n ≤ 30) {r : List Nat} (hr : r ∈ cands d ns ns.length) : (∀ x ∈ r, 1 ≤ x ∧ x ≤ 30) ∧ accR d r = 0 := by
  unfold cands at hr
  obtain ⟨i, hi, hr⟩ := List.mem_flatMap.1 hr
  obtain ⟨p, hp, hr⟩ := List.mem_filterMap.1 hr
  have hi := List.mem_range.1 hi
  have hgd : ns.getD i 0 = ns[i] := by rw [List.getD_eq_getElem?_getD, List.getElem?_eq_getElem hi]; rfl
  unfold mopt at hr
  split at hr
  · rename_i h0
    cases hr
    have hlt := ops_lt hp
    have hn := h30 _ (List.getElem_mem hi)
    rw [hgd] at hlt h0
    refine ⟨fun x hx => ?_, ?_⟩
    · have hx := (srtL_perm _).mem_iff.1 hx
      obtain ⟨h1, h2⟩ := List.mem_filter.1 hx
      have h2 : x ≠ 0 := by unfold nz at h2; simpa using h2
      refine ⟨by omega, ?_⟩
      rcases List.mem_append.1 h1 with h | h
      · exact h30 x (List.mem_of_mem_eraseIdx h)
      · simp at h
        omega
    · unfold mrow
      rw [acc_perm d (srtL_perm _), acc_filt, acc_app, acc_erase d ns i hi, acc_cons, acc_cons, show accR d [] = 0 from rfl, Nat.xor_zero, ← Nat.xor_assoc]
      exact h0
  · cases hr
end Go.Proofs.YtegcmgjldapnmaaDoor
namespace Go.Proofs.YtegcmgjldapnmaaDoor
open Go Go.Eng Nim Oct
set_option maxRecDepth 100000
set_option maxHeartbeats 8000000
theorem ddK_len : ∀ l : List (List Nat), (ddK l).length ≤ l.length
  | [] => Nat.le_refl _
  | [_] => Nat.le_refl _
  | x :: y :: r => by
    have ih := ddK_len (y :: r)
    unfold ddK
    split
    · exact Nat.le_trans ih (by simp)
    · exact Nat.succ_le_succ ih
theorem accR_take2 (d r : List Nat) {x : Nat} (hx : x < r.length) : accR d (r.take (x + 1)) = accR d (r.take x) ^^^ gv d r[x] := by
  rw [List.take_succ_eq_append_getElem hx, acc_app, acc_cons, show accR d [] = 0 from rfl, Nat.xor_zero]
theorem rdS {h : Hp} {rv : Value} {ws : List Value} (hr : Rds h rv ws) {k : Nat} (hk : k < ws.length) : ∃ p, indexAddrOp Tryd.prog 31 rv (J k) = some p ∧ loadT Tryd.prog h 32 p = some ws[k] :=
  hr.read (e := 32) (by kernel_rfl) (by kernel_rfl) (by kernel_rfl) (List.getElem?_eq_getElem hk)
theorem s10 (l : List Nat) (hl : ∀ n ∈ l, n < 256) (zs : List Int) (xa : Option Addr) (xc m : Nat) (h : Hp) (hx : Rds h (.slice xa zs.length xc) (zs.map I))
    (cd : ∀ l h, (∀ n ∈ l, n < 256) → ∃ v h', Ev 100000 m 27 [.string (strL l)] h = some (v, h') ∧ v = .string (strL (codeS (codeD l))) ∧ h.Ext h')
    (va : ∀ d n h, Good d → n ≤ 2000 → ∃ v h', Ev 100000 m 32 [.string (strL (codeS d)), J n] h = some (v, h') ∧ ∃ q, v = .tuple #[.slice (some ⟨q, 0, none⟩) (n + 1) (2 * (n + 1) + 1), J 0] ∧ Sto h h' [(q, .cells (cellsF (n + 1) fun k => J (gv d k)) 3 true)])
    (mo : ∀ d ns x h, Good d → ns.length ≤ 10 → (∀ n ∈ ns, n ≤ 200) → Rds h x (ns.map J) → ∃ v h', Ev 100000 m 33 [.string (strL (codeS d)), x] h = some (v, h') ∧ MovR h (cands d ns ns.length) v h')
    (aw : ∀ h, Ev 100000 m 14 [] h = some (.bool true, h)) :
    ∃ H, Ev 100000 (m + 1) 10 [.string (strL l), .slice xa zs.length xc] h = some (.bool true, H) := by
  refine fn_val ?_
  have W := Sto.start h
  have G := codeD_good l
  have cdl := cd l
  clear cd
  generalize codeD l = d at *
  refine ok_go 0 ?_
  obtain ⟨_, q1, e1, rfl, X1⟩ := cdl h hl
  refine sy_call 0 (by kernel_rfl) e1 ?_
  have W := W.call X1
  refine ok_go 0 ?_
  obtain ⟨_, q2, e2, qv, rfl, W2⟩ := va d 30 q1 G (by decide)
  have W := W.over W2
  refine sy_call 0 (by kernel_rfl) e2 ?_
  refine ok_go 10 ?_
  refine sy_loop 0 100000 q2 (α := Nat × Nat × List Nat × Option Addr × Nat) (fun x => [(1, .slice xa zs.length xc), (5, .string (strL (codeS d))), (6, .slice (some ⟨qv, 0, none⟩) 31 63), (8, J (accR d x.2.2.1)), (9, .slice x.2.2.2.1 x.2.2.1.length x.2.2.2.2), (10, J x.1)]) (fun x g => x.1 ≤ 5 ∧ x.2.2.1.length = x.1 ∧ (∀ n ∈ x.2.2.1, n ≤ 30) ∧ .slice x.2.2.2.1 x.2.2.1.length x.2.2.2.2 = oslV x.2.1 x.2.2.1.length ∧ Sto h g ((qv, .cells (cellsF 31 fun k => J (gv d k)) 3 true) :: oent x.2.1 3 (x.2.2.1.map J))) (fun x _ => 5 - x.1) (0, 0, [], none, 0) (by kernel_rfl) (by kernel_rfl)
    ⟨by kernel_rfl, by kernel_rfl, by kernel_rfl, by kernel_rfl, by kernel_rfl, by kernel_rfl, trivial⟩ (show 5 - 0 < 100000 by decide) ⟨Nat.zero_le 5, rfl, fun n hn => (by cases hn), rfl, W⟩ ?_
  clear W W2 e2 e1
  rintro m1 ⟨i, q, ys, ya, yc⟩ F1 g ⟨hi, hyl, hy30, hos, W⟩ ih
  dsimp only at hi hyl hy30 hos W
  have hw : IntKind.wrap .i64 (Int.ofNat (i + 1)) = Int.ofNat (i + 1) := wrap_nat (by omega)
  refine ok_go 2 ?_
  refine sy_test 0 (decide (Int.ofNat i < Int.ofNat zs.length)) (by kernel_rfl) ?_ ?_
  · intro hlt
    have hlt : i < zs.length := ok_nat hlt
    refine ok_go 3 ?_
    refine sy_test 0 (decide (Int.ofNat i < 5)) (by kernel_rfl) ?_ ?_
    · intro h5
      have h5 : i < 5 := ok_nat (b := 5) h5
      obtain ⟨p, hp1, hp2⟩ := rdI (hx.ext W.ext) hlt
      obtain ⟨u, hu⟩ : ∃ u : Nat, IntKind.wrap .u64 zs[i] = Int.ofNat u := Int.eq_ofNat_of_zero_le (by
        show 0 ≤ zs[i] % 2 ^ 64
        exact Int.emod_nonneg _ (by decide))
      have hE : IntKind.wrap .i64 ((IntKind.wrap .u64 zs[i]).tmod 31) = Int.ofNat (u % 31) := by
        rw [hu]
        exact wrap_nat (n := u % 31) (by omega)
      have hu31 : u % 31 < 31 := Nat.mod_lt _ (by decide)
      refine ok_go 0 ?_
      refine sy_load 0 (r := indexAddrOp Tryd.prog 32 (.slice xa zs.length xc) (J i)) (h' := g) (by kernel_rfl) hp1 ?_
      refine ok_go 0 ?_
      refine sy_load 0 (r := loadT Tryd.prog g 3 p) (h' := g) (by kernel_rfl) hp2 ?_
      refine ow_new 3 W (AObj.cells [Value.int IntKind.i64 (IntKind.wrap IntKind.i64 (Int.tmod (IntKind.wrap IntKind.u64 zs[i]) 31))] 3 false) (fun q => Value.slice (some { block := q, off := 0 }) 1 2) (by kernel_rfl) fun k1 nk1 Wk1 => ?_
      have W := Wk1
      have W : Sto h k1 ((g.next, .cells [I (IntKind.wrap .i64 ((IntKind.wrap .u64 zs[i]).tmod 31))] 3 false) :: ([(qv, .cells (cellsF 31 fun k => J (gv d k)) 3 true)] ++ oent q 3 (ys.map J))) := W
      refine ow_app (P := Tryd.prog) (t := 32) (e := 3) (z := 1) (c := ys.length) (i := q) 0 W slz32 (by rw [List.length_map, Nat.mul_one]) rfl rfl (by omega) (by rw [← hos]; kernel_rfl) fun k2 sl2 nk2 hsl2 hsc2 W => ?_
      obtain ⟨na, nc, hns⟩ : ∃ a c, oslV k1.next (ys.length + 1) = .slice a (ys.length + 1) c := ⟨_, _, rfl⟩
      rw [hns] at hsl2
      subst hsl2
      have W : Sto h k2 ((qv, .cells (cellsF 31 fun k => J (gv d k)) 3 true) :: oent k1.next 3 (ys.map J ++ [I (IntKind.wrap .i64 ((IntKind.wrap .u64 zs[i]).tmod 31))])) := W
      have hmj : ys.map J ++ [I (IntKind.wrap .i64 ((IntKind.wrap .u64 zs[i]).tmod 31))] = (ys ++ [u % 31]).map J := by rw [hE, List.map_append]; rfl
      rw [hmj] at W
      have ha12 : accR d ys < 4096 := accR_12 d ys fun x hx => by have := hy30 x hx; omega
      have hg12 := gv_12 d (u % 31) (by omega)
      have hxx : xorI (Int.ofNat (accR d ys)) (Int.ofNat (gv d (u % 31))) = Int.ofNat (accR d (ys ++ [u % 31])) := by
        rw [acc_app, acc_cons, show accR d [] = 0 from rfl, Nat.xor_zero]
        exact xor_nat (by omega) (by omega)
      refine ok_go 0 ?_
      refine sy_load 0 (r := indexAddrOp Tryd.prog 32 (.slice (some ⟨qv, 0, none⟩) 31 63) (I (IntKind.wrap .i64 ((IntKind.wrap .u64 zs[i]).tmod 31)))) (h' := k2) (v := ptr qv (u % 31)) (by kernel_rfl) (by rw [hE]; exact idxS0 (e := 3) (by kernel_rfl) (by kernel_rfl) hu31) ?_
      refine ok_go 0 ?_
      refine ow_loadF (P := Tryd.prog) (T := 3) (off := u % 31) 0 0 W rfl hu31 (by kernel_rfl) (by kernel_rfl) ?_
      refine ok_go 2 ?_
      exact sy_next 0 _ k2 (by kernel_rfl) (by kernel_rfl) (ih (i + 1, k1.next, ys ++ [u % 31], na, nc) _ k2 ⟨h5, by rw [List.length_append, hyl]; rfl, fun n hn => by
        rcases List.mem_append.1 hn with h | h
        · exact hy30 n h
        · rw [List.mem_singleton.1 h]; omega, by dsimp only; rw [List.length_append]; exact hns.symm, W⟩ (show 5 - (i + 1) < 5 - i by omega) ⟨by kernel_rfl, by kernel_rfl, by kernel_rfl, (by kernel_rfl : _ = Value.int .i64 (xorI (Int.ofNat (accR d ys)) (Int.ofNat (gv d (u % 31))))).trans (by rw [hxx]), (by kernel_rfl : _ = Value.slice na (ys.length + 1) nc).trans (by dsimp only; rw [List.length_append]; rfl), (by kernel_rfl : _ = Value.int .i64 (IntKind.wrap .i64 (Int.ofNat (i + 1)))).trans (by rw [hw]), trivial⟩)
    · intro _
      have hown : Rds g (.slice ya ys.length yc) (ys.map J) := by
        have := osl_rd (e := 3) (i := q) (zs := ys.map J) (H := g) fun p hp => W.hold p (List.mem_cons_of_mem _ hp)
        rw [List.length_map, ← hos] at this
        exact this
      have hgD : ∀ i, ys.getD i 0 ≤ 200 := fun i => by
        rw [List.getD_eq_getElem?_getD]
        cases hi : ys[i]? with
        | none => exact Nat.zero_le _
        | some y => exact Nat.le_trans (hy30 y (List.mem_of_getElem? hi)) (by decide)
      obtain ⟨_, g3, e3, X3, out, ws, rows, P, rfl, hout, hlen, hrow, hP, hsort, hrows⟩ := mo d ys _ g G (by omega) (fun n hn => by have := hy30 n hn; omega) hown
      obtain ⟨oa, oc, hsh⟩ := hout.shape
      subst hsh
      have W := W.call X3
      have hmem : ∀ r ∈ rows, r ∈ cands d ys ys.length := fun r hr => hP.mem_iff.1 (mem_ddK.1 (by rw [← hrows]; exact hr))
      have hcl := cands_len (d := d) (ns := ys) G.most hgD ys.length
      have hwl : ws.length ≤ 4040 := by
        rw [hlen, hrows]
        refine Nat.le_trans (ddK_len P) ?_
        rw [hP.length_eq]
        omega
      have hnil : 0 < ws.length ↔ accR d ys ≠ 0 := by
        rw [hlen, hrows]
        constructor
        · intro h h0
          have hc := (cands_nil d ys).2 h0
          rw [hc] at hP
          rw [hP.eq_nil] at h
          exact absurd h (by simp [ddK])
        · intro h
          refine List.length_pos_iff.2 (ddK_ne P fun hp => h ((cands_nil d ys).1 ?_))
          rw [hp] at hP
          exact hP.symm.eq_nil
      have hbt : (!decide (Int.ofNat ws.length > 0) == (Int.ofNat (accR d ys) != 0)) = false := by
        by_cases h : 0 < ws.length
        · have h2 := hnil.1 h
          rw [decide_eq_true (show Int.ofNat ws.length > 0 from Int.ofNat_lt.2 h), show (Int.ofNat (accR d ys) != 0) = true from bne_iff_ne.2 fun h3 => h2 (Int.ofNat.inj h3)]
          rfl
        · have h2 : accR d ys = 0 := Classical.byContradiction fun h3 => h (hnil.2 h3)
          rw [decide_eq_false (show ¬ Int.ofNat ws.length > 0 from fun h3 => h (Int.ofNat_lt.1 h3)), h2]
          rfl
      refine ok_go 0 ?_
      refine sy_call 0 (by kernel_rfl) e3 ?_
      refine ok_go 14 ?_
      refine sy_no 0 (b := !decide (Int.ofNat ws.length > 0) == (Int.ofNat (accR d ys) != 0)) (by kernel_rfl) hbt ?_
      refine ok_go 0 ?_
      refine sy_loop 0 100000 g3 (α := Nat) (fun x => [(6, .slice (some ⟨qv, 0, none⟩) 31 63), (12, .slice oa ws.length oc), (14, J x)]) (fun x g => x ≤ ws.length ∧ g = g3) (fun x _ => ws.length - x) 0 (by kernel_rfl) (by kernel_rfl)
        ⟨by kernel_rfl, by kernel_rfl, by kernel_rfl, trivial⟩ (show ws.length - 0 < 100000 by omega) ⟨Nat.zero_le _, rfl⟩ ?_
      rintro m2 j F2 g4 ⟨hj, rfl⟩ ih2
      have hw2 : IntKind.wrap .i64 (Int.ofNat (j + 1)) = Int.ofNat (j + 1) := wrap_nat (by omega)
      refine ok_go 2 ?_
      refine sy_test 0 (decide (Int.ofNat j < Int.ofNat ws.length)) (by kernel_rfl) ?_ ?_
      · intro hjl
        have hjl : j < ws.length := ok_nat hjl
        have hjr : j < rows.length := by omega
        have hRj := hrow j ws[j] rows[j] (List.getElem?_eq_getElem hjl) (List.getElem?_eq_getElem hjr)
        have hin := hmem rows[j] (List.getElem_mem hjr)
        obtain ⟨h130, h0⟩ := cands_to d ys hy30 hin
        have hrl := cands_row hin
        obtain ⟨p1, hp1, hp2⟩ := rdS hout hjl
        generalize ws[j] = w at *
        generalize rows[j] = r at *
        obtain ⟨ra, rc, hrs⟩ := hRj.shape
        rw [List.length_map] at hrs
        subst hrs
        refine ok_go 0 ?_
        refine sy_loop 0 100000 g4 (α := Nat) (fun x => [(6, .slice (some ⟨qv, 0, none⟩) 31 63), (12, .slice oa ws.length oc), (14, J j), (15, J (accR d (r.take x))), (16, J x)]) (fun x g => x ≤ r.length ∧ g = g4) (fun x _ => r.length - x) 0 (by kernel_rfl) (by kernel_rfl)
          ⟨by kernel_rfl, by kernel_rfl, by kernel_rfl, by kernel_rfl, by kernel_rfl, trivial⟩ (show r.length - 0 < 100000 by omega) ⟨Nat.zero_le _, rfl⟩ ?_
        rintro m3 k F3 g5 ⟨hk, rfl⟩ ih3
        have hw3 : IntKind.wrap .i64 (Int.ofNat (k + 1)) = Int.ofNat (k + 1) := wrap_nat (by omega)
        refine ok_go 0 ?_
        refine sy_load 0 (r := indexAddrOp Tryd.prog 31 (.slice oa ws.length oc) (J j)) (h' := g5) (by kernel_rfl) hp1 ?_
        refine ok_go 0 ?_
        refine sy_load 0 (r := loadT Tryd.prog g5 32 p1) (h' := g5) (by kernel_rfl) hp2 ?_
        refine ok_go 2 ?_
        refine sy_test 0 (decide (Int.ofNat k < Int.ofNat r.length)) (by kernel_rfl) ?_ ?_
        · intro hkl
          have hkl : k < r.length := ok_nat hkl
          obtain ⟨p2, hp3, hp4⟩ := rdN hRj hkl
          have h13 := h130 r[k] (List.getElem_mem hkl)
          refine ok_go 0 ?_
          refine sy_load 0 (r := indexAddrOp Tryd.prog 31 (.slice oa ws.length oc) (J j)) (h' := g5) (by kernel_rfl) hp1 ?_
          refine ok_go 0 ?_
          refine sy_load 0 (r := loadT Tryd.prog g5 32 p1) (h' := g5) (by kernel_rfl) hp2 ?_
          refine ok_go 0 ?_
          refine sy_load 0 (r := indexAddrOp Tryd.prog 32 (.slice ra r.length rc) (J k)) (h' := g5) (by kernel_rfl) hp3 ?_
          refine ok_go 0 ?_
          refine sy_load 0 (r := loadT Tryd.prog g5 3 p2) (h' := g5) (by kernel_rfl) hp4 ?_
          refine ok_go 1 ?_
          refine sy_no 0 (b := decide (Int.ofNat r[k] < 1)) (by kernel_rfl) (decide_eq_false fun h => absurd (Int.ofNat_lt.1 (show Int.ofNat r[k] < Int.ofNat 1 from h)) (by omega)) ?_
          refine ok_go 2 ?_
          refine sy_load 0 (r := indexAddrOp Tryd.prog 31 (.slice oa ws.length oc) (J j)) (h' := g5) (by kernel_rfl) hp1 ?_
          refine ok_go 1 ?_
          refine sy_load 0 (r := loadT Tryd.prog g5 32 p1) (h' := g5) (by kernel_rfl) hp2 ?_
          refine ok_go 2 ?_
          refine sy_load 0 (r := indexAddrOp Tryd.prog 32 (.slice ra r.length rc) (J k)) (h' := g5) (by kernel_rfl) hp3 ?_
          refine ok_go 1 ?_
          refine sy_load 0 (r := loadT Tryd.prog g5 3 p2) (h' := g5) (by kernel_rfl) hp4 ?_
          refine ok_go 3 ?_
          refine sy_no 0 (b := decide (Int.ofNat r[k] > 30)) (by kernel_rfl) (decide_eq_false fun h => absurd (Int.ofNat_lt.1 (show Int.ofNat 30 < Int.ofNat r[k] from h)) (by omega)) ?_
          refine ok_go 0 ?_
          refine sy_load 0 (r := indexAddrOp Tryd.prog 31 (.slice oa ws.length oc) (J j)) (h' := g5) (by kernel_rfl) hp1 ?_
          refine ok_go 0 ?_
          refine sy_load 0 (r := loadT Tryd.prog g5 32 p1) (h' := g5) (by kernel_rfl) hp2 ?_
          refine ok_go 0 ?_
          refine sy_load 0 (r := indexAddrOp Tryd.prog 32 (.slice ra r.length rc) (J k)) (h' := g5) (by kernel_rfl) hp3 ?_
          refine ok_go 0 ?_
          refine sy_load 0 (r := loadT Tryd.prog g5 3 p2) (h' := g5) (by kernel_rfl) hp4 ?_
          refine ok_go 0 ?_
          have hr31 : r[k] < 31 := by omega
          refine sy_load 0 (r := indexAddrOp Tryd.prog 32 (.slice (some ⟨qv, 0, none⟩) 31 63) (J r[k])) (h' := g5) (v := ptr qv r[k]) (by kernel_rfl) (idxS0 (e := 3) (by kernel_rfl) (by kernel_rfl) hr31) ?_
          refine ok_go 0 ?_
          refine ow_loadF (P := Tryd.prog) (T := 3) (off := r[k]) 0 0 W rfl hr31 (by kernel_rfl) (by kernel_rfl) ?_
          refine ok_go 2 ?_
          have ha12 : accR d (r.take k) < 4096 := accR_12 d _ fun x hx => by have := (h130 x (List.mem_of_mem_take hx)).2; omega
          have hg12 := gv_12 d r[k] (by omega)
          have hxx : xorI (Int.ofNat (accR d (r.take k))) (Int.ofNat (gv d r[k])) = Int.ofNat (accR d (r.take (k + 1))) := by
            rw [accR_take2 d r hkl]
            exact xor_nat (by omega) (by omega)
          exact sy_next 0 _ g5 (by kernel_rfl) (by kernel_rfl) (ih3 (k + 1) _ g5 ⟨hkl, rfl⟩ (show r.length - (k + 1) < r.length - k by omega) ⟨by kernel_rfl, by kernel_rfl, by kernel_rfl, (by kernel_rfl : _ = Value.int .i64 (xorI (Int.ofNat (accR d (r.take k))) (Int.ofNat (gv d r[k])))).trans (by rw [hxx]), (by kernel_rfl : _ = Value.int .i64 (IntKind.wrap .i64 (Int.ofNat (k + 1)))).trans (by rw [hw3]), trivial⟩)
        · intro hkl
          have hkl : r.length ≤ k := no_nat hkl
          obtain rfl : k = r.length := Nat.le_antisymm hk hkl
          refine ok_go 1 ?_
          refine sy_no 0 (b := Int.ofNat (accR d (r.take r.length)) != 0) (by kernel_rfl) (by rw [List.take_length, h0]; rfl) ?_
          refine ok_go 1 ?_
          exact sy_next 0 _ g5 (by kernel_rfl) (by kernel_rfl) (ih2 (j + 1) _ g5 ⟨hjl, rfl⟩ (show ws.length - (j + 1) < ws.length - j by omega) ⟨by kernel_rfl, by kernel_rfl, (by kernel_rfl : _ = Value.int .i64 (IntKind.wrap .i64 (Int.ofNat (j + 1)))).trans (by rw [hw2]), trivial⟩)
      · intro _
        refine ok_go 0 ?_
        refine sy_call 0 (by kernel_rfl) (aw g4) ?_
        refine ok_go 0 ?_
        exact sy_done 0 (v := Value.bool true) (h := g4) (by kernel_rfl) rfl
  · intro _
    have hown : Rds g (.slice ya ys.length yc) (ys.map J) := by
      have := osl_rd (e := 3) (i := q) (zs := ys.map J) (H := g) fun p hp => W.hold p (List.mem_cons_of_mem _ hp)
      rw [List.length_map, ← hos] at this
      exact this
    have hgD : ∀ i, ys.getD i 0 ≤ 200 := fun i => by
      rw [List.getD_eq_getElem?_getD]
      cases hi : ys[i]? with
      | none => exact Nat.zero_le _
      | some y => exact Nat.le_trans (hy30 y (List.mem_of_getElem? hi)) (by decide)
    obtain ⟨_, g3, e3, X3, out, ws, rows, P, rfl, hout, hlen, hrow, hP, hsort, hrows⟩ := mo d ys _ g G (by omega) (fun n hn => by have := hy30 n hn; omega) hown
    obtain ⟨oa, oc, hsh⟩ := hout.shape
    subst hsh
    have W := W.call X3
    have hmem : ∀ r ∈ rows, r ∈ cands d ys ys.length := fun r hr => hP.mem_iff.1 (mem_ddK.1 (by rw [← hrows]; exact hr))
    have hcl := cands_len (d := d) (ns := ys) G.most hgD ys.length
    have hwl : ws.length ≤ 4040 := by
      rw [hlen, hrows]
      refine Nat.le_trans (ddK_len P) ?_
      rw [hP.length_eq]
      omega
    have hnil : 0 < ws.length ↔ accR d ys ≠ 0 := by
      rw [hlen, hrows]
      constructor
      · intro h h0
        have hc := (cands_nil d ys).2 h0
        rw [hc] at hP
        rw [hP.eq_nil] at h
        exact absurd h (by simp [ddK])
      · intro h
        refine List.length_pos_iff.2 (ddK_ne P fun hp => h ((cands_nil d ys).1 ?_))
        rw [hp] at hP
        exact hP.symm.eq_nil
    have hbt : (!decide (Int.ofNat ws.length > 0) == (Int.ofNat (accR d ys) != 0)) = false := by
      by_cases h : 0 < ws.length
      · have h2 := hnil.1 h
        rw [decide_eq_true (show Int.ofNat ws.length > 0 from Int.ofNat_lt.2 h), show (Int.ofNat (accR d ys) != 0) = true from bne_iff_ne.2 fun h3 => h2 (Int.ofNat.inj h3)]
        rfl
      · have h2 : accR d ys = 0 := Classical.byContradiction fun h3 => h (hnil.2 h3)
        rw [decide_eq_false (show ¬ Int.ofNat ws.length > 0 from fun h3 => h (Int.ofNat_lt.1 h3)), h2]
        rfl
    refine ok_go 3 ?_
    refine sy_call 0 (by kernel_rfl) e3 ?_
    refine ok_go 14 ?_
    refine sy_no 0 (b := !decide (Int.ofNat ws.length > 0) == (Int.ofNat (accR d ys) != 0)) (by kernel_rfl) hbt ?_
    refine ok_go 0 ?_
    refine sy_loop 0 100000 g3 (α := Nat) (fun x => [(6, .slice (some ⟨qv, 0, none⟩) 31 63), (12, .slice oa ws.length oc), (14, J x)]) (fun x g => x ≤ ws.length ∧ g = g3) (fun x _ => ws.length - x) 0 (by kernel_rfl) (by kernel_rfl)
      ⟨by kernel_rfl, by kernel_rfl, by kernel_rfl, trivial⟩ (show ws.length - 0 < 100000 by omega) ⟨Nat.zero_le _, rfl⟩ ?_
    rintro m2 j F2 g4 ⟨hj, rfl⟩ ih2
    have hw2 : IntKind.wrap .i64 (Int.ofNat (j + 1)) = Int.ofNat (j + 1) := wrap_nat (by omega)
    refine ok_go 2 ?_
    refine sy_test 0 (decide (Int.ofNat j < Int.ofNat ws.length)) (by kernel_rfl) ?_ ?_
    · intro hjl
      have hjl : j < ws.length := ok_nat hjl
      have hjr : j < rows.length := by omega
      have hRj := hrow j ws[j] rows[j] (List.getElem?_eq_getElem hjl) (List.getElem?_eq_getElem hjr)
      have hin := hmem rows[j] (List.getElem_mem hjr)
      obtain ⟨h130, h0⟩ := cands_to d ys hy30 hin
      have hrl := cands_row hin
      obtain ⟨p1, hp1, hp2⟩ := rdS hout hjl
      generalize ws[j] = w at *
      generalize rows[j] = r at *
      obtain ⟨ra, rc, hrs⟩ := hRj.shape
      rw [List.length_map] at hrs
      subst hrs
      refine ok_go 0 ?_
      refine sy_loop 0 100000 g4 (α := Nat) (fun x => [(6, .slice (some ⟨qv, 0, none⟩) 31 63), (12, .slice oa ws.length oc), (14, J j), (15, J (accR d (r.take x))), (16, J x)]) (fun x g => x ≤ r.length ∧ g = g4) (fun x _ => r.length - x) 0 (by kernel_rfl) (by kernel_rfl)
        ⟨by kernel_rfl, by kernel_rfl, by kernel_rfl, by kernel_rfl, by kernel_rfl, trivial⟩ (show r.length - 0 < 100000 by omega) ⟨Nat.zero_le _, rfl⟩ ?_
      rintro m3 k F3 g5 ⟨hk, rfl⟩ ih3
      have hw3 : IntKind.wrap .i64 (Int.ofNat (k + 1)) = Int.ofNat (k + 1) := wrap_nat (by omega)
      refine ok_go 0 ?_
      refine sy_load 0 (r := indexAddrOp Tryd.prog 31 (.slice oa ws.length oc) (J j)) (h' := g5) (by kernel_rfl) hp1 ?_
      refine ok_go 0 ?_
      refine sy_load 0 (r := loadT Tryd.prog g5 32 p1) (h' := g5) (by kernel_rfl) hp2 ?_
      refine ok_go 2 ?_
      refine sy_test 0 (decide (Int.ofNat k < Int.ofNat r.length)) (by kernel_rfl) ?_ ?_
      · intro hkl
        have hkl : k < r.length := ok_nat hkl
        obtain ⟨p2, hp3, hp4⟩ := rdN hRj hkl
        have h13 := h130 r[k] (List.getElem_mem hkl)
        refine ok_go 0 ?_
        refine sy_load 0 (r := indexAddrOp Tryd.prog 31 (.slice oa ws.length oc) (J j)) (h' := g5) (by kernel_rfl) hp1 ?_
        refine ok_go 0 ?_
        refine sy_load 0 (r := loadT Tryd.prog g5 32 p1) (h' := g5) (by kernel_rfl) hp2 ?_
        refine ok_go 0 ?_
        refine sy_load 0 (r := indexAddrOp Tryd.prog 32 (.slice ra r.length rc) (J k)) (h' := g5) (by kernel_rfl) hp3 ?_
        refine ok_go 0 ?_
        refine sy_load 0 (r := loadT Tryd.prog g5 3 p2) (h' := g5) (by kernel_rfl) hp4 ?_
        refine ok_go 1 ?_
        refine sy_no 0 (b := decide (Int.ofNat r[k] < 1)) (by kernel_rfl) (decide_eq_false fun h => absurd (Int.ofNat_lt.1 (show Int.ofNat r[k] < Int.ofNat 1 from h)) (by omega)) ?_
        refine ok_go 2 ?_
        refine sy_load 0 (r := indexAddrOp Tryd.prog 31 (.slice oa ws.length oc) (J j)) (h' := g5) (by kernel_rfl) hp1 ?_
        refine ok_go 1 ?_
        refine sy_load 0 (r := loadT Tryd.prog g5 32 p1) (h' := g5) (by kernel_rfl) hp2 ?_
        refine ok_go 2 ?_
        refine sy_load 0 (r := indexAddrOp Tryd.prog 32 (.slice ra r.length rc) (J k)) (h' := g5) (by kernel_rfl) hp3 ?_
        refine ok_go 1 ?_
        refine sy_load 0 (r := loadT Tryd.prog g5 3 p2) (h' := g5) (by kernel_rfl) hp4 ?_
        refine ok_go 3 ?_
        refine sy_no 0 (b := decide (Int.ofNat r[k] > 30)) (by kernel_rfl) (decide_eq_false fun h => absurd (Int.ofNat_lt.1 (show Int.ofNat 30 < Int.ofNat r[k] from h)) (by omega)) ?_
        refine ok_go 0 ?_
        refine sy_load 0 (r := indexAddrOp Tryd.prog 31 (.slice oa ws.length oc) (J j)) (h' := g5) (by kernel_rfl) hp1 ?_
        refine ok_go 0 ?_
        refine sy_load 0 (r := loadT Tryd.prog g5 32 p1) (h' := g5) (by kernel_rfl) hp2 ?_
        refine ok_go 0 ?_
        refine sy_load 0 (r := indexAddrOp Tryd.prog 32 (.slice ra r.length rc) (J k)) (h' := g5) (by kernel_rfl) hp3 ?_
        refine ok_go 0 ?_
        refine sy_load 0 (r := loadT Tryd.prog g5 3 p2) (h' := g5) (by kernel_rfl) hp4 ?_
        refine ok_go 0 ?_
        have hr31 : r[k] < 31 := by omega
        refine sy_load 0 (r := indexAddrOp Tryd.prog 32 (.slice (some ⟨qv, 0, none⟩) 31 63) (J r[k])) (h' := g5) (v := ptr qv r[k]) (by kernel_rfl) (idxS0 (e := 3) (by kernel_rfl) (by kernel_rfl) hr31) ?_
        refine ok_go 0 ?_
        refine ow_loadF (P := Tryd.prog) (T := 3) (off := r[k]) 0 0 W rfl hr31 (by kernel_rfl) (by kernel_rfl) ?_
        refine ok_go 2 ?_
        have ha12 : accR d (r.take k) < 4096 := accR_12 d _ fun x hx => by have := (h130 x (List.mem_of_mem_take hx)).2; omega
        have hg12 := gv_12 d r[k] (by omega)
        have hxx : xorI (Int.ofNat (accR d (r.take k))) (Int.ofNat (gv d r[k])) = Int.ofNat (accR d (r.take (k + 1))) := by
          rw [accR_take2 d r hkl]
          exact xor_nat (by omega) (by omega)
        exact sy_next 0 _ g5 (by kernel_rfl) (by kernel_rfl) (ih3 (k + 1) _ g5 ⟨hkl, rfl⟩ (show r.length - (k + 1) < r.length - k by omega) ⟨by kernel_rfl, by kernel_rfl, by kernel_rfl, (by kernel_rfl : _ = Value.int .i64 (xorI (Int.ofNat (accR d (r.take k))) (Int.ofNat (gv d r[k])))).trans (by rw [hxx]), (by kernel_rfl : _ = Value.int .i64 (IntKind.wrap .i64 (Int.ofNat (k + 1)))).trans (by rw [hw3]), trivial⟩)
      · intro hkl
        have hkl : r.length ≤ k := no_nat hkl
        obtain rfl : k = r.length := Nat.le_antisymm hk hkl
        refine ok_go 1 ?_
        refine sy_no 0 (b := Int.ofNat (accR d (r.take r.length)) != 0) (by kernel_rfl) (by rw [List.take_length, h0]; rfl) ?_
        refine ok_go 1 ?_
        exact sy_next 0 _ g5 (by kernel_rfl) (by kernel_rfl) (ih2 (j + 1) _ g5 ⟨hjl, rfl⟩ (show ws.length - (j + 1) < ws.length - j by omega) ⟨by kernel_rfl, by kernel_rfl, (by kernel_rfl : _ = Value.int .i64 (IntKind.wrap .i64 (Int.ofNat (j + 1)))).trans (by rw [hw2]), trivial⟩)
    · intro _
      refine ok_go 0 ?_
      refine sy_call 0 (by kernel_rfl) (aw g4) ?_
      refine ok_go 0 ?_
      exact sy_done 0 (v := Value.bool true) (h := g4) (by kernel_rfl) rfl
end Go.Proofs.YtegcmgjldapnmaaDoor
namespace Go.Proofs.YtegcmgjldapnmaaDoor
open Go Go.Eng Nim Oct
set_option maxRecDepth 100000
theorem moves_up (k : Nat) (d : List Nat) (G : Good d) (ns : List Nat) (x : Value) (h : Hp) (hn : ns.length ≤ 10) (h200 : ∀ n ∈ ns, n ≤ 200) (hx : Rds h x (ns.map J)) : ∃ v h', Ev 100000 (k + 25) 33 [.string (strL (codeS d)), x] h = some (v, h') ∧ MovR h (cands d ns ns.length) v h' :=
  mov_of 100000 k (by decide) (by decide) d G ns hn h200 x h hx
    (fun h => (upV (k + 20) d G).ck h |> fun ⟨v, h', a, b, c⟩ => ⟨v, h', a, b, c⟩)
    (fun n h hn => (upV (k + 20) d G).ls n h hn)
    (fun x g hx => by
      have hx' : Rds g x ((ns.map Int.ofNat).map I) := by rw [List.map_map]; exact hx
      have := has_bad 100000 (k + 21) (ns.map Int.ofNat) (by rw [List.length_map]; omega) (by decide) x g hx'
      rw [show (ns.map Int.ofNat).any badN = false from List.any_eq_false.2 fun z hz => by
        obtain ⟨n, hn, rfl⟩ := List.mem_map.1 hz
        have := h200 n hn
        unfold badN
        simp
        omega] at this
      exact this)
    (fun h => digits_of d G.lt G.most 100000 (k + 23) (by decide) h)
    (fun xa j xc n h => moves_of xa j xc n 100000 (k + 23) h)
    (fun x y g hx hy => without_of 100000 (k + 23) (by decide) d ns (by omega) h200 x y g hx hy)
theorem sawn (l : List Nat) (hl : ∀ n ∈ l, n < 256) (zs : List Int) (_ : zs.length < 2 ^ 63) (xa : Option Addr) (xc : Nat) (h : Hp) (hx : Rds h (.slice xa zs.length xc) (zs.map I)) : ∃ H, Ev 100000 1000 10 [.string (strL l), .slice xa zs.length xc] h = some (.bool true, H) :=
  s10 l hl zs xa xc 999 h hx (fun l h hl => (upO 994).cd l h hl) (fun d n h G hn => (upO 994).va d n h G hn) (fun d ns x h G h1 h2 h3 => moves_up 974 d G ns x h h1 h2 h3) (fun _ => rfl)
end Go.Proofs.YtegcmgjldapnmaaDoor
namespace Go.Proofs.YtegcmgjldapnmaaDoor
open Go Go.Eng Nim Go.ChangeShapes
set_option maxRecDepth 100000
section
variable {HH : Type} {enc : TypeId × Value → HH} {B : Prot} {w0 w : World}
theorem cell_block {w : World} {a : Addr} {v : Value} (h : w.cell? a = some v) : ∃ arr e fz, w.heap[a.block]? = some (.cells arr e fz) ∧ a.spot = none ∧ arr[a.off]? = some v := by
  unfold World.cell? at h
  split at h
  · rename_i c e fz hb
    split at h
    · cases h
    · rename_i hs
      refine ⟨c, e, fz, hb, ?_, h⟩
      cases hq : a.spot with
      | none => rfl
      | some q => rw [hq] at hs; simp at hs
  · cases h
theorem add_spot {a : Addr} (h : a.spot = none) (i : Nat) : a.add i = ⟨a.block, a.off + i, none⟩ := by
  obtain ⟨b, o, s⟩ := a
  simp only at h
  subst h
  unfold Addr.add
  split
  · rename_i h0; subst h0; rfl
  · rfl
/-- A slice in memory, as the evaluator sees it: the cells one by one. -/
theorem openCells {E : Env} {h : Hp} (H : HpOK Tryd.prog B w0 E h w) (hB : ∀ k, k < w.heap.size → B.ro k) {a : Addr} {len cap : Nat} (cs : List Value) (hl : cs.length = len) (hc0 : 0 < cap → a.spot = none)
    (hlc : len ≤ cap) (hcell : ∀ i v, cs[i]? = some v → w.cell? (a.add i) = some (con E v)) (hs : scL h.next cs = true) (h1 : ∀ v ∈ cs, scalar v = true) :
    ∃ E' h' v, HpOK Tryd.prog B w0 E' h' w ∧ Agree h.next E E' ∧ h.Ext h' ∧ con E' v = .slice (some a) len cap ∧ sc h'.next v = true ∧ Rds h' v cs ∧ scalar v = true ∧ WfS v := by
  subst hl
  cases cs with
  | nil =>
    refine ⟨E.ext h.next a.block 0, ⟨h.objs, h.next + 1⟩, .slice (some ⟨h.next, a.off, a.spot⟩) 0 (2 * cap), H.bump a.block, Env.ext_agree _ _ _ _, ⟨Nat.le_succ _, fun j _ => rfl⟩, ?_, by simp [sc], ?_, rfl, ?_⟩
    · obtain ⟨b, o, s⟩ := a
      cases s with
      | none => simp [con, conCap]
      | some q =>
        have hc : cap = 0 := Nat.eq_zero_of_not_pos fun hp => by have := hc0 hp; simp at this
        subst hc
        simp [con, conCap, conOff, conSpot]
    · cases hsp : a.spot with
      | none => exact .inr ⟨h.next, a.off, _, rfl, fun hn => absurd rfl hn⟩
      | some q =>
        have hc : cap = 0 := Nat.eq_zero_of_not_pos fun hp => by have := hc0 hp; rw [hsp] at this; cases this
        subst hc
        exact .inl ⟨⟨_, rfl⟩, rfl⟩
    · cases hsp : a.spot with
      | none => exact .inl ⟨rfl, Nat.zero_le _⟩
      | some q =>
        have hc : cap = 0 := Nat.eq_zero_of_not_pos fun hp => by have := hc0 hp; rw [hsp] at this; cases this
        subst hc
        exact .inr ⟨rfl, rfl⟩
  | cons v r =>
    have h0 := hcell 0 v rfl
    have hsp : a.spot = none := hc0 (by simp at hlc; omega)
    obtain ⟨arr, e, fz, hb, _, ha⟩ := cell_block h0
    rw [add_spot hsp] at ha hb
    have ha0 : a.off + 0 < arr.size := (Array.getElem?_eq_some_iff.1 ha).1
    have hR := H.newRo (m := a.block) (off := a.off) (cs := v :: r) (hB _ (Array.getElem?_eq_some_iff.1 hb).1) hb (by omega) (fun i u hu => by
      have hi := hcell i u hu
      obtain ⟨arr', e', fz', hb', _, ha'⟩ := cell_block hi
      rw [add_spot hsp] at hb' ha'
      rw [hb] at hb'
      cases hb'
      exact ha') hs h1
    refine ⟨_, _, .slice (some ⟨h.next, a.off, none⟩) (r.length + 1) (2 * cap), hR, Env.ext_agree _ _ _ _, Hp.Ext.new _ _, ?_, by simp [sc, Hp.new], .inr ⟨h.next, a.off, _, rfl, fun _ => ⟨Nat.lt_succ_self _, ?_⟩⟩, rfl, .inl ⟨rfl, by simp at hlc; omega⟩⟩
    · obtain ⟨b, o, s⟩ := a
      simp only at hsp
      subst hsp
      simp [con, conCap]
    · unfold loadN
      rw [get_new]
      have hble : Nat.ble a.off a.off = true := Nat.ble_eq_true_of_le (Nat.le_refl _)
      simp only [hble, Nat.sub_self, List.drop_zero]
      exact takeN_all (v :: r)
theorem openInts {E : Env} {h : Hp} (H : HpOK Tryd.prog B w0 E h w) (hB : ∀ k, k < w.heap.size → B.ro k) {fuel : Nat} {c : Value} {x : DataW HH × List MemPlace}
    (ht : DataW.trod enc Tryd.prog w 0 (fun _ => true) true fuel 32 [c] = some x) :
    ∃ (E' : Env) (h' : Hp) (v : Value) (r : List Int), HpOK Tryd.prog B w0 E' h' w ∧ Agree h.next E E' ∧ h.Ext h' ∧ con E' v = c ∧ sc h'.next v = true ∧ Rds h' v (r.map I) ∧ scalar v = true ∧ r.length < 2 ^ 63 ∧ WfS v := by
  rcases open_ints (k := .i64) u22 (by kernel_rfl) (by kernel_rfl) ht with ⟨hc, _⟩ | ⟨a, len, cap, zs, hc, _, hlc, hcm, hzl, _, hcell, hwf⟩
  · simp only [List.cons.injEq, and_true] at hc
    subst hc
    exact ⟨E, h, .slice none 0 0, [], H, Agree.refl _ _, Hp.Ext.refl _, by simp [con], rfl, .inl ⟨⟨none, rfl⟩, rfl⟩, rfl, by decide, ⟨rfl, rfl⟩⟩
  · simp only [List.cons.injEq, and_true] at hc
    subst hc
    simp only [if_true] at hzl
    obtain ⟨E', h', v, k1, k2, k3, k4, k5, k6, k7, k8⟩ := openCells H hB (a := a) (len := len) (cap := cap) ((zs.take len).map I) (by simp; omega) (fun hp => by
        have := hcell 0 (by omega)
        obtain ⟨_, _, _, _, h2, _⟩ := cell_block this
        unfold Addr.add at h2
        simpa using h2) hlc (fun i v hv => by
        have hil : i < len ∧ i < zs.length := by
          have := (List.getElem?_eq_some_iff.1 hv).1
          simp at this
          exact ⟨by omega, by omega⟩
        have := hcell i hil.2
        rw [this]
        rw [List.getElem?_map, List.getElem?_take, if_pos hil.1, List.getElem?_eq_getElem hil.2] at hv
        simp only [Option.map_some, Option.some.injEq] at hv
        subst hv
        rw [List.getD_eq_getElem?_getD, List.getElem?_eq_getElem hil.2]
        simp [con]) (by rw [scL_iff]; intro v hv; obtain ⟨z, _, rfl⟩ := List.mem_map.1 hv; rfl) (fun v hv => by obtain ⟨z, _, rfl⟩ := List.mem_map.1 hv; rfl)
    refine ⟨E', h', v, zs.take len, k1, k2, k3, k4, k5, k6, k7, ?_, k8⟩
    have : maxLen = 2 ^ 63 - 1 := rfl
    rw [List.length_take]
    omega
theorem openIntsArg {E : Env} {h : Hp} (H : HpOK Tryd.prog B w0 E h w) (hB : ∀ k, k < w.heap.size → B.ro k) {v0 : Value} {base : Nat} {d : DataW HH} {p : List MemPlace} (hval : Value.okWide Tryd.prog w .any base 32 v0)
    (ht : DataW.Trod enc Tryd.prog w 0 (fun _ => true) true 32 v0 d p) :
    ∃ (E' : Env) (h' : Hp) (xa : Option Addr) (xc : Nat) (zs : List Int), HpOK Tryd.prog B w0 E' h' w ∧ con E' (.slice xa zs.length xc) = v0 ∧ sc h'.next (.slice xa zs.length xc) = true ∧ Rds h' (.slice xa zs.length xc) (zs.map I) ∧ WfS (.slice xa zs.length xc) ∧ zs.length < 2 ^ 63 := by
  obtain ⟨fuel, ht⟩ := ht
  have hsl : ∃ a l c, v0 = .slice a l c := by
    unfold Value.okWide at hval
    rw [u22] at hval
    simp only [Cell.okWide, u22, Cell.ok] at hval
    cases v0 <;> first | exact ⟨_, _, _, rfl⟩ | simp at hval
  obtain ⟨a0, l0, c0, rfl⟩ := hsl
  have hcells : (Value.slice a0 l0 c0).cells.toList = [.slice a0 l0 c0] := rfl
  rw [hcells] at ht
  obtain ⟨E', h', v, r, j1, j2, j3, j4, j5, j6, j7, j8, j9⟩ := openInts H hB ht
  obtain ⟨xa, xc, hs⟩ := j6.shape
  rw [List.length_map] at hs
  subst hs
  exact ⟨E', h', xa, xc, r, j1, j4, j5, j6, j9, j8⟩
end
theorem said10 (l : List Nat) (hl : ∀ n ∈ l, n < 256) (zs : List Int) (hzs : zs.length < 2 ^ 63) (xa : Option Addr) (xc : Nat) (h : Hp) (hx : Rds h (.slice xa zs.length xc) (zs.map I)) (_ : WfS (.slice xa zs.length xc)) : ∃ H, Ev 100000 1000 10 [.string (strL l), .slice xa zs.length xc] h = some (.bool true, H) := sawn l hl zs hzs xa xc h hx
end Go.Proofs.YtegcmgjldapnmaaDoor
