/- All moves to positions of the value 0, heap by heap. -/
import Derived.Test.YtegcmgjldapnmaaGreatDoorProg
import Derived.KernelRfl
import Derived.Test.YtegcmgjldapnmaaGreatDoorSyF
import Derived.Test.YtegcmgjldapnmaaGreatDoorMoQE
namespace Go.Proofs.YtegcmgjldapnmaaGreatDoor
open Go Go.Eng Nim Oct
def srtL (l : List Nat) : List Nat := l.mergeSort fun a b => decide (a ≤ b)
theorem srtL_perm (l : List Nat) : (srtL l).Perm l := List.mergeSort_perm l _
theorem srtL_pair (l : List Nat) : (srtL l).Pairwise (· ≤ ·) := by
  have := List.pairwise_mergeSort (le := fun a b => decide (a ≤ b)) (fun a b c h1 h2 => by simp at *; omega) (fun a b => by simp; omega) l
  exact this.imp fun h => of_decide_eq_true h
theorem srt_uniq {r c : List Nat} (hp : r.Perm c) (hs : r.Pairwise (· ≤ ·)) : r = srtL c :=
  List.Perm.eq_of_pairwise (fun a b _ _ h1 h2 => Nat.le_antisymm h1 h2) hs (srtL_pair c) (hp.trans (srtL_perm c).symm)
def mrow (ns : List Nat) (i : Nat) (p : Nat × Nat) : List Nat := srtL ((ns.eraseIdx i ++ [p.1, p.2]).filter nz)
def mopt (d ns : List Nat) (i : Nat) (p : Nat × Nat) : Option (List Nat) := if accR d ns ^^^ gv d (ns.getD i 0) ^^^ gv d p.1 ^^^ gv d p.2 = 0 then some (mrow ns i p) else none
def cands (d ns : List Nat) (k : Nat) : List (List Nat) := (List.range k).flatMap fun i => (ops d 0 (ns.getD i 0)).filterMap (mopt d ns i)
theorem cands_succ (d ns : List Nat) (k : Nat) : cands d ns (k + 1) = cands d ns k ++ (ops d 0 (ns.getD k 0)).filterMap (mopt d ns k) := by
  unfold cands
  rw [List.range_succ, List.flatMap_append]
  simp
theorem filt_snoc {d ns : List Nat} {i j : Nat} {l : List (Nat × Nat)} {p : Nat × Nat} (hp : l[j]? = some p) : (l.take (j + 1)).filterMap (mopt d ns i) = (l.take j).filterMap (mopt d ns i) ++ (mopt d ns i p).toList := by
  obtain ⟨hj, e⟩ := List.getElem?_eq_some_iff.1 hp
  rw [List.take_succ_eq_append_getElem hj, e, List.filterMap_append]
  refine congrArg _ ?_
  simp only [List.filterMap_cons, List.filterMap_nil]
  cases mopt d ns i p <;> rfl
end Go.Proofs.YtegcmgjldapnmaaGreatDoor
namespace Go.Proofs.YtegcmgjldapnmaaGreatDoor
open Go Go.Eng Nim Oct
set_option maxRecDepth 100000
set_option maxHeartbeats 8000000
theorem perm_mv {α : Type} (a b c d e f g k : α) (X Y Z : List α) : (a :: b :: (X ++ (c :: d :: e :: f :: g :: k :: (Y ++ Z)))).Perm (e :: c :: d :: f :: g :: k :: a :: b :: ((Y ++ X) ++ Z)) := by
  haveI : DecidableEq α := fun a b => Classical.propDecidable (a = b)
  rw [List.perm_iff_count]
  intro x
  simp only [List.count_cons, List.count_append]
  omega
theorem perm_row {α : Type} (a : α) (X T R O : List α) : (a :: (X ++ ((T ++ R) ++ O))).Perm (X ++ (T ++ ((a :: R) ++ O))) := by
  haveI : DecidableEq α := fun a b => Classical.propDecidable (a = b)
  rw [List.perm_iff_count]
  intro x
  simp only [List.count_cons, List.count_append]
  omega
theorem perm_rot {α : Type} (a b c : α) (l : List α) : (a :: b :: c :: l).Perm (c :: a :: b :: l) :=
  ((List.Perm.swap c b l).cons a).trans (List.Perm.swap c a (b :: l))
theorem perm_fin {α : Type} (x y b12 b10 b7 qv b3 m1 m2 : α) (D Q R : List α) : (x :: y :: b12 :: b10 :: b7 :: qv :: b3 :: m1 :: m2 :: ((D ++ Q) ++ R)).Perm ((x :: ((b7 :: qv :: b3 :: (y :: D)) ++ R)) ++ (b12 :: b10 :: m1 :: m2 :: Q)) := by
  haveI : DecidableEq α := fun a b => Classical.propDecidable (a = b)
  rw [List.perm_iff_count]
  intro x
  simp only [List.count_cons, List.count_append]
  omega
theorem kill2 {h H : Hp} {x : Nat × AObj} {i : Nat} {o : AObj} {l : List (Nat × AObj)} (W : Sto h H (x :: (i, o) :: l)) : Sto h (H.kill i) l := ((W.drop 1).perm (List.perm_append_comm (l₁ := [(i, o)]) (l₂ := l))).kill
theorem op1_len2 (g i n : Nat) : (op1 g i n).length ≤ 1 + n / 2 := by
  unfold op1
  split
  · simp
  · split
    · split <;> simp
    · rw [List.length_append]
      have h1 : (if g / 2 % 2 = 1 then [(n - (i + 1), 0)] else ([] : List (Nat × Nat))).length ≤ 1 := by split <;> simp
      have h2 : (if g / 4 % 2 = 1 then (List.range ((n - (i + 1)) / 2)).map fun a => (a + 1, n - (i + 1) - (a + 1)) else ([] : List (Nat × Nat))).length ≤ n / 2 := by
        split
        · rw [List.length_map, List.length_range]; omega
        · simp
      omega
theorem ops_len2 (n : Nat) : ∀ (d : List Nat) (i : Nat), (ops d i n).length ≤ d.length * (1 + n / 2)
  | [], _ => Nat.zero_le _
  | g :: d, i => by
    have h1 := op1_len2 g i n
    have h2 := ops_len2 n d (i + 1)
    rw [ops, List.length_append, List.length_cons, Nat.add_mul, Nat.one_mul]
    omega
theorem ops_808 {d : List Nat} (hd : d.length ≤ 8) {n : Nat} (hn : n ≤ 200) : (ops d 0 n).length ≤ 808 := by
  have h1 := ops_len2 n d 0
  have h2 : d.length * (1 + n / 2) ≤ 8 * 101 := Nat.mul_le_mul hd (by omega)
  omega
theorem cands_len {d ns : List Nat} (hd : d.length ≤ 8) (h : ∀ i, ns.getD i 0 ≤ 200) : ∀ k, (cands d ns k).length ≤ 808 * k
  | 0 => Nat.zero_le _
  | k + 1 => by
    have h1 := cands_len hd h k
    have h2 := ops_808 hd (h k)
    have h3 := List.length_filterMap_le (mopt d ns k) (ops d 0 (ns.getD k 0))
    rw [cands_succ, List.length_append]
    omega
theorem perm_mk {α : Type} (x : α) (F D R : List α) : (x :: ((F ++ D) ++ R)).Perm (D ++ (x :: (F ++ R))) := by
  haveI : DecidableEq α := fun a b => Classical.propDecidable (a = b)
  rw [List.perm_iff_count]
  intro x
  simp only [List.count_cons, List.count_append]
  omega
theorem perm_q {α : Type} (x o : α) (F R : List α) : (x :: (F ++ (R ++ [o]))).Perm (o :: (x :: (F ++ R))) := by
  haveI : DecidableEq α := fun a b => Classical.propDecidable (a = b)
  rw [List.perm_iff_count]
  intro x
  simp only [List.count_cons, List.count_append, List.count_nil]
  omega
theorem perm_mk2 {α : Type} (y x : α) (F D R : List α) : (y :: x :: ((F ++ D) ++ R)).Perm (D ++ (y :: x :: (F ++ R))) := by
  haveI : DecidableEq α := fun a b => Classical.propDecidable (a = b)
  rw [List.perm_iff_count]
  intro x
  simp only [List.count_cons, List.count_append]
  omega
theorem rds_uniq {H : Hp} {v : Value} {a b : List Value} (h1 : Rds H v a) (h2 : Rds H v b) : a = b := by
  obtain ⟨_, _, e1⟩ := h1.shape
  obtain ⟨_, _, e2⟩ := h2.shape
  have hl : a.length = b.length := by
    rw [e1] at e2
    injection e2
  have ha := (rds_elems h1).2
  have hb := (rds_elems h2).2
  rw [hl, hb] at ha
  exact (Option.some.inj ha).symm
theorem mapJ_inj {r s : List Nat} (h : r.map J = s.map J) : r = s := by
  have := congrArg (List.map fun v => (keyJ v).toNat) h
  rw [List.map_map, List.map_map] at this
  have e : ∀ l : List Nat, l.map ((fun v => (keyJ v).toNat) ∘ J) = l := fun l => (List.map_congr_left fun x _ => rfl).trans (List.map_id l)
  rwa [e, e] at this
theorem cands_row {d ns : List Nat} {k : Nat} {r : List Nat} (h : r ∈ cands d ns k) : r.length ≤ ns.length + 2 := by
  unfold cands at h
  obtain ⟨i, _, h⟩ := List.mem_flatMap.1 h
  obtain ⟨p, _, h⟩ := List.mem_filterMap.1 h
  unfold mopt at h
  split at h
  · cases h
    unfold mrow
    rw [(srtL_perm _).length_eq]
    refine Nat.le_trans (List.length_filter_le _ _) ?_
    rw [List.length_append]
    have := List.length_eraseIdx_le ns i
    simp
    omega
  · cases h
def MovR (h : Hp) (CS : List (List Nat)) (v : Value) (h' : Hp) : Prop :=
  h.Ext h' ∧ ∃ out ws rows P, v = .tuple #[out, J 0] ∧ Rds h' out ws ∧ ws.length = rows.length ∧ (∀ (k : Nat) (w : Value) (r : List Nat), ws[k]? = some w → rows[k]? = some r → Rds h' w (r.map J)) ∧ P.Perm CS ∧ P.Pairwise (fun a b => lexC a b ≤ 0) ∧ rows = ddK P
def OutI (h : Hp) (F : List (Nat × AObj)) (b9 : Nat) (rws : List (List Nat)) (g : Hp) : Prop :=
  ∃ oa oc q vs Lr, Value.slice oa vs.length oc = oslV q vs.length ∧ RowsS Lr vs rws ∧ Sto h g ((b9, .cells [.slice oa vs.length oc] 24 false) :: (F ++ (Lr ++ oent q 22 vs)))
theorem mov_of (lf m : Nat) (hlf : 20000 ≤ lf) (hsm : lf < 2 ^ 62) (d : List Nat) (G : Good d) (ns : List Nat) (hn : ns.length ≤ 10) (h200 : ∀ n ∈ ns, n ≤ 200) (x : Value) (h : Hp) (hx : Rds h x (ns.map J))
    (ck : ∀ h, ∃ v h', Ev lf (m + 24) 13 [.string (strL (codeS d))] h = some (v, h') ∧ v = J 0 ∧ h.Ext h')
    (ls : ∀ n h, n ≤ 2000 → ∃ v h', Ev lf (m + 24) 20 [.string (strL (codeS d)), J n] h = some (v, h') ∧ ∃ q, v = .slice (some ⟨q, 0, none⟩) (n + 1) (2 * (n + 1) + 1) ∧ Sto h h' [(q, .cells (cellsF (n + 1) fun k => J (gv d k)) 3 true)])
    (cb : ∀ x g, Rds g x (ns.map J) → Ev lf (m + 24) 18 [x, .func (.func 19) #[] #[]] g = some (.bool false, g))
    (dg : ∀ h, ∃ v h', Ev lf (m + 24) 23 [.string (strL (codeS d))] h = some (v, h') ∧ ∃ q, v = oslV q d.length ∧ Sto h h' (oent q 3 (d.map J)))
    (mv : ∀ xa k xc n h, ∃ v h', Ev lf (m + 24) 22 [.slice xa k xc, I n] h = some (v, h') ∧ v = .func (.func 46) #[] #[ptr h.next 0, ptr (h.next + 1) 0] ∧ h'.next = h.next + 2 ∧ Sto h h' [(h.next + 1, .cells [I n] 3 false), (h.next, .cells [.slice xa k xc] 22 false)])
    (wo : ∀ x y g, Rds g x (cellsF 201 fun k => J (gv d k)) → Rds g y (ns.map J) → Ev lf (m + 24) 21 [x, y] g = some (J (accR d ns), g)) :
    ∃ v h', Ev lf (m + 25) 6 [.string (strL (codeS d)), x] h = some (v, h') ∧ MovR h (cands d ns ns.length) v h' := by
  refine fnS_ok (Q := fun v h' => MovR h (cands d ns ns.length) v h') ?_
  have W := Sto.start h
  have hgD : ∀ i, ns.getD i 0 ≤ 200 := fun i => by
    rw [List.getD_eq_getElem?_getD]
    cases hi : ns[i]? with
    | none => exact Nat.zero_le _
    | some y => exact h200 y (List.mem_of_getElem? hi)
  obtain ⟨xa, xc, hxs⟩ := hx.shape
  rw [List.length_map] at hxs
  subst hxs
  refine ow_new 0 W (AObj.cells [Value.slice xa (List.length ns) xc] 22 false) (fun q => Value.pointer (some { block := q, off := 0 })) (by kernel_rfl) fun g1 ng1 Wg1 => ?_
  have W := Wg1
  obtain ⟨y1, q1, ec1, rc1⟩ := ck (g1)
  refine sy_call 0 (by kernel_rfl) ec1 ?_
  obtain ⟨rfl, X1⟩ := rc1
  have W := W.call X1
  refine ow_load (P := Tryz.prog) (T := 22) (off := 0) 2 0 W rfl rfl (by kernel_rfl) (by kernel_rfl) ?_
  refine ok_go 2 ?_
  refine sy_no 0 (b := decide (Int.ofNat ns.length > 10)) (by kernel_rfl) (decide_eq_false (by show ¬ (10 : Int) < (ns.length : Int); omega)) ?_
  have hx1 := hx.ext W.ext
  have cb1 := cb _ q1 hx1
  refine ow_load (P := Tryz.prog) (T := 22) (off := 0) 0 0 W rfl rfl (by kernel_rfl) (by kernel_rfl) ?_
  refine sy_call 0 (by kernel_rfl) cb1 ?_
  refine ok_go 1 ?_
  obtain ⟨_, q2, e2, qv, rfl, W2⟩ := ls 200 q1 (by decide)
  have W := W.over W2
  refine sy_call 0 (by kernel_rfl) e2 ?_
  refine ow_new 0 W (AObj.cells [Value.slice none 0 0] 22 false) (fun q => Value.pointer (some { block := q, off := 0 })) (by kernel_rfl) fun u2 nu2 Wu2 => ?_
  have W := Wu2
  refine ow_store (P := Tryz.prog) (T := 22) (off := 0) (v := Value.slice (some { block := qv, off := 0 }) 201 403) 0 0 W rfl (Nat.le_of_ble_eq_true (by kernel_rfl)) (by kernel_rfl) (by first | rfl | assumption) (by kernel_rfl) fun u3 nu3 Wu3 => ?_
  have W := Wu3
  refine ow_load (P := Tryz.prog) (T := 22) (off := 0) 0 0 W rfl rfl (by kernel_rfl) (by kernel_rfl) ?_
  refine ow_load (P := Tryz.prog) (T := 22) (off := 0) 0 2 W rfl rfl (by kernel_rfl) (by kernel_rfl) ?_
  have hvr : Rds u3 (.slice (some ⟨qv, 0, none⟩) 201 403) (cellsF 201 fun k => J (gv d k)) := rd_cells (W.lt 1 rfl) (W.get 1 rfl)
  have wo1 := wo _ _ u3 hvr (hx.ext W.ext)
  refine sy_call 0 (by kernel_rfl) wo1 ?_
  generalize h.next = b3 at *
  generalize q2.next = b7 at *
  have W : Sto h u3 [(b7, .cells [.slice (some ⟨qv, 0, none⟩) 201 403] 22 false), (qv, .cells (cellsF 201 fun k => J (gv d k)) 3 true), (b3, .cells [.slice xa ns.length xc] 22 false)] := W
  refine ow_new 0 W (AObj.cells [Value.slice none 0 0] 24 false) (fun q => Value.pointer (some { block := q, off := 0 })) (by kernel_rfl) fun s2 ns2 Ws2 => ?_
  have W := Ws2
  refine ow_load (P := Tryz.prog) (T := 22) (off := 0) 0 3 W rfl rfl (by kernel_rfl) (by kernel_rfl) ?_
  refine ok_go 1 ?_
  generalize u3.next = b9 at *
  have W : Sto h s2 [(b9, .cells [.slice none 0 0] 24 false), (b7, .cells [.slice (some ⟨qv, 0, none⟩) 201 403] 22 false), (qv, .cells (cellsF 201 fun k => J (gv d k)) 3 true), (b3, .cells [.slice xa ns.length xc] 22 false)] := W
  let F0 : List (Nat × AObj) := [(b7, .cells [.slice (some ⟨qv, 0, none⟩) 201 403] 22 false), (qv, .cells (cellsF 201 fun k => J (gv d k)) 3 true), (b3, .cells [.slice xa ns.length xc] 22 false)]
  refine sy_loop 0 lf s2 (α := Nat × List Nat) (fun x => [(0, .string (strL (codeS d))), (3, ptr b3 0), (7, ptr b7 0), (8, J (accR d ns)), (9, ptr b9 0), (31, .slice xa ns.length xc), (32, J ns.length), (33, J x.1), (slotD, marksV x.2)]) (fun x g => x.1 ≤ ns.length ∧ OutI h (F0 ++ x.2.map fun d => (d, .defd false)) b9 (cands d ns x.1) g) (fun x _ => ns.length - x.1) (0, []) (by kernel_rfl) (by kernel_rfl)
    ⟨by kernel_rfl, by kernel_rfl, by kernel_rfl, by kernel_rfl, by kernel_rfl, by kernel_rfl, by kernel_rfl, by kernel_rfl, by kernel_rfl, trivial⟩ (show ns.length - 0 < lf by omega) ⟨Nat.zero_le _, none, 0, 0, [], [], rfl, ⟨rfl, fun v hv => (by cases hv), fun i rv r hv => (by cases hv)⟩, W⟩ ?_
  clear W e2 cb1 wo1 hvr
  rintro m1 ⟨i, ds⟩ F1 g ⟨hi, O⟩ ih
  dsimp only at hi O
  have hw : IntKind.wrap .i64 (Int.ofNat (i + 1)) = Int.ofNat (i + 1) := wrap_nat (by omega)
  refine ok_go 1 ?_
  refine sy_test 0 (decide (Int.ofNat i < Int.ofNat ns.length)) (by kernel_rfl) ?_ ?_
  · intro hlt
    have hlt : i < ns.length := ok_nat hlt
    obtain ⟨oa, oc, q, vs, Lr, hos, RS, W⟩ := O
    have hxg := hx.ext W.ext
    obtain ⟨p, hp1, hp2⟩ := rdN hxg hlt
    have hn2 := h200 _ (List.getElem_mem hlt)
    have hgd : ns.getD i 0 = ns[i] := by rw [List.getD_eq_getElem?_getD, List.getElem?_eq_getElem hlt]; rfl
    generalize ns[i] = n at *
    refine ok_go 0 ?_
    refine sy_load 0 (r := indexAddrOp Tryz.prog 22 (.slice xa ns.length xc) (J i)) (h' := g) (by kernel_rfl) hp1 ?_
    refine ok_go 0 ?_
    refine sy_load 0 (r := loadT Tryz.prog g 3 p) (h' := g) (by kernel_rfl) hp2 ?_
    refine ow_new 0 W (AObj.cells [Value.int IntKind.i64 (Int.ofNat 0)] 3 false) (fun q => Value.pointer (some { block := q, off := 0 })) (by kernel_rfl) fun k1 nk1 Wk1 => ?_
    have W := Wk1
    refine ow_store (P := Tryz.prog) (T := 3) (off := 0) (v := Value.int IntKind.i64 (Int.ofNat (Prod.fst (i, ds)))) 0 0 W rfl (Nat.le_of_ble_eq_true (by kernel_rfl)) (by kernel_rfl) (by first | rfl | assumption) (by kernel_rfl) fun k2 nk2 Wk2 => ?_
    have W := Wk2
    refine ow_load (P := Tryz.prog) (T := 22) (off := 0) 0 2 W rfl rfl (by kernel_rfl) (by kernel_rfl) ?_
    refine sy_load 0 (r := indexAddrOp Tryz.prog 22 (Value.slice (some { block := qv, off := 0 }) 201 403) (Value.int IntKind.i64 (Int.ofNat n))) (h' := k2) (by kernel_rfl) (idxS0 (e := 3) (by kernel_rfl) (by kernel_rfl) (by omega)) ?_
    refine ow_loadF (P := Tryz.prog) (T := 3) (off := n) 0 3 W rfl (by omega) (by kernel_rfl) (by kernel_rfl) ?_
    refine ow_new 1 W (AObj.cells [Value.int IntKind.i64 (Int.ofNat 0)] 3 false) (fun q => Value.pointer (some { block := q, off := 0 })) (by kernel_rfl) fun k3 nk3 Wk3 => ?_
    have W := Wk3
    refine ow_store (P := Tryz.prog) (T := 3) (off := 0) (v := Value.int IntKind.i64 (IntKind.wrap IntKind.i64 (Int.ofNat (BitVec.toNat (BitVec.ofInt (IntKind.bits IntKind.i64) (Int.ofNat (accR d ns)) ^^^ BitVec.ofInt (IntKind.bits IntKind.i64) (Int.ofNat (gv d n))))))) 0 0 W rfl (Nat.le_of_ble_eq_true (by kernel_rfl)) (by kernel_rfl) (by first | rfl | assumption) (by kernel_rfl) fun k4 nk4 Wk4 => ?_
    have W := Wk4
    have hs12 := accR_12 d ns fun x hx => by have := h200 x hx; omega
    have hg12 := gv_12 d n (by omega)
    have hxr : xorI (Int.ofNat (accR d ns)) (Int.ofNat (gv d n)) = Int.ofNat (accR d ns ^^^ gv d n) := xor_nat (by omega) (by omega)
    generalize g.next = b10 at *
    generalize k2.next = b12 at *
    have W : Sto h k4 ((b12, .cells [I (xorI (Int.ofNat (accR d ns)) (Int.ofNat (gv d n)))] 3 false) :: (b10, .cells [J i] 3 false) :: (b9, .cells [.slice oa vs.length oc] 24 false) :: (F0 ++ (ds.map fun d => (d, .defd false)) ++ (Lr ++ oent q 22 vs))) := W
    rw [hxr] at W
    obtain ⟨_, g5, e5, dq, hdq, W5⟩ := dg k4
    have W := W.over W5
    obtain ⟨da, dc, hsh⟩ : ∃ a c, oslV dq d.length = .slice a d.length c := by
      cases d.length <;> exact ⟨_, _, rfl⟩
    rw [hsh] at hdq
    subst hdq
    refine sy_call 0 (by kernel_rfl) e5 ?_
    refine ok_go 0 ?_
    obtain ⟨_, g7, e7, rfl, ng7, W7⟩ := mv da d.length dc (Int.ofNat n) g5
    have W := W.over W7
    refine sy_call 0 (by kernel_rfl) e7 ?_
    let TL : List (Nat × AObj) := (ds.map fun d => (d, .defd false)) ++ oent dq 3 (d.map J)
    have W : Sto h g7 ((b9, .cells [.slice oa vs.length oc] 24 false) :: (b12, .cells [J (accR d ns ^^^ gv d n)] 3 false) :: (b10, .cells [J i] 3 false) :: (b7, .cells [.slice (some ⟨qv, 0, none⟩) 201 403] 22 false) :: (qv, .cells (cellsF 201 fun k => J (gv d k)) 3 true) :: (b3, .cells [.slice xa ns.length xc] 22 false) ::
      (g5.next + 1, .cells [J n] 3 false) :: (g5.next, .cells [.slice da d.length dc] 22 false) :: (TL ++ (Lr ++ oent q 22 vs))) := W.perm (perm_mv ..)
    refine ow_range 0 (callF := evInv Tryz.prog orc lf (m + 24)) (P := Tryz.prog) (lf := lf) (m := 85) (rcOf Tryz.prog 6 0) W [(3, ptr b3 0), (7, ptr b7 0), (9, ptr b9 0), (10, ptr b10 0), (12, ptr b12 0)] 46 [.func (.yield (g7.next + 1)) #[] #[], ptr g5.next 0, ptr (g5.next + 1) 0]
      (by kernel_rfl) (fun F => by kernel_rfl) ⟨by kernel_rfl, by kernel_rfl, by kernel_rfl, by kernel_rfl, by kernel_rfl, trivial⟩ (by kernel_rfl) (by kernel_rfl) fun F1 f2 HH hr nH W => ?_
    let CC : RC := rcOf Tryz.prog 6 0
    let FF : List (Nat × AObj) := (g7.next + 1, CC.obj F1 g7.next .ready none) :: (g7.next, .defd false) :: (b12, .cells [J (accR d ns ^^^ gv d n)] 3 false) :: (b10, .cells [J i] 3 false) :: (b7, .cells [.slice (some ⟨qv, 0, none⟩) 201 403] 22 false) :: (qv, .cells (cellsF 201 fun k => J (gv d k)) 3 true) :: (b3, .cells [.slice xa ns.length xc] 22 false) ::
      (g5.next + 1, .cells [J n] 3 false) :: (g5.next, .cells [.slice da d.length dc] 22 false) :: TL
    let Iv : Nat → Hp → Prop := fun j q => OutI h FF b9 (cands d ns i ++ ((ops d 0 n).take j).filterMap (mopt d ns i)) q
    have hyI : ∀ j p q, (ops d 0 n)[j]? = some p → Iv j q → ∃ q', evInv Tryz.prog orc lf (m + 23) (.yield (g7.next + 1) [J p.1, J p.2]) q = some (.bool true, q') ∧ Iv (j + 1) q' := fun j p q hp O => by
      have key : ∃ w q', evInv Tryz.prog orc lf (m + 23) (.yield (g7.next + 1) [J p.1, J p.2]) q = some (w, q') ∧ (w = .bool true ∧ Iv (j + 1) q') := by
        obtain ⟨oa, oc, oq, vs, Lr, hos, RS, W⟩ := O
        refine yld_ok (c := CC) (Q := fun w q' => w = .bool true ∧ Iv (j + 1) q') hr (W.get 1 rfl) (by kernel_rfl) ?_
        have hlt2 := ops_lt (List.mem_of_getElem? hp)
        have W : Sto h q ((b9, .cells [.slice oa vs.length oc] 24 false) :: (g7.next + 1, CC.obj F1 g7.next .ready none) :: (g7.next, .defd false) :: (b12, .cells [J (accR d ns ^^^ gv d n)] 3 false) :: (b10, .cells [J i] 3 false) :: (b7, .cells [.slice (some ⟨qv, 0, none⟩) 201 403] 22 false) :: (qv, .cells (cellsF 201 fun k => J (gv d k)) 3 true) :: (b3, .cells [.slice xa ns.length xc] 22 false) ::
          (g5.next + 1, .cells [J n] 3 false) :: (g5.next, .cells [.slice da d.length dc] 22 false) :: (TL ++ (Lr ++ oent oq 22 vs))) := W
        refine ow_busy 0 1 W rfl (by kernel_rfl) fun b1 nb1 Wb1 => ?_
        have W := Wb1
        refine ow_load (P := Tryz.prog) (T := 3) (off := 0) 0 3 W rfl rfl (by kernel_rfl) (by kernel_rfl) ?_
        refine ow_load (P := Tryz.prog) (T := 22) (off := 0) 0 5 W rfl rfl (by kernel_rfl) (by kernel_rfl) ?_
        refine sy_load 0 (r := indexAddrOp Tryz.prog 22 (Value.slice (some { block := qv, off := 0 }) 201 403) (Value.int IntKind.i64 (Int.ofNat (Prod.fst p)))) (h' := b1) (by kernel_rfl) (idxS0 (e := 3) (by kernel_rfl) (by kernel_rfl) (by omega)) ?_
        refine ow_loadF (P := Tryz.prog) (T := 3) (off := Prod.fst p) 0 6 W rfl (by omega) (by kernel_rfl) (by kernel_rfl) ?_
        refine ow_load (P := Tryz.prog) (T := 22) (off := 0) 1 5 W rfl rfl (by kernel_rfl) (by kernel_rfl) ?_
        refine sy_load 0 (r := indexAddrOp Tryz.prog 22 (Value.slice (some { block := qv, off := 0 }) 201 403) (Value.int IntKind.i64 (Int.ofNat (Prod.snd p)))) (h' := b1) (by kernel_rfl) (idxS0 (e := 3) (by kernel_rfl) (by kernel_rfl) (by omega)) ?_
        refine ow_loadF (P := Tryz.prog) (T := 3) (off := Prod.snd p) 0 6 W rfl (by omega) (by kernel_rfl) (by kernel_rfl) ?_
        refine ok_go 2 ?_
        have ga := gv_12 d p.1 (by omega)
        have gb := gv_12 d p.2 (by omega)
        have hx1 : xorI (Int.ofNat (accR d ns ^^^ gv d n)) (Int.ofNat (gv d p.1)) = Int.ofNat (accR d ns ^^^ gv d n ^^^ gv d p.1) := xor_nat (by have := xor_12 hs12 hg12; omega) (by omega)
        have hx2 : xorI (xorI (Int.ofNat (accR d ns ^^^ gv d n)) (Int.ofNat (gv d p.1))) (Int.ofNat (gv d p.2)) = Int.ofNat (accR d ns ^^^ gv d n ^^^ gv d p.1 ^^^ gv d p.2) := by
          rw [hx1]
          exact xor_nat (by have := xor_12 (xor_12 hs12 hg12) ga; omega) (by omega)
        have hfs := filt_snoc (d := d) (ns := ns) (i := i) hp
        refine sy_test 0 (xorI (xorI (Int.ofNat (accR d ns ^^^ gv d n)) (Int.ofNat (gv d p.1))) (Int.ofNat (gv d p.2)) != 0) (by kernel_rfl) ?_ ?_
        · intro hne
          have hmo : mopt d ns i p = none := by
            unfold mopt
            rw [hgd, if_neg]
            intro h0
            rw [hx2, h0] at hne
            exact absurd hne (by decide)
          rw [hmo] at hfs
          have hfs : ((ops d 0 n).take (j + 1)).filterMap (mopt d ns i) = ((ops d 0 n).take j).filterMap (mopt d ns i) := hfs.trans (List.append_nil _)
          refine ow_round 0 1 W rfl (by kernel_rfl) fun c1 nc1 Wc1 => ?_
          have W := Wc1
          refine sy_done 0 (v := Value.bool true) (h := c1) (by kernel_rfl) ?_
          refine ⟨rfl, ?_⟩
          show OutI h FF b9 (cands d ns i ++ ((ops d 0 n).take (j + 1)).filterMap (mopt d ns i)) c1
          rw [hfs]
          exact ⟨oa, oc, oq, vs, Lr, hos, RS, W⟩
        · intro hne
          have hmo : mopt d ns i p = some (mrow ns i p) := by
            unfold mopt
            rw [hgd, if_pos]
            rw [hx2] at hne
            have : Int.ofNat (accR d ns ^^^ gv d n ^^^ gv d p.1 ^^^ gv d p.2) = 0 := by simpa using hne
            exact Int.ofNat.inj this
          rw [hmo] at hfs
          refine ow_load (P := Tryz.prog) (T := 22) (off := 0) 0 7 W rfl rfl (by kernel_rfl) (by kernel_rfl) ?_
          obtain ⟨N, hN⟩ : ∃ N, ns.length = N + 1 := ⟨ns.length - 1, by omega⟩
          have hml : (ns.map J).length = N + 1 := by rw [List.length_map]; exact hN
          have hsJ : ∀ l : List Nat, (l.map J).all scalar = true := fun l => List.all_eq_true.2 fun x hx => by obtain ⟨y, _, rfl⟩ := List.mem_map.1 hx; rfl
          obtain ⟨_, w1, e1, r1, hv1, W⟩ := clone_of lf (m + 21) (ns.map J) (by omega) (by omega) (hsJ ns) (.slice xa ns.length xc) h _ b1 (hx.ext W.ext) W
          rw [hml] at hv1
          subst hv1
          have Ww1 := W
          refine sy_call 0 (by kernel_rfl) e1 ?_
          refine ow_load (P := Tryz.prog) (T := 3) (off := 0) 0 5 W rfl rfl (by kernel_rfl) (by kernel_rfl) ?_
          refine ow_load (P := Tryz.prog) (T := 3) (off := 0) 0 5 W rfl rfl (by kernel_rfl) (by kernel_rfl) ?_
          refine ok_go 1 ?_
          obtain ⟨_, w2, e2, rfl, W⟩ := del_of lf (m + 21) N i r1 (by omega) (by omega) (ns.map J) hml (hsJ ns) h _ w1 W
          have Ww2 := W
          have e2 : Ev lf (m + 22) 24 [.slice (some ⟨r1, 0, none⟩) (N + 1) (2 * (N + 1) + 1), J i, I (IntKind.wrap .i64 (Int.ofNat (i + 1)))] w1 = some (.slice (some ⟨r1, 0, none⟩) N (2 * (N + 1) + 1), w2) := by rw [hw]; exact e2
          refine sy_call 0 (by kernel_rfl) e2 ?_
          refine ow_new 0 W (AObj.cells [Value.int IntKind.i64 (Int.ofNat (Prod.fst p)), Value.int IntKind.i64 (Int.ofNat (Prod.snd p))] 3 false) (fun q => Value.slice (some { block := q, off := 0 }) 2 4) (by kernel_rfl) fun c1 nc1 Wc1 => ?_
          have W := Wc1
          have hol : ((ns.map J).eraseIdx i).length = N := by rw [List.length_eraseIdx_of_lt (by omega), hml]; omega
          have hoe : (ns.map J).eraseIdx i ++ [J p.1, J p.2] = (ns.eraseIdx i ++ [p.1, p.2]).map J := by simp [List.eraseIdx_eq_take_drop_succ, List.map_append, List.map_take, List.map_drop]
          have hzl : (ns.eraseIdx i ++ [p.1, p.2]).length = N + 2 := by
            have := congrArg List.length hoe
            rw [List.length_append, hol, List.length_map] at this
            rw [← this]; rfl
          have happ := app_two (g := c1) (q := r1) (n := N) (N := N + 1) (cs := (ns.map J).eraseIdx i ++ [J 0]) (old := (ns.map J).eraseIdx i) (new := [J p.1, J p.2]) (x := .slice (some ⟨w2.next, 0, none⟩) 2 4) (W.get 1 rfl) (by rw [List.length_append, hol]; rfl) (by rw [List.take_append_of_le_length (by omega), List.take_of_length_le (by omega)]) (by omega) (by show N + 1 < N + 2; omega) (by show N + 2 ≤ 10000; omega) rfl (by simp only [elems, loadN, W.get 0 rfl]; rfl) rfl
          have W := (kill2 W).new (.cells ((ns.map J).eraseIdx i ++ [J p.1, J p.2]) 3 true)
          refine sy_call 0 (by kernel_rfl) happ ?_
          generalize hc2 : (c1.kill r1).new (.cells ((ns.map J).eraseIdx i ++ [J p.1, J p.2]) 3 true) = c2 at *
          rw [hoe] at W
          refine sy_need 0 [] [⟨(loadT Tryz.prog b1 3 (ptr (b10) (0))).map (·, b1), Value.int IntKind.i64 (Int.ofNat i), b1⟩, ⟨(loadT Tryz.prog b1 3 (ptr (b10) (0))).map (·, b1), Value.int IntKind.i64 (Int.ofNat i), b1⟩] (by kernel_rfl) ⟨ob_load (P := Tryz.prog) (T := 3) (k := 4) Wb1 rfl rfl (by kernel_rfl), ob_load (P := Tryz.prog) (T := 3) (k := 4) Wb1 rfl rfl (by kernel_rfl), trivial⟩ ?_
          generalize hr2 : (c1.kill r1).next = r2 at *
          have hzl2 : ns.eraseIdx i ++ [p.1, p.2] = ns.eraseIdx i ++ [p.1, p.2] := rfl
          obtain ⟨_, w3, e3, rfl, cs3, W, hc3, ht3⟩ := delf_of lf (m + 19) (by omega) hsm (ns.eraseIdx i ++ [p.1, p.2]) (N + 2) hzl (by omega) (by omega) r2 h _ c2 W
          have hfl : ((ns.eraseIdx i ++ [p.1, p.2]).filter nz).length ≤ N + 2 := by rw [← hzl]; exact List.length_filter_le _ _
          refine sy_call 0 (by kernel_rfl) e3 ?_
          obtain ⟨v4, w4, e4, cs4, ys, W, hc4, ht4, hpm, hpw⟩ := sortI_of lf (m + 17) hlf cs3 (N + 2) ((ns.eraseIdx i ++ [p.1, p.2]).filter nz).length (2 * (N + 2) + 1) r2 hc3 (by omega) hfl (by omega) _ rfl ht3 h _ w3 W
          have hys : ys = mrow ns i p := srt_uniq hpm hpw
          have hyl : ys.length = ((ns.eraseIdx i ++ [p.1, p.2]).filter nz).length := hpm.length_eq
          rw [← hyl] at ht4
          refine sy_call 0 (by kernel_rfl) e4 ?_
          refine ow_load (P := Tryz.prog) (T := 24) (off := 0) 0 1 W rfl rfl (by kernel_rfl) (by kernel_rfl) ?_
          refine ow_new 0 W (AObj.cells [Value.slice (some { block := r2, off := 0 }) (List.length (List.filter nz (List.eraseIdx ns i ++ [Prod.fst p, Prod.snd p]))) (2 * (N + 2) + 1)] 22 false) (fun q => Value.slice (some { block := q, off := 0 }) 1 2) (by kernel_rfl) fun e1 ne1 We1 => ?_
          have W := We1
          let FX : List (Nat × AObj) := (b9, .cells [.slice oa vs.length oc] 24 false) :: (g7.next + 1, CC.obj F1 g7.next .busy none) :: (g7.next, .defd false) :: (b12, .cells [J (accR d ns ^^^ gv d n)] 3 false) :: (b10, .cells [J i] 3 false) :: (b7, .cells [.slice (some ⟨qv, 0, none⟩) 201 403] 22 false) :: (qv, .cells (cellsF 201 fun k => J (gv d k)) 3 true) :: (b3, .cells [.slice xa ns.length xc] 22 false) ::
            (g5.next + 1, .cells [J n] 3 false) :: (g5.next, .cells [.slice da d.length dc] 22 false) :: (TL ++ Lr)
          let OV : Value := .slice (some ⟨r2, 0, none⟩) ((ns.eraseIdx i ++ [p.1, p.2]).filter nz).length (2 * (N + 2) + 1)
          have W : Sto h e1 ((w4.next, .cells [OV] 22 false) :: (((r2, .cells cs4 3 true) :: FX) ++ oent oq 22 vs)) := by
            simp only [FX, List.cons_append, List.append_assoc]
            exact W
          have hrow : RowIn [(r2, .cells cs4 3 true)] OV (mrow ns i p) := fun H K => by
            obtain ⟨k1, k2⟩ := K _ (List.mem_singleton.2 rfl)
            refine .inr ⟨r2, 0, _, by rw [← hys, List.length_map, hyl], fun _ => ⟨k1, ?_⟩⟩
            unfold loadN
            rw [k2]
            show takeN _ (cs4.drop 0) = _
            rw [List.drop_zero, ← hys, List.length_map]
            have := takeN_take (takeN_all cs4) ys.length (by omega)
            rw [this, ht4]
          have hvl : vs.length < 16777215 := by
            have k1 := cands_len (d := d) (ns := ns) G.most hgD i
            have k2 := ops_808 G.most hn2
            have k3 := List.length_filterMap_le (mopt d ns i) ((ops d 0 n).take j)
            have k4 := RS.len
            rw [List.length_append] at k4
            rw [List.length_take] at k3
            omega
          refine ow_app (P := Tryz.prog) (t := 24) (e := 22) (z := 1) (c := vs.length) (i := oq) 0 W slz31 (by rw [Nat.mul_one]) rfl rfl hvl (by rw [← hos]; kernel_rfl) fun e2 sl2 ne2 hsl2 hsc2 W => ?_
          obtain ⟨na, nc, hns⟩ : ∃ a c, oslV e1.next (vs ++ [OV]).length = .slice a (vs ++ [OV]).length c := by
            cases (vs ++ [OV]).length <;> exact ⟨_, _, rfl⟩
          have hsl3 : sl2 = .slice na (vs ++ [OV]).length nc := by rw [hsl2, ← hns, List.length_append]; rfl
          subst hsl3
          have RS2 := RS.snoc (rv := OV) rfl hrow
          have W : Sto h e2 ((r2, .cells cs4 3 true) :: (b9, .cells [.slice oa vs.length oc] 24 false) :: (g7.next + 1, CC.obj F1 g7.next .busy none) :: (g7.next, .defd false) :: (b12, .cells [J (accR d ns ^^^ gv d n)] 3 false) :: (b10, .cells [J i] 3 false) :: (b7, .cells [.slice (some ⟨qv, 0, none⟩) 201 403] 22 false) :: (qv, .cells (cellsF 201 fun k => J (gv d k)) 3 true) :: (b3, .cells [.slice xa ns.length xc] 22 false) ::
            (g5.next + 1, .cells [J n] 3 false) :: (g5.next, .cells [.slice da d.length dc] 22 false) :: ((TL ++ Lr) ++ oent e1.next 22 (vs ++ [OV]))) := W
          refine ow_store (P := Tryz.prog) (T := 24) (off := 0) (v := Value.slice na (List.length (vs ++ [OV])) nc) 0 1 W rfl (Nat.le_of_ble_eq_true (by kernel_rfl)) (by kernel_rfl) (by first | rfl | assumption) (by kernel_rfl) fun f1 nf1 Wf1 => ?_
          have W := Wf1
          refine ow_round 0 2 W rfl (by kernel_rfl) fun f2 nf2 Wf2 => ?_
          have W := Wf2
          refine sy_done 0 (v := Value.bool true) (h := f2) (by kernel_rfl) ?_
          refine ⟨rfl, ?_⟩
          show OutI h FF b9 (cands d ns i ++ ((ops d 0 n).take (j + 1)).filterMap (mopt d ns i)) f2
          rw [hfs, ← List.append_assoc]
          refine ⟨na, nc, e1.next, vs ++ [OV], (r2, .cells cs4 3 true) :: Lr, hns.symm, RS2, ?_⟩
          exact W.perm (perm_row _ [(b9, .cells [.slice na (vs ++ [OV]).length nc] 24 false), (g7.next + 1, CC.obj F1 g7.next .ready none), (g7.next, .defd false), (b12, .cells [J (accR d ns ^^^ gv d n)] 3 false), (b10, .cells [J i] 3 false), (b7, .cells [.slice (some ⟨qv, 0, none⟩) 201 403] 22 false), (qv, .cells (cellsF 201 fun k => J (gv d k)) 3 true), (b3, .cells [.slice xa ns.length xc] 22 false), (g5.next + 1, .cells [J n] 3 false), (g5.next, .cells [.slice da d.length dc] 22 false)] TL Lr _)
      obtain ⟨w, q', e, rfl, J1⟩ := key
      exact ⟨q', e, J1⟩
    have hI : ∀ j q, Iv j q → q.get g5.next = some (.cells [.slice da d.length dc] 22 false) ∧ q.get (g5.next + 1) = some (.cells [J n] 3 false) ∧ Rds q (.slice da d.length dc) (d.map J) := fun j q O => by
      obtain ⟨oa, oc, oq, vs, Lr, hos, RS, W⟩ := O
      refine ⟨W.get 9 rfl, W.get 8 rfl, ?_⟩
      have := osl_rd (e := 3) (i := dq) (zs := d.map J) (H := q) (fun p hp => by
        have := W.all p (by
          simp only [FF, TL, List.mem_cons, List.mem_append]
          simp [hp])
        exact this.2)
      rw [List.length_map, hsh] at this
      exact this
    obtain ⟨v8, h8, e8, O8⟩ := moves_run d n (by omega) G.lt G.most lf (m + 23) g5.next (g5.next + 1) (g7.next + 1) hlf da dc Iv hI hyI HH ⟨oa, oc, q, vs, Lr, hos, by
      show RowsS Lr vs (cands d ns i ++ [])
      rw [List.append_nil]; exact RS, by
      exact W.perm (perm_rot ..)⟩
    have O8 : OutI h FF b9 (cands d ns (i + 1)) h8 := by
      rw [cands_succ, hgd]
      have := O8
      simp only [Iv, List.take_length] at this
      exact this
    obtain ⟨oa8, oc8, q8, vs8, Lr8, hos8, RS8, W8⟩ := O8
    refine ⟨v8, h8, .ready, none, g7.next, .normal, _, e8, W8.perm (List.Perm.swap ..), by decide, rfl, fun h9 n9 W => ?_⟩
    have W := (W.perm (perm_fin _ _ _ _ _ _ _ _ _ (ds.map fun d => (d, .defd false)) (oent dq 3 (d.map J)) (Lr8 ++ oent q8 22 vs8))).sub (List.sublist_append_left _ _)
    refine ok_go 1 ?_
    exact sy_next 0 _ h9 (by kernel_rfl) (by kernel_rfl) (ih (i + 1, g7.next :: ds) _ h9 ⟨hlt, oa8, oc8, q8, vs8, Lr8, hos8, RS8, W⟩ (show ns.length - (i + 1) < ns.length - i by omega) ⟨by kernel_rfl, by kernel_rfl, by kernel_rfl, by kernel_rfl, by kernel_rfl, by kernel_rfl, by kernel_rfl, (by kernel_rfl : _ = Value.int .i64 (IntKind.wrap .i64 (Int.ofNat (i + 1)))).trans (by rw [hw]), by kernel_rfl, trivial⟩)
  · intro hlt
    obtain rfl : i = ns.length := Nat.le_antisymm hi (no_nat hlt)
    obtain ⟨oa, oc, q, vs, Lr, hos, RS, W⟩ := O
    have hcl := cands_len (d := d) (ns := ns) G.most hgD ns.length
    generalize hCS : cands d ns ns.length = CS at *
    have hvl := RS.len
    refine ow_load (P := Tryz.prog) (T := 24) (off := 0) 0 0 W rfl rfl (by kernel_rfl) (by kernel_rfl) ?_
    rcases Nat.eq_zero_or_pos vs.length with hv0 | hv0
    · obtain rfl : vs = [] := List.eq_nil_of_length_eq_zero hv0
      cases hos
      obtain ⟨v1, g1, e1, hg1⟩ := sortf_nil lf (m + 21) 30 hlf g
      rw [hg1] at e1
      refine sy_call 0 (by kernel_rfl) e1 ?_
      refine ow_load (P := Tryz.prog) (T := 24) (off := 0) 0 0 W rfl rfl (by kernel_rfl) (by kernel_rfl) ?_
      refine ok_go 1 ?_
      refine ow_marks 0 ds (W.perm (perm_mk ..)) (by kernel_rfl) fun g6 ng6 W => ?_
      refine sy_done 0 (v := Value.tuple { toList := [Value.slice none 0 0, Value.int IntKind.i64 (Int.ofNat 0)] }) (h := g6) (by kernel_rfl) ?_
      have hC0 : CS = [] := List.eq_nil_of_length_eq_zero hvl.symm
      exact ⟨W.ext, .slice none 0 0, [], [], [], rfl, .inl ⟨⟨_, rfl⟩, rfl⟩, rfl, fun k w r h1 => (by simp at h1), by rw [hC0], List.Pairwise.nil, rfl⟩
    · obtain ⟨N, hN⟩ : ∃ N, vs.length = N := ⟨_, rfl⟩
      have hos2 : Value.slice oa vs.length oc = .slice (some ⟨q, 0, none⟩) N (2 * N + 1) := by
        rw [hos, hN]
        obtain ⟨k, rfl⟩ : ∃ k, N = k + 1 := ⟨N - 1, by omega⟩
        rfl
      rw [hos2] at W ⊢
      have hN1 : N ≤ 10000 := by omega
      have hoe : oent q 22 vs = [(q, .cells vs 22 true)] := by
        cases vs with
        | nil => exact absurd hv0 (by decide)
        | cons v r => rfl
      rw [hoe] at W
      let LL : List (Nat × AObj) := (b9, .cells [.slice (some ⟨q, 0, none⟩) N (2 * N + 1)] 24 false) :: ((F0 ++ ds.map fun d => (d, .defd false)) ++ Lr)
      have W : Sto h g ((q, .cells vs 22 true) :: LL) := W.perm (perm_q ..)
      have hLr : ∀ cs g, Sto h g ((q, .cells cs 22 true) :: LL) → Hold g Lr := fun cs g W => W.hold.sub fun p hp => by
        refine List.mem_cons_of_mem _ (List.mem_cons_of_mem _ (List.mem_append_right _ hp))
      have hg0 := hLr _ g W
      obtain ⟨key, hkey⟩ : ∃ key : Value → List Nat, ∀ v, (∃ r, RowIn Lr v r) → RowIn Lr v (key v) := by
        classical
        refine ⟨fun v => if h : ∃ r, RowIn Lr v r then h.choose else [], fun v h => ?_⟩
        show RowIn Lr v (if h : ∃ r, RowIn Lr v r then h.choose else [])
        rw [dif_pos h]
        exact h.choose_spec
      have hku : ∀ v r, RowIn Lr v r → key v = r := fun v r hr => mapJ_inj (rds_uniq (hkey v ⟨r, hr⟩ g hg0) (hr g hg0))
      let V : Value → Prop := fun v => scalar v = true ∧ ∃ r, RowIn Lr v r ∧ r.length ≤ 1000
      have hVk : ∀ v, V v → RowIn Lr v (key v) ∧ (key v).length ≤ 1000 := fun v hv => by
        obtain ⟨_, r, hr, hl⟩ := hv
        exact ⟨hkey v ⟨r, hr⟩, by rw [hku v r hr]; exact hl⟩
      have hrow : ∀ k, ∀ hk : k < vs.length, RowIn Lr vs[k] (CS[k]'(by omega)) := fun k hk => RS.row k _ _ (List.getElem?_eq_getElem hk) (List.getElem?_eq_getElem (by omega))
      have hVv : ∀ v ∈ vs, V v := fun v hv => by
        obtain ⟨k, hk, rfl⟩ := List.getElem_of_mem hv
        refine ⟨RS.sc _ hv, _, hrow k hk, ?_⟩
        have := cands_row (d := d) (ns := ns) (k := ns.length) (r := CS[k]'(by omega)) (by rw [hCS]; exact List.getElem_mem _)
        omega
      have hvk : vs.map key = CS := by
        apply List.ext_getElem
        · rw [List.length_map]; exact hvl
        · intro k h1 h2
          rw [List.getElem_map]
          exact hku _ _ (hrow k (by rw [List.length_map] at h1; exact h1))
      have K : ∀ j, Cmp lf (m + 3 + j) 30 h LL q N true V (fun x y => lexC (key x) (key y) < 0) := fun j =>
        { ord := lex_ord key
          sc := fun x hx => hx.1
          cmp := fun f g x y W hx hy => by
            have hg := hLr _ g W
            refine ⟨lexC (key x) (key y), ?_, Iff.rfl⟩
            rw [show m + 3 + j = m + j + 3 by omega]
            exact comp_of lf (m + j) hlf (key x) (key y) (hVk x hx).2 x y g ((hVk x hx).1 g hg) ((hVk y hy).1 g hg) }
      have hcf := cells_fn vs
      rw [hN] at hcf
      have hVf : ∀ k, k < N → V (vs.getD k (J 0)) := fun k hk => by
        rw [List.getD_eq_getElem?_getD, List.getElem?_eq_getElem (by omega)]
        exact hVv _ (List.getElem_mem _)
      have Wd : Dat h LL q N true (fun i => vs.getD i (J 0)) g := by
        have := W
        rw [hcf] at this
        exact this
      obtain ⟨v1, g1, e1, f2, W, S2, Z2⟩ := sortf_of (m := m + 3) hlf K hN1 (2 * N + 1) (fun i => vs.getD i (J 0)) hVf g Wd
      refine sy_call 0 (by kernel_rfl) e1 ?_
      have W : Sto h g1 ((q, .cells (cellsF N f2) 22 true) :: (b9, .cells [.slice (some ⟨q, 0, none⟩) N (2 * N + 1)] 24 false) :: ((F0 ++ ds.map fun d => (d, .defd false)) ++ Lr)) := W
      have hV2 : ∀ x ∈ cellsF N f2, V x := fun x hx => by
        obtain ⟨k, hk, rfl⟩ := List.mem_map.1 hx
        exact S2.every (Nat.le_refl N) hVf k (List.mem_range.1 hk)
      obtain ⟨v3, g3, e3, k, cs3, rfl, hk, W3, hc3, hkeys, hV3⟩ := compact_of lf (m + 23) 32 hlf key V (fun x hx => hx.1) (cellsF N f2) N (cellsF_len _ _) (by omega) hN1 hV2 q h LL g1 W fun cs g x y W hx hy => by
        have hg := hLr _ g W
        exact equal_of lf (m + 22) hlf (key x) (key y) (hVk x hx).2 x y g ((hVk x hx).1 g hg) ((hVk y hy).1 g hg)
      refine ow_load (P := Tryz.prog) (T := 24) (off := 0) 0 1 W rfl rfl (by kernel_rfl) (by kernel_rfl) ?_
      refine sy_call 0 (by kernel_rfl) e3 ?_
      refine ok_go 0 ?_
      refine ow_marks 0 ds (W3.perm (perm_mk2 ..)) (by kernel_rfl) fun g6 ng6 W => ?_
      have hg6 : Hold g6 Lr := W.hold.sub fun p hp => by
        refine List.mem_cons_of_mem _ (List.mem_cons_of_mem _ (List.mem_append_right _ hp))
      have hb := W.get 0 rfl
      have hbl := W.lt 0 rfl
      have hperm := (S2.perm).map key
      have hf0 : ((List.range N).map fun i => vs.getD i (J 0)) = vs := hcf.symm
      rw [hf0, hvk] at hperm
      refine sy_done 0 (v := Value.tuple { toList := [Value.slice (some { block := q, off := 0 }) k (2 * N + 1), Value.int IntKind.i64 (Int.ofNat 0)] }) (h := g6) (by kernel_rfl) ?_
      refine ⟨W.ext, .slice (some ⟨q, 0, none⟩) k (2 * N + 1), cs3.take k, (cs3.take k).map key, (cellsF N f2).map key, rfl, ?_, by rw [List.length_map], fun i w r h1 h2 => ?_, hperm, ?_, hkeys⟩
      · refine .inr ⟨q, 0, _, by rw [List.length_take, Nat.min_eq_left (by omega)], fun _ => ⟨hbl, ?_⟩⟩
        unfold loadN
        rw [hb]
        show takeN _ (cs3.drop 0) = _
        rw [List.drop_zero, List.length_take, Nat.min_eq_left (by omega)]
        exact takeN_take (takeN_all cs3) k (by omega)
      · have hw : w ∈ cs3.take k := List.mem_of_getElem? h1
        rw [List.getElem?_map, h1] at h2
        cases h2
        exact (hVk w (hV3 w hw)).1 g6 hg6
      · rw [List.pairwise_map]
        refine (Z2.pair).imp fun {x y} hxy => ?_
        have := lexC_neg (key x) (key y)
        omega
end Go.Proofs.YtegcmgjldapnmaaGreatDoor
namespace Go.Proofs.YtegcmgjldapnmaaGreatDoor
open Go Go.Eng Nim Oct
theorem acc_init (d : List Nat) : ∀ (r : List Nat) (a : Nat), r.foldl (fun a x => a ^^^ gv d x) a = a ^^^ accR d r
  | [], a => (Nat.xor_zero a).symm
  | x :: r, a => by
    unfold accR
    rw [List.foldl_cons, List.foldl_cons, acc_init d r, acc_init d r (0 ^^^ gv d x), Nat.zero_xor, Nat.xor_assoc]
theorem acc_cons (d : List Nat) (x : Nat) (r : List Nat) : accR d (x :: r) = gv d x ^^^ accR d r := by
  show (r.foldl (fun a x => a ^^^ gv d x) (0 ^^^ gv d x)) = _
  rw [acc_init, Nat.zero_xor]
theorem acc_app (d : List Nat) : ∀ (r s : List Nat), accR d (r ++ s) = accR d r ^^^ accR d s
  | [], s => (Nat.zero_xor _).symm
  | x :: r, s => by rw [List.cons_append, acc_cons, acc_cons, acc_app d r s, Nat.xor_assoc]
theorem acc_perm (d : List Nat) {r s : List Nat} (h : r.Perm s) : accR d r = accR d s :=
  h.foldl_eq' (fun x _ y _ z => by rw [Nat.xor_assoc, Nat.xor_assoc, Nat.xor_comm (gv d x)]) 0
theorem acc_filt (d : List Nat) : ∀ r : List Nat, accR d (r.filter nz) = accR d r
  | [] => rfl
  | x :: r => by
    rw [List.filter_cons, acc_cons, ← acc_filt d r]
    by_cases h : x = 0
    · subst h
      rw [if_neg (by decide), show gv d 0 = 0 from rfl, Nat.zero_xor]
    · rw [if_pos (by unfold nz; simpa using h), acc_cons]
theorem acc_erase (d : List Nat) : ∀ (r : List Nat) (i : Nat) (hi : i < r.length), accR d (r.eraseIdx i) = accR d r ^^^ gv d r[i]
  | [], _, h => absurd h (by simp)
  | x :: r, 0, _ => by
    show accR d r = accR d (x :: r) ^^^ gv d x
    rw [acc_cons, Nat.xor_comm, ← Nat.xor_assoc, Nat.xor_self, Nat.zero_xor]
  | x :: r, i + 1, h => by
    show accR d (x :: r.eraseIdx i) = accR d (x :: r) ^^^ gv d (r[i]'(by simpa using h))
    rw [acc_cons, acc_cons, acc_erase d r i (by simpa using h), Nat.xor_assoc]
end Go.Proofs.YtegcmgjldapnmaaGreatDoor
namespace Go.Proofs.YtegcmgjldapnmaaGreatDoor
open Go Go.Eng Nim Oct
set_option maxRecDepth 100000
def RdE0 (h : Hp) (x : Value) (vs : List Value) : Prop := (∃ a c, x = .slice a vs.length c) ∧ elems h 1 vs.length x = some vs
def ORd (h : Hp) (x : Value) (vs : List Value) : Prop := (∃ q, x = oslV q vs.length) ∧ Rds h x vs
theorem ORd.ext {h g : Hp} {x : Value} {vs : List Value} (k : ORd h x vs) (e : h.Ext g) : ORd g x vs := ⟨k.1, k.2.ext e⟩
theorem sto_ord {h H : Hp} {l : List (Nat × AObj)} {i : Nat} {e : TypeId} {zs : List Value} (W : Sto h H (l ++ oent i e zs)) : ORd H (oslV i zs.length) zs :=
  ⟨⟨i, rfl⟩, osl_rd (e := e) fun p hp => W.hold p (List.mem_append_right _ hp)⟩
section
variable {P : Program} {t e : TypeId}
theorem gl_hi (hu : P.underlying t = some (.slice e)) (hs : sizeT P e = some 1) {q n m j : Nat} (hjn : j ≤ n) (hn : 0 < n) : sliceOp P t (.slice (some ⟨q, 0, none⟩) m (2 * n + 1)) none (some (J j)) none = some (.slice (some ⟨q, 0, none⟩) j (2 * n + 1)) := by
  obtain ⟨h1, h2⟩ := odd_half n
  simp only [sliceOp, hu, hs, sliceV, Go.Eng.bound, h1, h2, Option.isSome_none, show ∀ k, natOf (J k) = some k from fun _ => rfl, Bool.false_eq_true, if_false, Nat.ble_eq_true_of_le hjn, Nat.ble_eq_true_of_le (Nat.zero_le n), nbeq_no (show n ≠ 0 by omega), Bool.not_false, Bool.and_true]
  simp
theorem gl_lo (hu : P.underlying t = some (.slice e)) (hs : sizeT P e = some 1) {q n m i : Nat} (him : i ≤ m) (hmn : m ≤ n) (hin : i < n) : sliceOp P t (.slice (some ⟨q, 0, none⟩) m (2 * n + 1)) (some (J i)) none none = some (.slice (some ⟨q, i, none⟩) (m - i) (2 * (n - i) + 1)) := by
  obtain ⟨h1, h2⟩ := odd_half n
  simp only [sliceOp, hu, hs, sliceV, Go.Eng.bound, h1, h2, Option.isSome_none, show ∀ k, natOf (J k) = some k from fun _ => rfl, Nat.ble_eq_true_of_le him, Nat.ble_eq_true_of_le (Nat.le_of_lt hin), nbeq_no (show n ≠ i by omega), Bool.not_false, Bool.and_true]
  simp
theorem gl_end (hu : P.underlying t = some (.slice e)) (hs : sizeT P e = some 1) {q n : Nat} (hn : 0 < n) : sliceOp P t (.slice (some ⟨q, 0, none⟩) n (2 * n + 1)) (some (J n)) none none = some (.slice (some ⟨q, 0, some n⟩) 0 1) := by
  obtain ⟨h1, h2⟩ := odd_half n
  obtain ⟨n, rfl⟩ : ∃ k, n = k + 1 := ⟨n - 1, by omega⟩
  simp only [sliceOp, hu, hs, sliceV, Go.Eng.bound, h1, h2, Option.isSome_none, show ∀ k, natOf (J k) = some k from fun _ => rfl, Nat.ble_eq_true_of_le (Nat.le_refl (n + 1)), Nat.beq_refl, Bool.not_false, Bool.and_true]
  simp
theorem takeN_ok : ∀ (n : Nat) (l : List Value), n ≤ l.length → takeN n l = some (l.take n)
  | 0, _, _ => by simp [takeN]
  | n + 1, [], h => absurd h (by simp)
  | n + 1, v :: l, h => by
    unfold takeN
    rw [takeN_ok n l (by simpa using h)]
    rfl
theorem set_same {α : Type} : ∀ {l : List α} {k : Nat} {a : α}, l[k]? = some a → l.set k a = l
  | [], _, _, h => by simp at h
  | x :: l, 0, a, h => by simp at h; subst h; rfl
  | x :: l, k + 1, a, h => by
    rw [List.set_cons_succ, set_same (l := l) (by simpa using h)]
theorem osl_sc (i n : Nat) : scalar (oslV i n) = true := by cases n <;> rfl
theorem loadN_cut {h : Hp} {i n : Nat} {vs : List Value} (hl : loadN h i 0 n = some vs) {k m : Nat} (hk : k + m ≤ n) : loadN h i k m = some ((vs.drop k).take m) := by
  have key : ∀ {l : List Value}, takeN n l = some vs → takeN m (l.drop k) = some ((vs.drop k).take m) := fun {l} hl => by
    obtain ⟨e1, e2⟩ := takeN_eq _ _ _ hl
    have h1 : n ≤ l.length := by rw [e1, List.length_take] at e2; omega
    rw [takeN_ok m (l.drop k) (by rw [List.length_drop]; omega), e1, List.drop_take, List.take_take, Nat.min_eq_left (by omega)]
  unfold loadN at hl ⊢
  cases hg : h.get i with
  | none => rw [hg] at hl; cases hl
  | some o =>
    rw [hg] at hl
    cases o with
    | cells cs e opn => exact key hl
    | ro o cs e =>
      dsimp only at hl ⊢
      cases hb : Nat.ble o 0 with
      | true =>
        rw [hb] at hl
        have : o = 0 := Nat.le_zero.1 (Nat.le_of_ble_eq_true hb)
        subst this
        rw [Nat.ble_eq_true_of_le (Nat.zero_le k)]
        exact key hl
      | false => rw [hb] at hl; cases hl
    | fro cs e => exact key hl
    | _ => cases hl
theorem ORd.hi0 (hu : P.underlying t = some (.slice e)) (hs : sizeT P e = some 1) {h : Hp} {x : Value} {vs : List Value} (k : ORd h x vs) {j : Nat} (hj : j ≤ vs.length) : ∃ y, sliceOp P t x none (some (J j)) none = some y ∧ RdE0 h y (vs.take j) := by
  obtain ⟨⟨q, rfl⟩, hr⟩ := k
  cases vs with
  | nil =>
    obtain rfl : j = 0 := Nat.le_zero.1 hj
    exact ⟨.slice none 0 0, by show sliceOp P t (.slice none 0 0) none (some (J 0)) none = _; simp only [sliceOp, hu, hs]; rfl, ⟨_, _, rfl⟩, rfl⟩
  | cons v r =>
    refine ⟨_, gl_hi hu hs hj (Nat.succ_pos _), by rw [List.length_take, Nat.min_eq_left hj]; exact ⟨_, _, rfl⟩, ?_⟩
    rw [List.length_take, Nat.min_eq_left hj]
    rcases hr with ⟨⟨a, ha⟩, _⟩ | ⟨i, off, c, hh, hr⟩
    · cases ha
    · cases hh
      have h2 := (hr (by simp)).2
      cases j with
      | zero => rfl
      | succ j =>
        have := loadN_cut h2 (k := 0) (m := j + 1) (by omega)
        rw [List.drop_zero] at this
        simp only [elems, Nat.mul_one]
        exact this
theorem ORd.lo0 (hu : P.underlying t = some (.slice e)) (hs : sizeT P e = some 1) {h : Hp} {x : Value} {vs : List Value} (k : ORd h x vs) {j : Nat} (hj : j ≤ vs.length) : ∃ y, sliceOp P t x (some (J j)) none none = some y ∧ RdE0 h y (vs.drop j) := by
  obtain ⟨⟨q, rfl⟩, hr⟩ := k
  cases vs with
  | nil =>
    obtain rfl : j = 0 := Nat.le_zero.1 hj
    exact ⟨.slice none 0 0, by show sliceOp P t (.slice none 0 0) (some (J 0)) none none = _; simp only [sliceOp, hu, hs]; rfl, ⟨_, _, rfl⟩, rfl⟩
  | cons v r =>
    rcases hr with ⟨⟨a, ha⟩, _⟩ | ⟨i, off, c, hh, hr⟩
    · cases ha
    · cases hh
      have h2 := (hr (by simp)).2
      by_cases he : j = (v :: r).length
      · subst he
        refine ⟨_, gl_end hu hs (Nat.succ_pos _), by rw [List.drop_length]; exact ⟨_, _, rfl⟩, by rw [List.drop_length]; rfl⟩
      · refine ⟨_, gl_lo hu hs hj (Nat.le_refl _) (by simp at he hj ⊢; omega), by rw [List.length_drop]; exact ⟨_, _, rfl⟩, ?_⟩
        rw [List.length_drop]
        obtain ⟨m, hm⟩ : ∃ m, (v :: r).length - j = m + 1 := ⟨(v :: r).length - j - 1, by simp at he hj ⊢; omega⟩
        have := loadN_cut h2 (k := j) (m := m + 1) (by omega)
        rw [List.take_of_length_le (by rw [List.length_drop]; omega)] at this
        rw [show r.length + 1 - j = m + 1 from hm] at *
        simp only [elems, Nat.mul_one]
        rw [hm]
        simp only [elems, Nat.mul_one]
        exact this
def RdE (h : Hp) (x : Value) (vs : List Value) : Prop := ∀ g, h.Ext g → RdE0 g x vs
theorem RdE.ext {h g : Hp} {x : Value} {vs : List Value} (k : RdE h x vs) (e : h.Ext g) : RdE g x vs := fun g' e' => k g' (e.trans e')
theorem RdE.now {h : Hp} {x : Value} {vs : List Value} (k : RdE h x vs) : RdE0 h x vs := k h (Hp.Ext.refl h)
theorem ORd.hi (hu : P.underlying t = some (.slice e)) (hs : sizeT P e = some 1) {h : Hp} {x : Value} {vs : List Value} (k : ORd h x vs) {j : Nat} (hj : j ≤ vs.length) : ∃ y, sliceOp P t x none (some (J j)) none = some y ∧ RdE h y (vs.take j) := by
  obtain ⟨y, e1, _⟩ := k.hi0 hu hs hj
  refine ⟨y, e1, fun g X => ?_⟩
  obtain ⟨z, e3, e4⟩ := (k.ext X).hi0 hu hs hj
  rw [e1] at e3
  cases e3
  exact e4
theorem ORd.lo (hu : P.underlying t = some (.slice e)) (hs : sizeT P e = some 1) {h : Hp} {x : Value} {vs : List Value} (k : ORd h x vs) {j : Nat} (hj : j ≤ vs.length) : ∃ y, sliceOp P t x (some (J j)) none none = some y ∧ RdE h y (vs.drop j) := by
  obtain ⟨y, e1, _⟩ := k.lo0 hu hs hj
  refine ⟨y, e1, fun g X => ?_⟩
  obtain ⟨z, e3, e4⟩ := (k.ext X).lo0 hu hs hj
  rw [e1] at e3
  cases e3
  exact e4
theorem append_rde {h H : Hp} {l : List (Nat × AObj)} {i : Nat} {zs vs : List Value} {x : Value} (W : Sto h H (l ++ oent i e zs)) (hT : SlTz P t e 1) (hx : RdE0 H x vs) (hv : vs.all scalar = true) (hn : zs.length + vs.length < 16777216) :
    ∃ H' j, appendOp P H t (oslV i zs.length) x = some (oslV j (zs.length + vs.length), H') ∧ Sto h H' (l ++ oent j e (zs ++ vs)) := by
  obtain ⟨hsh, h2⟩ := hx
  have h1 : lenV x = some vs.length := by obtain ⟨a, c, rfl⟩ := hsh; rfl
  clear hsh
  cases vs with
  | nil =>
    obtain ⟨inf, hi1, hi2⟩ := hT.i
    obtain ⟨z, hz1, hz2⟩ := hT.zr
    simp only [List.length_nil] at h1 h2 hn
    cases zs with
    | nil =>
      refine ⟨H, i, ?_, W⟩
      show appendOp P H t (.slice none 0 0) x = some (.slice none 0 0, H)
      simp only [appendOp, hT.u, hT.s, hi1, hz1, h1, h2, hz2, hi2, List.all_nil]
    | cons v r =>
      have hm : (i, AObj.cells (v :: r) e true) ∈ l ++ oent i e (v :: r) := List.mem_append_right _ (List.mem_singleton.2 rfl)
      obtain ⟨k, hk⟩ := List.mem_iff_getElem?.1 hm
      have hg : H.get i = some (.cells (v :: r) e true) := (W.all _ hm).2.2
      have W2 := W.put k hk (.cells (v :: r) e true)
      rw [set_same hk] at W2
      refine ⟨_, i, ?_, by rw [List.append_nil]; exact W2⟩
      show appendOp P H t (.slice (some ⟨i, 0, none⟩) (r.length + 1) (2 * (r.length + 1) + 1)) x = some (.slice (some ⟨i, 0, none⟩) (r.length + 1) (2 * (r.length + 1) + 1), _)
      obtain ⟨o1, o2⟩ := odd_half (r.length + 1)
      have hst : storeN H i (0 + (r.length + 1) * 1) [] = some (H.put i (.cells (v :: r) e true)) := by
        simp only [storeN, hg, List.length_nil, Nat.add_zero, Nat.zero_add, Nat.mul_one, List.length_cons, Nat.ble_eq_true_of_le (Nat.le_refl (r.length + 1)), List.all_nil, splice, List.append_nil]
        rw [show (v :: r).take (r.length + 1) = v :: r from List.take_of_length_le (by simp), show (v :: r).drop (r.length + 1) = [] from List.drop_of_length_le (by simp), List.append_nil]
      simp only [appendOp, hT.u, hT.s, hi1, hz1, h1, h2, hz2, hi2, List.all_nil, o1, Nat.add_zero, Nat.ble_eq_true_of_le (Nat.le_refl (r.length + 1)), Nat.ble_eq_true_of_le (show r.length + 1 ≤ most by simp at hn; unfold most; omega), hst]
  | cons v r =>
    obtain ⟨H', e1, e2, W'⟩ := append_sto (P := P) (t := t) (x := x) (n := zs.length) (m := r.length) W hT (by simp) (by simp) h1 h2 hv (by simp at hn; omega)
    exact ⟨H', H.next, e1, W'⟩
theorem ow_apps {h H : Hp} {Q : Value → Hp → Prop} {l : List (Nat × AObj)} (n : Nat) {s : SA} {i : Nat} {zs vs : List Value} {x : Value} (W : Sto h H (l ++ oent i e zs)) (hT : SlTz P t e 1) (hx : RdE H x vs) (hv : vs.all scalar = true) (hn : zs.length + vs.length < 16777216)
    (he : askR (goS n s) = appendOp P H t (oslV i zs.length) x) (hq : ∀ H' sl j, sl = oslV j (zs.length + vs.length) → scalar sl = true → Sto h H' (l ++ oent j e (zs ++ vs)) → Ok Q (askK (goS n s) sl H')) : Ok Q s := by
  obtain ⟨H', j, e1, W'⟩ := append_rde W hT hx.now hv hn
  exact sy_call n (he.trans e1) rfl (hq H' _ j rfl (osl_sc _ _) W')
end
end Go.Proofs.YtegcmgjldapnmaaGreatDoor
namespace Go.Proofs.YtegcmgjldapnmaaGreatDoor.Oct
theorem tw_at {α : Type} {p : α → Bool} : ∀ (l : List α) (k : Nat), (∀ j (_ : j < k) (h : j < l.length), p l[j] = true) → k ≤ l.length → (∀ h : k < l.length, p l[k] = false) → l.takeWhile p = l.take k ∧ l.dropWhile p = l.drop k
  | [], k, _, hk, _ => by
    have : k = 0 := Nat.le_zero.1 hk
    subst this
    exact ⟨rfl, rfl⟩
  | x :: l, 0, _, _, h => by
    have := h (by simp)
    simp at this
    simp [this]
  | x :: l, k + 1, h1, hk, h2 => by
    have hx : p x = true := h1 0 (by omega) (by simp)
    obtain ⟨a, b⟩ := tw_at l k (fun j hj hl => h1 (j + 1) (by omega) (by simpa using hl)) (by simpa using hk) (fun hl => h2 (by simpa using hl))
    constructor
    · rw [List.takeWhile_cons, if_pos hx, a]; rfl
    · rw [List.dropWhile_cons, if_pos hx, b]; rfl
def insN (l : List Nat) (n : Nat) : List Nat := if n = 0 then l else l.takeWhile (fun x => decide (x < n)) ++ n :: l.dropWhile (fun x => decide (x < n))
theorem insN_perm (l : List Nat) {n : Nat} (hn : n ≠ 0) : (insN l n).Perm (n :: l) := by
  unfold insN
  rw [if_neg hn]
  refine List.perm_middle.trans ?_
  rw [List.takeWhile_append_dropWhile]
theorem drop_ge (n : Nat) : ∀ {l : List Nat}, l.Pairwise (· ≤ ·) → ∀ y ∈ l.dropWhile (fun x => decide (x < n)), n ≤ y
  | [], _, y, hy => by cases hy
  | x :: l, hl, y, hy => by
    rw [List.dropWhile_cons] at hy
    split at hy
    · exact drop_ge n (List.pairwise_cons.1 hl).2 y hy
    · rename_i hx
      have hx : ¬ x < n := by simpa using hx
      rcases List.mem_cons.1 hy with rfl | h
      · omega
      · have := (List.pairwise_cons.1 hl).1 y h
        omega
theorem tw_lt (n : Nat) : ∀ (l : List Nat), ∀ a ∈ l.takeWhile (fun x => decide (x < n)), a < n
  | [], a, ha => by cases ha
  | x :: l, a, ha => by
    rw [List.takeWhile_cons] at ha
    split at ha
    · rename_i hx
      rcases List.mem_cons.1 ha with rfl | h
      · exact of_decide_eq_true hx
      · exact tw_lt n l a h
    · cases ha
theorem insN_sort {l : List Nat} (hl : l.Pairwise (· ≤ ·)) (n : Nat) : (insN l n).Pairwise (· ≤ ·) := by
  unfold insN
  split
  · exact hl
  · rw [List.pairwise_append]
    have hd := drop_ge n hl
    refine ⟨hl.sublist (List.takeWhile_sublist _), List.pairwise_cons.2 ⟨hd, hl.sublist (List.dropWhile_sublist _)⟩, fun a ha b hb => ?_⟩
    have h1 := tw_lt n l a ha
    rcases List.mem_cons.1 hb with rfl | h
    · omega
    · have := hd b h
      omega
theorem ins_all : ∀ (l a : List Nat), a.Pairwise (· ≤ ·) → (l.foldl insN a).Pairwise (· ≤ ·) ∧ (l.foldl insN a).Perm (a ++ l.filter nz)
  | [], a, h => ⟨h, by simp⟩
  | n :: l, a, h => by
    obtain ⟨h1, h2⟩ := ins_all l (insN a n) (insN_sort h n)
    refine ⟨h1, h2.trans ?_⟩
    by_cases hn : n = 0
    · subst hn
      rw [List.filter_cons, if_neg (by decide)]
      unfold insN
      rw [if_pos rfl]
    · rw [List.filter_cons, if_pos (by unfold nz; simpa using hn)]
      refine ((insN_perm a hn).append_right _).trans ?_
      exact (List.perm_middle (l₁ := a)).symm
end Go.Proofs.YtegcmgjldapnmaaGreatDoor.Oct
