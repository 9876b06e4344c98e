/- OctQC: contracts and laws of ValA, ListA, PerA, PerB, LawA. -/
import Derived.Test.YtegcmgjldapnmaaDoorProg
import Derived.KernelRfl
import Derived.Test.YtegcmgjldapnmaaDoorSyF
import Derived.Test.YtegcmgjldapnmaaDoorOctQB
namespace Go.Proofs.YtegcmgjldapnmaaDoor
open Go Go.Eng Nim Oct
set_option maxRecDepth 100000
set_option maxHeartbeats 8000000
theorem moves_of (xa : Option Addr) (k xc : Nat) (n : Int) (lf m : Nat) (h : Hp) : ∃ v h', Ev lf (m + 1) 48 [.slice xa k xc, I n] h = some (v, h') ∧ v = .func (.func 65) #[] #[ptr h.next 0, ptr (h.next + 1) 0] ∧ h'.next = h.next + 2 ∧ Sto h h' [(h.next + 1, .cells [I n] 3 false), (h.next, .cells [.slice xa k xc] 32 false)] := by
  refine fnS_ok (Q := fun v h' => v = .func (.func 65) #[] #[ptr h.next 0, ptr (h.next + 1) 0] ∧ h'.next = h.next + 2 ∧ Sto h h' [(h.next + 1, .cells [I n] 3 false), (h.next, .cells [.slice xa k xc] 32 false)]) ?_
  have W := Sto.start h
  refine ow_new 0 W (AObj.cells [Value.slice xa k xc] 32 false) (fun q => Value.pointer (some { block := q, off := 0 })) (by kernel_rfl) fun g1 ng1 Wg1 => ?_
  have W := Wg1
  refine ow_new 0 W (AObj.cells [Value.int IntKind.i64 n] 3 false) (fun q => Value.pointer (some { block := q, off := 0 })) (by kernel_rfl) fun g2 ng2 Wg2 => ?_
  have W := Wg2
  refine ok_go 1 ?_
  rw [ng1] at W ng2
  refine ok_go 0 ?_
  refine sy_done 0 (v := .func (.func 65) #[] #[ptr h.next 0, ptr g1.next 0]) (h := g2) (by kernel_rfl) ⟨by rw [ng1], by omega, W⟩
/-- The capacity of the values known so far, and whether more may follow. -/
def kc (n : Nat) : Nat := match n with | 0 => 2 | n + 1 => 2 * (n + 2) + 1
def opn (n : Nat) : Bool := match n with | 0 => false | _ + 1 => true
theorem kn_app {h H : Hp} {l : List (Nat × AObj)} {n i j : Nat} {vs : List Value} {v : Value} (hv : scalar v = true) (hall : vs.all scalar = true) (hl : vs.length = n + 1) (hn : n < 100000) (W : Sto h H ((j, .cells [v] 3 false) :: (i, .cells vs 3 (opn n)) :: l)) :
    ∃ H', appendOp Tryd.prog H 32 (.slice (some ⟨i, 0, none⟩) (n + 1) (kc n)) (.slice (some ⟨j, 0, none⟩) 1 2) = some (.slice (some ⟨H.next, 0, none⟩) (n + 2) (kc (n + 1)), H') ∧ H'.next = H.next + 1 ∧ Sto h H' ((H.next, .cells (vs ++ [v]) 3 true) :: l) := by
  have hel : elems H 1 1 (.slice (some ⟨j, 0, none⟩) 1 2) = some [v] := by simp only [elems, loadN, W.get 0 rfl]; rfl
  have u : Tryd.prog.underlying 32 = some (.slice 3) := slz32.u
  obtain ⟨inf, hi1, hi2⟩ := slz32.i
  obtain ⟨zv, hz1, hz2⟩ := slz32.zr
  cases n with
  | zero =>
    have hg : H.get i = some (.cells vs 3 false) := W.get 1 rfl
    have hld : loadN H i 0 (1 * 1) = some vs := by
      simp only [loadN, hg, List.drop_zero]
      rw [show 1 * 1 = vs.length by rw [hl]]
      exact takeN_all vs
    refine ⟨H.new (.cells (vs ++ [v]) 3 true), ?_, rfl, (W.drop 2).new _⟩
    simp only [appendOp, u, slz32.s, hi1, hz1, hz2, hi2, hel, show lenV (.slice (some ⟨j, 0, none⟩) 1 2) = some 1 from rfl, List.all_cons, List.all_nil, hv, Bool.and_true, kc]
    simp only [show Nat.ble (0 + 1 + 1) most = true from Nat.ble_eq_true_of_le (by unfold most; omega), show Nat.ble (0 + 1 + 1) (2 / 2) = false from rfl, show Nat.beq (2 % 2) 0 = true from rfl, Nat.zero_add, hld]
  | succ n =>
    cases vs with
    | nil => simp at hl
    | cons v0 r =>
      have W2 : Sto h H (((j, .cells [v] 3 false) :: l) ++ oent i 3 (v0 :: r)) := W.perm (by
        refine List.Perm.cons _ ?_
        exact (List.perm_append_comm (l₁ := [(i, AObj.cells (v0 :: r) 3 true)]) (l₂ := l)))
      obtain ⟨H', e, hn', V⟩ := append_sto (n := n + 2) (m := 0) (new := [v]) (x := .slice (some ⟨j, 0, none⟩) 1 2) W2 slz32 (by rw [Nat.mul_one]; exact hl) rfl rfl hel (by simp [hv]) (by omega)
      exact ⟨H', e, hn', (V.drop 1).perm (List.perm_append_comm)⟩
theorem updc {N : Nat} {l : List Nat} {j x : Nat} (hj : l[j]? = some x) : cellsF N (updF (fun c => Value.bool ((l.take j).contains c)) x (.bool true)) = cellsF N (fun c => Value.bool ((l.take (j + 1)).contains c)) := by
  have ht := (List.getElem?_eq_some_iff.1 hj).1
  have hx := (List.getElem?_eq_some_iff.1 hj).2
  refine cellsF_congr fun c _ => ?_
  rw [List.take_succ_eq_append_getElem ht, hx]
  unfold updF
  by_cases hc : c = x
  · rw [if_pos hc]
    exact congrArg Value.bool (List.contains_iff_mem.2 (List.mem_append_right _ (List.mem_singleton.2 hc))).symm
  · rw [if_neg hc]
    show Value.bool ((l.take j).contains c) = _
    have : (l.take j).contains c = (l.take j ++ [x]).contains c := by
      rw [Bool.eq_iff_iff, List.contains_iff_mem, List.contains_iff_mem, List.mem_append, List.mem_singleton]
      exact ⟨.inl, fun h => h.resolve_right hc⟩
    rw [this]
theorem values_run (d : List Nat) (hd : ∀ x ∈ d, x < 8) (hl : d.length ≤ 8) (N : Nat) (hN : N ≤ 2100) (lf m y cp : Nat) (hlf : 20000 ≤ lf) (hb : Hp) (CI : Nat → List (Nat × AObj) → Prop) (CE : List (Nat × AObj) → Prop)
    (hy : ∀ n C g F, n < N → CI n C → Sto hb g (C ++ F) → ∃ g' C', evInv Tryd.prog orc lf (m + 2) (.yield y [J n, J (gv d n)]) g = some (.bool true, g') ∧ Sto hb g' (C' ++ F) ∧ CI (n + 1) C')
    (hy2 : ∀ C g F, CI N C → Sto hb g (C ++ F) → ∃ g' C', evInv Tryd.prog orc lf (m + 2) (.yield y [J N, J (gv d N)]) g = some (.bool false, g') ∧ Sto hb g' (C' ++ F) ∧ CE C')
    (dg : ∀ h, ∃ v h', Ev lf (m + 2) 49 [.string (strL (codeS d))] h = some (v, h') ∧ ∃ q, v = oslV q d.length ∧ Sto h h' (oent q 3 (d.map J)))
    (mv : ∀ xa k xc n h, ∃ v h', Ev lf (m + 2) 48 [.slice xa k xc, I n] h = some (v, h') ∧ v = .func (.func 65) #[] #[ptr h.next 0, ptr (h.next + 1) 0] ∧ h'.next = h.next + 2 ∧ Sto h h' [(h.next + 1, .cells [I n] 3 false), (h.next, .cells [.slice xa k xc] 32 false)])
    (ms : ∀ f q k h, MarkB q 8192 f h → k < 8192 → f k = false → (∀ j, j < k → f j = true) → Ev lf (m + 2) 79 [ptr q 0] h = some (J k, h))
    (C0 F0 : List (Nat × AObj)) (h : Hp) (h0 : CI 0 C0) (W : Sto hb h (C0 ++ ((cp, .cells [.string (strL (codeS d))] 9 false) :: F0))) :
    ∃ v h', Ev lf (m + 3) 78 [.func (.yield y) #[] #[], ptr cp 0] h = some (v, h') ∧ ∃ C', CE C' ∧ Sto hb h' (C' ++ ((cp, .cells [.string (strL (codeS d))] 9 false) :: F0)) := by
  refine fnS_ok (Q := fun v h' => ∃ C', CE C' ∧ Sto hb h' (C' ++ ((cp, .cells [.string (strL (codeS d))] 9 false) :: F0))) ?_
  have W := W.perm List.perm_append_comm
  rw [List.cons_append] at W
  refine ow_load (P := Tryd.prog) (T := 9) (off := 0) 0 0 W rfl rfl (by kernel_rfl) (by kernel_rfl) ?_
  obtain ⟨y1, q1, ec1, rc1⟩ := dg (h)
  refine sy_call 0 (by kernel_rfl) ec1 ?_
  obtain ⟨dq, hdq, W1⟩ := rc1
  have W := W.over W1
  obtain ⟨xa, xc, hsh⟩ : ∃ a c, y1 = .slice a d.length c := by
    rw [hdq]; cases d.length <;> exact ⟨_, _, rfl⟩
  refine ow_new 0 W (AObj.cells [Value.int IntKind.i64 (Int.ofNat 0)] 3 false) (fun q => Value.slice (some { block := q, off := 0 }) 1 2) (by kernel_rfl) fun g1 ng1 Wg1 => ?_
  have W := Wg1
  refine ow_new 0 W (AObj.cells [Value.slice none 0 0] 32 false) (fun q => Value.pointer (some { block := q, off := 0 })) (by kernel_rfl) fun g2 ng2 Wg2 => ?_
  have W := Wg2
  refine ow_store (P := Tryd.prog) (T := 32) (off := 0) (v := Value.slice (some { block := Hp.next q1, off := 0 }) 1 2) 0 0 W rfl (Nat.le_of_ble_eq_true (by kernel_rfl)) (by kernel_rfl) (by first | rfl | assumption) (by kernel_rfl) fun g3 ng3 Wg3 => ?_
  have W := Wg3
  have key : ∀ (K : Nat) (R : List (Nat × AObj)), True := fun _ _ => trivial
  let R0 : List (Nat × AObj) := oent dq 3 (d.map J) ++ (cp, .cells [.string (strL (codeS d))] 9 false) :: F0
  let B : Nat → Nat → List Nat → List (Nat × AObj) := fun n ki ds => (g1.next, .cells [.slice (some ⟨ki, 0, none⟩) (n + 1) (kc n)] 32 false) :: (ki, .cells (cellsF (n + 1) fun k => J (gv d k)) 3 (opn n)) :: (R0 ++ ds.map (fun d => (d, .defd false)))
  refine sy_loop 0 lf g3 (α := Nat × Nat × List (Nat × AObj) × List Nat) (fun x => [(0, .func (.yield y) #[] #[]), (3, y1), (4, ptr g1.next 0), (5, J x.1), (slotD, marksV x.2.2.2)])
    (fun x g => x.1 ≤ N ∧ CI x.1 x.2.2.1 ∧ Sto hb g (B x.1 x.2.1 x.2.2.2 ++ x.2.2.1))
    (fun x _ => N - x.1) (0, q1.next, C0, []) (by kernel_rfl) (by kernel_rfl) ⟨by kernel_rfl, by kernel_rfl, by kernel_rfl, by kernel_rfl, by kernel_rfl, trivial⟩ (show N - 0 < lf by omega) ⟨Nat.zero_le _, h0, by
      show Sto hb g3 ((g1.next, .cells [.slice (some ⟨q1.next, 0, none⟩) 1 2] 32 false) :: (q1.next, .cells [J 0] 3 false) :: ((R0 ++ []) ++ C0))
      rw [List.append_nil, List.append_assoc, List.cons_append]
      exact W⟩ ?_
  rintro m1 ⟨n, ki, C, ds⟩ f1 g ⟨hn, hC, W⟩ ih
  dsimp only at hn hC W
  have W : Sto hb g ((g1.next, .cells [.slice (some ⟨ki, 0, none⟩) (n + 1) (kc n)] 32 false) :: (ki, .cells (cellsF (n + 1) fun k => J (gv d k)) 3 (opn n)) :: ((R0 ++ ds.map (fun d => (d, .defd false))) ++ C)) := W
  refine ow_load (P := Tryd.prog) (T := 32) (off := 0) 0 0 W rfl rfl (by kernel_rfl) (by kernel_rfl) ?_
  refine sy_load 0 (r := indexAddrOp Tryd.prog 32 (Value.slice (some { block := ki, off := 0 }) (n + 1) (kc n)) (Value.int IntKind.i64 (Int.ofNat (Prod.fst (n, ki, C, ds))))) (h' := g) (by kernel_rfl) (idxS0 (e := 3) (by kernel_rfl) (by kernel_rfl) (by omega)) ?_
  refine ow_loadF (P := Tryd.prog) (T := 3) (off := Prod.fst (n, ki, C, ds)) 0 1 W rfl (by omega) (by kernel_rfl) (by kernel_rfl) ?_
  have Wc : Sto hb g (C ++ B n ki ds) := W.perm (List.perm_append_comm (l₁ := B n ki ds) (l₂ := C))
  rcases Nat.lt_or_ge n N with hlt | hge
  · obtain ⟨g5, C5, e5, W5, hC5⟩ := hy n C g _ hlt hC Wc
    refine sy_call 0 (by kernel_rfl) e5 ?_
    have W : Sto hb g5 ((g1.next, .cells [.slice (some ⟨ki, 0, none⟩) (n + 1) (kc n)] 32 false) :: (ki, .cells (cellsF (n + 1) fun k => J (gv d k)) 3 (opn n)) :: ((R0 ++ ds.map (fun d => (d, .defd false))) ++ C5)) := W5.perm (List.perm_append_comm (l₁ := C5) (l₂ := B n ki ds))
    refine ok_go 1 ?_
    refine ow_new 0 W (.cells (cellsF 8192 fun _ => .bool false) 104 false) (fun q => ptr q 0) (by kernel_rfl) fun g6 ng6 W => ?_
    rw [hsh]
    have hwn : IntKind.wrap .i64 (Int.ofNat (n + 1)) = Int.ofNat (n + 1) := wrap_nat (by omega)
    obtain ⟨_, g7, e7, rfl, ng7, W7⟩ := mv xa d.length xc (IntKind.wrap .i64 (Int.ofNat (n + 1))) g6
    rw [hwn] at W7
    have W := W.over W7
    rw [List.cons_append, List.cons_append, List.nil_append] at W
    refine ok_go 1 ?_
    refine sy_call 0 (by kernel_rfl) e7 ?_
    refine ow_range 0 (callF := evInv Tryd.prog orc lf (m + 2)) (P := Tryd.prog) (lf := lf) (m := 41) (rcOf Tryd.prog 78 0) W [(4, ptr g1.next 0), (6, ptr g5.next 0)] 65 [.func (.yield (g7.next + 1)) #[] #[], ptr g6.next 0, ptr (g6.next + 1) 0]
      (by kernel_rfl) (fun F => by kernel_rfl) ⟨by kernel_rfl, by kernel_rfl, trivial⟩ (by kernel_rfl) (by kernel_rfl) fun F1 f2 HH hr nH W => ?_
    let CC : RC := rcOf Tryd.prog 78 0
    let ov : List Nat := (ops d 0 (n + 1)).map fun p => gv d p.1 ^^^ gv d p.2
    let Iv : Nat → Hp → Prop := fun j q => Sto hb q ((g7.next + 1, CC.obj F1 g7.next .ready none) :: (g7.next, .defd false) :: (g6.next + 1, .cells [J (n + 1)] 3 false) :: (g6.next, .cells [.slice xa d.length xc] 32 false) :: (g5.next, .cells (cellsF 8192 fun c => .bool ((ov.take j).contains c)) 104 false) ::
      (g1.next, .cells [.slice (some ⟨ki, 0, none⟩) (n + 1) (kc n)] 32 false) :: (ki, .cells (cellsF (n + 1) fun k => J (gv d k)) 3 (opn n)) :: ((R0 ++ ds.map (fun d => (d, .defd false))) ++ C5))
    have hI : ∀ j q, Iv j q → q.get g6.next = some (.cells [.slice xa d.length xc] 32 false) ∧ q.get (g6.next + 1) = some (.cells [J (n + 1)] 3 false) ∧ Rds q (.slice xa d.length xc) (d.map J) := fun j q W => by
      refine ⟨W.get 3 rfl, W.get 2 rfl, ?_⟩
      have := osl_rd (e := 3) (i := dq) (zs := d.map J) (H := q) (fun p hp => by
        have := W.all p (by simp only [R0, List.mem_cons, List.mem_append]; exact .inr (.inr (.inr (.inr (.inr (.inr (.inr (.inl (.inl (.inl hp)))))))))) 
        exact this.2)
      rw [List.length_map, ← hdq, hsh] at this
      exact this
    have hyI : ∀ j p q, (ops d 0 (n + 1))[j]? = some p → Iv j q → ∃ q', evInv Tryd.prog orc lf (m + 1) (.yield (g7.next + 1) [J p.1, J p.2]) q = some (.bool true, q') ∧ Iv (j + 1) q' := fun j p q hp W => by
      have key : ∃ w q', evInv Tryd.prog orc lf (m + 1) (.yield (g7.next + 1) [J p.1, J p.2]) q = some (w, q') ∧ (w = .bool true ∧ Iv (j + 1) q') := by
        refine yld_ok (c := CC) (Q := fun w q' => w = .bool true ∧ Iv (j + 1) q') hr (W.get 0 rfl) (by kernel_rfl) ?_
        have W : Sto hb q ((g7.next + 1, CC.obj F1 g7.next .ready none) :: (g7.next, .defd false) :: (g6.next + 1, .cells [J (n + 1)] 3 false) :: (g6.next, .cells [.slice xa d.length xc] 32 false) :: (g5.next, .cells (cellsF 8192 fun c => .bool ((ov.take j).contains c)) 104 false) ::
          (g1.next, .cells [.slice (some ⟨ki, 0, none⟩) (n + 1) (kc n)] 32 false) :: (ki, .cells (cellsF (n + 1) fun k => J (gv d k)) 3 (opn n)) :: ((R0 ++ ds.map (fun d => (d, .defd false))) ++ C5)) := W
        have hlt2 := ops_lt (List.mem_of_getElem? hp)
        refine ow_busy 0 0 W rfl (by kernel_rfl) fun b1 nb1 Wb1 => ?_
        have W := Wb1
        refine ow_load (P := Tryd.prog) (T := 32) (off := 0) 0 5 W rfl rfl (by kernel_rfl) (by kernel_rfl) ?_
        refine sy_load 0 (r := indexAddrOp Tryd.prog 32 (Value.slice (some { block := ki, off := 0 }) (n + 1) (kc n)) (Value.int IntKind.i64 (Int.ofNat (Prod.fst p)))) (h' := b1) (by kernel_rfl) (idxS0 (e := 3) (by kernel_rfl) (by kernel_rfl) (by omega)) ?_
        refine ow_loadF (P := Tryd.prog) (T := 3) (off := Prod.fst p) 0 6 W rfl (by omega) (by kernel_rfl) (by kernel_rfl) ?_
        refine ow_load (P := Tryd.prog) (T := 32) (off := 0) 0 5 W rfl rfl (by kernel_rfl) (by kernel_rfl) ?_
        refine sy_load 0 (r := indexAddrOp Tryd.prog 32 (Value.slice (some { block := ki, off := 0 }) (n + 1) (kc n)) (Value.int IntKind.i64 (Int.ofNat (Prod.snd p)))) (h' := b1) (by kernel_rfl) (idxS0 (e := 3) (by kernel_rfl) (by kernel_rfl) (by omega)) ?_
        refine ow_loadF (P := Tryd.prog) (T := 3) (off := Prod.snd p) 0 6 W rfl (by omega) (by kernel_rfl) (by kernel_rfl) ?_
        refine ok_go 1 ?_
        have ga := gv_self d p.1
        have gb := gv_self d p.2
        have hx : xorI (Int.ofNat (gv d p.1)) (Int.ofNat (gv d p.2)) = Int.ofNat (gv d p.1 ^^^ gv d p.2) := xor_nat (by omega) (by omega)
        have hlt3 : gv d p.1 ^^^ gv d p.2 < n + 1 := opt_le d (n + 1) (List.mem_of_getElem? hp)
        refine sy_load 0 (r := indexAddrOp Tryd.prog 104 (ptr g5.next 0) (I (xorI (Int.ofNat (gv d p.1)) (Int.ofNat (gv d p.2))))) (h' := b1) (by kernel_rfl) (by rw [hx]; exact idxA0 (n := 8192) (e := 4) (by kernel_rfl) (by kernel_rfl) (by omega)) ?_
        have Wb1 := W
        refine ok_go 0 ?_
        refine ow_storeF (P := Tryd.prog) (T := 4) (off := gv d p.1 ^^^ gv d p.2) (v := .bool true) 0 4 W rfl (by omega) (by kernel_rfl) rfl (by kernel_rfl) fun b2 nb2 W => ?_
        refine ow_round 0 0 W rfl (by kernel_rfl) fun c1 nc1 Wc1 => ?_
        have W := Wc1
        have hov : ov[j]? = some (gv d p.1 ^^^ gv d p.2) := by
          show ((ops d 0 (n + 1)).map fun p => gv d p.1 ^^^ gv d p.2)[j]? = _
          rw [List.getElem?_map, hp]; rfl
        have hcu := updc (N := 8192) hov
        refine sy_done 0 (v := Value.bool true) (h := c1) (by kernel_rfl) ?_
        refine ⟨rfl, ?_⟩
        show Sto hb c1 (_ :: _ :: _ :: _ :: (g5.next, .cells (cellsF 8192 fun c => .bool ((ov.take (j + 1)).contains c)) 104 false) :: _)
        rw [← hcu]
        exact W
      obtain ⟨w, q', e, rfl, J1⟩ := key
      exact ⟨q', e, J1⟩
    obtain ⟨v8, h8, e8, J8⟩ := moves_run d (n + 1) (by omega) hd hl lf (m + 1) g6.next (g6.next + 1) (g7.next + 1) hlf xa xc Iv hI hyI HH W
    have hol : (ops d 0 (n + 1)).length = ov.length := (List.length_map _).symm
    rw [hol] at J8
    have J9 : Sto hb h8 ((g7.next + 1, CC.obj F1 g7.next .ready none) :: (g7.next, .defd false) :: (g6.next + 1, .cells [J (n + 1)] 3 false) :: (g6.next, .cells [.slice xa d.length xc] 32 false) :: (g5.next, .cells (cellsF 8192 fun c => .bool (ov.contains c)) 104 false) ::
      (g1.next, .cells [.slice (some ⟨ki, 0, none⟩) (n + 1) (kc n)] 32 false) :: (ki, .cells (cellsF (n + 1) fun k => J (gv d k)) 3 (opn n)) :: ((R0 ++ ds.map (fun d => (d, .defd false))) ++ C5)) := by
      have := J8
      simp only [Iv, List.take_length] at this
      exact this
    refine ⟨v8, h8, .ready, none, g7.next, .normal, _, e8, J9, by decide, rfl, fun h9 n9 W => ?_⟩
    have hmex : gv d (n + 1) = mex ov := gv_succ d n
    obtain ⟨mx1, mx2⟩ := mex_spec ov
    have e9 := ms (fun c => ov.contains c) g5.next (gv d (n + 1)) h9 ⟨_, _, W.get 3 rfl⟩ (by have := gv_self d (n + 1); omega) (by
      rw [hmex]
      cases hc : ov.contains (mex ov) with
      | false => rfl
      | true => exact absurd (List.contains_iff_mem.1 hc) mx2) (fun j hj => by rw [hmex] at hj; exact List.contains_iff_mem.2 (mx1 j hj))
    have Wh9 := W
    refine ow_load (P := Tryd.prog) (T := 32) (off := 0) 0 4 W rfl rfl (by kernel_rfl) (by kernel_rfl) ?_
    refine sy_call 0 (by kernel_rfl) e9 ?_
    refine ow_new 0 W (AObj.cells [Value.int IntKind.i64 (Int.ofNat (gv d (n + 1)))] 3 false) (fun q => Value.slice (some { block := q, off := 0 }) 1 2) (by kernel_rfl) fun r1 nr1 Wr1 => ?_
    have W := Wr1
    have Wp := W.perm (List.Perm.cons _ (List.perm_middle (l₁ := [_, _, _, _, _])))
    obtain ⟨r2, e10, nr2, W⟩ := kn_app (v := J (gv d (n + 1))) rfl (cellsF_all (N := n + 1) (f := fun k => J (gv d k)) fun c => rfl) (cellsF_len _ _) (by omega) Wp
    have hcs : cellsF (n + 1) (fun k => J (gv d k)) ++ [J (gv d (n + 1))] = cellsF (n + 2) (fun k => J (gv d k)) := by
      show ((List.range (n + 1)).map _) ++ _ = (List.range (n + 1 + 1)).map _
      rw [List.range_succ (n := n + 1), List.map_append]; rfl
    rw [hcs] at W
    refine sy_call 0 (by kernel_rfl) e10 ?_
    have Wr2 := W
    rw [List.cons_append, List.cons_append, List.cons_append, List.cons_append, List.cons_append, List.nil_append] at W
    refine ow_store (P := Tryd.prog) (T := 32) (off := 0) (v := Value.slice (some { block := Hp.next r1, off := 0 }) (n + 2) (kc (n + 1))) 0 5 W rfl (Nat.le_of_ble_eq_true (by kernel_rfl)) (by kernel_rfl) (by first | rfl | assumption) (by kernel_rfl) fun s1 ns1 Ws1 => ?_
    have W := Ws1
    refine sy_need 0 [1] [⟨some (Value.tuple { toList := [] }, h9), Value.tuple { toList := [] }, h9⟩] (by kernel_rfl) ⟨rfl, trivial⟩ ?_
    have W : Sto hb s1 ([(r1.next, .cells (cellsF (n + 2) fun k => J (gv d k)) 3 true), (g7.next, .defd false), (g6.next + 1, .cells [J (n + 1)] 3 false), (g6.next, .cells [.slice xa d.length xc] 32 false), (g5.next, .cells (cellsF 8192 fun c => .bool (ov.contains c)) 104 false)] ++
      (g1.next, .cells [.slice (some ⟨r1.next, 0, none⟩) (n + 2) (kc (n + 1))] 32 false) :: ((R0 ++ ds.map (fun d => (d, .defd false))) ++ C5)) := W
    have W := W.perm List.perm_middle
    have W := W.sub (l' := (g1.next, .cells [.slice (some ⟨r1.next, 0, none⟩) (n + 2) (kc (n + 1))] 32 false) :: (r1.next, .cells (cellsF (n + 2) fun k => J (gv d k)) 3 true) :: (g7.next, .defd false) :: ((R0 ++ ds.map (fun d => (d, .defd false))) ++ C5))
      (((((List.Sublist.refl _).cons _).cons _).cons _).cons_cons _ |>.cons_cons _ |>.cons_cons _)
    have W : Sto hb s1 (B (n + 1) r1.next (g7.next :: ds) ++ C5) := W.perm (List.Perm.cons _ (List.Perm.cons _ (List.Perm.append_right C5 (List.perm_middle (l₁ := R0)).symm)))
    rw [← hsh] at *
    refine ok_go 1 ?_
    exact sy_next 0 _ s1 (by kernel_rfl) (by kernel_rfl) (ih (n + 1, r1.next, C5, g7.next :: ds) _ s1 ⟨hlt, hC5, W⟩ (show N - (n + 1) < N - n by omega) ⟨by kernel_rfl, by kernel_rfl, by kernel_rfl, (by kernel_rfl : _ = Value.int .i64 (IntKind.wrap .i64 (Int.ofNat (n + 1)))).trans (by rw [hwn]), by kernel_rfl, trivial⟩)
  · obtain rfl : n = N := by omega
    obtain ⟨g5, C5, e5, W5, hC5⟩ := hy2 C g _ hC Wc
    refine sy_call 0 (by kernel_rfl) e5 ?_
    have W6 : Sto hb g5 (ds.map (fun d => (d, AObj.defd false)) ++ (C5 ++ ((cp, .cells [.string (strL (codeS d))] 9 false) :: F0))) := by
      have W7 := W5.perm (List.perm_append_comm (l₁ := C5) (l₂ := B n ki ds))
      have W8 := (W7.drop 2 : Sto hb g5 ((R0 ++ ds.map (fun d => (d, AObj.defd false))) ++ C5))
      have W9 := W8.sub (l' := (((cp, AObj.cells [.string (strL (codeS d))] 9 false) :: F0) ++ ds.map (fun d => (d, AObj.defd false))) ++ C5) (((List.sublist_append_right _ _).append (List.Sublist.refl _)).append (List.Sublist.refl _))
      refine W9.perm ?_
      refine (List.Perm.append_right C5 List.perm_append_comm).trans ?_
      rw [List.append_assoc]
      exact List.Perm.append_left _ List.perm_append_comm
    refine ok_go 1 ?_
    refine ow_marks 0 ds W6 (by kernel_rfl) fun g6 ng6 W => ?_
    refine sy_done 0 (v := Value.tuple { toList := [] }) (h := g6) (by kernel_rfl) ?_
    exact ⟨C5, hC5, W⟩
end Go.Proofs.YtegcmgjldapnmaaDoor
namespace Go.Proofs.YtegcmgjldapnmaaDoor
open Go Go.Eng Nim Oct
set_option maxRecDepth 100000
set_option maxHeartbeats 8000000
def gvs (d : List Nat) (n : Nat) : List Value := (List.range n).map fun k => J (gv d k)
theorem gvs_len (d : List Nat) (n : Nat) : (gvs d n).length = n := by simp [gvs]
theorem gvs_snoc (d : List Nat) (n : Nat) : gvs d n ++ [J (gv d n)] = gvs d (n + 1) := by
  unfold gvs; rw [List.range_succ, List.map_append]; rfl
theorem list_of (d : List Nat) (n : Nat) (hn : n ≤ 2000) (lf m : Nat) (hlf : 20000 ≤ lf) (h : Hp)
    (vr : ∀ (y cp : Nat) (hb : Hp) (CI : Nat → List (Nat × AObj) → Prop) (CE : List (Nat × AObj) → Prop)
      (_ : ∀ k C g F, k < n → CI k C → Sto hb g (C ++ F) → ∃ g' C', evInv Tryd.prog orc lf (m + 2) (.yield y [J k, J (gv d k)]) g = some (.bool true, g') ∧ Sto hb g' (C' ++ F) ∧ CI (k + 1) C')
      (_ : ∀ C g F, CI n C → Sto hb g (C ++ F) → ∃ g' C', evInv Tryd.prog orc lf (m + 2) (.yield y [J n, J (gv d n)]) g = some (.bool false, g') ∧ Sto hb g' (C' ++ F) ∧ CE C')
      (C0 F0 : List (Nat × AObj)) (h : Hp), CI 0 C0 → Sto hb h (C0 ++ ((cp, .cells [.string (strL (codeS d))] 9 false) :: F0)) →
      ∃ v h', Ev lf (m + 3) 78 [.func (.yield y) #[] #[], ptr cp 0] h = some (v, h') ∧ ∃ C', CE C' ∧ Sto hb h' (C' ++ ((cp, .cells [.string (strL (codeS d))] 9 false) :: F0))) :
    ∃ v h', Ev lf (m + 4) 41 [.string (strL (codeS d)), J n] h = some (v, h') ∧ ∃ q, v = oslV q (n + 1) ∧ Sto h h' (oent q 3 (gvs d (n + 1))) := by
  refine fnS_ok (Q := fun v h' => ∃ q, v = oslV q (n + 1) ∧ Sto h h' (oent q 3 (gvs d (n + 1)))) ?_
  have W := Sto.start h
  refine ow_new 0 W (AObj.cells [Value.int IntKind.i64 (Int.ofNat n)] 3 false) (fun q => Value.pointer (some { block := q, off := 0 })) (by kernel_rfl) fun g1 ng1 Wg1 => ?_
  have W := Wg1
  refine ow_new 0 W (AObj.cells [Value.slice none 0 0] 32 false) (fun q => Value.pointer (some { block := q, off := 0 })) (by kernel_rfl) fun g2 ng2 Wg2 => ?_
  have W := Wg2
  refine ow_new 0 W (AObj.cells [Value.string (strL (codeS d))] 9 false) (fun q => Value.func (Fn.func 78) { toList := [] } { toList := [Value.pointer (some { block := q, off := 0 })] }) (by kernel_rfl) fun g3 ng3 Wg3 => ?_
  have W := Wg3
  refine ow_range 0 (callF := evInv Tryd.prog orc lf (m + 3)) (P := Tryd.prog) (lf := lf) (m := 20) (rcOf Tryd.prog 41 0) W [(3, ptr h.next 0), (5, ptr g1.next 0)] 78 [.func (.yield (g3.next + 1)) #[] #[], ptr g2.next 0]
    (by kernel_rfl) (fun F => by kernel_rfl) ⟨by kernel_rfl, by kernel_rfl, trivial⟩ (by kernel_rfl) (by kernel_rfl) fun F1 f2 HH hr nH W => ?_
  let CC : RC := rcOf Tryd.prog 41 0
  let CI : Nat → List (Nat × AObj) → Prop := fun k C => ∃ q sl, sl = oslV q k ∧ scalar sl = true ∧ C = (g3.next + 1, CC.obj F1 g3.next .ready none) :: (g3.next, .defd false) :: (g1.next, .cells [sl] 32 false) :: (h.next, .cells [J n] 3 false) :: oent q 3 (gvs d k)
  let CE : List (Nat × AObj) → Prop := fun C => ∃ q sl, sl = oslV q (n + 1) ∧ scalar sl = true ∧ C = (g3.next + 1, CC.obj F1 g3.next .done (some (.exit 0))) :: (g3.next, .defd false) :: (g1.next, .cells [sl] 32 false) :: (h.next, .cells [J n] 3 false) :: oent q 3 (gvs d (n + 1))
  have body : ∀ k C g F, k ≤ n → CI k C → Sto h g (C ++ F) → ∃ w g', evInv Tryd.prog orc lf (m + 2) (.yield (g3.next + 1) [J k, J (gv d k)]) g = some (w, g') ∧ ∃ C', Sto h g' (C' ++ F) ∧ ((k < n ∧ w = .bool true ∧ CI (k + 1) C') ∨ (k = n ∧ w = .bool false ∧ CE C')) := fun k C g F hk hC W => by
    obtain ⟨q, sl, hsl, hsc, rfl⟩ := hC
    refine yld_ok (c := CC) (Q := fun w g' => ∃ C', Sto h g' (C' ++ F) ∧ ((k < n ∧ w = .bool true ∧ CI (k + 1) C') ∨ (k = n ∧ w = .bool false ∧ CE C'))) hr (W.get 0 rfl) (by kernel_rfl) ?_
    have W : Sto h g ((g3.next + 1, CC.obj F1 g3.next .ready none) :: (g3.next, .defd false) :: (g1.next, .cells [sl] 32 false) :: (h.next, .cells [J n] 3 false) :: (oent q 3 (gvs d k) ++ F)) := W
    refine ow_busy 0 0 W rfl (by kernel_rfl) fun b1 nb1 Wb1 => ?_
    have W := Wb1
    refine ow_load (P := Tryd.prog) (T := 32) (off := 0) 0 2 W rfl rfl (by kernel_rfl) (by kernel_rfl) ?_
    refine ow_new 0 W (AObj.cells [Value.int IntKind.i64 (Int.ofNat (gv d k))] 3 false) (fun q => Value.slice (some { block := q, off := 0 }) 1 2) (by kernel_rfl) fun b2 nb2 Wb2 => ?_
    have W := Wb2
    have W : Sto h b2 ((b1.next, .cells [J (gv d k)] 3 false) :: (([(g3.next + 1, CC.obj F1 g3.next .busy none), (g3.next, .defd false), (g1.next, .cells [sl] 32 false), (h.next, .cells [J n] 3 false)] ++ F) ++ oent q 3 (gvs d k))) := W.perm (List.Perm.cons _ (List.Perm.append_left [_, _, _, _] (List.perm_append_comm)))
    refine ow_app (P := Tryd.prog) (t := 32) (e := 3) (z := 1) (c := k) (i := q) 0 W slz32 (by rw [gvs_len, Nat.mul_one]) rfl rfl (by omega) (by rw [← hsl]; kernel_rfl) fun b3 sl2 nb3 hsl2 hsc2 W => ?_
    rw [gvs_snoc] at W
    have W : Sto h b3 ((g3.next + 1, CC.obj F1 g3.next .busy none) :: (g3.next, .defd false) :: (g1.next, .cells [sl] 32 false) :: (h.next, .cells [J n] 3 false) :: (F ++ oent b2.next 3 (gvs d (k + 1)))) := W
    refine ow_store (P := Tryd.prog) (T := 32) (off := 0) (v := sl2) 0 2 W rfl (Nat.le_of_ble_eq_true (by kernel_rfl)) (by kernel_rfl) (by first | rfl | assumption) (by kernel_rfl) fun c1 nc1 Wc1 => ?_
    have W := Wc1
    refine ow_load (P := Tryd.prog) (T := 3) (off := 0) 0 3 W rfl rfl (by kernel_rfl) (by kernel_rfl) ?_
    refine ok_go 1 ?_
    refine sy_test 0 (Int.ofNat k == Int.ofNat n) (by kernel_rfl) ?_ ?_
    · intro he
      have he : k = n := by
        have := eq_of_beq he
        exact Int.ofNat.inj this
      subst he
      refine ow_leave 0 0 (Ex.exit 0) W rfl (by kernel_rfl) (by simp) fun e1 ne1 We1 => ?_
      have W := We1
      refine sy_done 0 (v := Value.bool false) (h := e1) (by kernel_rfl) ?_
      have W : Sto h e1 ((g3.next + 1, CC.obj F1 g3.next .done (some (.exit 0))) :: (g3.next, .defd false) :: (g1.next, .cells [sl2] 32 false) :: (h.next, .cells [J k] 3 false) :: (F ++ oent b2.next 3 (gvs d (k + 1)))) := W
      exact ⟨(g3.next + 1, CC.obj F1 g3.next .done (some (.exit 0))) :: (g3.next, .defd false) :: (g1.next, .cells [sl2] 32 false) :: (h.next, .cells [J k] 3 false) :: oent b2.next 3 (gvs d (k + 1)), W.perm (List.Perm.cons _ (List.Perm.cons _ (List.Perm.cons _ (List.Perm.cons _ List.perm_append_comm)))), .inr ⟨rfl, rfl, b2.next, sl2, hsl2, hsc2, rfl⟩⟩
    · intro he
      have he : k < n := by
        rcases Nat.eq_or_lt_of_le hk with h1 | h1
        · subst h1; simp at he
        · exact h1
      refine ow_round 0 0 W rfl (by kernel_rfl) fun e1 ne1 We1 => ?_
      have W := We1
      refine sy_done 0 (v := Value.bool true) (h := e1) (by kernel_rfl) ?_
      have W : Sto h e1 ((g3.next + 1, CC.obj F1 g3.next .ready none) :: (g3.next, .defd false) :: (g1.next, .cells [sl2] 32 false) :: (h.next, .cells [J n] 3 false) :: (F ++ oent b2.next 3 (gvs d (k + 1)))) := W
      exact ⟨(g3.next + 1, CC.obj F1 g3.next .ready none) :: (g3.next, .defd false) :: (g1.next, .cells [sl2] 32 false) :: (h.next, .cells [J n] 3 false) :: oent b2.next 3 (gvs d (k + 1)), W.perm (List.Perm.cons _ (List.Perm.cons _ (List.Perm.cons _ (List.Perm.cons _ List.perm_append_comm)))), .inl ⟨he, rfl, b2.next, sl2, hsl2, hsc2, rfl⟩⟩
  obtain ⟨v8, h8, e8, C8, ⟨q, sl, hsl, hsc, rfl⟩, W8⟩ := vr (g3.next + 1) g2.next h CI CE
    (fun k C g F hk hC W => by
      obtain ⟨w, g', e, C', W', h1 | h1⟩ := body k C g F (by omega) hC W
      · obtain ⟨_, rfl, h2⟩ := h1
        exact ⟨g', C', e, W', h2⟩
      · omega)
    (fun C g F hC W => by
      obtain ⟨w, g', e, C', W', h1 | h1⟩ := body n C g F (Nat.le_refl n) hC W
      · omega
      · obtain ⟨_, rfl, h2⟩ := h1
        exact ⟨g', C', e, W', h2⟩)
    [(g3.next + 1, CC.obj F1 g3.next .ready none), (g3.next, .defd false), (g1.next, .cells [.slice none 0 0] 32 false), (h.next, .cells [J n] 3 false)] [] HH ⟨0, .slice none 0 0, rfl, rfl, rfl⟩
    (W.perm (List.Perm.append_left [_, _] (List.perm_append_comm (l₁ := [_]) (l₂ := [_, _]))))
  have W8 : Sto h h8 ((g3.next + 1, (rcOf Tryd.prog 41 0).obj F1 g3.next .done (some (.exit 0))) :: (g3.next, .defd false) :: (g1.next, .cells [sl] 32 false) :: (h.next, .cells [J n] 3 false) :: (oent q 3 (gvs d (n + 1)) ++ [(g2.next, .cells [.string (strL (codeS d))] 9 false)])) := W8
  refine ⟨v8, h8, .done, some (.exit 0), g3.next, .exit 0, (g3.next, .defd false) :: (g1.next, .cells [sl] 32 false) :: (h.next, .cells [J n] 3 false) :: (oent q 3 (gvs d (n + 1)) ++ [(g2.next, .cells [.string (strL (codeS d))] 9 false)]), e8, W8, by decide, rfl, fun h9 n9 W => ?_⟩
  refine ow_load (P := Tryd.prog) (T := 32) (off := 0) 0 1 W rfl rfl (by kernel_rfl) (by kernel_rfl) ?_
  have W : Sto h h9 ([g3.next].map (fun d => (d, AObj.defd false)) ++ ((g1.next, .cells [sl] 32 false) :: (h.next, .cells [J n] 3 false) :: (oent q 3 (gvs d (n + 1)) ++ [(g2.next, .cells [.string (strL (codeS d))] 9 false)]))) := W
  refine ow_marks 0 [g3.next] W (by kernel_rfl) fun h10 n10 W => ?_
  refine sy_done 0 (v := sl) (h := h10) (by kernel_rfl) ?_
  refine ⟨q, hsl, (W.drop 2).sub ?_⟩
  exact List.sublist_append_left _ _
end Go.Proofs.YtegcmgjldapnmaaDoor
namespace Go.Proofs.YtegcmgjldapnmaaDoor
open Go Go.Eng Nim Oct
set_option maxRecDepth 100000
set_option maxHeartbeats 8000000
theorem oent_gvs (d : List Nat) (q n : Nat) : oent q 3 (gvs d (n + 1)) = [(q, .cells (cellsF (n + 1) fun k => J (gv d k)) 3 true)] := by
  show oent q 3 ((List.range (n + 1)).map fun k => J (gv d k)) = _
  rw [show cellsF (n + 1) (fun k => J (gv d k)) = (List.range (n + 1)).map fun k => J (gv d k) from rfl, List.range_succ_eq_map, List.map_cons]
  rfl
/-- What stands behind Period, Values and IsPeriod. -/
structure UpV (d : List Nat) (lf m : Nat) : Prop where
  ck : ∀ h, ∃ v h', Ev lf m 40 [.string (strL (codeS d))] h = some (v, h') ∧ v = J 0 ∧ h.Ext h'
  ls : ∀ n h, n ≤ 2000 → ∃ v h', Ev lf m 41 [.string (strL (codeS d)), J n] h = some (v, h') ∧ ∃ q, v = .slice (some ⟨q, 0, none⟩) (n + 1) (2 * (n + 1) + 1) ∧ Sto h h' [(q, .cells (cellsF (n + 1) fun k => J (gv d k)) 3 true)]
theorem Values_of (d : List Nat) (n : Nat) (hn : n ≤ 2000) (lf m : Nat) (U : UpV d lf m) (h : Hp) : ∃ v h', Ev lf (m + 1) 32 [.string (strL (codeS d)), J n] h = some (v, h') ∧ ∃ q, v = .tuple #[.slice (some ⟨q, 0, none⟩) (n + 1) (2 * (n + 1) + 1), J 0] ∧ Sto h h' [(q, .cells (cellsF (n + 1) fun k => J (gv d k)) 3 true)] := by
  refine fnS_ok (Q := fun v h' => ∃ q, v = .tuple #[.slice (some ⟨q, 0, none⟩) (n + 1) (2 * (n + 1) + 1), J 0] ∧ Sto h h' [(q, .cells (cellsF (n + 1) fun k => J (gv d k)) 3 true)]) ?_
  have W := Sto.start h
  have ck := U.ck
  have ls := U.ls
  obtain ⟨y1, q1, ec1, rc1⟩ := ck (h)
  refine sy_call 0 (by kernel_rfl) ec1 ?_
  obtain ⟨rfl, X⟩ := rc1
  have W := W.call X
  refine ok_go 7 ?_
  refine sy_no 0 (b := decide (Int.ofNat n > 2000)) (by kernel_rfl) (decide_eq_false (by show ¬ ((2000 : Int) < (n : Int)); omega)) ?_
  obtain ⟨y2, q2, ec2, rc2⟩ := ls (n) (q1) (by first | assumption | omega | exact rfl)
  refine sy_call 0 (by kernel_rfl) ec2 ?_
  obtain ⟨q, rfl, W2⟩ := rc2
  refine sy_done 0 (v := Value.tuple { toList := [Value.slice (some { block := q, off := 0 }) (n + 1) (2 * (n + 1) + 1), Value.int IntKind.i64 (Int.ofNat 0)] }) (h := q2) (by kernel_rfl) ?_
  exact ⟨q, rfl, W.over W2⟩
theorem Period_of (d : List Nat) (hd8 : d.length ≤ 8) (L : Nat) (hL1 : 1 ≤ L) (hL : L ≤ 2000) (lf m : Nat) (hlf : 20000 ≤ lf) (U : UpV d lf m) (h : Hp) : ∃ v h', Ev lf (m + 1) 28 [.string (strL (codeS d)), J L] h = some (v, h') ∧ h.Ext h' ∧ ∃ a p s, v = .tuple #[J a, J p, .bool s, J 0] ∧ First (gv d) d.length L a p s := by
  refine fnS_ok (Q := fun v h' => h.Ext h' ∧ ∃ a p s, v = .tuple #[J a, J p, .bool s, J 0] ∧ First (gv d) d.length L a p s) ?_
  have W := Sto.start h
  have ck := U.ck
  have ls := U.ls
  obtain ⟨y1, q1, ec1, rc1⟩ := ck (h)
  refine sy_call 0 (by kernel_rfl) ec1 ?_
  obtain ⟨rfl, X⟩ := rc1
  have W := W.call X
  refine ok_go 3 ?_
  refine sy_no 0 (b := decide (Int.ofNat L < 1)) (by kernel_rfl) (decide_eq_false (by show ¬ ((L : Int) < 1); omega)) ?_
  refine ok_go 3 ?_
  refine sy_no 0 (b := decide (Int.ofNat L > 2000)) (by kernel_rfl) (decide_eq_false (by show ¬ ((2000 : Int) < (L : Int)); omega)) ?_
  obtain ⟨y2, q2, ec2, rc2⟩ := ls (L) (q1) (by first | assumption | omega | exact rfl)
  refine sy_call 0 (by kernel_rfl) ec2 ?_
  obtain ⟨q, rfl, W2⟩ := rc2
  have W := W.over W2
  refine ok_go 2 ?_
  have hD : IntKind.wrap .i64 (Int.ofNat (strL (codeS d)).size - 2) = Int.ofNat d.length := by
    rw [strL_size]
    have : (codeS d).length = d.length + 2 := by simp [codeS]
    rw [this]
    exact wrap_sub (a := d.length + 2) (b := 2) (by omega) (by omega)
  have W : Sto h q2 [(q, .cells (cellsF (L + 1) fun k => J (gv d k)) 3 true)] := W
  generalize d.length = D at *
  let SL : Value := .slice (some ⟨q, 0, none⟩) (L + 1) (2 * (L + 1) + 1)
  let v : Nat → Nat := gv d
  refine sy_loop 0 lf q2 (α := Nat) (fun p => [(1, J L), (9, SL), (10, J D), (11, J p)]) (fun p g => 1 ≤ p ∧ p ≤ 2001 ∧ g = q2 ∧ ∀ q k, 1 ≤ q → q < p → 2 * k + 3 * q + D ≤ L → ¬ goes v D k q) (fun p _ => 2002 - p) 1 (by kernel_rfl) (by kernel_rfl)
    ⟨by kernel_rfl, by kernel_rfl, (by kernel_rfl : _ = I (IntKind.wrap .i64 (Int.ofNat (strL (codeS d)).size - 2))).trans (by rw [hD]), by kernel_rfl, trivial⟩ (show 2002 - 1 < lf by omega) ⟨Nat.le_refl 1, by decide, rfl, fun q k h1 h2 => by omega⟩ ?_
  rintro m1 p f1 g ⟨hp1, hp2, rfl, hno⟩ ih
  have hw : IntKind.wrap .i64 (Int.ofNat (p + 1)) = Int.ofNat (p + 1) := wrap_nat (by omega)
  have h3p : IntKind.wrap .i64 (3 * Int.ofNat p) = Int.ofNat (3 * p) := wrap_nat (n := 3 * p) (by omega)
  have h2p : IntKind.wrap .i64 (2 * Int.ofNat p) = Int.ofNat (2 * p) := wrap_nat (n := 2 * p) (by omega)
  refine ok_go 3 ?_
  refine sy_test 0 (decide (IntKind.wrap .i64 (IntKind.wrap .i64 (3 * Int.ofNat p) + Int.ofNat D) ≤ Int.ofNat L)) (by kernel_rfl) ?_ ?_
  · intro hle
    have hle : 3 * p + D ≤ L := by
      rw [h3p, wrap_add (by omega)] at hle
      exact Int.ofNat_le.1 (of_decide_eq_true hle)
    refine ok_go 0 ?_
    refine sy_loop 0 lf g (α := Nat) (fun a => [(1, J L), (9, SL), (10, J D), (11, J p), (12, J a)]) (fun a g' => a ≤ 2001 ∧ g' = g ∧ ∀ k, k < a → ¬ goes v D k p) (fun a _ => 2002 - a) 0 (by kernel_rfl) (by kernel_rfl)
      ⟨by kernel_rfl, by kernel_rfl, by kernel_rfl, by kernel_rfl, by kernel_rfl, trivial⟩ (show 2002 - 0 < lf by omega) ⟨by decide, rfl, fun k hk => by omega⟩ ?_
    rintro m2 a f2 g ⟨ha, rfl, hna⟩ ih2
    have h2a : IntKind.wrap .i64 (2 * Int.ofNat a) = Int.ofNat (2 * a) := wrap_nat (n := 2 * a) (by omega)
    have hsum : IntKind.wrap .i64 (IntKind.wrap .i64 (IntKind.wrap .i64 (2 * Int.ofNat a) + IntKind.wrap .i64 (3 * Int.ofNat p)) + Int.ofNat D) = Int.ofNat (2 * a + 3 * p + D) := by
      rw [h2a, h3p, wrap_add (by omega), wrap_add (by omega)]
    refine ok_go 5 ?_
    refine sy_test 0 (decide (IntKind.wrap .i64 (IntKind.wrap .i64 (IntKind.wrap .i64 (2 * Int.ofNat a) + IntKind.wrap .i64 (3 * Int.ofNat p)) + Int.ofNat D) ≤ Int.ofNat L)) (by kernel_rfl) ?_ ?_
    · intro hle2
      have hle2 : 2 * a + 3 * p + D ≤ L := by rw [hsum] at hle2; exact Int.ofNat_le.1 (of_decide_eq_true hle2)
      have htop : IntKind.wrap .i64 (IntKind.wrap .i64 (IntKind.wrap .i64 (2 * Int.ofNat a) + IntKind.wrap .i64 (2 * Int.ofNat p)) + Int.ofNat D) = Int.ofNat (2 * a + 2 * p + D) := by
        rw [h2a, h2p, wrap_add (by omega), wrap_add (by omega)]
      refine ok_go 4 ?_
      refine sy_loop 0 lf g (α := Nat) (fun c => [(1, J L), (9, SL), (10, J D), (11, J p), (12, J a), (13, I ((a : Int) - 1 + c))]) (fun c g' => c ≤ a + 2 * p + D + 1 ∧ g' = g ∧ ∀ j, a + c ≤ j → j ≤ 2 * a + 2 * p + D → v j = v (j + p)) (fun c _ => c) (a + 2 * p + D + 1) (by kernel_rfl) (by kernel_rfl)
        ⟨by kernel_rfl, by kernel_rfl, by kernel_rfl, by kernel_rfl, by kernel_rfl, (by kernel_rfl : _ = I (IntKind.wrap .i64 (IntKind.wrap .i64 (IntKind.wrap .i64 (2 * Int.ofNat a) + IntKind.wrap .i64 (2 * Int.ofNat p)) + Int.ofNat D))).trans (by rw [htop]; congr 1; show ((2 * a + 2 * p + D : Nat) : Int) = (a : Int) - 1 + ((a + 2 * p + D + 1 : Nat) : Int); omega), trivial⟩ (show a + 2 * p + D + 1 < lf by omega) ⟨Nat.le_refl _, rfl, fun j h1 h2 => by omega⟩ ?_
      rintro m3 c f3 g ⟨hc, rfl, hs⟩ ih3
      refine ok_go 1 ?_
      refine sy_test 0 (decide ((a : Int) - 1 + c ≥ Int.ofNat a)) (by kernel_rfl) ?_ ?_
      · intro hge
        have hc1 : 1 ≤ c := by
          have : (a : Int) ≤ (a : Int) - 1 + c := of_decide_eq_true hge
          omega
        have hI : (a : Int) - 1 + c = Int.ofNat (a + c - 1) := by show _ = ((a + c - 1 : Nat) : Int); omega
        have hadd : IntKind.wrap .i64 ((a : Int) - 1 + c + Int.ofNat p) = Int.ofNat (a + c - 1 + p) := by rw [hI]; exact wrap_add (by omega)
        refine ok_go 0 ?_
        refine sy_load 0 (r := indexAddrOp Tryd.prog 32 SL (I ((a : Int) - 1 + c))) (h' := g) (by kernel_rfl) (by rw [hI]; exact idxS0 (e := 3) (by kernel_rfl) (by kernel_rfl) (by omega)) ?_
        refine ok_go 0 ?_
        refine ow_loadF (P := Tryd.prog) (T := 3) (off := a + c - 1) 0 0 W rfl (by omega) (by kernel_rfl) (by kernel_rfl) ?_
        refine ok_go 1 ?_
        refine sy_load 0 (r := indexAddrOp Tryd.prog 32 SL (I (IntKind.wrap .i64 ((a : Int) - 1 + c + Int.ofNat p)))) (h' := g) (by kernel_rfl) (by rw [hadd]; exact idxS0 (e := 3) (by kernel_rfl) (by kernel_rfl) (by omega)) ?_
        refine ok_go 0 ?_
        refine ow_loadF (P := Tryd.prog) (T := 3) (off := a + c - 1 + p) 0 0 W rfl (by omega) (by kernel_rfl) (by kernel_rfl) ?_
        refine ok_go 1 ?_
        refine sy_test 0 (Int.ofNat (gv d (a + c - 1)) != Int.ofNat (gv d (a + c - 1 + p))) (by kernel_rfl) ?_ ?_
        · intro hne
          have hne : v (a + c - 1) ≠ v (a + c - 1 + p) := fun h => by
            have h : gv d (a + c - 1) = gv d (a + c - 1 + p) := h
            rw [h] at hne
            simp at hne
          have hmax : IntKind.wrap .i64 ((if (a : Int) - 1 + c > Int.ofNat a then (a : Int) - 1 + c else Int.ofNat a) + 1) = Int.ofNat (a + c - 1 + 1) := by
            have : (if (a : Int) - 1 + c > Int.ofNat a then (a : Int) - 1 + c else Int.ofNat a) = Int.ofNat (a + c - 1) := by
              rw [hI]
              split
              · rfl
              · rename_i h
                have h : ¬ ((a : Int) < ((a + c - 1 : Nat) : Int)) := h
                show (a : Int) = ((a + c - 1 : Nat) : Int)
                omega
            rw [this]
            exact wrap_add (b := 1) (by omega)
          refine ok_go 2 ?_
          exact sy_next 0 _ g (by kernel_rfl) (by kernel_rfl) (ih2 (a + c - 1 + 1) _ g ⟨by omega, rfl, fun k hk => by
            rcases Nat.lt_or_ge k a with h1 | h1
            · exact hna k h1
            · exact fun hg => hne (hg (a + c - 1) (by omega) (by omega))⟩ (show 2002 - (a + c - 1 + 1) < 2002 - a by omega) ⟨by kernel_rfl, by kernel_rfl, by kernel_rfl, by kernel_rfl, (by kernel_rfl : _ = I (IntKind.wrap .i64 ((if (a : Int) - 1 + c > Int.ofNat a then (a : Int) - 1 + c else Int.ofNat a) + 1))).trans (by rw [hmax]), trivial⟩)
        · intro heq
          have heq : v (a + c - 1) = v (a + c - 1 + p) := by
            have := bne_eq_false_iff_eq.1 heq
            exact Int.ofNat.inj this
          have hwc : IntKind.wrap .i64 ((a : Int) - 1 + c - 1) = (a : Int) - 1 + ((c - 1 : Nat) : Int) := by
            rw [wrap_int (by omega) (by omega)]; omega
          refine ok_go 1 ?_
          exact sy_next 0 _ g (by kernel_rfl) (by kernel_rfl) (ih3 (c - 1) _ g ⟨by omega, rfl, fun j h1 h2 => by
            rcases Nat.lt_or_ge j (a + c) with h3 | h3
            · obtain rfl : j = a + c - 1 := by omega
              exact heq
            · exact hs j h3 h2⟩ (show c - 1 < c by omega) ⟨by kernel_rfl, by kernel_rfl, by kernel_rfl, by kernel_rfl, by kernel_rfl, (by kernel_rfl : _ = I (IntKind.wrap .i64 ((a : Int) - 1 + c - 1))).trans (by rw [hwc]), trivial⟩)
      · intro hge
        obtain rfl : c = 0 := by
          have : ¬ (a : Int) ≤ (a : Int) - 1 + c := of_decide_eq_false hge
          omega
        refine sy_done 0 (v := Value.tuple { toList := [Value.int IntKind.i64 (Int.ofNat a), Value.int IntKind.i64 (Int.ofNat p), Value.bool true, Value.int IntKind.i64 (Int.ofNat 0)] }) (h := g) (by kernel_rfl) ?_
        exact ⟨W.ext, a, p, true, rfl, hp1, hle2, fun n h1 h2 => hs n (by omega) h2, hno, hna⟩
    · intro hle2
      have hle2 : ¬ 2 * a + 3 * p + D ≤ L := by rw [hsum] at hle2; exact fun h => of_decide_eq_false hle2 (Int.ofNat_le.2 h)
      refine ok_go 1 ?_
      exact sy_next 0 _ g (by kernel_rfl) (by kernel_rfl) (ih (p + 1) _ g ⟨by omega, by omega, rfl, fun q k h1 h2 h3 => by
        rcases Nat.lt_or_ge q p with h4 | h4
        · exact hno q k h1 h4 h3
        · obtain rfl : q = p := by omega
          exact hna k (by omega)⟩ (show 2002 - (p + 1) < 2002 - p by omega) ⟨by kernel_rfl, by kernel_rfl, by kernel_rfl, (by kernel_rfl : _ = Value.int .i64 (IntKind.wrap .i64 (Int.ofNat (p + 1)))).trans (by rw [hw]), trivial⟩)
  · intro hle
    have hle : ¬ 3 * p + D ≤ L := by
      rw [h3p, wrap_add (by omega)] at hle
      exact fun h => of_decide_eq_false hle (Int.ofNat_le.2 h)
    refine sy_done 0 (v := Value.tuple { toList := [Value.int IntKind.i64 (Int.ofNat 0), Value.int IntKind.i64 (Int.ofNat 0), Value.bool false, Value.int IntKind.i64 (Int.ofNat 0)] }) (h := g) (by kernel_rfl) ?_
    exact ⟨W.ext, 0, 0, false, rfl, rfl, rfl, fun q k h1 h2 => by
      rcases Nat.lt_or_ge q p with h4 | h4
      · exact hno q k h1 h4 h2
      · omega⟩
end Go.Proofs.YtegcmgjldapnmaaDoor
namespace Go.Proofs.YtegcmgjldapnmaaDoor
open Go Go.Eng Nim Oct
set_option maxRecDepth 100000
set_option maxHeartbeats 8000000
theorem isp_of (d : List Nat) (D q L a p lf m : Nat) (hD : D ≤ 8) (hL : L ≤ 2000) (ha : a ≤ L) (hp : p ≤ L) (hp1 : 1 ≤ p) (hlf : 20000 ≤ lf) (h : Hp) (hq : q < h.next) (hg : h.get q = some (.cells (cellsF (L + 1) fun k => J (gv d k)) 3 true)) :
    ∃ v h', Ev lf (m + 1) 42 [.slice (some ⟨q, 0, none⟩) (L + 1) (2 * (L + 1) + 1), J D, J a, J p] h = some (v, h') ∧ h' = h ∧ ∃ b, v = .bool b ∧ (b = true ↔ 2 * a + 3 * p + D ≤ L ∧ goes (gv d) D a p) := by
  refine fnS_ok (Q := fun v h' => h' = h ∧ ∃ b, v = .bool b ∧ (b = true ↔ 2 * a + 3 * p + D ≤ L ∧ goes (gv d) D a p)) ?_
  have h2a : IntKind.wrap .i64 (2 * Int.ofNat a) = Int.ofNat (2 * a) := wrap_nat (n := 2 * a) (by omega)
  have h3p : IntKind.wrap .i64 (3 * Int.ofNat p) = Int.ofNat (3 * p) := wrap_nat (n := 3 * p) (by omega)
  have h2p : IntKind.wrap .i64 (2 * Int.ofNat p) = Int.ofNat (2 * p) := wrap_nat (n := 2 * p) (by omega)
  have hsum : IntKind.wrap .i64 (IntKind.wrap .i64 (IntKind.wrap .i64 (2 * Int.ofNat a) + IntKind.wrap .i64 (3 * Int.ofNat p)) + Int.ofNat D) = Int.ofNat (2 * a + 3 * p + D) := by
    rw [h2a, h3p, wrap_add (by omega), wrap_add (by omega)]
  have htop : IntKind.wrap .i64 (IntKind.wrap .i64 (IntKind.wrap .i64 (2 * Int.ofNat a) + IntKind.wrap .i64 (2 * Int.ofNat p)) + Int.ofNat D) = Int.ofNat (2 * a + 2 * p + D) := by
    rw [h2a, h2p, wrap_add (by omega), wrap_add (by omega)]
  let SL : Value := .slice (some ⟨q, 0, none⟩) (L + 1) (2 * (L + 1) + 1)
  refine ok_go 6 ?_
  refine sy_test 0 (decide (IntKind.wrap .i64 (IntKind.wrap .i64 (IntKind.wrap .i64 (2 * Int.ofNat a) + IntKind.wrap .i64 (3 * Int.ofNat p)) + Int.ofNat D) ≥ Int.ofNat (L + 1))) (by kernel_rfl) ?_ ?_
  · intro ht
    have ht : L + 1 ≤ 2 * a + 3 * p + D := by rw [hsum] at ht; exact Int.ofNat_le.1 (of_decide_eq_true ht)
    refine sy_done 0 (v := Value.bool false) (h := h) (by kernel_rfl) ?_
    exact ⟨rfl, false, rfl, ⟨fun h => (by cases h), fun h => (by omega)⟩⟩
  · intro ht
    have ht : 2 * a + 3 * p + D ≤ L := by rw [hsum] at ht; have := of_decide_eq_false ht; exact Nat.le_of_not_lt fun h => this (Int.ofNat_le.2 h)
    refine ok_go 0 ?_
    refine sy_loop 0 lf h (α := Nat) (fun n => [(0, SL), (1, J D), (2, J a), (3, J p), (9, J n)]) (fun n g => a ≤ n ∧ n ≤ 2 * a + 2 * p + D + 1 ∧ g = h ∧ ∀ j, a ≤ j → j < n → gv d j = gv d (j + p)) (fun n _ => 10000 - n) a (by kernel_rfl) (by kernel_rfl)
      ⟨by kernel_rfl, by kernel_rfl, by kernel_rfl, by kernel_rfl, by kernel_rfl, trivial⟩ (show 10000 - a < lf by omega) ⟨Nat.le_refl _, by omega, rfl, fun j h1 h2 => by omega⟩ ?_
    rintro m1 n f1 g ⟨hn1, hn2, rfl, hs⟩ ih
    have hw : IntKind.wrap .i64 (Int.ofNat (n + 1)) = Int.ofNat (n + 1) := wrap_nat (by omega)
    refine ok_go 5 ?_
    refine sy_test 0 (decide (Int.ofNat n ≤ IntKind.wrap .i64 (IntKind.wrap .i64 (IntKind.wrap .i64 (2 * Int.ofNat a) + IntKind.wrap .i64 (2 * Int.ofNat p)) + Int.ofNat D))) (by kernel_rfl) ?_ ?_
    · intro hle
      have hle : n ≤ 2 * a + 2 * p + D := by rw [htop] at hle; exact Int.ofNat_le.1 (of_decide_eq_true hle)
      have hadd : IntKind.wrap .i64 (Int.ofNat n + Int.ofNat p) = Int.ofNat (n + p) := wrap_add (by omega)
      refine ok_go 0 ?_
      refine sy_load 0 (r := indexAddrOp Tryd.prog 32 SL (J n)) (h' := g) (by kernel_rfl) (idxS0 (e := 3) (by kernel_rfl) (by kernel_rfl) (by omega)) ?_
      refine ok_go 0 ?_
      refine sy_load 0 (r := loadT Tryd.prog g 3 (ptr q n)) (h' := g) (v := J (gv d n)) (by kernel_rfl) (load1 agI hg (cellsF_get (by omega))) ?_
      refine ok_go 1 ?_
      refine sy_load 0 (r := indexAddrOp Tryd.prog 32 SL (I (IntKind.wrap .i64 (Int.ofNat n + Int.ofNat p)))) (h' := g) (by kernel_rfl) (by rw [hadd]; exact idxS0 (e := 3) (by kernel_rfl) (by kernel_rfl) (by omega)) ?_
      refine ok_go 0 ?_
      refine sy_load 0 (r := loadT Tryd.prog g 3 (ptr q (n + p))) (h' := g) (v := J (gv d (n + p))) (by kernel_rfl) (load1 agI hg (cellsF_get (by omega))) ?_
      refine ok_go 1 ?_
      refine sy_test 0 (Int.ofNat (gv d n) != Int.ofNat (gv d (n + p))) (by kernel_rfl) ?_ ?_
      · intro hne
        refine sy_done 0 (v := Value.bool false) (h := g) (by kernel_rfl) ?_
        refine ⟨rfl, false, rfl, ⟨fun h => (by cases h), fun h => ?_⟩⟩
        have := h.2 n hn1 hle
        rw [this] at hne
        simp at hne
      · intro heq
        have heq : gv d n = gv d (n + p) := Int.ofNat.inj (bne_eq_false_iff_eq.1 heq)
        refine ok_go 1 ?_
        exact sy_next 0 _ g (by kernel_rfl) (by kernel_rfl) (ih (n + 1) _ g ⟨by omega, by omega, rfl, fun j h1 h2 => by
          rcases Nat.lt_or_ge j n with h3 | h3
          · exact hs j h1 h3
          · obtain rfl : j = n := by omega
            exact heq⟩ (show 10000 - (n + 1) < 10000 - n by omega) ⟨by kernel_rfl, by kernel_rfl, by kernel_rfl, by kernel_rfl, (by kernel_rfl : _ = Value.int .i64 (IntKind.wrap .i64 (Int.ofNat (n + 1)))).trans (by rw [hw]), trivial⟩)
    · intro hle
      have hle : 2 * a + 2 * p + D < n := by rw [htop] at hle; have := of_decide_eq_false hle; exact Nat.lt_of_not_le fun h => this (Int.ofNat_le.2 h)
      refine sy_done 0 (v := Value.bool true) (h := g) (by kernel_rfl) ?_
      exact ⟨rfl, true, rfl, ⟨fun _ => ⟨ht, fun j h1 h2 => hs j h1 (by omega)⟩, fun _ => rfl⟩⟩
/-- What IsPeriod asks. -/
def IsP (d : List Nat) (l a p : Int) : Prop := 1 ≤ l ∧ l ≤ 2000 ∧ 0 ≤ a ∧ a ≤ l ∧ 1 ≤ p ∧ p ≤ l ∧ 2 * a.toNat + 3 * p.toNat + d.length ≤ l.toNat ∧ goes (gv d) d.length a.toNat p.toNat
theorem IsPeriod_of (d : List Nat) (hd8 : d.length ≤ 8) (l a p : Int) (lf m : Nat) (U : UpV d lf m) (h : Hp)
    (ip : ∀ q L a p h, L ≤ 2000 → a ≤ L → p ≤ L → 1 ≤ p → q < h.next → h.get q = some (.cells (cellsF (L + 1) fun k => J (gv d k)) 3 true) → ∃ v h', Ev lf m 42 [.slice (some ⟨q, 0, none⟩) (L + 1) (2 * (L + 1) + 1), J d.length, J a, J p] h = some (v, h') ∧ h' = h ∧ ∃ b, v = .bool b ∧ (b = true ↔ 2 * a + 3 * p + d.length ≤ L ∧ goes (gv d) d.length a p)) :
    ∃ v h', Ev lf (m + 1) 29 [.string (strL (codeS d)), I l, I a, I p] h = some (v, h') ∧ h.Ext h' ∧ ∃ b, v = .bool b ∧ (b = true ↔ IsP d l a p) := by
  refine fnS_ok (Q := fun v h' => h.Ext h' ∧ ∃ b, v = .bool b ∧ (b = true ↔ IsP d l a p)) ?_
  have W := Sto.start h
  have ck := U.ck
  have ls := U.ls
  obtain ⟨y1, q1, ec1, rc1⟩ := ck (h)
  refine sy_call 0 (by kernel_rfl) ec1 ?_
  obtain ⟨rfl, X⟩ := rc1
  have W := W.call X
  refine ok_go 5 ?_
  by_cases h1 : l < 1
  · refine sy_yes 0 (b := decide (l < 1)) (by kernel_rfl) (decide_eq_true h1) ?_
    refine sy_done 17 (v := Value.bool false) (h := q1) (by kernel_rfl) ?_
    exact ⟨X, false, rfl, ⟨fun h => (by cases h), fun h => absurd h.1 (by omega)⟩⟩
  refine sy_no 0 (b := decide (l < 1)) (by kernel_rfl) (decide_eq_false h1) ?_
  refine ok_go 3 ?_
  by_cases h2 : l > 2000
  · refine sy_yes 0 (b := decide (l > 2000)) (by kernel_rfl) (decide_eq_true h2) ?_
    refine sy_done 14 (v := Value.bool false) (h := q1) (by kernel_rfl) ?_
    exact ⟨X, false, rfl, ⟨fun h => (by cases h), fun h => absurd h.2.1 (by omega)⟩⟩
  refine sy_no 0 (b := decide (l > 2000)) (by kernel_rfl) (decide_eq_false h2) ?_
  refine ok_go 3 ?_
  by_cases h3 : a < 0
  · refine sy_yes 0 (b := decide (a < 0)) (by kernel_rfl) (decide_eq_true h3) ?_
    refine sy_done 11 (v := Value.bool false) (h := q1) (by kernel_rfl) ?_
    exact ⟨X, false, rfl, ⟨fun h => (by cases h), fun h => absurd h.2.2.1 (by omega)⟩⟩
  refine sy_no 0 (b := decide (a < 0)) (by kernel_rfl) (decide_eq_false h3) ?_
  refine ok_go 4 ?_
  by_cases h4 : a > l
  · refine sy_yes 0 (b := decide (a > l)) (by kernel_rfl) (decide_eq_true h4) ?_
    refine sy_done 7 (v := Value.bool false) (h := q1) (by kernel_rfl) ?_
    exact ⟨X, false, rfl, ⟨fun h => (by cases h), fun h => absurd h.2.2.2.1 (by omega)⟩⟩
  refine sy_no 0 (b := decide (a > l)) (by kernel_rfl) (decide_eq_false h4) ?_
  refine ok_go 3 ?_
  by_cases h5 : p < 1
  · refine sy_yes 0 (b := decide (p < 1)) (by kernel_rfl) (decide_eq_true h5) ?_
    refine sy_done 4 (v := Value.bool false) (h := q1) (by kernel_rfl) ?_
    exact ⟨X, false, rfl, ⟨fun h => (by cases h), fun h => absurd h.2.2.2.2.1 (by omega)⟩⟩
  refine sy_no 0 (b := decide (p < 1)) (by kernel_rfl) (decide_eq_false h5) ?_
  refine ok_go 4 ?_
  by_cases h6 : p > l
  · refine sy_yes 0 (b := decide (p > l)) (by kernel_rfl) (decide_eq_true h6) ?_
    refine sy_done 0 (v := Value.bool false) (h := q1) (by kernel_rfl) ?_
    exact ⟨X, false, rfl, ⟨fun h => (by cases h), fun h => absurd h.2.2.2.2.2.1 (by omega)⟩⟩
  refine sy_no 0 (b := decide (p > l)) (by kernel_rfl) (decide_eq_false h6) ?_
  obtain ⟨L, rfl⟩ := Int.eq_ofNat_of_zero_le (show 0 ≤ l by omega)
  obtain ⟨A, rfl⟩ := Int.eq_ofNat_of_zero_le (show 0 ≤ a by omega)
  obtain ⟨P, rfl⟩ := Int.eq_ofNat_of_zero_le (show 0 ≤ p by omega)
  obtain ⟨_, q2, e2, ⟨q, rfl, W2⟩⟩ := ls L q1 (by omega)
  obtain ⟨_, q3, e3, hq3, b, rfl, hb⟩ := ip q L A P q2 (by omega) (by omega) (by omega) (by omega) (W2.lt 0 rfl) (W2.get 0 rfl)
  subst hq3
  have hD : IntKind.wrap .i64 (Int.ofNat (strL (codeS d)).size - 2) = Int.ofNat d.length := by
    rw [strL_size]
    have : (codeS d).length = d.length + 2 := by simp [codeS]
    rw [this]
    exact wrap_sub (a := d.length + 2) (b := 2) (by omega) (by omega)
  have e3' : Ev lf m 42 [.slice (some ⟨q, 0, none⟩) (L + 1) (2 * (L + 1) + 1), I (IntKind.wrap .i64 (Int.ofNat (strL (codeS d)).size - 2)), J A, J P] q3 = some (.bool b, q3) := by rw [hD]; exact e3
  refine ok_go 0 ?_
  refine sy_call 0 (by kernel_rfl) e2 ?_
  refine ok_go 2 ?_
  refine sy_call 0 (by kernel_rfl) e3' ?_
  refine sy_done 0 (v := Value.bool b) (h := q3) (by kernel_rfl) ?_
  refine ⟨X.trans W2.ext, b, rfl, hb.trans ⟨fun h => ⟨by omega, by omega, by omega, by omega, by omega, by omega, h.1, h.2⟩, fun h => ⟨h.2.2.2.2.2.2.1, h.2.2.2.2.2.2.2⟩⟩⟩
end Go.Proofs.YtegcmgjldapnmaaDoor
namespace Go.Proofs.YtegcmgjldapnmaaDoor
open Go Go.Eng Nim Oct
set_option maxRecDepth 100000
set_option maxHeartbeats 8000000
/-- The digits of a code. -/
structure Good (d : List Nat) : Prop where
  one : 1 ≤ d.length
  most : d.length ≤ 8
  lt : ∀ x ∈ d, x < 8
theorem codeD_good (l : List Nat) : Good (codeD l) := by
  unfold codeD
  split
  · exact ⟨by decide, by decide, by decide⟩
  · rename_i h
    have := List.length_pos_iff.2 h
    refine ⟨by rw [List.length_map, List.length_take]; omega, by rw [List.length_map, List.length_take]; omega, fun x hx => ?_⟩
    obtain ⟨y, _, rfl⟩ := List.mem_map.1 hx
    exact Nat.mod_lt _ (by decide)
theorem codeS_lt {d : List Nat} (G : Good d) : ∀ n ∈ codeS d, n < 256 := fun n hn => by
  rcases List.mem_append.1 hn with h | h
  · simp at h; omega
  · obtain ⟨x, hx, rfl⟩ := List.mem_map.1 h
    have := G.lt x hx
    show 48 + x < 256
    omega
theorem upV (k : Nat) (d : List Nat) (G : Good d) : UpV d 100000 (k + 4) where
  ck := fun h => by
    have hcl := codeS_lt G
    have co : ∀ (f : Nat → Bool) (q : Nat) (h : Hp), SetB q f h → ∀ c, c < 256 → Ev 100000 (k + 1) 101 [ptr q 0, .int .u8 (Int.ofNat c)] h = some (.bool (f c), h) := fun f q h A c hc => contains_of f q 100000 k c hc h A
    obtain ⟨v, h', e, X, z, rfl, h1, h2⟩ := check_of (codeS d) hcl 100000 (k + 3) h
      (fun h => cut_of (codeS d) 100000 (k + 2) h fun h => cutp_of (codeS d) 100000 (k + 1) h fun h => has_of (codeS d) 100000 k hcl h)
      (fun l h hl hll => by
        exact trim_of l hl (by omega) 100000 (k + 2) (by decide) h (fun h => set_of octs (by decide) (by decide) 100000 (k + 1) (by decide) h)
          (fun q h A => right_of (fun c => octs.contains c) q l hl (by omega) 100000 (k + 1) (by omega) h (co _ q h A))
          (fun l q h hl hll A => left_of (fun c => octs.contains c) q l hl (by omega) 100000 (k + 1) (by omega) h (co _ q h A)))
    refine ⟨_, h', e, ?_, X⟩
    rw [h2.2 ⟨d, rfl, G.one, G.most, G.lt⟩]
  ls := fun n h hn => by
    obtain ⟨v, h', e, q, rfl, W⟩ := list_of d n hn 100000 k (by decide) h (fun y cp hb CI CE hy hy2 C0 F0 h h0 W => values_run d G.lt G.most n (by omega) 100000 k y cp (by decide) hb CI CE hy hy2
      (fun h => digits_of d G.lt G.most 100000 (k + 1) (by decide) h) (fun xa j xc n h => moves_of xa j xc n 100000 (k + 1) h)
      (fun f q j h A hj h1 h2 => missing_of f q j 100000 (k + 1) h A fun c => index_of f q 8192 c j (by decide) hj h1 h2 100000 k (by decide) h A) C0 F0 h h0 W)
    rw [oent_gvs] at W
    exact ⟨_, h', e, q, rfl, W⟩
/-- What the laws call. -/
structure UpO (m : Nat) : Prop where
  cd : ∀ l h, (∀ n ∈ l, n < 256) → ∃ v h', Ev 100000 m 27 [.string (strL l)] h = some (v, h') ∧ v = .string (strL (codeS (codeD l))) ∧ h.Ext h'
  pe : ∀ d L h, Good d → 1 ≤ L → L ≤ 2000 → ∃ v h', Ev 100000 m 28 [.string (strL (codeS d)), J L] h = some (v, h') ∧ h.Ext h' ∧ ∃ a p s, v = .tuple #[J a, J p, .bool s, J 0] ∧ First (gv d) d.length L a p s
  va : ∀ d n h, Good d → n ≤ 2000 → ∃ v h', Ev 100000 m 32 [.string (strL (codeS d)), J n] h = some (v, h') ∧ ∃ q, v = .tuple #[.slice (some ⟨q, 0, none⟩) (n + 1) (2 * (n + 1) + 1), J 0] ∧ Sto h h' [(q, .cells (cellsF (n + 1) fun k => J (gv d k)) 3 true)]
  is : ∀ d l a p h, Good d → ∃ v h', Ev 100000 m 29 [.string (strL (codeS d)), I l, I a, I p] h = some (v, h') ∧ h.Ext h' ∧ ∃ b, v = .bool b ∧ (b = true ↔ IsP d l a p)
  aw : ∀ h, Ev 100000 m 14 [] h = some (.bool true, h)
theorem upO (k : Nat) : UpO (k + 5) where
  cd := fun l h hl => code_of l hl 100000 (k + 4) (by decide) h
  pe := fun d L h G h1 h2 => Period_of d G.most L h1 h2 100000 (k + 4) (by decide) (upV k d G) h
  va := fun d n h G hn => Values_of d n hn 100000 (k + 4) (upV k d G) h
  is := fun d l a p h G => IsPeriod_of d G.most l a p 100000 (k + 4) (upV k d G) h fun q L a p h hL ha hp hp1 hq hg => isp_of d d.length q L a p 100000 (k + 3) G.most hL ha hp hp1 (by decide) h hq hg
  aw := fun h => rfl
theorem isP_nat {d : List Nat} {L a p : Nat} (h1 : 1 ≤ L) (h2 : L ≤ 2000) (h3 : a ≤ L) (h4 : 1 ≤ p) (h5 : p ≤ L) (h6 : 2 * a + 3 * p + d.length ≤ L) (h7 : goes (gv d) d.length a p) : IsP d (Int.ofNat L) (Int.ofNat a) (Int.ofNat p) :=
  ⟨by show (1 : Int) ≤ (L : Int); omega, by show (L : Int) ≤ 2000; omega, by show (0 : Int) ≤ (a : Int); omega, by show (a : Int) ≤ (L : Int); omega, by show (1 : Int) ≤ (p : Int); omega, by show (p : Int) ≤ (L : Int); omega, h6, h7⟩
theorem s9 (l : List Nat) (hl : ∀ n ∈ l, n < 256) (z : Int) (m : Nat) (U : UpO m) (h : Hp) : ∃ H, Ev 100000 (m + 1) 9 [.string (strL l), I z] h = some (.bool true, H) := by
  refine fn_val ?_
  have W := Sto.start h
  have G := codeD_good l
  have cd := U.cd l
  have aw := U.aw
  generalize codeD l = d at *
  refine ok_go 0 ?_
  obtain ⟨y1, q1, ec1, rc1⟩ := cd (h) (by first | assumption | omega | exact rfl)
  refine sy_call 0 (by kernel_rfl) ec1 ?_
  obtain ⟨rfl, X1⟩ := rc1
  obtain ⟨u, hu⟩ : ∃ u : Nat, IntKind.wrap .u64 z = Int.ofNat u := Int.eq_ofNat_of_zero_le (by
    show 0 ≤ z % 2 ^ 64
    exact Int.emod_nonneg _ (by decide))
  have hL : IntKind.wrap .i64 (20 + IntKind.wrap .i64 ((IntKind.wrap .u64 z).tmod 200)) = Int.ofNat (20 + u % 200) := by
    rw [hu]
    show IntKind.wrap .i64 (20 + IntKind.wrap .i64 (Int.ofNat (u % 200))) = _
    rw [wrap_nat (by omega)]
    exact wrap_nat (n := 20 + u % 200) (by omega)
  obtain ⟨_, q2, e2, X2, a, p, s, rfl, hF⟩ := U.pe d (20 + u % 200) q1 G (by omega) (by omega)
  have e2' : Ev 100000 m 28 [.string (strL (codeS d)), I (IntKind.wrap .i64 (20 + IntKind.wrap .i64 ((IntKind.wrap .u64 z).tmod 200)))] q1 = some (.tuple #[J a, J p, .bool s, J 0], q2) := by rw [hL]; exact e2
  refine ok_go 4 ?_
  refine sy_call 0 (by kernel_rfl) e2' ?_
  cases s with
  | false =>
    refine ok_go 12 ?_
    refine sy_call 0 (by kernel_rfl) (aw (q2)) ?_
    refine sy_done 1 (v := Value.bool true) (h := q2) (by kernel_rfl) ?_
    rfl
  | true =>
    obtain ⟨hp1, hlim, hgo, _, _⟩ := hF
    have gs := guy_smith d a p hp1 hgo
    obtain ⟨_, q3, e3, q, rfl, W3⟩ := U.va d 600 q2 G (by decide)
    obtain ⟨_, q4, e4, X4, b, rfl, hb⟩ := U.is d (Int.ofNat (20 + u % 200)) (Int.ofNat a) (Int.ofNat p) q3 G
    obtain rfl : b = true := hb.2 (isP_nat (by omega) (by omega) (by omega) hp1 (by omega) hlim hgo)
    have e4' : Ev 100000 m 29 [.string (strL (codeS d)), I (IntKind.wrap .i64 (20 + IntKind.wrap .i64 ((IntKind.wrap .u64 z).tmod 200))), J a, J p] q3 = some (.bool true, q4) := by rw [hL]; exact e4
    have W := W3.call X4
    refine ok_go 10 ?_
    refine sy_call 0 (by kernel_rfl) e3 ?_
    refine ok_go 8 ?_
    refine sy_call 0 (by kernel_rfl) e4' ?_
    refine ok_go 4 ?_
    let SL : Value := .slice (some ⟨q, 0, none⟩) 601 1203
    have hpb : a + p ≤ 400 := by omega
    refine sy_loop 0 100000 q4 (α := Nat) (fun n => [(8, J p), (11, SL), (13, J n)]) (fun n g => a ≤ n ∧ n + p ≤ 601 ∧ g = q4) (fun n _ => 700 - n) a (by kernel_rfl) (by kernel_rfl)
      ⟨by kernel_rfl, by kernel_rfl, by kernel_rfl, trivial⟩ (show 700 - a < 100000 by omega) ⟨Nat.le_refl _, by omega, rfl⟩ ?_
    rintro m1 n f1 g ⟨hn1, hn2, rfl⟩ ih
    have hw : IntKind.wrap .i64 (Int.ofNat (n + 1)) = Int.ofNat (n + 1) := wrap_nat (by omega)
    have hadd : IntKind.wrap .i64 (Int.ofNat n + Int.ofNat p) = Int.ofNat (n + p) := wrap_add (by omega)
    refine ok_go 2 ?_
    refine sy_test 0 (decide (IntKind.wrap .i64 (Int.ofNat n + Int.ofNat p) ≤ Int.ofNat 600)) (by kernel_rfl) ?_ ?_
    · intro hle
      have hle : n + p ≤ 600 := by rw [hadd] at hle; exact Int.ofNat_le.1 (of_decide_eq_true hle)
      refine ok_go 0 ?_
      refine sy_load 0 (r := indexAddrOp Tryd.prog 32 SL (J n)) (h' := g) (by kernel_rfl) (idxS0 (e := 3) (by kernel_rfl) (by kernel_rfl) (by omega)) ?_
      refine ok_go 0 ?_
      refine ow_loadF (P := Tryd.prog) (T := 3) (off := n) 0 0 W rfl (by omega) (by kernel_rfl) (by kernel_rfl) ?_
      refine ok_go 1 ?_
      refine sy_load 0 (r := indexAddrOp Tryd.prog 32 SL (I (IntKind.wrap .i64 (Int.ofNat n + Int.ofNat p)))) (h' := g) (by kernel_rfl) (by rw [hadd]; exact idxS0 (e := 3) (by kernel_rfl) (by kernel_rfl) (by omega)) ?_
      refine ok_go 0 ?_
      refine ow_loadF (P := Tryd.prog) (T := 3) (off := n + p) 0 0 W rfl (by omega) (by kernel_rfl) (by kernel_rfl) ?_
      refine ok_go 1 ?_
      refine sy_no 0 (b := Int.ofNat (gv d n) != Int.ofNat (gv d (n + p))) (by kernel_rfl) (by rw [gs n n (Nat.le_refl n) hn1]; exact bne_self_eq_false _) ?_
      refine ok_go 1 ?_
      exact sy_next 0 _ g (by kernel_rfl) (by kernel_rfl) (ih (n + 1) _ g ⟨by omega, by omega, rfl⟩ (show 700 - (n + 1) < 700 - n by omega) ⟨by kernel_rfl, by kernel_rfl, (by kernel_rfl : _ = Value.int .i64 (IntKind.wrap .i64 (Int.ofNat (n + 1)))).trans (by rw [hw]), trivial⟩)
    · intro hle
      refine ok_go 0 ?_
      refine sy_call 0 (by kernel_rfl) (aw (g)) ?_
      refine sy_done 0 (v := Value.bool true) (h := g) (by kernel_rfl) ?_
      rfl
theorem said9 (l : List Nat) (hl : ∀ n ∈ l, n < 256) (z : Int) (h : Hp) : ∃ H, evInv Tryd.prog orc 100000 1000 (.fn 9 [.string (strL l), I z]) h = some (.bool true, H) := s9 l hl z 999 (upO 994) h
end Go.Proofs.YtegcmgjldapnmaaDoor
