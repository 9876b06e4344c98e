/- Trees in memory: contracts of what looks at them, and of what copies them. -/
import Derived.Test.YtnfboopfpkaeaaaProg
import Derived.KernelRfl
import Derived.Test.YtnfboopfpkaeaaaSyF
import Derived.Test.YtnfboopfpkaeaaaHuangQA
/- DecA: contracts of functions. -/
namespace Go.Proofs.Ytnfboopfpkaeaaa
open Go Go.Eng Nim
set_option maxRecDepth 100000
set_option maxHeartbeats 4000000
theorem wrap_add {a b : Nat} (h : a + b < 2 ^ 62) : IntKind.wrap .i64 (Int.ofNat a + Int.ofNat b) = Int.ofNat (a + b) := wrap_nat (by omega)
theorem wrap_sub {a b : Nat} (h : b ≤ a) (h2 : a < 2 ^ 62) : IntKind.wrap .i64 (Int.ofNat a - Int.ofNat b) = Int.ofNat (a - b) := by
  rw [show Int.ofNat a - Int.ofNat b = Int.ofNat (a - b) from (Int.ofNat_sub h).symm]
  exact wrap_nat (by omega)
/-- A tree: a bit, a value, the parts. -/
inductive RT where
  | mk (b : Int) (w : Bool) (l : List RT)
def RT.b : RT → Int
  | mk b _ _ => b
def RT.w : RT → Bool
  | mk _ w _ => w
def RT.l : RT → List RT
  | mk _ _ l => l
/-- So many cells of a block. -/
def objLoad (o : AObj) (off n : Nat) : Option (List Value) :=
  match o with
  | .cells cs _ _ => takeN n (cs.drop off)
  | .ro q cs _ => match Nat.ble q off with
    | true => takeN n (cs.drop (off - q))
    | false => none
  | .fro cs _ => takeN n (cs.drop off)
  | _ => none
theorem loadN_obj {h : Hp} {i off n : Nat} {o : AObj} (hg : h.get i = some o) : loadN h i off n = objLoad o off n := by
  unfold loadN objLoad
  rw [hg]
  cases o <;> rfl
/-- The cells of a list of trees. -/
def Els (A : Value → RT → Prop) : List Value → List RT → Prop
  | cs, [] => cs = []
  | cs, t :: r => ∃ x y z q, cs = x :: y :: z :: q ∧ A (.agg #[x, y, z]) t ∧ Els A q r
/-- A tree of at most d levels, by the blocks of a list. -/
def At (L : List (Nat × AObj)) : Nat → Value → RT → Prop
  | 0, v, t => t.l = [] ∧ ∃ a c, v = .agg #[I t.b, .bool t.w, .slice a 0 c]
  | d + 1, v, t => ∃ a c, v = .agg #[I t.b, .bool t.w, .slice a t.l.length c] ∧ (t.l ≠ [] → ∃ i off o cs, a = some ⟨i, off, none⟩ ∧ (i, o) ∈ L ∧ objLoad o off (t.l.length * 3) = some cs ∧ Els (At L d) cs t.l)
theorem Els.mono {A B : Value → RT → Prop} (hs : ∀ v t, A v t → B v t) : ∀ {cs : List Value} {ts : List RT}, Els A cs ts → Els B cs ts
  | _, [], h => h
  | _, _ :: _, ⟨x, y, z, q, e, h1, h2⟩ => ⟨x, y, z, q, e, hs _ _ h1, Els.mono hs h2⟩
theorem Els.len {A : Value → RT → Prop} : ∀ {cs : List Value} {ts : List RT}, Els A cs ts → cs.length = ts.length * 3
  | _, [], h => by rw [show _ = [] from h]; rfl
  | _, t :: r, ⟨x, y, z, q, e, h1, h2⟩ => by
    rw [e]
    simp only [List.length_cons, Els.len h2]
    omega
theorem Els.at_ {A : Value → RT → Prop} : ∀ {cs : List Value} {ts : List RT} {k : Nat} {t : RT}, Els A cs ts → ts[k]? = some t → ∃ x y z, takeN 3 (cs.drop (k * 3)) = some [x, y, z] ∧ A (.agg #[x, y, z]) t
  | _, [], k, t, _, hk => by cases hk
  | _, u :: r, 0, t, ⟨x, y, z, q, e, h1, h2⟩, hk => by
    cases hk
    refine ⟨x, y, z, ?_, h1⟩
    rw [e]
    simp only [Nat.zero_mul, List.drop_zero, takeN]
  | _, u :: r, k + 1, t, ⟨x, y, z, q, e, h1, h2⟩, hk => by
    obtain ⟨x', y', z', e', h'⟩ := Els.at_ h2 (k := k) (t := t) hk
    refine ⟨x', y', z', ?_, h'⟩
    rw [e, show (k + 1) * 3 = k * 3 + 3 by omega]
    exact e'
theorem Els.app {A : Value → RT → Prop} {x y z : Value} {t : RT} (ha : A (.agg #[x, y, z]) t) : ∀ {cs : List Value} {ts : List RT}, Els A cs ts → Els A (cs ++ [x, y, z]) (ts ++ [t])
  | _, [], h => by
    rw [show _ = [] from h]
    exact ⟨x, y, z, [], rfl, ha, rfl⟩
  | _, u :: r, ⟨x', y', z', q, e, h1, h2⟩ => ⟨x', y', z', q ++ [x, y, z], by rw [e]; rfl, h1, Els.app ha h2⟩
theorem At.mono {L L' : List (Nat × AObj)} (hs : ∀ p ∈ L, p ∈ L') : ∀ {d : Nat} {v : Value} {t : RT}, At L d v t → At L' d v t
  | 0, _, _, h => h
  | d + 1, _, _, ⟨a, c, e, h⟩ => ⟨a, c, e, fun hn => by
    obtain ⟨i, off, o, cs, e1, e2, e3, e4⟩ := h hn
    exact ⟨i, off, o, cs, e1, hs _ e2, e3, Els.mono (fun _ _ => At.mono hs) e4⟩⟩
theorem At.up {L : List (Nat × AObj)} : ∀ {d : Nat} {v : Value} {t : RT}, At L d v t → At L (d + 1) v t
  | 0, v, t, ⟨h1, a, c, e⟩ => ⟨a, c, by rw [h1]; exact e, fun hn => absurd h1 hn⟩
  | d + 1, _, _, ⟨a, c, e, h⟩ => ⟨a, c, e, fun hn => by
    obtain ⟨i, off, o, cs, e1, e2, e3, e4⟩ := h hn
    exact ⟨i, off, o, cs, e1, e2, e3, Els.mono (fun _ _ => At.up) e4⟩⟩
theorem At.le {L : List (Nat × AObj)} {d : Nat} {v : Value} {t : RT} (h : At L d v t) : ∀ k, At L (d + k) v t
  | 0 => h
  | k + 1 => (At.le h k).up
theorem At.shape {L : List (Nat × AObj)} : ∀ {d : Nat} {v : Value} {t : RT}, At L d v t → ∃ a c, v = .agg #[I t.b, .bool t.w, .slice a t.l.length c]
  | 0, _, _, ⟨h1, a, c, e⟩ => ⟨a, c, by rw [h1]; exact e⟩
  | d + 1, _, _, ⟨a, c, e, _⟩ => ⟨a, c, e⟩
theorem takeN_sub : ∀ {n : Nat} {l r : List Value} {a b : Nat} {s : List Value}, takeN n l = some r → takeN b (r.drop a) = some s → takeN b (l.drop a) = some s
  | 0, l, r, a, b, s, h, h2 => by
    have hr : r = [] := by
      unfold takeN at h
      cases h; rfl
    rw [hr] at h2
    cases b with
    | zero =>
      unfold takeN at h2 ⊢
      exact h2
    | succ b => simp [takeN] at h2
  | n + 1, [], r, a, b, s, h, _ => by simp [takeN] at h
  | n + 1, v :: l, r, a, b, s, h, h2 => by
    unfold takeN at h
    split at h
    · rename_i r' hr'
      cases h
      cases a with
      | succ a => exact takeN_sub (a := a) hr' (by simpa using h2)
      | zero =>
        cases b with
        | zero =>
          unfold takeN at h2 ⊢
          exact h2
        | succ b =>
          simp only [List.drop_zero] at h2 ⊢
          unfold takeN at h2 ⊢
          cases hb : takeN b r' with
          | none => rw [hb] at h2; cases h2
          | some q =>
            have := takeN_sub (a := 0) (b := b) (s := q) hr' (by simpa using hb)
            rw [List.drop_zero] at this
            rw [hb] at h2
            rw [this]
            exact h2
    · cases h
theorem objLoad_sub {o : AObj} {off n : Nat} {r s : List Value} {a b : Nat} (h : objLoad o off n = some r) (h2 : takeN b (r.drop a) = some s) : objLoad o (off + a) b = some s := by
  cases o with
  | cells cs e opn =>
    have := takeN_sub h h2
    rwa [List.drop_drop] at this
  | fro cs e =>
    have := takeN_sub h h2
    rwa [List.drop_drop] at this
  | ro q cs e =>
    simp only [objLoad] at h ⊢
    split at h
    · rename_i hb
      have hb' := Nat.le_of_ble_eq_true hb
      have e1 : Nat.ble q (off + a) = true := Nat.ble_eq_true_of_le (by omega)
      have := takeN_sub h h2
      rw [List.drop_drop] at this
      simp only [e1]
      rw [show off + a - q = off - q + a by omega]
      exact this
    · cases h
  | map => cases h
  | iter => cases h
  | loop => cases h
  | defd => cases h
/-- Reading a part. -/
theorem At.elem {P : Program} {h : Hp} {L : List (Nat × AObj)} {d : Nat} {b : Int} {w : Bool} {a : Option Addr} {n c : Nat} {t : RT} {k : Nat} {u : RT} {T e : TypeId} {kd : IntKind} (hu : P.underlying T = some (.slice e)) (hs : sizeT P e = some 3) (ha : isAggT P e = some true) (K : Hold h L)
    (A : At L (d + 1) (.agg #[I b, .bool w, .slice a n c]) t) (hk : t.l[k]? = some u) : ∃ q v, indexAddrOp P T (.slice a n c) (.int kd (Int.ofNat k)) = some q ∧ loadT P h e q = some v ∧ At L d v u := by
  obtain ⟨a', c', e1, h1⟩ := A
  simp only [Value.agg.injEq, Array.mk.injEq, List.cons.injEq, Value.slice.injEq, and_true] at e1
  obtain ⟨_, _, rfl, rfl, rfl⟩ := e1
  obtain ⟨i, off, o, cs, rfl, e2, e3, e4⟩ := h1 (fun hn => by rw [hn] at hk; cases hk)
  have hlt := (List.getElem?_eq_some_iff.1 hk).1
  obtain ⟨x, y, z, e5, e6⟩ := e4.at_ hk
  refine ⟨ptr i (off + k * 3), .agg #[x, y, z], idxSl hu hs hlt, ?_, e6⟩
  have e7 : loadN h i (off + k * 3) 3 = some [x, y, z] := by
    rw [loadN_obj (K _ e2).2]
    exact objLoad_sub e3 e5
  simp only [loadT, ha, hs, e7]
end Go.Proofs.Ytnfboopfpkaeaaa
/- DecB: contracts of functions. -/
namespace Go.Proofs.Ytnfboopfpkaeaaa
open Go Go.Eng Nim
set_option maxRecDepth 100000
set_option maxHeartbeats 4000000
mutual
/-- The nodes of a tree. -/
def nds : RT → Nat
  | .mk _ _ l => 1 + ndsL l
def ndsL : List RT → Nat
  | [] => 0
  | t :: r => nds t + ndsL r
end
theorem nds_eq (t : RT) : nds t = 1 + ndsL t.l := by cases t; rfl
theorem ndsL_app : ∀ (l r : List RT), ndsL (l ++ r) = ndsL l + ndsL r
  | [], r => by simp [ndsL]
  | t :: l, r => by simp only [List.cons_append, ndsL, ndsL_app l r]; omega
theorem ndsL_take (l : List RT) {i : Nat} (hi : i < l.length) : ndsL (l.take (i + 1)) = ndsL (l.take i) + nds l[i] := by
  rw [List.take_succ_eq_append_getElem hi, ndsL_app]
  simp [ndsL]
theorem ndsL_len : ∀ (l : List RT), l.length ≤ ndsL l
  | [] => Nat.le_refl _
  | t :: r => by
    have := ndsL_len r
    have := nds_eq t
    simp only [List.length_cons, ndsL]
    omega
theorem ndsL_le (l : List RT) (i : Nat) : ndsL (l.take i) ≤ ndsL l := by
  have h := ndsL_app (l.take i) (l.drop i)
  rw [List.take_append_drop] at h
  omega
theorem size_step (lf F d levels : Nat) (hlf : 2000 ≤ lf) (L : List (Nat × AObj)) (v : Value) (t : RT) (h : Hp) (K : Hold h L) (A : At L (d + 1) v t) (h1 : nds t ≤ 1000) (hl : levels ≤ 100) (hl0 : 0 < levels)
    (rec_ : ∀ u ∈ t.l, ∀ v h, Hold h L → At L d v u → ∃ y h', Ev lf F 55 [v, J (levels - 1)] h = some (y, h') ∧ y = J (nds u) ∧ h.Ext h') : ∃ y h', Ev lf (F + 1) 55 [v, J levels] h = some (y, h') ∧ y = J (nds t) ∧ h.Ext h' := by
  obtain ⟨a, c, rfl⟩ := A.shape
  have hn := nds_eq t
  have hlen := ndsL_len t.l
  refine fnS_ok (Q := fun y h' => y = J (nds t) ∧ h.Ext h') ?_
  have W := Sto.start h
  have hwl : IntKind.wrap .i64 (Int.ofNat levels - 1) = Int.ofNat (levels - 1) := wrap_sub hl0 (by omega)
  refine ow_new 0 W (AObj.cells [Value.int IntKind.i64 (RT.b t), Value.bool (RT.w t), Value.slice a (List.length (RT.l t)) c] 35 false) (fun q => Value.pointer (some { block := q, off := 0 })) (by kernel_rfl) fun g1 ng1 W => ?_
  refine ok_go 1 ?_
  refine sy_no 0 (b := Int.ofNat levels == 0) (by kernel_rfl) (by rw [beq_eq_false_iff_ne]; show ¬ ((levels : Int) = 0); omega) ?_
  refine ow_load (P := Try.prog) (T := 33) (off := 2) 1 0 W rfl rfl (by kernel_rfl) (by kernel_rfl) ?_
  refine ok_go 1 ?_
  refine sy_loop 0 lf g1 (α := Nat) (fun i => [(1, J levels), (2, ptr h.next 0), (5, J (1 + ndsL (t.l.take i))), (11, .slice a t.l.length c), (12, J t.l.length), (13, J i)])
    (fun i g => i ≤ t.l.length ∧ Sto h g [(h.next, .cells [I t.b, .bool t.w, .slice a t.l.length c] 35 false)]) (fun i _ => t.l.length - i) 0 (by kernel_rfl) (by kernel_rfl)
    ⟨by kernel_rfl, by kernel_rfl, by kernel_rfl, by kernel_rfl, by kernel_rfl, by kernel_rfl, trivial⟩ (show t.l.length - 0 < lf by omega) ⟨Nat.zero_le _, W⟩ ?_
  rintro m1 i f1 g ⟨hi, W⟩ ih
  refine ok_go 1 ?_
  refine sy_test 0 (decide (Int.ofNat i < Int.ofNat t.l.length)) (by kernel_rfl) ?_ ?_
  · intro hlt
    have hlt := ok_nat hlt
    have hwi : IntKind.wrap .i64 (Int.ofNat (i + 1)) = Int.ofNat (i + 1) := wrap_nat (by omega)
    obtain ⟨q, v', e1, e2, A'⟩ := A.elem (P := Try.prog) (T := 33) (e := 35) (kd := .i64) (k := i) (u := t.l[i]) (by kernel_rfl) (by kernel_rfl) (by kernel_rfl) (K.ext W.ext) (List.getElem?_eq_getElem hlt)
    obtain ⟨a', c', rfl⟩ := A'.shape
    refine sy_load 0 (h' := g) (by kernel_rfl) e1 ?_
    refine sy_load 0 (h' := g) (by kernel_rfl) e2 ?_
    refine ow_new 0 W (AObj.cells [Value.int IntKind.i64 (Int.ofNat 0), Value.bool false, Value.slice none 0 0] 35 false) (fun q => Value.pointer (some { block := q, off := 0 })) (by kernel_rfl) fun g1 ng1 W => ?_
    refine ow_storeA (P := Try.prog) (T := 35) (v := Value.agg { toList := [Value.int IntKind.i64 (RT.b (RT.l t)[i]), Value.bool (RT.w (RT.l t)[i]), Value.slice a' (List.length (RT.l (RT.l t)[i])) c'] }) 0 0 W ([Value.int IntKind.i64 (RT.b (RT.l t)[i]), Value.bool (RT.w (RT.l t)[i]), Value.slice a' (List.length (RT.l (RT.l t)[i])) c']) rfl rfl rfl (by kernel_rfl) rfl (by kernel_rfl) fun g2 ng2 W => ?_
    refine ow_loadA (P := Try.prog) (T := 35) (z := 3) 0 0 W rfl (by kernel_rfl) (by kernel_rfl) rfl (by kernel_rfl) ?_
    refine ok_go 1 ?_
    obtain ⟨_, g3, ec, rfl, X⟩ := rec_ t.l[i] (List.getElem_mem hlt) _ _ (K.ext W.ext) A'
    refine sy_call 0 (r := Ev lf F 55 [.agg #[I (t.l[i]).b, .bool (t.l[i]).w, .slice a' (t.l[i]).l.length c'], .int .i64 (IntKind.wrap .i64 (Int.ofNat levels - 1))] g2) (by kernel_rfl) (by rw [hwl]; exact ec) ?_
    have W := (W.call X).drop 1
    have hs := ndsL_take t.l hlt
    have hle := ndsL_le t.l (i + 1)
    have hw2 : IntKind.wrap .i64 (Int.ofNat (1 + ndsL (t.l.take i)) + Int.ofNat (nds t.l[i])) = Int.ofNat (1 + ndsL (t.l.take (i + 1))) := by
      rw [hs, wrap_add (by omega), Nat.add_assoc]
    refine ok_go 2 ?_
    refine sy_no 0 (b := decide (IntKind.wrap .i64 (Int.ofNat (1 + ndsL (t.l.take i)) + Int.ofNat (nds t.l[i])) > 1000)) (by kernel_rfl) (decide_eq_false (by rw [hw2]; show ¬ (1000 : Int) < ((_ : Nat) : Int); omega)) ?_
    refine ok_go 1 ?_
    exact sy_next 0 _ g3 (by kernel_rfl) (by kernel_rfl) (ih (i + 1) _ g3 ⟨hlt, W⟩ (show t.l.length - (i + 1) < t.l.length - i by omega) ⟨by kernel_rfl, by kernel_rfl, (by kernel_rfl : _ = Value.int .i64 (IntKind.wrap .i64 (Int.ofNat (1 + ndsL (t.l.take i)) + Int.ofNat (nds t.l[i])))).trans (by rw [hw2]), by kernel_rfl, by kernel_rfl, (by kernel_rfl : _ = Value.int .i64 (IntKind.wrap .i64 (Int.ofNat (i + 1)))).trans (by rw [hwi]), trivial⟩)
  · intro hlt
    have hlt := no_nat hlt
    obtain rfl : i = t.l.length := by omega
    rw [List.take_length]
    exact sy_done 0 (v := J (1 + ndsL t.l)) (h := g) (by kernel_rfl) ⟨by rw [hn], W.ext⟩
end Go.Proofs.Ytnfboopfpkaeaaa
/- DecC: contracts of functions. -/
namespace Go.Proofs.Ytnfboopfpkaeaaa
open Go Go.Eng Nim
set_option maxRecDepth 100000
set_option maxHeartbeats 4000000
mutual
/-- Whether a tree has what a tree for n bits has. -/
def vld (n : Nat) : RT → Bool
  | .mk b w l => if l.length = 0 then b == 0 else decide (l.length = 2) && !w && decide (b ≥ 0) && decide (b < Int.ofNat n) && vldL n l
def vldL (n : Nat) : List RT → Bool
  | [] => true
  | t :: r => vld n t && vldL n r
end
theorem vld_eq (n : Nat) (t : RT) : vld n t = if t.l.length = 0 then t.b == 0 else decide (t.l.length = 2) && !t.w && decide (t.b ≥ 0) && decide (t.b < Int.ofNat n) && vldL n t.l := by
  cases t
  rw [vld]
  rfl
theorem isTree_step (lf F d n : Nat) (L : List (Nat × AObj)) (v : Value) (t : RT) (h : Hp) (K : Hold h L) (A : At L (d + 1) v t)
    (rec_ : ∀ u ∈ t.l, ∀ v h, Hold h L → At L d v u → ∃ y h', Ev lf F 57 [v, J n] h = some (y, h') ∧ y = .bool (vld n u) ∧ h.Ext h') : ∃ y h', Ev lf (F + 1) 57 [v, J n] h = some (y, h') ∧ y = .bool (vld n t) ∧ h.Ext h' := by
  obtain ⟨a, c, rfl⟩ := A.shape
  have hn := vld_eq n t
  refine fnS_ok (Q := fun y h' => y = .bool (vld n t) ∧ h.Ext h') ?_
  have W := Sto.start h
  have len0 : (Int.ofNat t.l.length == 0) = decide (t.l.length = 0) := eq_int t.l.length 0
  have len2 : (Int.ofNat t.l.length == 2) = decide (t.l.length = 2) := eq_int t.l.length 2
  refine ow_new 0 W (AObj.cells [Value.int IntKind.i64 (RT.b t), Value.bool (RT.w t), Value.slice a (List.length (RT.l t)) c] 35 false) (fun q => Value.pointer (some { block := q, off := 0 })) (by kernel_rfl) fun g1 ng1 W => ?_
  refine ow_load (P := Try.prog) (T := 33) (off := 2) 1 0 W rfl rfl (by kernel_rfl) (by kernel_rfl) ?_
  refine ok_go 2 ?_
  refine sy_test 0 (Int.ofNat t.l.length == 0) (by kernel_rfl) ?_ ?_
  · intro h0
    rw [len0] at h0
    rw [if_pos (of_decide_eq_true h0)] at hn
    refine ow_load (P := Try.prog) (T := 3) (off := 0) 1 0 W rfl rfl (by kernel_rfl) (by kernel_rfl) ?_
    refine ok_go 1 ?_
    exact sy_done 0 (v := .bool (t.b == 0)) (h := g1) (by kernel_rfl) ⟨by rw [hn], W.ext⟩
  intro h0
  rw [len0] at h0
  rw [if_neg (of_decide_eq_false h0)] at hn
  refine ow_load (P := Try.prog) (T := 33) (off := 2) 1 0 W rfl rfl (by kernel_rfl) (by kernel_rfl) ?_
  refine ok_go 2 ?_
  refine sy_test 0 (Int.ofNat t.l.length == 2) (by kernel_rfl) ?_ ?_
  rotate_left
  · intro h2
    rw [len2] at h2
    rw [h2] at hn
    refine ok_go 26 ?_
    exact sy_done 0 (v := .bool false) (h := g1) (by kernel_rfl) ⟨by rw [hn]; rfl, W.ext⟩
  intro h2
  rw [len2] at h2
  rw [h2, Bool.true_and] at hn
  refine ow_load (P := Try.prog) (T := 4) (off := 1) 2 0 W rfl rfl (by kernel_rfl) (by kernel_rfl) ?_
  refine ok_go 3 ?_
  refine sy_test 0 (!t.w) (by kernel_rfl) ?_ ?_
  rotate_left
  · intro hw
    rw [hw] at hn
    refine ok_go 22 ?_
    exact sy_done 0 (v := .bool false) (h := g1) (by kernel_rfl) ⟨by rw [hn]; rfl, W.ext⟩
  intro hw
  rw [hw, Bool.true_and] at hn
  refine ow_load (P := Try.prog) (T := 3) (off := 0) 2 0 W rfl rfl (by kernel_rfl) (by kernel_rfl) ?_
  refine ok_go 3 ?_
  refine sy_test 0 (decide (t.b ≥ 0)) (by kernel_rfl) ?_ ?_
  rotate_left
  · intro hb
    rw [hb] at hn
    refine ok_go 18 ?_
    exact sy_done 0 (v := .bool false) (h := g1) (by kernel_rfl) ⟨by rw [hn]; rfl, W.ext⟩
  intro hb
  rw [hb, Bool.true_and] at hn
  refine ow_load (P := Try.prog) (T := 3) (off := 0) 2 0 W rfl rfl (by kernel_rfl) (by kernel_rfl) ?_
  refine ok_go 4 ?_
  refine sy_test 0 (decide (t.b < Int.ofNat n)) (by kernel_rfl) ?_ ?_
  rotate_left
  · intro hb
    rw [hb] at hn
    refine ok_go 13 ?_
    exact sy_done 0 (v := .bool false) (h := g1) (by kernel_rfl) ⟨by rw [hn]; rfl, W.ext⟩
  intro hb'
  rw [hb', Bool.true_and] at hn
  have h2 := of_decide_eq_true h2
  obtain ⟨x, y, hl⟩ : ∃ x y, t.l = [x, y] := by
    match t.l, h2 with
    | [x, y], _ => exact ⟨x, y, rfl⟩
  obtain ⟨q0, v0, e1, e2, A0⟩ := A.elem (P := Try.prog) (T := 33) (e := 35) (kd := .i64) (k := 0) (u := x) (by kernel_rfl) (by kernel_rfl) (by kernel_rfl) (K.ext W.ext) (by rw [hl]; rfl)
  rw [hl, vldL, vldL, vldL, Bool.and_true] at hn
  refine ow_load (P := Try.prog) (T := 33) (off := 2) 2 0 W rfl rfl (by kernel_rfl) (by kernel_rfl) ?_
  refine ok_go 1 ?_
  refine sy_load 0 (h' := g1) (by kernel_rfl) e1 ?_
  refine ok_go 1 ?_
  refine sy_load 0 (h' := g1) (by kernel_rfl) e2 ?_
  refine ok_go 2 ?_
  obtain ⟨_, g2, ec, rfl, X⟩ := rec_ x (by rw [hl]; simp) _ _ (K.ext W.ext) A0
  refine sy_call 0 (by kernel_rfl) ec ?_
  have W := W.call X
  obtain ⟨q1, v1, e3, e4, A1⟩ := A.elem (P := Try.prog) (T := 33) (e := 35) (kd := .i64) (k := 1) (u := y) (by kernel_rfl) (by kernel_rfl) (by kernel_rfl) (K.ext W.ext) (by rw [hl]; rfl)
  refine ok_go 1 ?_
  refine sy_test 0 (vld n x) (by kernel_rfl) ?_ ?_
  rotate_left
  · intro hb
    rw [hb] at hn
    refine ok_go 6 ?_
    exact sy_done 0 (v := .bool false) (h := g2) (by kernel_rfl) ⟨by rw [hn]; rfl, W.ext⟩
  intro hb
  rw [hb, Bool.true_and] at hn
  refine ow_load (P := Try.prog) (T := 33) (off := 2) 2 0 W rfl rfl (by kernel_rfl) (by kernel_rfl) ?_
  refine ok_go 1 ?_
  refine sy_load 0 (h' := g2) (by kernel_rfl) e3 ?_
  refine ok_go 1 ?_
  refine sy_load 0 (h' := g2) (by kernel_rfl) e4 ?_
  refine ok_go 2 ?_
  obtain ⟨_, g3, ec, rfl, X⟩ := rec_ y (by rw [hl]; simp) _ _ (K.ext W.ext) A1
  refine sy_call 0 (by kernel_rfl) ec ?_
  have W := W.call X
  refine ok_go 1 ?_
  exact sy_done 0 (v := .bool (vld n y)) (h := g3) (by kernel_rfl) ⟨by rw [hn], W.ext⟩
end Go.Proofs.Ytnfboopfpkaeaaa
/- DecD: contracts of functions. -/
namespace Go.Proofs.Ytnfboopfpkaeaaa
open Go Go.Eng Nim
set_option maxRecDepth 100000
set_option maxHeartbeats 4000000
theorem valid_step (lf F d n : Nat) (L : List (Nat × AObj)) (v : Value) (t : RT) (h : Hp) (K : Hold h L) (A : At L (d + 1) v t)
    (rec_ : ∀ u ∈ t.l, ∀ v h, Hold h L → At L d v u → ∃ y h', Ev lf F 60 [J n, v] h = some (y, h') ∧ y = .bool (vld n u) ∧ h.Ext h') : ∃ y h', Ev lf (F + 1) 60 [J n, v] h = some (y, h') ∧ y = .bool (vld n t) ∧ h.Ext h' := by
  obtain ⟨a, c, rfl⟩ := A.shape
  have hn := vld_eq n t
  refine fnS_ok (Q := fun y h' => y = .bool (vld n t) ∧ h.Ext h') ?_
  have W := Sto.start h
  have len0 : (Int.ofNat t.l.length == 0) = decide (t.l.length = 0) := eq_int t.l.length 0
  have len2 : (Int.ofNat t.l.length == 2) = decide (t.l.length = 2) := eq_int t.l.length 2
  refine ow_new 0 W (AObj.cells [Value.int IntKind.i64 (RT.b t), Value.bool (RT.w t), Value.slice a (List.length (RT.l t)) c] 26 false) (fun q => Value.pointer (some { block := q, off := 0 })) (by kernel_rfl) fun g1 ng1 W => ?_
  refine ow_load (P := Try.prog) (T := 24) (off := 2) 1 0 W rfl rfl (by kernel_rfl) (by kernel_rfl) ?_
  refine ok_go 2 ?_
  refine sy_test 0 (Int.ofNat t.l.length == 0) (by kernel_rfl) ?_ ?_
  · intro h0
    rw [len0] at h0
    rw [if_pos (of_decide_eq_true h0)] at hn
    refine ow_load (P := Try.prog) (T := 3) (off := 0) 1 0 W rfl rfl (by kernel_rfl) (by kernel_rfl) ?_
    refine ok_go 1 ?_
    exact sy_done 0 (v := .bool (t.b == 0)) (h := g1) (by kernel_rfl) ⟨by rw [hn], W.ext⟩
  intro h0
  rw [len0] at h0
  rw [if_neg (of_decide_eq_false h0)] at hn
  refine ow_load (P := Try.prog) (T := 24) (off := 2) 1 0 W rfl rfl (by kernel_rfl) (by kernel_rfl) ?_
  refine ok_go 2 ?_
  refine sy_test 0 (Int.ofNat t.l.length == 2) (by kernel_rfl) ?_ ?_
  rotate_left
  · intro h2
    rw [len2] at h2
    rw [h2] at hn
    refine ok_go 26 ?_
    exact sy_done 0 (v := .bool false) (h := g1) (by kernel_rfl) ⟨by rw [hn]; rfl, W.ext⟩
  intro h2
  rw [len2] at h2
  rw [h2, Bool.true_and] at hn
  refine ow_load (P := Try.prog) (T := 4) (off := 1) 2 0 W rfl rfl (by kernel_rfl) (by kernel_rfl) ?_
  refine ok_go 3 ?_
  refine sy_test 0 (!t.w) (by kernel_rfl) ?_ ?_
  rotate_left
  · intro hw
    rw [hw] at hn
    refine ok_go 22 ?_
    exact sy_done 0 (v := .bool false) (h := g1) (by kernel_rfl) ⟨by rw [hn]; rfl, W.ext⟩
  intro hw
  rw [hw, Bool.true_and] at hn
  refine ow_load (P := Try.prog) (T := 3) (off := 0) 2 0 W rfl rfl (by kernel_rfl) (by kernel_rfl) ?_
  refine ok_go 3 ?_
  refine sy_test 0 (decide (t.b ≥ 0)) (by kernel_rfl) ?_ ?_
  rotate_left
  · intro hb
    rw [hb] at hn
    refine ok_go 18 ?_
    exact sy_done 0 (v := .bool false) (h := g1) (by kernel_rfl) ⟨by rw [hn]; rfl, W.ext⟩
  intro hb
  rw [hb, Bool.true_and] at hn
  refine ow_load (P := Try.prog) (T := 3) (off := 0) 2 0 W rfl rfl (by kernel_rfl) (by kernel_rfl) ?_
  refine ok_go 4 ?_
  refine sy_test 0 (decide (t.b < Int.ofNat n)) (by kernel_rfl) ?_ ?_
  rotate_left
  · intro hb
    rw [hb] at hn
    refine ok_go 13 ?_
    exact sy_done 0 (v := .bool false) (h := g1) (by kernel_rfl) ⟨by rw [hn]; rfl, W.ext⟩
  intro hb'
  rw [hb', Bool.true_and] at hn
  have h2 := of_decide_eq_true h2
  obtain ⟨x, y, hl⟩ : ∃ x y, t.l = [x, y] := by
    match t.l, h2 with
    | [x, y], _ => exact ⟨x, y, rfl⟩
  obtain ⟨q0, v0, e1, e2, A0⟩ := A.elem (P := Try.prog) (T := 24) (e := 26) (kd := .i64) (k := 0) (u := x) (by kernel_rfl) (by kernel_rfl) (by kernel_rfl) (K.ext W.ext) (by rw [hl]; rfl)
  rw [hl, vldL, vldL, vldL, Bool.and_true] at hn
  refine ow_load (P := Try.prog) (T := 24) (off := 2) 3 0 W rfl rfl (by kernel_rfl) (by kernel_rfl) ?_
  refine ok_go 1 ?_
  refine sy_load 0 (h' := g1) (by kernel_rfl) e1 ?_
  refine ok_go 1 ?_
  refine sy_load 0 (h' := g1) (by kernel_rfl) e2 ?_
  refine ok_go 1 ?_
  obtain ⟨_, g2, ec, rfl, X⟩ := rec_ x (by rw [hl]; simp) _ _ (K.ext W.ext) A0
  refine sy_call 0 (by kernel_rfl) ec ?_
  have W := W.call X
  obtain ⟨q1, v1, e3, e4, A1⟩ := A.elem (P := Try.prog) (T := 24) (e := 26) (kd := .i64) (k := 1) (u := y) (by kernel_rfl) (by kernel_rfl) (by kernel_rfl) (K.ext W.ext) (by rw [hl]; rfl)
  refine ok_go 1 ?_
  refine sy_test 0 (vld n x) (by kernel_rfl) ?_ ?_
  rotate_left
  · intro hb
    rw [hb] at hn
    refine ok_go 6 ?_
    exact sy_done 0 (v := .bool false) (h := g2) (by kernel_rfl) ⟨by rw [hn]; rfl, W.ext⟩
  intro hb
  rw [hb, Bool.true_and] at hn
  refine ow_load (P := Try.prog) (T := 24) (off := 2) 3 0 W rfl rfl (by kernel_rfl) (by kernel_rfl) ?_
  refine ok_go 1 ?_
  refine sy_load 0 (h' := g2) (by kernel_rfl) e3 ?_
  refine ok_go 1 ?_
  refine sy_load 0 (h' := g2) (by kernel_rfl) e4 ?_
  refine ok_go 1 ?_
  obtain ⟨_, g3, ec, rfl, X⟩ := rec_ y (by rw [hl]; simp) _ _ (K.ext W.ext) A1
  refine sy_call 0 (by kernel_rfl) ec ?_
  have W := W.call X
  refine ok_go 1 ?_
  exact sy_done 0 (v := .bool (vld n y)) (h := g3) (by kernel_rfl) ⟨by rw [hn], W.ext⟩
end Go.Proofs.Ytnfboopfpkaeaaa
/- DecE: contracts of functions. -/
namespace Go.Proofs.Ytnfboopfpkaeaaa
open Go Go.Eng Nim
set_option maxRecDepth 100000
set_option maxHeartbeats 4000000
/-- The value at an input, by so many steps. -/
def atT : Nat → RT → Nat → Bool
  | 0, t, _ => t.w
  | d + 1, t, x => match t.l[x / 2 ^ t.b.toNat % 2]? with
    | some u => atT d u x
    | none => t.w
theorem vld_two {n : Nat} {t : RT} (h : vld n t = true) (h0 : t.l.length ≠ 0) : t.l.length = 2 ∧ (∃ k, k < n ∧ t.b = Int.ofNat k) ∧ vldL n t.l = true := by
  rw [vld_eq, if_neg h0] at h
  simp only [Bool.and_eq_true, decide_eq_true_eq] at h
  obtain ⟨⟨⟨⟨h1, _⟩, h3⟩, h4⟩, h5⟩ := h
  refine ⟨h1, ⟨t.b.toNat, ?_, ?_⟩, h5⟩
  · have h4 : t.b < (n : Int) := h4
    omega
  · show t.b = ((t.b.toNat : Nat) : Int)
    omega
theorem vldL_mem {n : Nat} : ∀ {l : List RT}, vldL n l = true → ∀ u ∈ l, vld n u = true
  | [], _, u, hu => by cases hu
  | t :: r, h, u, hu => by
    rw [vldL, Bool.and_eq_true] at h
    rcases List.mem_cons.1 hu with rfl | hu
    · exact h.1
    · exact vldL_mem h.2 u hu
theorem min_v (i : Nat) (hi : i < 64) : min (IntKind.u64.wrap (Int.ofNat i)).toNat IntKind.i64.bits = i := by
  rw [show IntKind.u64.wrap (Int.ofNat i) = Int.ofNat i from Int.emod_eq_of_lt (Int.natCast_nonneg _) (by show ((i : Nat) : Int) < 2 ^ 64; omega)]
  show min i 64 = i
  omega
theorem bit_of (x k : Nat) (hk : k < 64) (hx : x < 2 ^ 62) : andI ((Int.ofNat x).fdiv (2 ^ min (IntKind.u64.wrap (Int.ofNat k)).toNat IntKind.i64.bits)) 1 = Int.ofNat (x / 2 ^ k % 2) := by
  rw [min_v k hk, show (Int.ofNat x).fdiv (2 ^ k) = Int.ofNat (x / 2 ^ k) from shr_nat _ _]
  rw [show (1 : Int) = Int.ofNat 1 from rfl, and_nat (by have := Nat.div_le_self x (2 ^ k); omega), Nat.and_one_is_mod]
theorem at_of (lf F n x : Nat) (hlf : 2000 ≤ lf) (hn : n ≤ 6) (hx : x < 64) (L : List (Nat × AObj)) (d : Nat) (hd : d ≤ 100) (v : Value) (t : RT) (h : Hp) (K : Hold h L) (A : At L d v t) (hv : vld n t = true) :
    ∃ y h', Ev lf (F + 1) 58 [v, J x] h = some (y, h') ∧ y = .bool (atT d t x) ∧ h.Ext h' := by
  obtain ⟨a, c, rfl⟩ := A.shape
  refine fnS_ok (Q := fun y h' => y = .bool (atT d t x) ∧ h.Ext h') ?_
  have W := Sto.start h
  refine ow_new 0 W (AObj.cells [Value.int IntKind.i64 (RT.b t), Value.bool (RT.w t), Value.slice a (List.length (RT.l t)) c] 35 false) (fun q => Value.pointer (some { block := q, off := 0 })) (by kernel_rfl) fun g1 ng1 W => ?_
  refine sy_loop 0 lf g1 (α := Nat × RT × Option Addr × Nat) (fun s => [(1, J x), (2, ptr h.next 0)])
    (fun s g => vld n s.2.1 = true ∧ atT s.1 s.2.1 x = atT d t x ∧ s.1 ≤ d ∧ At L s.1 (.agg #[I s.2.1.b, .bool s.2.1.w, .slice s.2.2.1 s.2.1.l.length s.2.2.2]) s.2.1 ∧ Sto h g [(h.next, .cells [I s.2.1.b, .bool s.2.1.w, .slice s.2.2.1 s.2.1.l.length s.2.2.2] 35 false)]) (fun s _ => s.1) (d, t, a, c) (by kernel_rfl) (by kernel_rfl)
    ⟨by kernel_rfl, by kernel_rfl, trivial⟩ (show d < lf by omega) ⟨hv, rfl, Nat.le_refl _, A, W⟩ ?_
  rintro m1 ⟨e, u, a, c⟩ f1 g ⟨hv, he, hle, A, W⟩ ih
  dsimp only at hv he hle A W
  refine ow_load (P := Try.prog) (T := 33) (off := 2) 1 0 W rfl rfl (by kernel_rfl) (by kernel_rfl) ?_
  refine ok_go 2 ?_
  refine sy_test 0 (decide (Int.ofNat u.l.length > 0)) (by kernel_rfl) ?_ ?_
  · intro h0
    have h0 := ok_nat (a := 0) h0
    obtain ⟨h2, ⟨k, hk, hb⟩, hl⟩ := vld_two hv (by omega)
    have hlt : x / 2 ^ k % 2 < u.l.length := by rw [h2]; exact Nat.mod_lt _ (by decide)
    have hu := vldL_mem hl _ (List.getElem_mem hlt)
    cases e with
    | zero => rw [A.1] at h2; cases h2
    | succ e =>
    obtain ⟨q, v', e1, e2, A'⟩ := A.elem (P := Try.prog) (T := 33) (e := 35) (kd := .i64) (k := x / 2 ^ k % 2) (u := u.l[x / 2 ^ k % 2]) (by kernel_rfl) (by kernel_rfl) (by kernel_rfl) (K.ext W.ext) (List.getElem?_eq_getElem hlt)
    obtain ⟨a', c', rfl⟩ := A'.shape
    have he' : atT e u.l[x / 2 ^ k % 2] x = atT d t x := by
      rw [← he, atT, hb, show (Int.ofNat k).toNat = k from rfl, List.getElem?_eq_getElem hlt]
    rw [hb] at W
    refine ow_load (P := Try.prog) (T := 33) (off := 2) 1 0 W rfl rfl (by kernel_rfl) (by kernel_rfl) ?_
    refine ow_load (P := Try.prog) (T := 3) (off := 0) 1 0 W rfl rfl (by kernel_rfl) (by kernel_rfl) ?_
    refine ok_go 3 ?_
    refine sy_load 0 (r := indexAddrOp Try.prog 33 (.slice a u.l.length c) (.int .i64 (andI ((Int.ofNat x).fdiv (2 ^ min (IntKind.u64.wrap (Int.ofNat k)).toNat IntKind.i64.bits)) 1))) (h' := g) (by kernel_rfl) (by rw [bit_of x k (by omega) (by omega)]; exact e1) ?_
    refine sy_load 0 (h' := g) (by kernel_rfl) e2 ?_
    refine ow_storeA (P := Try.prog) (T := 35) (v := Value.agg { toList := [Value.int IntKind.i64 (RT.b (RT.l u)[x / 2 ^ k % 2]), Value.bool (RT.w (RT.l u)[x / 2 ^ k % 2]), Value.slice a' (List.length (RT.l (RT.l u)[x / 2 ^ k % 2])) c'] }) 0 0 W ([Value.int IntKind.i64 (RT.b (RT.l u)[x / 2 ^ k % 2]), Value.bool (RT.w (RT.l u)[x / 2 ^ k % 2]), Value.slice a' (List.length (RT.l (RT.l u)[x / 2 ^ k % 2])) c']) rfl rfl rfl (by kernel_rfl) rfl (by kernel_rfl) fun g1 ng1 W => ?_
    exact sy_next 0 _ g1 (by kernel_rfl) (by kernel_rfl) (ih (e, u.l[x / 2 ^ k % 2], a', c') _ g1 ⟨hu, he', by omega, A', W⟩ (show e < e + 1 by omega) ⟨by kernel_rfl, by kernel_rfl, trivial⟩)
  · intro h0
    refine ow_load (P := Try.prog) (T := 4) (off := 1) 1 0 W rfl rfl (by kernel_rfl) (by kernel_rfl) ?_
    have h0 := no_nat (a := 0) h0
    have h1 : u.l = [] := List.eq_nil_of_length_eq_zero (by omega)
    refine sy_done 0 (v := .bool u.w) (h := g) (by kernel_rfl) ⟨?_, W.ext⟩
    rw [← he]
    cases e with
    | zero => rfl
    | succ e => rw [atT, h1]; rfl
end Go.Proofs.Ytnfboopfpkaeaaa
/- DecF: contracts of functions. -/
namespace Go.Proofs.Ytnfboopfpkaeaaa
open Go Go.Eng Nim
set_option maxRecDepth 100000
set_option maxHeartbeats 4000000
/-- Whether a tree finds a function. -/
def fnd (f : Nat → Bool) (n d : Nat) (t : RT) : Bool := vld n t && al (fun x => atT d t x == f x) (2 ^ n)
theorem finds_of (f : Nat → Bool) (n : Nat) (hn : n ≤ 6) (F b0 c : Nat) (L : List (Nat × AObj)) (d : Nat) (hd : d ≤ 20) (v : Value) (t : RT) (hs : nds t ≤ 1000) (h : Hp) (K : Hold h L) (A : At L d v t) (B : ArB b0 (2 ^ n) f h)
    (ck : ∀ a c h, Ev 100000 F 54 [.slice a (2 ^ n) c] h = some (J 0, h)) (sz : ∀ h, Ev 100000 F 56 [J (2 ^ n)] h = some (.tuple #[J n, .bool true], h))
    (si : ∀ h, Hold h L → ∃ y h', Ev 100000 F 55 [v, J 100] h = some (y, h') ∧ y = J (nds t) ∧ h.Ext h') (va : ∀ h, Hold h L → ∃ y h', Ev 100000 F 57 [v, J n] h = some (y, h') ∧ y = .bool (vld n t) ∧ h.Ext h')
    (at_ : vld n t = true → ∀ x h, x < 64 → Hold h L → ∃ y h', Ev 100000 F 58 [v, J x] h = some (y, h') ∧ y = .bool (atT d t x) ∧ h.Ext h') :
    ∃ y h', Ev 100000 (F + 1) 15 [.slice (some ⟨b0, 0, none⟩) (2 ^ n) c, v] h = some (y, h') ∧ y = .bool (fnd f n d t) ∧ h.Ext h' := by
  have hp64 : 2 ^ n ≤ 64 := Nat.pow_le_pow_right (n := 2) (by decide) hn
  obtain ⟨a1, c1, rfl⟩ := A.shape
  refine fnS_ok (Q := fun y h' => y = .bool (fnd f n d t) ∧ h.Ext h') ?_
  unfold fnd
  generalize hN : 2 ^ n = N at *
  have W := Sto.start h
  refine ow_new 0 W (AObj.cells [Value.int IntKind.i64 (RT.b t), Value.bool (RT.w t), Value.slice a1 (List.length (RT.l t)) c1] 35 false) (fun q => Value.pointer (some { block := q, off := 0 })) (by kernel_rfl) fun g1 ng1 W => ?_
  refine sy_call 0 (by kernel_rfl) (ck (some ⟨b0, 0, none⟩) c g1) ?_
  refine ow_loadA (P := Try.prog) (T := 35) (z := 3) 2 0 W rfl (by kernel_rfl) (by kernel_rfl) rfl (by kernel_rfl) ?_
  refine ok_go 1 ?_
  obtain ⟨_, g2, es, rfl, X⟩ := si g1 (K.ext W.ext)
  refine sy_call 0 (by kernel_rfl) es ?_
  have W := W.call X
  refine ok_go 3 ?_
  refine sy_no 0 (b := decide (Int.ofNat (nds t) > 1000)) (by kernel_rfl) (decide_eq_false (by show ¬ (1000 : Int) < ((_ : Nat) : Int); omega)) ?_
  refine ok_go 1 ?_
  refine sy_call 0 (by kernel_rfl) (sz g2) ?_
  refine ow_loadA (P := Try.prog) (T := 35) (z := 3) 2 0 W rfl (by kernel_rfl) (by kernel_rfl) rfl (by kernel_rfl) ?_
  obtain ⟨_, g3, es, rfl, X⟩ := va g2 (K.ext W.ext)
  refine sy_call 0 (by kernel_rfl) es ?_
  have W := W.call X
  refine ok_go 1 ?_
  refine sy_test 0 (!vld n t) (by kernel_rfl) ?_ ?_
  · intro hv
    rw [Bool.not_eq_true'] at hv
    exact sy_done 0 (v := .bool false) (h := g3) (by kernel_rfl) ⟨by rw [hv]; rfl, W.ext⟩
  intro hv
  rw [Bool.not_eq_false'] at hv
  refine ok_go 1 ?_
  refine sy_loop 0 100000 g3 (α := Nat) (fun x => [(0, .slice (some ⟨b0, 0, none⟩) N c), (3, ptr h.next 0), (27, .slice (some ⟨b0, 0, none⟩) N c), (28, J N), (29, J x)])
    (fun x g => x ≤ N ∧ al (fun x => atT d t x == f x) x = true ∧ Sto h g [(h.next, .cells [I t.b, .bool t.w, .slice a1 t.l.length c1] 35 false)]) (fun x _ => N - x) 0 (by kernel_rfl) (by kernel_rfl)
    ⟨by kernel_rfl, by kernel_rfl, by kernel_rfl, by kernel_rfl, by kernel_rfl, trivial⟩ (show N - 0 < 100000 by omega) ⟨Nat.zero_le _, rfl, W⟩ ?_
  rintro m1 x f1 g ⟨hx, hal, W⟩ ih
  refine ok_go 1 ?_
  refine sy_test 0 (decide (Int.ofNat x < Int.ofNat N)) (by kernel_rfl) ?_ ?_
  · intro hlt
    have hlt := ok_nat hlt
    refine sy_load 0 (r := indexAddrOp Try.prog 27 (Value.slice (some { block := b0, off := 0 }) N c) (Value.int IntKind.i64 (Int.ofNat x))) (h' := g) (by kernel_rfl) (idxS0 (e := 4) (by kernel_rfl) (by kernel_rfl) (by omega)) ?_
    refine sy_load 0 (r := loadT Try.prog g 4 (ptr (b0) (x))) (h' := g) (by kernel_rfl) ((B.ext W.ext).read (by omega)) ?_
    refine ow_loadA (P := Try.prog) (T := 35) (z := 3) 0 0 W rfl (by kernel_rfl) (by kernel_rfl) rfl (by kernel_rfl) ?_
    obtain ⟨_, g1, es, rfl, X⟩ := at_ hv x g (by omega) (K.ext W.ext)
    refine sy_call 0 (by kernel_rfl) es ?_
    have W := W.call X
    refine ok_go 1 ?_
    refine sy_test 0 (atT d t x != f x) (by kernel_rfl) ?_ ?_
    · intro hne
      refine sy_done 0 (v := .bool false) (h := g1) (by kernel_rfl) ⟨?_, W.ext⟩
      rw [hv, Bool.true_and]
      cases hh : al (fun x => atT d t x == f x) N with
      | false => rfl
      | true =>
        have := al_iff.1 hh x hlt
        rw [bne, this] at hne
        cases hne
    · intro hne
      have he : (atT d t x == f x) = true := by rwa [bne, Bool.not_eq_false'] at hne
      have hwx : IntKind.wrap .i64 (Int.ofNat (x + 1)) = Int.ofNat (x + 1) := wrap_nat (by omega)
      refine ok_go 1 ?_
      exact sy_next 0 _ g1 (by kernel_rfl) (by kernel_rfl) (ih (x + 1) _ g1 ⟨hlt, by rw [al, hal, he]; rfl, W⟩ (show N - (x + 1) < N - x by omega) ⟨by kernel_rfl, by kernel_rfl, by kernel_rfl, by kernel_rfl, (by kernel_rfl : _ = Value.int .i64 (IntKind.wrap .i64 (Int.ofNat (x + 1)))).trans (by rw [hwx]), trivial⟩)
  · intro hlt
    have hlt := no_nat hlt
    obtain rfl : x = N := by omega
    exact sy_done 0 (v := .bool true) (h := g) (by kernel_rfl) ⟨by rw [hv, hal]; rfl, W.ext⟩
end Go.Proofs.Ytnfboopfpkaeaaa
/- DecG: contracts of functions. -/
namespace Go.Proofs.Ytnfboopfpkaeaaa
open Go Go.Eng Nim
set_option maxRecDepth 100000
set_option maxHeartbeats 4000000
theorem rfinds_of (f : Nat → Bool) (n : Nat) (hn : n ≤ 6) (F b0 c : Nat) (L : List (Nat × AObj)) (d : Nat) (hd : d ≤ 20) (v : Value) (t : RT) (h : Hp) (K : Hold h L) (A : At L d v t) (B : ArB b0 (2 ^ n) f h)
    (ck : ∀ a c h, Ev 100000 F 59 [.slice a (2 ^ n) c] h = some (J 0, h)) (sz : ∀ h, Ev 100000 F 33 [J (2 ^ n)] h = some (J n, h))
    (va : ∀ h, Hold h L → ∃ y h', Ev 100000 F 60 [J n, v] h = some (y, h') ∧ y = .bool (vld n t) ∧ h.Ext h') :
    ∃ y h', Ev 100000 (F + 1) 17 [.slice (some ⟨b0, 0, none⟩) (2 ^ n) c, v] h = some (y, h') ∧ y = .bool (fnd f n d t) ∧ h.Ext h' := by
  have hp64 : 2 ^ n ≤ 64 := Nat.pow_le_pow_right (n := 2) (by decide) hn
  obtain ⟨a1, c1, rfl⟩ := A.shape
  refine fnS_ok (Q := fun y h' => y = .bool (fnd f n d t) ∧ h.Ext h') ?_
  unfold fnd
  generalize hN : 2 ^ n = N at *
  have W := Sto.start h
  refine ow_new 0 W (AObj.cells [Value.int IntKind.i64 (RT.b t), Value.bool (RT.w t), Value.slice a1 (List.length (RT.l t)) c1] 26 false) (fun q => Value.pointer (some { block := q, off := 0 })) (by kernel_rfl) fun g1 ng1 W => ?_
  refine sy_call 0 (by kernel_rfl) (ck (some ⟨b0, 0, none⟩) c g1) ?_
  refine ok_go 5 ?_
  refine sy_call 0 (by kernel_rfl) (sz g1) ?_
  refine ow_loadA (P := Try.prog) (T := 26) (z := 3) 1 0 W rfl (by kernel_rfl) (by kernel_rfl) rfl (by kernel_rfl) ?_
  refine ok_go 1 ?_
  obtain ⟨_, g2, es, rfl, X⟩ := va g1 (K.ext W.ext)
  refine sy_call 0 (by kernel_rfl) es ?_
  have W1 := W
  have W := W.call X
  refine ok_go 3 ?_
  refine sy_need 0 [1, 6] [⟨some (Value.tuple { toList := [] }, g1), Value.tuple { toList := [] }, g1⟩, ⟨some (Value.tuple { toList := [] }, g1), Value.tuple { toList := [] }, g1⟩] (by kernel_rfl) ⟨rfl, rfl, trivial⟩ ?_
  refine sy_test 0 (!vld n t) (by kernel_rfl) ?_ ?_
  · intro hv
    rw [Bool.not_eq_true'] at hv
    exact sy_done 0 (v := .bool false) (h := g2) (by kernel_rfl) ⟨by rw [hv]; rfl, W.ext⟩
  intro hv
  rw [Bool.not_eq_false'] at hv
  refine sy_loop 0 100000 g2 (α := Nat) (fun x => [(0, .slice (some ⟨b0, 0, none⟩) N c), (3, ptr h.next 0), (5, J x)])
    (fun x g => x ≤ N ∧ al (fun x => atT d t x == f x) x = true ∧ Sto h g [(h.next, .cells [I t.b, .bool t.w, .slice a1 t.l.length c1] 26 false)]) (fun x _ => N - x) 0 (by kernel_rfl) (by kernel_rfl)
    ⟨by kernel_rfl, by kernel_rfl, by kernel_rfl, trivial⟩ (show N - 0 < 100000 by omega) ⟨Nat.zero_le _, rfl, W⟩ ?_
  rintro m1 x f1 g ⟨hx, hal, W⟩ ih
  refine ok_go 2 ?_
  refine sy_test 0 (decide (Int.ofNat x < Int.ofNat N)) (by kernel_rfl) ?_ ?_
  · intro hlt
    have hlt := ok_nat hlt
    refine ow_loadA (P := Try.prog) (T := 26) (z := 3) 0 0 W rfl (by kernel_rfl) (by kernel_rfl) rfl (by kernel_rfl) ?_
    refine ow_new 0 W (AObj.cells [Value.int IntKind.i64 (Int.ofNat 0), Value.bool false, Value.slice none 0 0] 26 false) (fun q => Value.pointer (some { block := q, off := 0 })) (by kernel_rfl) fun g1 ng1 W => ?_
    refine ow_storeA (P := Try.prog) (T := 26) (v := Value.agg { toList := [Value.int IntKind.i64 (RT.b t), Value.bool (RT.w t), Value.slice a1 (List.length (RT.l t)) c1] }) 0 0 W ([Value.int IntKind.i64 (RT.b t), Value.bool (RT.w t), Value.slice a1 (List.length (RT.l t)) c1]) rfl rfl rfl (by kernel_rfl) rfl (by kernel_rfl) fun g2 ng2 W => ?_
    refine sy_loop 0 100000 g2 (α := Nat × RT × Option Addr × Nat) (fun s => [(0, .slice (some ⟨b0, 0, none⟩) N c), (3, ptr h.next 0), (5, J x), (6, ptr g.next 0)])
      (fun s g' => vld n s.2.1 = true ∧ atT s.1 s.2.1 x = atT d t x ∧ s.1 ≤ d ∧ At L s.1 (.agg #[I s.2.1.b, .bool s.2.1.w, .slice s.2.2.1 s.2.1.l.length s.2.2.2]) s.2.1 ∧ Sto h g' [(g.next, .cells [I s.2.1.b, .bool s.2.1.w, .slice s.2.2.1 s.2.1.l.length s.2.2.2] 26 false), (h.next, .cells [I t.b, .bool t.w, .slice a1 t.l.length c1] 26 false)]) (fun s _ => s.1) (d, t, a1, c1) (by kernel_rfl) (by kernel_rfl)
      ⟨by kernel_rfl, by kernel_rfl, by kernel_rfl, by kernel_rfl, trivial⟩ (show d < 100000 by omega) ⟨hv, rfl, Nat.le_refl _, A, W⟩ ?_
    rintro m2 ⟨e, u, a, c2⟩ f2 q ⟨hv', he, hle, A', W⟩ ih2
    dsimp only at hv' he hle A' W
    refine ow_load (P := Try.prog) (T := 24) (off := 2) 1 0 W rfl rfl (by kernel_rfl) (by kernel_rfl) ?_
    refine ok_go 2 ?_
    refine sy_test 0 (decide (Int.ofNat u.l.length > 0)) (by kernel_rfl) ?_ ?_
    · intro h0
      have h0 := ok_nat (a := 0) h0
      obtain ⟨h2, ⟨k, hk, hb⟩, hl⟩ := vld_two hv' (by omega)
      have hlt : x / 2 ^ k % 2 < u.l.length := by rw [h2]; exact Nat.mod_lt _ (by decide)
      have hu := vldL_mem hl _ (List.getElem_mem hlt)
      cases e with
      | zero => rw [A'.1] at h2; cases h2
      | succ e =>
      obtain ⟨p, v', e1, e2, A2⟩ := A'.elem (P := Try.prog) (T := 24) (e := 26) (kd := .i64) (k := x / 2 ^ k % 2) (u := u.l[x / 2 ^ k % 2]) (by kernel_rfl) (by kernel_rfl) (by kernel_rfl) (K.ext W.ext) (List.getElem?_eq_getElem hlt)
      obtain ⟨a', c', rfl⟩ := A2.shape
      have he' : atT e u.l[x / 2 ^ k % 2] x = atT d t x := by
        rw [← he, atT, hb, show (Int.ofNat k).toNat = k from rfl, List.getElem?_eq_getElem hlt]
      rw [hb] at W
      refine ow_load (P := Try.prog) (T := 24) (off := 2) 1 0 W rfl rfl (by kernel_rfl) (by kernel_rfl) ?_
      refine ow_load (P := Try.prog) (T := 3) (off := 0) 1 0 W rfl rfl (by kernel_rfl) (by kernel_rfl) ?_
      refine ok_go 3 ?_
      refine sy_load 0 (r := indexAddrOp Try.prog 24 (.slice a u.l.length c2) (.int .i64 (andI ((Int.ofNat x).fdiv (2 ^ min (IntKind.u64.wrap (Int.ofNat k)).toNat IntKind.i64.bits)) 1))) (h' := q) (by kernel_rfl) (by rw [bit_of x k (by omega) (by omega)]; exact e1) ?_
      refine sy_load 0 (h' := q) (by kernel_rfl) e2 ?_
      refine ow_storeA (P := Try.prog) (T := 26) (v := Value.agg { toList := [Value.int IntKind.i64 (RT.b (RT.l u)[x / 2 ^ k % 2]), Value.bool (RT.w (RT.l u)[x / 2 ^ k % 2]), Value.slice a' (List.length (RT.l (RT.l u)[x / 2 ^ k % 2])) c'] }) 0 0 W ([Value.int IntKind.i64 (RT.b (RT.l u)[x / 2 ^ k % 2]), Value.bool (RT.w (RT.l u)[x / 2 ^ k % 2]), Value.slice a' (List.length (RT.l (RT.l u)[x / 2 ^ k % 2])) c']) rfl rfl rfl (by kernel_rfl) rfl (by kernel_rfl) fun q1 nq1 W => ?_
      exact sy_next 0 _ q1 (by kernel_rfl) (by kernel_rfl) (ih2 (e, u.l[x / 2 ^ k % 2], a', c') _ q1 ⟨hu, he', by omega, A2, W⟩ (show e < e + 1 by omega) ⟨by kernel_rfl, by kernel_rfl, by kernel_rfl, by kernel_rfl, trivial⟩)
    · intro h0
      have h0 := no_nat (a := 0) h0
      have h1 : u.l = [] := List.eq_nil_of_length_eq_zero (by omega)
      have he : u.w = atT d t x := by
        rw [← he]
        cases e with
        | zero => rfl
        | succ e => rw [atT, h1]; rfl
      rw [he] at W
      refine ow_load (P := Try.prog) (T := 4) (off := 1) 1 0 W rfl rfl (by kernel_rfl) (by kernel_rfl) ?_
      refine sy_load 0 (r := indexAddrOp Try.prog 27 (Value.slice (some { block := b0, off := 0 }) N c) (Value.int IntKind.i64 (Int.ofNat x))) (h' := q) (by kernel_rfl) (idxS0 (e := 4) (by kernel_rfl) (by kernel_rfl) (by omega)) ?_
      refine sy_load 0 (r := loadT Try.prog q 4 (ptr (b0) (x))) (h' := q) (by kernel_rfl) ((B.ext W.ext).read (by omega)) ?_
      refine ok_go 1 ?_
      refine sy_test 0 (atT d t x != f x) (by kernel_rfl) ?_ ?_
      · intro hne
        refine sy_done 0 (v := .bool false) (h := q) (by kernel_rfl) ⟨?_, W.ext⟩
        rw [hv, Bool.true_and]
        cases hh : al (fun x => atT d t x == f x) N with
        | false => rfl
        | true =>
          have := al_iff.1 hh x hlt
          rw [bne, this] at hne
          cases hne
      · intro hne
        have he : (atT d t x == f x) = true := by rwa [bne, Bool.not_eq_false'] at hne
        have hwx : IntKind.wrap .i64 (Int.ofNat (x + 1)) = Int.ofNat (x + 1) := wrap_nat (by omega)
        refine ok_go 1 ?_
        exact sy_next 0 _ q (by kernel_rfl) (by kernel_rfl) (ih (x + 1) _ q ⟨hlt, by rw [al, hal, he]; rfl, W.drop 1⟩ (show N - (x + 1) < N - x by omega) ⟨by kernel_rfl, by kernel_rfl, (by kernel_rfl : _ = Value.int .i64 (IntKind.wrap .i64 (Int.ofNat (x + 1)))).trans (by rw [hwx]), trivial⟩)
  · intro hlt
    have hlt := no_nat hlt
    obtain rfl : x = N := by omega
    exact sy_done 0 (v := .bool true) (h := g) (by kernel_rfl) ⟨by rw [hv, hal]; rfl, W.ext⟩
end Go.Proofs.Ytnfboopfpkaeaaa
/- DecH: contracts of functions. -/
namespace Go.Proofs.Ytnfboopfpkaeaaa
open Go Go.Eng Nim
set_option maxRecDepth 100000
set_option maxHeartbeats 4000000
mutual
/-- The levels below the first node. -/
def hgt : RT → Nat
  | .mk _ _ l => hgtL l
def hgtL : List RT → Nat
  | [] => 0
  | t :: r => max (1 + hgt t) (hgtL r)
end
theorem hgt_eq (t : RT) : hgt t = hgtL t.l := by cases t; rfl
theorem hgtL_app : ∀ (l r : List RT), hgtL (l ++ r) = max (hgtL l) (hgtL r)
  | [], r => by simp [hgtL]
  | t :: l, r => by simp only [List.cons_append, hgtL, hgtL_app l r]; omega
theorem hgtL_take (l : List RT) {i : Nat} (hi : i < l.length) : hgtL (l.take (i + 1)) = max (hgtL (l.take i)) (1 + hgt l[i]) := by
  rw [List.take_succ_eq_append_getElem hi, hgtL_app]
  simp [hgtL]
theorem hgtL_mem : ∀ {l : List RT} {u : RT}, u ∈ l → 1 + hgt u ≤ hgtL l
  | [], _, h => by cases h
  | t :: r, u, h => by
    rw [hgtL]
    rcases List.mem_cons.1 h with rfl | h
    · omega
    · have := hgtL_mem h
      omega
theorem ite_max (a b : Nat) : (if Int.ofNat b > Int.ofNat a then Int.ofNat b else Int.ofNat a) = Int.ofNat (max a b) := by
  by_cases h : a < b
  · rw [if_pos (by show (a : Int) < (b : Int); omega), Nat.max_eq_right (by omega)]
  · rw [if_neg (by show ¬ (a : Int) < (b : Int); omega), Nat.max_eq_left (by omega)]
theorem levels_step (lf F d m : Nat) (hlf : 2000 ≤ lf) (L : List (Nat × AObj)) (v : Value) (t : RT) (h : Hp) (K : Hold h L) (A : At L (d + 1) v t) (hm : 0 < m) (hm2 : m ≤ 100) (hlen : t.l.length ≤ 1000) (hh : hgt t ≤ 100)
    (rec_ : ∀ u ∈ t.l, ∀ v h, Hold h L → At L d v u → ∃ y h', Ev lf F 18 [v, J (m - 1)] h = some (y, h') ∧ y = J (hgt u) ∧ h.Ext h') : ∃ y h', Ev lf (F + 1) 18 [v, J m] h = some (y, h') ∧ y = J (hgt t) ∧ h.Ext h' := by
  obtain ⟨a, c, rfl⟩ := A.shape
  refine fnS_ok (Q := fun y h' => y = J (hgt t) ∧ h.Ext h') ?_
  have W := Sto.start h
  have hwl : IntKind.wrap .i64 (Int.ofNat m - 1) = Int.ofNat (m - 1) := wrap_sub hm (by omega)
  refine ow_new 0 W (AObj.cells [Value.int IntKind.i64 (RT.b t), Value.bool (RT.w t), Value.slice a (List.length (RT.l t)) c] 26 false) (fun q => Value.pointer (some { block := q, off := 0 })) (by kernel_rfl) fun g1 ng1 W => ?_
  refine sy_loop 0 lf g1 (α := Nat) (fun i => [(1, J m), (2, ptr h.next 0), (5, J (hgtL (t.l.take i))), (6, J i)])
    (fun i g => i ≤ t.l.length ∧ Sto h g [(h.next, .cells [I t.b, .bool t.w, .slice a t.l.length c] 26 false)]) (fun i _ => t.l.length - i) 0 (by kernel_rfl) (by kernel_rfl)
    ⟨by kernel_rfl, by kernel_rfl, by kernel_rfl, by kernel_rfl, trivial⟩ (show t.l.length - 0 < lf by omega) ⟨Nat.zero_le _, W⟩ ?_
  rintro m1 i f1 g ⟨hi, W⟩ ih
  refine ow_load (P := Try.prog) (T := 24) (off := 2) 1 0 W rfl rfl (by kernel_rfl) (by kernel_rfl) ?_
  refine ok_go 2 ?_
  refine sy_test 0 (decide (Int.ofNat i < Int.ofNat t.l.length)) (by kernel_rfl) ?_ ?_
  · intro hlt
    have hlt := ok_nat hlt
    have hwi : IntKind.wrap .i64 (Int.ofNat (i + 1)) = Int.ofNat (i + 1) := wrap_nat (by omega)
    obtain ⟨q, v', e1, e2, A'⟩ := A.elem (P := Try.prog) (T := 24) (e := 26) (kd := .i64) (k := i) (u := t.l[i]) (by kernel_rfl) (by kernel_rfl) (by kernel_rfl) (K.ext W.ext) (List.getElem?_eq_getElem hlt)
    refine ok_go 3 ?_
    refine sy_yes 0 (b := decide (Int.ofNat m > 0)) (by kernel_rfl) (decide_eq_true (by show (0 : Int) < ((_ : Nat) : Int); omega)) ?_
    refine ow_load (P := Try.prog) (T := 24) (off := 2) 1 0 W rfl rfl (by kernel_rfl) (by kernel_rfl) ?_
    refine sy_load 0 (h' := g) (by kernel_rfl) e1 ?_
    refine sy_load 0 (h' := g) (by kernel_rfl) e2 ?_
    refine ok_go 1 ?_
    obtain ⟨_, g3, ec, rfl, X⟩ := rec_ t.l[i] (List.getElem_mem hlt) _ _ (K.ext W.ext) A'
    refine sy_call 0 (r := Ev lf F 18 [v', .int .i64 (IntKind.wrap .i64 (Int.ofNat m - 1))] g) (by kernel_rfl) (by rw [hwl]; exact ec) ?_
    have W := W.call X
    refine ok_go 3 ?_
    have hmem := hgtL_mem (List.getElem_mem hlt)
    rw [← hgt_eq] at hmem
    have hw2 : IntKind.wrap .i64 (1 + Int.ofNat (hgt t.l[i])) = Int.ofNat (1 + hgt t.l[i]) := wrap_add (a := 1) (by omega)
    exact sy_next 0 _ g3 (by kernel_rfl) (by kernel_rfl) (ih (i + 1) _ g3 ⟨hlt, W⟩ (show t.l.length - (i + 1) < t.l.length - i by omega)
      ⟨by kernel_rfl, by kernel_rfl, (by kernel_rfl : _ = Value.int .i64 (if IntKind.wrap .i64 (1 + Int.ofNat (hgt t.l[i])) > Int.ofNat (hgtL (t.l.take i)) then IntKind.wrap .i64 (1 + Int.ofNat (hgt t.l[i])) else Int.ofNat (hgtL (t.l.take i)))).trans (by rw [hw2, ite_max, hgtL_take _ hlt]),
        (by kernel_rfl : _ = Value.int .i64 (IntKind.wrap .i64 (Int.ofNat (i + 1)))).trans (by rw [hwi]), trivial⟩)
  · intro hlt
    have hlt := no_nat hlt
    obtain rfl : i = t.l.length := by omega
    rw [List.take_length]
    refine ok_go 3 ?_
    exact sy_done 0 (v := J (hgtL t.l)) (h := g) (by kernel_rfl) ⟨by rw [hgt_eq], W.ext⟩
end Go.Proofs.Ytnfboopfpkaeaaa
/- DecI: contracts of functions. -/
namespace Go.Proofs.Ytnfboopfpkaeaaa
open Go Go.Eng Nim
set_option maxRecDepth 100000
set_option maxHeartbeats 4000000
/-- What is seen of a tree by so many levels, and three parts of each node. -/
def Sees (L : List (Nat × AObj)) : Nat → Value → RT → Prop
  | 0, v, t => t.l = [] ∧ ∃ a n c, v = .agg #[I t.b, .bool t.w, .slice a n c]
  | d + 1, v, t => ∃ a n c, v = .agg #[I t.b, .bool t.w, .slice a n c] ∧ t.l.length = min n 3 ∧ (t.l ≠ [] → ∃ i off o cs, a = some ⟨i, off, none⟩ ∧ (i, o) ∈ L ∧ objLoad o off (t.l.length * 3) = some cs ∧ Els (Sees L d) cs t.l)
theorem Sees.shape {L : List (Nat × AObj)} : ∀ {d : Nat} {v : Value} {t : RT}, Sees L d v t → ∃ a n c, v = .agg #[I t.b, .bool t.w, .slice a n c]
  | 0, _, _, ⟨_, a, n, c, e⟩ => ⟨a, n, c, e⟩
  | d + 1, _, _, ⟨a, n, c, e, _⟩ => ⟨a, n, c, e⟩
theorem Sees.mono {L L' : List (Nat × AObj)} (hs : ∀ p ∈ L, p ∈ L') : ∀ {d : Nat} {v : Value} {t : RT}, Sees L d v t → Sees L' d v t
  | 0, _, _, h => h
  | d + 1, _, _, ⟨a, n, c, e, h0, h⟩ => ⟨a, n, c, e, h0, fun hn => by
    obtain ⟨i, off, o, cs, e1, e2, e3, e4⟩ := h hn
    exact ⟨i, off, o, cs, e1, hs _ e2, e3, Els.mono (fun _ _ => Sees.mono hs) e4⟩⟩
mutual
/-- No node with more than three parts. -/
def few3 : RT → Bool
  | .mk _ _ l => decide (l.length ≤ 3) && few3L l
def few3L : List RT → Bool
  | [] => true
  | t :: r => few3 t && few3L r
end
theorem few3_eq (t : RT) : few3 t = (decide (t.l.length ≤ 3) && few3L t.l) := by
  cases t
  rw [few3]
  rfl
theorem Els.few {A B : Value → RT → Prop} (hs : ∀ v t, few3 t = true → A v t → B v t) : ∀ {cs : List Value} {ts : List RT}, few3L ts = true → Els A cs ts → Els B cs ts
  | _, [], _, h => h
  | _, _ :: _, hf, ⟨x, y, z, q, e, h1, h2⟩ => by
    rw [few3L, Bool.and_eq_true] at hf
    exact ⟨x, y, z, q, e, hs _ _ hf.1 h1, Els.few hs hf.2 h2⟩
theorem At.sees {L : List (Nat × AObj)} : ∀ {d : Nat} {v : Value} {t : RT}, few3 t = true → At L d v t → Sees L d v t
  | 0, _, _, _, ⟨h1, a, c, e⟩ => ⟨h1, a, _, c, e⟩
  | d + 1, _, t, hf, ⟨a, c, e, h⟩ => by
    rw [few3_eq, Bool.and_eq_true, decide_eq_true_eq] at hf
    refine ⟨a, _, c, e, by omega, fun hn => ?_⟩
    obtain ⟨i, off, o, cs, e1, e2, e3, e4⟩ := h hn
    exact ⟨i, off, o, cs, e1, e2, e3, Els.few (fun _ _ => At.sees) hf.2 e4⟩
theorem Sees.elem {P : Program} {h : Hp} {L : List (Nat × AObj)} {d : Nat} {b : Int} {w : Bool} {a : Option Addr} {n c : Nat} {t : RT} {k : Nat} {u : RT} {T e : TypeId} {kd : IntKind} (hu : P.underlying T = some (.slice e)) (hs : sizeT P e = some 3) (ha : isAggT P e = some true) (K : Hold h L)
    (A : Sees L (d + 1) (.agg #[I b, .bool w, .slice a n c]) t) (hk : t.l[k]? = some u) : ∃ q v, indexAddrOp P T (.slice a n c) (.int kd (Int.ofNat k)) = some q ∧ loadT P h e q = some v ∧ Sees L d v u := by
  obtain ⟨a', n', c', e1, h0, h1⟩ := A
  simp only [Value.agg.injEq, Array.mk.injEq, List.cons.injEq, Value.slice.injEq, and_true] at e1
  obtain ⟨_, _, rfl, rfl, rfl⟩ := e1
  obtain ⟨i, off, o, cs, rfl, e2, e3, e4⟩ := h1 (fun hn => by rw [hn] at hk; cases hk)
  have hlt := (List.getElem?_eq_some_iff.1 hk).1
  obtain ⟨x, y, z, e5, e6⟩ := e4.at_ hk
  refine ⟨ptr i (off + k * 3), .agg #[x, y, z], idxSl hu hs (by omega), ?_, e6⟩
  have e7 : loadN h i (off + k * 3) 3 = some [x, y, z] := by
    rw [loadN_obj (K _ e2).2]
    exact objLoad_sub e3 e5
  simp only [loadT, ha, hs, e7]
theorem sl26 : SlTz Try.prog 24 26 3 := ⟨by kernel_rfl, by kernel_rfl, ⟨_, rfl, by kernel_rfl⟩, ⟨_, rfl, by kernel_rfl⟩, by decide⟩
theorem sl35 : SlTz Try.prog 33 35 3 := ⟨by kernel_rfl, by kernel_rfl, ⟨_, rfl, by kernel_rfl⟩, ⟨_, rfl, by kernel_rfl⟩, by decide⟩
/-- The slice that holds the copies makes a tree. -/
theorem at_mk {Lc : List (Nat × AObj)} {d sid e : Nat} {t : RT} {zs : List Value} (he : Els (At Lc d) zs t.l) : At (Lc ++ oent sid e zs) (d + 1) (.agg #[I t.b, .bool t.w, oslV sid t.l.length]) t := by
  have hlen := he.len
  cases hl : t.l with
  | nil => exact ⟨none, 0, by rw [hl]; rfl, fun hn => absurd hl hn⟩
  | cons u r =>
    rw [hl] at he hlen
    cases zs with
    | nil => simp at hlen
    | cons z zs =>
      refine ⟨some ⟨sid, 0, none⟩, 2 * (r.length + 1) + 1, by rw [hl]; rfl, fun _ => ⟨sid, 0, .cells (z :: zs) e true, z :: zs, rfl, List.mem_append_right _ (List.mem_singleton.2 rfl), ?_, ?_⟩⟩
      · rw [hl, ← hlen]
        exact takeN_all _
      · rw [hl]
        exact Els.mono (fun _ _ => At.mono fun p hp => List.mem_append_left _ hp) he
end Go.Proofs.Ytnfboopfpkaeaaa
/- DecJ: contracts of functions. -/
namespace Go.Proofs.Ytnfboopfpkaeaaa
open Go Go.Eng Nim
set_option maxRecDepth 100000
set_option maxHeartbeats 4000000
theorem got_step (lf F d m : Nat) (hlf : 2000 ≤ lf) (hm : m = d + 1) (hm2 : m ≤ 100) (L : List (Nat × AObj)) (v : Value) (t : RT) (h : Hp) (K : Hold h L) (A : Sees L (d + 1) v t)
    (rec_ : ∀ u ∈ t.l, ∀ v h, Hold h L → Sees L d v u → ∃ y h' L', Ev lf F 16 [v, J (m - 1)] h = some (y, h') ∧ Sto h h' L' ∧ At L' d y u) : ∃ y h' L', Ev lf (F + 1) 16 [v, J m] h = some (y, h') ∧ Sto h h' L' ∧ At L' (d + 1) y t := by
  have hlen : t.l.length ≤ 3 := by obtain ⟨_, _, _, _, h0, _⟩ := A; omega
  have hlen2 := A
  obtain ⟨a, n, c, rfl⟩ := A.shape
  have hn3 : t.l.length = min n 3 := by
    obtain ⟨a', n', c', e1, h0, _⟩ := hlen2
    simp only [Value.agg.injEq, Array.mk.injEq, List.cons.injEq, Value.slice.injEq, and_true] at e1
    rw [e1.2.2.2.1]; exact h0
  have main : ∃ y h', Ev lf (F + 1) 16 [.agg #[I t.b, .bool t.w, .slice a n c], J m] h = some (y, h') ∧ ∃ L', Sto h h' L' ∧ At L' (d + 1) y t := by
    refine fnS_ok (Q := fun y h' => ∃ L', Sto h h' L' ∧ At L' (d + 1) y t) ?_
    have W := Sto.start h
    have hwl : IntKind.wrap .i64 (Int.ofNat m - 1) = Int.ofNat (m - 1) := wrap_sub (a := m) (b := 1) (by omega) (by omega)
    refine ow_new 0 W (AObj.cells [Value.int IntKind.i64 (RT.b t), Value.bool (RT.w t), Value.slice a n c] 35 false) (fun q => Value.pointer (some { block := q, off := 0 })) (by kernel_rfl) fun g1 ng1 W => ?_
    refine ow_new 0 W (AObj.cells [Value.int IntKind.i64 (Int.ofNat 0), Value.bool false, Value.slice none 0 0] 26 false) (fun q => Value.pointer (some { block := q, off := 0 })) (by kernel_rfl) fun g2 ng2 W => ?_
    refine ow_load (P := Try.prog) (T := 3) (off := 0) 1 1 W rfl rfl (by kernel_rfl) (by kernel_rfl) ?_
    refine ow_load (P := Try.prog) (T := 4) (off := 1) 1 1 W rfl rfl (by kernel_rfl) (by kernel_rfl) ?_
    refine ow_new 1 W (AObj.cells [Value.int IntKind.i64 (Int.ofNat 0), Value.bool false, Value.slice none 0 0] 26 false) (fun q => Value.pointer (some { block := q, off := 0 })) (by kernel_rfl) fun g3 ng3 W => ?_
    refine ow_storeA (P := Try.prog) (T := 26) (v := Value.agg { toList := [Value.int IntKind.i64 (RT.b t), Value.bool (RT.w t), Value.slice none 0 0] }) 0 0 W ([Value.int IntKind.i64 (RT.b t), Value.bool (RT.w t), Value.slice none 0 0]) rfl rfl rfl (by kernel_rfl) (by first | rfl | (repeat' (first | exact rfl | assumption | apply sc_cons))) (by kernel_rfl) fun g4 ng4 W => ?_
    have W : Sto h g4 ([(g2.next, .cells [I t.b, .bool t.w, .slice none 0 0] 26 false), (g1.next, .cells [I 0, .bool false, .slice none 0 0] 26 false), (h.next, .cells [I t.b, .bool t.w, .slice a n c] 35 false)] ++ ([] ++ oent 0 26 [])) := W
    refine sy_loop 0 lf g4 (α := Nat × Nat × Value × List Value × List (Nat × AObj)) (fun s => [(1, J m), (2, ptr h.next 0), (4, ptr g1.next 0), (5, ptr g2.next 0), (6, J s.1)])
      (fun s g => s.1 ≤ t.l.length ∧ s.2.2.1 = oslV s.2.1 s.1 ∧ Els (At s.2.2.2.2 d) s.2.2.2.1 (t.l.take s.1) ∧ Sto h g ([(g2.next, .cells [I t.b, .bool t.w, s.2.2.1] 26 false), (g1.next, .cells [I 0, .bool false, .slice none 0 0] 26 false), (h.next, .cells [I t.b, .bool t.w, .slice a n c] 35 false)] ++ (s.2.2.2.2 ++ oent s.2.1 26 s.2.2.2.1)))
      (fun s _ => t.l.length - s.1) (0, 0, .slice none 0 0, [], []) (by kernel_rfl) (by kernel_rfl)
      ⟨by kernel_rfl, by kernel_rfl, by kernel_rfl, by kernel_rfl, by kernel_rfl, trivial⟩ (show t.l.length - 0 < lf by omega) ⟨Nat.zero_le _, rfl, rfl, W⟩ ?_
    rintro m1 ⟨i, sid, sl, zs, Lc⟩ f1 g ⟨hi, hsl, he, W⟩ ih
    dsimp only at hi hsl he W
    have hsc : scalar sl = true := by rw [hsl]; cases i <;> rfl
    have hwi : i < t.l.length → IntKind.wrap .i64 (Int.ofNat (i + 1)) = Int.ofNat (i + 1) := fun hlt => wrap_nat (by omega)
    refine ow_load (P := Try.prog) (T := 33) (off := 2) 1 2 W rfl rfl (by kernel_rfl) (by kernel_rfl) ?_
    refine ok_go 2 ?_
    refine sy_test 0 (decide (Int.ofNat i < Int.ofNat n)) (by kernel_rfl) ?_ ?_
    rotate_left
    · intro hlt
      have hlt := no_nat hlt
      have hi' : i = t.l.length := by omega
      subst hi'
      rw [List.take_length] at he
      refine ow_loadA (P := Try.prog) (T := 26) (z := 3) 6 0 W rfl (by kernel_rfl) (by kernel_rfl) rfl (by kernel_rfl) ?_
      refine ow_storeA (P := Try.prog) (T := 26) (v := Value.agg { toList := [Value.int IntKind.i64 (RT.b t), Value.bool (RT.w t), sl] }) 0 1 W ([Value.int IntKind.i64 (RT.b t), Value.bool (RT.w t), sl]) rfl rfl rfl (by kernel_rfl) (by first | rfl | (repeat' (first | exact rfl | assumption | apply sc_cons))) (by kernel_rfl) fun g5 ng5 W => ?_
      refine ow_loadA (P := Try.prog) (T := 26) (z := 3) 0 1 W rfl (by kernel_rfl) (by kernel_rfl) rfl (by kernel_rfl) ?_
      exact sy_done 0 (v := .agg #[I t.b, .bool t.w, sl]) (h := g5) (by kernel_rfl) ⟨_, W.drop 3, by rw [hsl]; exact at_mk he⟩
    intro hlt
    have hlt := ok_nat hlt
    refine ok_go 3 ?_
    refine sy_test 0 (decide (Int.ofNat i < Int.ofNat 3)) (by kernel_rfl) ?_ ?_
    rotate_left
    · intro hlt
      have hlt := no_nat hlt
      have hi' : i = t.l.length := by omega
      subst hi'
      rw [List.take_length] at he
      refine ow_loadA (P := Try.prog) (T := 26) (z := 3) 3 0 W rfl (by kernel_rfl) (by kernel_rfl) rfl (by kernel_rfl) ?_
      refine ow_storeA (P := Try.prog) (T := 26) (v := Value.agg { toList := [Value.int IntKind.i64 (RT.b t), Value.bool (RT.w t), sl] }) 0 1 W ([Value.int IntKind.i64 (RT.b t), Value.bool (RT.w t), sl]) rfl rfl rfl (by kernel_rfl) (by first | rfl | (repeat' (first | exact rfl | assumption | apply sc_cons))) (by kernel_rfl) fun g5 ng5 W => ?_
      refine ow_loadA (P := Try.prog) (T := 26) (z := 3) 0 1 W rfl (by kernel_rfl) (by kernel_rfl) rfl (by kernel_rfl) ?_
      exact sy_done 0 (v := .agg #[I t.b, .bool t.w, sl]) (h := g5) (by kernel_rfl) ⟨_, W.drop 3, by rw [hsl]; exact at_mk he⟩
    intro hlt3
    have hlt3 := ok_nat hlt3
    have hlt : i < t.l.length := by omega
    refine ok_go 3 ?_
    refine sy_yes 0 (b := decide (Int.ofNat m > 0)) (by kernel_rfl) (decide_eq_true (by show (0 : Int) < ((_ : Nat) : Int); omega)) ?_
    obtain ⟨q, v', e1, e2, A'⟩ := A.elem (P := Try.prog) (T := 33) (e := 35) (kd := .i64) (k := i) (u := t.l[i]) (by kernel_rfl) (by kernel_rfl) (by kernel_rfl) (K.ext W.ext) (List.getElem?_eq_getElem hlt)
    obtain ⟨y, g5, L', ec, V, A2⟩ := rec_ t.l[i] (List.getElem_mem hlt) v' g (K.ext W.ext) A'
    obtain ⟨a2, c2, rfl⟩ := A2.shape
    refine ow_load (P := Try.prog) (T := 24) (off := 2) 1 0 W rfl rfl (by kernel_rfl) (by kernel_rfl) ?_
    refine ow_load (P := Try.prog) (T := 33) (off := 2) 1 2 W rfl rfl (by kernel_rfl) (by kernel_rfl) ?_
    refine sy_load 0 (h' := g) (by kernel_rfl) e1 ?_
    refine sy_load 0 (h' := g) (by kernel_rfl) e2 ?_
    refine ok_go 1 ?_
    refine sy_call 0 (r := Ev lf F 16 [v', .int .i64 (IntKind.wrap .i64 (Int.ofNat m - 1))] g) (by kernel_rfl) (by rw [hwl]; exact ec) ?_
    have W := W.into V
    refine ow_new 0 W (AObj.cells [Value.int IntKind.i64 (RT.b (RT.l t)[i]), Value.bool (RT.w (RT.l t)[i]), Value.slice a2 (List.length (RT.l (RT.l t)[i])) c2] 26 false) (fun q => Value.slice (some { block := q, off := 0 }) 1 2) (by kernel_rfl) fun g6 ng6 W => ?_
    have W : Sto h g6 ((g5.next, .cells [I (t.l[i]).b, .bool (t.l[i]).w, .slice a2 (t.l[i]).l.length c2] 26 false) :: (([(g2.next, .cells [I t.b, .bool t.w, sl] 26 false), (g1.next, .cells [I 0, .bool false, .slice none 0 0] 26 false), (h.next, .cells [I t.b, .bool t.w, .slice a n c] 35 false)] ++ (L' ++ Lc)) ++ oent sid 26 zs)) := by
      rw [List.append_assoc, List.append_assoc]; exact W
    have hz : zs.length = i * 3 := by rw [he.len, List.length_take, Nat.min_eq_left hi]
    refine ow_app (P := Try.prog) (t := 24) 0 W sl26 hz rfl rfl (by omega) (by rw [← hsl]; kernel_rfl) fun g7 sl' ng7 hsl' hsc' W => ?_
    have he' : Els (At (L' ++ Lc) d) (zs ++ [I (t.l[i]).b, .bool (t.l[i]).w, .slice a2 (t.l[i]).l.length c2]) (t.l.take (i + 1)) := by
      rw [List.take_succ_eq_append_getElem hlt]
      exact Els.app (A2.mono fun p hp => List.mem_append_left _ hp) (Els.mono (fun _ _ => At.mono fun p hp => List.mem_append_right _ hp) he)
    refine ow_store (P := Try.prog) (T := 24) (off := 2) (v := sl') 1 0 W rfl (Nat.le_of_ble_eq_true (by kernel_rfl)) (by kernel_rfl) (by first | rfl | assumption) (by kernel_rfl) fun g8 ng8 W => ?_
    refine ok_go 1 ?_
    have W : Sto h g8 ([(g2.next, .cells [I t.b, .bool t.w, sl'] 26 false), (g1.next, .cells [I 0, .bool false, .slice none 0 0] 26 false), (h.next, .cells [I t.b, .bool t.w, .slice a n c] 35 false)] ++ ((L' ++ Lc) ++ oent g6.next 26 (zs ++ [I (t.l[i]).b, .bool (t.l[i]).w, .slice a2 (t.l[i]).l.length c2]))) := by
      rw [← List.append_assoc]; exact W
    exact sy_next 0 _ g8 (by kernel_rfl) (by kernel_rfl) (ih (i + 1, g6.next, sl', _, L' ++ Lc) _ g8 ⟨hlt, hsl', he', W⟩ (show t.l.length - (i + 1) < t.l.length - i by omega) ⟨by kernel_rfl, by kernel_rfl, by kernel_rfl, by kernel_rfl, (by kernel_rfl : _ = Value.int .i64 (IntKind.wrap .i64 (Int.ofNat (i + 1)))).trans (by rw [hwi hlt]), trivial⟩)
  obtain ⟨y, h', e, L', W, A'⟩ := main
  exact ⟨y, h', L', e, W, A'⟩
end Go.Proofs.Ytnfboopfpkaeaaa
/- DecK: contracts of functions. -/
namespace Go.Proofs.Ytnfboopfpkaeaaa
open Go Go.Eng Nim
set_option maxRecDepth 100000
set_option maxHeartbeats 4000000
theorem cut_step (lf F d m : Nat) (hlf : 2000 ≤ lf) (hm : m = d + 1) (hm2 : m ≤ 100) (L : List (Nat × AObj)) (v : Value) (t : RT) (h : Hp) (K : Hold h L) (A : Sees L (d + 1) v t)
    (rec_ : ∀ u ∈ t.l, ∀ v h, Hold h L → Sees L d v u → ∃ y h' L', Ev lf F 20 [v, J (m - 1)] h = some (y, h') ∧ Sto h h' L' ∧ At L' d y u) : ∃ y h' L', Ev lf (F + 1) 20 [v, J m] h = some (y, h') ∧ Sto h h' L' ∧ At L' (d + 1) y t := by
  have hlen : t.l.length ≤ 3 := by obtain ⟨_, _, _, _, h0, _⟩ := A; omega
  have hlen2 := A
  obtain ⟨a, n, c, rfl⟩ := A.shape
  have hn3 : t.l.length = min n 3 := by
    obtain ⟨a', n', c', e1, h0, _⟩ := hlen2
    simp only [Value.agg.injEq, Array.mk.injEq, List.cons.injEq, Value.slice.injEq, and_true] at e1
    rw [e1.2.2.2.1]; exact h0
  have main : ∃ y h', Ev lf (F + 1) 20 [.agg #[I t.b, .bool t.w, .slice a n c], J m] h = some (y, h') ∧ ∃ L', Sto h h' L' ∧ At L' (d + 1) y t := by
    refine fnS_ok (Q := fun y h' => ∃ L', Sto h h' L' ∧ At L' (d + 1) y t) ?_
    have W := Sto.start h
    have hwl : IntKind.wrap .i64 (Int.ofNat m - 1) = Int.ofNat (m - 1) := wrap_sub (a := m) (b := 1) (by omega) (by omega)
    refine ow_new 0 W (AObj.cells [Value.int IntKind.i64 (RT.b t), Value.bool (RT.w t), Value.slice a n c] 26 false) (fun q => Value.pointer (some { block := q, off := 0 })) (by kernel_rfl) fun g1 ng1 W => ?_
    refine ow_new 0 W (AObj.cells [Value.int IntKind.i64 (Int.ofNat 0), Value.bool false, Value.slice none 0 0] 26 false) (fun q => Value.pointer (some { block := q, off := 0 })) (by kernel_rfl) fun g2 ng2 W => ?_
    refine ow_load (P := Try.prog) (T := 3) (off := 0) 1 1 W rfl rfl (by kernel_rfl) (by kernel_rfl) ?_
    refine ow_load (P := Try.prog) (T := 4) (off := 1) 1 1 W rfl rfl (by kernel_rfl) (by kernel_rfl) ?_
    refine ow_new 1 W (AObj.cells [Value.int IntKind.i64 (Int.ofNat 0), Value.bool false, Value.slice none 0 0] 26 false) (fun q => Value.pointer (some { block := q, off := 0 })) (by kernel_rfl) fun g3 ng3 W => ?_
    refine ow_storeA (P := Try.prog) (T := 26) (v := Value.agg { toList := [Value.int IntKind.i64 (RT.b t), Value.bool (RT.w t), Value.slice none 0 0] }) 0 0 W ([Value.int IntKind.i64 (RT.b t), Value.bool (RT.w t), Value.slice none 0 0]) rfl rfl rfl (by kernel_rfl) (by first | rfl | (repeat' (first | exact rfl | assumption | apply sc_cons))) (by kernel_rfl) fun g4 ng4 W => ?_
    have W : Sto h g4 ([(g2.next, .cells [I t.b, .bool t.w, .slice none 0 0] 26 false), (g1.next, .cells [I 0, .bool false, .slice none 0 0] 26 false), (h.next, .cells [I t.b, .bool t.w, .slice a n c] 26 false)] ++ ([] ++ oent 0 26 [])) := W
    refine sy_loop 0 lf g4 (α := Nat × Nat × Value × List Value × List (Nat × AObj)) (fun s => [(1, J m), (2, ptr h.next 0), (4, ptr g1.next 0), (5, ptr g2.next 0), (6, J s.1)])
      (fun s g => s.1 ≤ t.l.length ∧ s.2.2.1 = oslV s.2.1 s.1 ∧ Els (At s.2.2.2.2 d) s.2.2.2.1 (t.l.take s.1) ∧ Sto h g ([(g2.next, .cells [I t.b, .bool t.w, s.2.2.1] 26 false), (g1.next, .cells [I 0, .bool false, .slice none 0 0] 26 false), (h.next, .cells [I t.b, .bool t.w, .slice a n c] 26 false)] ++ (s.2.2.2.2 ++ oent s.2.1 26 s.2.2.2.1)))
      (fun s _ => t.l.length - s.1) (0, 0, .slice none 0 0, [], []) (by kernel_rfl) (by kernel_rfl)
      ⟨by kernel_rfl, by kernel_rfl, by kernel_rfl, by kernel_rfl, by kernel_rfl, trivial⟩ (show t.l.length - 0 < lf by omega) ⟨Nat.zero_le _, rfl, rfl, W⟩ ?_
    rintro m1 ⟨i, sid, sl, zs, Lc⟩ f1 g ⟨hi, hsl, he, W⟩ ih
    dsimp only at hi hsl he W
    have hsc : scalar sl = true := by rw [hsl]; cases i <;> rfl
    have hwi : i < t.l.length → IntKind.wrap .i64 (Int.ofNat (i + 1)) = Int.ofNat (i + 1) := fun hlt => wrap_nat (by omega)
    refine ow_load (P := Try.prog) (T := 24) (off := 2) 1 2 W rfl rfl (by kernel_rfl) (by kernel_rfl) ?_
    refine ok_go 2 ?_
    refine sy_test 0 (decide (Int.ofNat i < Int.ofNat n)) (by kernel_rfl) ?_ ?_
    rotate_left
    · intro hlt
      have hlt := no_nat hlt
      have hi' : i = t.l.length := by omega
      subst hi'
      rw [List.take_length] at he
      refine ow_loadA (P := Try.prog) (T := 26) (z := 3) 6 0 W rfl (by kernel_rfl) (by kernel_rfl) rfl (by kernel_rfl) ?_
      refine ow_storeA (P := Try.prog) (T := 26) (v := Value.agg { toList := [Value.int IntKind.i64 (RT.b t), Value.bool (RT.w t), sl] }) 0 1 W ([Value.int IntKind.i64 (RT.b t), Value.bool (RT.w t), sl]) rfl rfl rfl (by kernel_rfl) (by first | rfl | (repeat' (first | exact rfl | assumption | apply sc_cons))) (by kernel_rfl) fun g5 ng5 W => ?_
      refine ow_loadA (P := Try.prog) (T := 26) (z := 3) 0 1 W rfl (by kernel_rfl) (by kernel_rfl) rfl (by kernel_rfl) ?_
      exact sy_done 0 (v := .agg #[I t.b, .bool t.w, sl]) (h := g5) (by kernel_rfl) ⟨_, W.drop 3, by rw [hsl]; exact at_mk he⟩
    intro hlt
    have hlt := ok_nat hlt
    refine ok_go 3 ?_
    refine sy_test 0 (decide (Int.ofNat i < Int.ofNat 3)) (by kernel_rfl) ?_ ?_
    rotate_left
    · intro hlt
      have hlt := no_nat hlt
      have hi' : i = t.l.length := by omega
      subst hi'
      rw [List.take_length] at he
      refine ow_loadA (P := Try.prog) (T := 26) (z := 3) 3 0 W rfl (by kernel_rfl) (by kernel_rfl) rfl (by kernel_rfl) ?_
      refine ow_storeA (P := Try.prog) (T := 26) (v := Value.agg { toList := [Value.int IntKind.i64 (RT.b t), Value.bool (RT.w t), sl] }) 0 1 W ([Value.int IntKind.i64 (RT.b t), Value.bool (RT.w t), sl]) rfl rfl rfl (by kernel_rfl) (by first | rfl | (repeat' (first | exact rfl | assumption | apply sc_cons))) (by kernel_rfl) fun g5 ng5 W => ?_
      refine ow_loadA (P := Try.prog) (T := 26) (z := 3) 0 1 W rfl (by kernel_rfl) (by kernel_rfl) rfl (by kernel_rfl) ?_
      exact sy_done 0 (v := .agg #[I t.b, .bool t.w, sl]) (h := g5) (by kernel_rfl) ⟨_, W.drop 3, by rw [hsl]; exact at_mk he⟩
    intro hlt3
    have hlt3 := ok_nat hlt3
    have hlt : i < t.l.length := by omega
    refine ok_go 3 ?_
    refine sy_yes 0 (b := decide (Int.ofNat m > 0)) (by kernel_rfl) (decide_eq_true (by show (0 : Int) < ((_ : Nat) : Int); omega)) ?_
    obtain ⟨q, v', e1, e2, A'⟩ := A.elem (P := Try.prog) (T := 24) (e := 26) (kd := .i64) (k := i) (u := t.l[i]) (by kernel_rfl) (by kernel_rfl) (by kernel_rfl) (K.ext W.ext) (List.getElem?_eq_getElem hlt)
    obtain ⟨y, g5, L', ec, V, A2⟩ := rec_ t.l[i] (List.getElem_mem hlt) v' g (K.ext W.ext) A'
    obtain ⟨a2, c2, rfl⟩ := A2.shape
    refine ow_load (P := Try.prog) (T := 24) (off := 2) 1 0 W rfl rfl (by kernel_rfl) (by kernel_rfl) ?_
    refine ow_load (P := Try.prog) (T := 24) (off := 2) 1 2 W rfl rfl (by kernel_rfl) (by kernel_rfl) ?_
    refine sy_load 0 (h' := g) (by kernel_rfl) e1 ?_
    refine sy_load 0 (h' := g) (by kernel_rfl) e2 ?_
    refine ok_go 1 ?_
    refine sy_call 0 (r := Ev lf F 20 [v', .int .i64 (IntKind.wrap .i64 (Int.ofNat m - 1))] g) (by kernel_rfl) (by rw [hwl]; exact ec) ?_
    have W := W.into V
    refine ow_new 0 W (AObj.cells [Value.int IntKind.i64 (RT.b (RT.l t)[i]), Value.bool (RT.w (RT.l t)[i]), Value.slice a2 (List.length (RT.l (RT.l t)[i])) c2] 26 false) (fun q => Value.slice (some { block := q, off := 0 }) 1 2) (by kernel_rfl) fun g6 ng6 W => ?_
    have W : Sto h g6 ((g5.next, .cells [I (t.l[i]).b, .bool (t.l[i]).w, .slice a2 (t.l[i]).l.length c2] 26 false) :: (([(g2.next, .cells [I t.b, .bool t.w, sl] 26 false), (g1.next, .cells [I 0, .bool false, .slice none 0 0] 26 false), (h.next, .cells [I t.b, .bool t.w, .slice a n c] 26 false)] ++ (L' ++ Lc)) ++ oent sid 26 zs)) := by
      rw [List.append_assoc, List.append_assoc]; exact W
    have hz : zs.length = i * 3 := by rw [he.len, List.length_take, Nat.min_eq_left hi]
    refine ow_app (P := Try.prog) (t := 24) 0 W sl26 hz rfl rfl (by omega) (by rw [← hsl]; kernel_rfl) fun g7 sl' ng7 hsl' hsc' W => ?_
    have he' : Els (At (L' ++ Lc) d) (zs ++ [I (t.l[i]).b, .bool (t.l[i]).w, .slice a2 (t.l[i]).l.length c2]) (t.l.take (i + 1)) := by
      rw [List.take_succ_eq_append_getElem hlt]
      exact Els.app (A2.mono fun p hp => List.mem_append_left _ hp) (Els.mono (fun _ _ => At.mono fun p hp => List.mem_append_right _ hp) he)
    refine ow_store (P := Try.prog) (T := 24) (off := 2) (v := sl') 1 0 W rfl (Nat.le_of_ble_eq_true (by kernel_rfl)) (by kernel_rfl) (by first | rfl | assumption) (by kernel_rfl) fun g8 ng8 W => ?_
    refine ok_go 1 ?_
    have W : Sto h g8 ([(g2.next, .cells [I t.b, .bool t.w, sl'] 26 false), (g1.next, .cells [I 0, .bool false, .slice none 0 0] 26 false), (h.next, .cells [I t.b, .bool t.w, .slice a n c] 26 false)] ++ ((L' ++ Lc) ++ oent g6.next 26 (zs ++ [I (t.l[i]).b, .bool (t.l[i]).w, .slice a2 (t.l[i]).l.length c2]))) := by
      rw [← List.append_assoc]; exact W
    exact sy_next 0 _ g8 (by kernel_rfl) (by kernel_rfl) (ih (i + 1, g6.next, sl', _, L' ++ Lc) _ g8 ⟨hlt, hsl', he', W⟩ (show t.l.length - (i + 1) < t.l.length - i by omega) ⟨by kernel_rfl, by kernel_rfl, by kernel_rfl, by kernel_rfl, (by kernel_rfl : _ = Value.int .i64 (IntKind.wrap .i64 (Int.ofNat (i + 1)))).trans (by rw [hwi hlt]), trivial⟩)
  obtain ⟨y, h', e, L', W, A'⟩ := main
  exact ⟨y, h', L', e, W, A'⟩
end Go.Proofs.Ytnfboopfpkaeaaa
/- DecL: contracts of functions. -/
namespace Go.Proofs.Ytnfboopfpkaeaaa
open Go Go.Eng Nim
set_option maxRecDepth 100000
set_option maxHeartbeats 4000000
theorem give_step (lf F d : Nat) (hlf : 2000 ≤ lf) (L : List (Nat × AObj)) (v : Value) (t : RT) (h : Hp) (K : Hold h L) (A : At L (d + 1) v t) (hlen : t.l.length ≤ 1000)
    (rec_ : ∀ u ∈ t.l, ∀ v h, Hold h L → At L d v u → ∃ y h' L', Ev lf F 19 [v] h = some (y, h') ∧ Sto h h' L' ∧ At L' d y u) : ∃ y h' L', Ev lf (F + 1) 19 [v] h = some (y, h') ∧ Sto h h' L' ∧ At L' (d + 1) y t := by
  obtain ⟨a, c, rfl⟩ := A.shape
  have main : ∃ y h', Ev lf (F + 1) 19 [.agg #[I t.b, .bool t.w, .slice a t.l.length c]] h = some (y, h') ∧ ∃ L', Sto h h' L' ∧ At L' (d + 1) y t := by
    refine fnS_ok (Q := fun y h' => ∃ L', Sto h h' L' ∧ At L' (d + 1) y t) ?_
    have W := Sto.start h
    refine ow_new 0 W (AObj.cells [Value.int IntKind.i64 (RT.b t), Value.bool (RT.w t), Value.slice a (List.length (RT.l t)) c] 26 false) (fun q => Value.pointer (some { block := q, off := 0 })) (by kernel_rfl) fun g1 ng1 W => ?_
    refine ow_new 0 W (AObj.cells [Value.int IntKind.i64 (Int.ofNat 0), Value.bool false, Value.slice none 0 0] 35 false) (fun q => Value.pointer (some { block := q, off := 0 })) (by kernel_rfl) fun g2 ng2 W => ?_
    refine ow_load (P := Try.prog) (T := 3) (off := 0) 1 1 W rfl rfl (by kernel_rfl) (by kernel_rfl) ?_
    refine ow_load (P := Try.prog) (T := 4) (off := 1) 1 1 W rfl rfl (by kernel_rfl) (by kernel_rfl) ?_
    refine ow_new 1 W (AObj.cells [Value.int IntKind.i64 (Int.ofNat 0), Value.bool false, Value.slice none 0 0] 35 false) (fun q => Value.pointer (some { block := q, off := 0 })) (by kernel_rfl) fun g3 ng3 W => ?_
    refine ow_storeA (P := Try.prog) (T := 35) (v := Value.agg { toList := [Value.int IntKind.i64 (RT.b t), Value.bool (RT.w t), Value.slice none 0 0] }) 0 0 W ([Value.int IntKind.i64 (RT.b t), Value.bool (RT.w t), Value.slice none 0 0]) rfl rfl rfl (by kernel_rfl) (by first | rfl | (repeat' (first | exact rfl | assumption | apply sc_cons))) (by kernel_rfl) fun g4 ng4 W => ?_
    have W : Sto h g4 ([(g2.next, .cells [I t.b, .bool t.w, .slice none 0 0] 35 false), (g1.next, .cells [I 0, .bool false, .slice none 0 0] 35 false), (h.next, .cells [I t.b, .bool t.w, .slice a t.l.length c] 26 false)] ++ ([] ++ oent 0 35 [])) := W
    refine sy_loop 0 lf g4 (α := Nat × Nat × Value × List Value × List (Nat × AObj)) (fun s => [(1, ptr h.next 0), (2, ptr g1.next 0), (3, ptr g2.next 0), (4, J s.1)])
      (fun s g => s.1 ≤ t.l.length ∧ s.2.2.1 = oslV s.2.1 s.1 ∧ Els (At s.2.2.2.2 d) s.2.2.2.1 (t.l.take s.1) ∧ Sto h g ([(g2.next, .cells [I t.b, .bool t.w, s.2.2.1] 35 false), (g1.next, .cells [I 0, .bool false, .slice none 0 0] 35 false), (h.next, .cells [I t.b, .bool t.w, .slice a t.l.length c] 26 false)] ++ (s.2.2.2.2 ++ oent s.2.1 35 s.2.2.2.1)))
      (fun s _ => t.l.length - s.1) (0, 0, .slice none 0 0, [], []) (by kernel_rfl) (by kernel_rfl)
      ⟨by kernel_rfl, by kernel_rfl, by kernel_rfl, by kernel_rfl, trivial⟩ (show t.l.length - 0 < lf by omega) ⟨Nat.zero_le _, rfl, rfl, W⟩ ?_
    rintro m1 ⟨i, sid, sl, zs, Lc⟩ f1 g ⟨hi, hsl, he, W⟩ ih
    dsimp only at hi hsl he W
    have hsc : scalar sl = true := by rw [hsl]; cases i <;> rfl
    have hwi : i < t.l.length → IntKind.wrap .i64 (Int.ofNat (i + 1)) = Int.ofNat (i + 1) := fun hlt => wrap_nat (by omega)
    refine ow_load (P := Try.prog) (T := 24) (off := 2) 1 2 W rfl rfl (by kernel_rfl) (by kernel_rfl) ?_
    refine ok_go 2 ?_
    refine sy_test 0 (decide (Int.ofNat i < Int.ofNat t.l.length)) (by kernel_rfl) ?_ ?_
    rotate_left
    · intro hlt
      have hlt := no_nat hlt
      have hi' : i = t.l.length := by omega
      subst hi'
      rw [List.take_length] at he
      refine ow_loadA (P := Try.prog) (T := 35) (z := 3) 0 0 W rfl (by kernel_rfl) (by kernel_rfl) rfl (by kernel_rfl) ?_
      refine ow_storeA (P := Try.prog) (T := 35) (v := Value.agg { toList := [Value.int IntKind.i64 (RT.b t), Value.bool (RT.w t), sl] }) 0 1 W ([Value.int IntKind.i64 (RT.b t), Value.bool (RT.w t), sl]) rfl rfl rfl (by kernel_rfl) (by first | rfl | (repeat' (first | exact rfl | assumption | apply sc_cons))) (by kernel_rfl) fun g5 ng5 W => ?_
      refine ow_loadA (P := Try.prog) (T := 35) (z := 3) 0 1 W rfl (by kernel_rfl) (by kernel_rfl) rfl (by kernel_rfl) ?_
      exact sy_done 0 (v := .agg #[I t.b, .bool t.w, sl]) (h := g5) (by kernel_rfl) ⟨_, W.drop 3, by rw [hsl]; exact at_mk he⟩
    intro hlt
    have hlt := ok_nat hlt
    obtain ⟨q, v', e1, e2, A'⟩ := A.elem (P := Try.prog) (T := 24) (e := 26) (kd := .i64) (k := i) (u := t.l[i]) (by kernel_rfl) (by kernel_rfl) (by kernel_rfl) (K.ext W.ext) (List.getElem?_eq_getElem hlt)
    obtain ⟨y, g5, L', ec, V, A2⟩ := rec_ t.l[i] (List.getElem_mem hlt) v' g (K.ext W.ext) A'
    obtain ⟨a2, c2, rfl⟩ := A2.shape
    refine ow_load (P := Try.prog) (T := 33) (off := 2) 1 0 W rfl rfl (by kernel_rfl) (by kernel_rfl) ?_
    refine ow_load (P := Try.prog) (T := 24) (off := 2) 1 2 W rfl rfl (by kernel_rfl) (by kernel_rfl) ?_
    refine sy_load 0 (h' := g) (by kernel_rfl) e1 ?_
    refine sy_load 0 (h' := g) (by kernel_rfl) e2 ?_
    refine sy_call 0 (by kernel_rfl) ec ?_
    have W := W.into V
    refine ow_new 0 W (AObj.cells [Value.int IntKind.i64 (RT.b (RT.l t)[i]), Value.bool (RT.w (RT.l t)[i]), Value.slice a2 (List.length (RT.l (RT.l t)[i])) c2] 35 false) (fun q => Value.slice (some { block := q, off := 0 }) 1 2) (by kernel_rfl) fun g6 ng6 W => ?_
    have W : Sto h g6 ((g5.next, .cells [I (t.l[i]).b, .bool (t.l[i]).w, .slice a2 (t.l[i]).l.length c2] 35 false) :: (([(g2.next, .cells [I t.b, .bool t.w, sl] 35 false), (g1.next, .cells [I 0, .bool false, .slice none 0 0] 35 false), (h.next, .cells [I t.b, .bool t.w, .slice a t.l.length c] 26 false)] ++ (L' ++ Lc)) ++ oent sid 35 zs)) := by
      rw [List.append_assoc, List.append_assoc]; exact W
    have hz : zs.length = i * 3 := by rw [he.len, List.length_take, Nat.min_eq_left hi]
    refine ow_app (P := Try.prog) (t := 33) 0 W sl35 hz rfl rfl (by omega) (by rw [← hsl]; kernel_rfl) fun g7 sl' ng7 hsl' hsc' W => ?_
    have he' : Els (At (L' ++ Lc) d) (zs ++ [I (t.l[i]).b, .bool (t.l[i]).w, .slice a2 (t.l[i]).l.length c2]) (t.l.take (i + 1)) := by
      rw [List.take_succ_eq_append_getElem hlt]
      exact Els.app (A2.mono fun p hp => List.mem_append_left _ hp) (Els.mono (fun _ _ => At.mono fun p hp => List.mem_append_right _ hp) he)
    refine ow_store (P := Try.prog) (T := 33) (off := 2) (v := sl') 1 0 W rfl (Nat.le_of_ble_eq_true (by kernel_rfl)) (by kernel_rfl) (by first | rfl | assumption) (by kernel_rfl) fun g8 ng8 W => ?_
    refine ok_go 1 ?_
    have W : Sto h g8 ([(g2.next, .cells [I t.b, .bool t.w, sl'] 35 false), (g1.next, .cells [I 0, .bool false, .slice none 0 0] 35 false), (h.next, .cells [I t.b, .bool t.w, .slice a t.l.length c] 26 false)] ++ ((L' ++ Lc) ++ oent g6.next 35 (zs ++ [I (t.l[i]).b, .bool (t.l[i]).w, .slice a2 (t.l[i]).l.length c2]))) := by
      rw [← List.append_assoc]; exact W
    exact sy_next 0 _ g8 (by kernel_rfl) (by kernel_rfl) (ih (i + 1, g6.next, sl', _, L' ++ Lc) _ g8 ⟨hlt, hsl', he', W⟩ (show t.l.length - (i + 1) < t.l.length - i by omega) ⟨by kernel_rfl, by kernel_rfl, by kernel_rfl, (by kernel_rfl : _ = Value.int .i64 (IntKind.wrap .i64 (Int.ofNat (i + 1)))).trans (by rw [hwi hlt]), trivial⟩)
  obtain ⟨y, h', e, L', W, A'⟩ := main
  exact ⟨y, h', L', e, W, A'⟩
end Go.Proofs.Ytnfboopfpkaeaaa
