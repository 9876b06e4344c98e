/- GraphC: contracts of functions. -/
import Derived.Test.YtegcmgjldapnmaaDoorProg
import Derived.KernelRfl
import Derived.Test.YtegcmgjldapnmaaDoorSyB
import Derived.Test.YtegcmgjldapnmaaDoorGraphB
import Derived.Test.YtegcmgjldapnmaaDoorGraphP
namespace Go.Proofs.YtegcmgjldapnmaaDoor
open Go Go.Eng Nim
set_option maxRecDepth 100000
/-- What make makes. -/
theorem makeSl {P : Program} {h : Hp} {t e : TypeId} {len : Nat} {z : Value} {inf : TypeInfo} {kd kd' : IntKind} (hu : P.underlying t = some (.slice e)) (hz : zeroOf P e = some z) (hi : P.info? e = some inf) (hb : Nat.ble inf.bytes 4096 = true)
    (hs : Nat.beq z.cells.size inf.size = true) (hsc : z.cells.toList.all scalar = true) (hn : len < 16777216) :
    makeSliceOp P h t (.int kd (Int.ofNat len)) (.int kd' (Int.ofNat len)) = some (.slice (some ⟨h.next, 0, none⟩) len (2 * len), h.new (.cells (zeros z.cells.toList len) e false)) := by
  have h1 : Nat.ble len len = true := Nat.ble_eq_true_of_le (Nat.le_refl _)
  have h2 : Nat.ble len most = true := Nat.ble_eq_true_of_le (by unfold most; omega)
  simp only [makeSliceOp, hu, natOf, hz, hi, h1, h2, hb, hs, hsc]
/-- The cells of states. -/
def stF (S : St) (q : Nat) : Value := if q % 2 = 0 then J (S (q / 2)).1 else I (S (q / 2)).2
theorem stF0 (S : St) (v : Nat) : stF S (v * 2 + 0) = J (S v).1 := by
  unfold stF
  rw [if_pos (by omega), show (v * 2 + 0) / 2 = v by omega]
theorem stF1 (S : St) (v : Nat) : stF S (v * 2 + 1) = I (S v).2 := by
  unfold stF
  rw [if_neg (by omega), show (v * 2 + 1) / 2 = v by omega]
theorem zeros_two : ∀ n, zeros [J 0, I 0] n = cellsF (2 * n) (stF fun _ => (0, 0))
  | 0 => rfl
  | n + 1 => by
    rw [zeros, zeros_two n]
    unfold cellsF
    rw [show 2 * (n + 1) = 2 * n + 1 + 1 by omega, List.range_succ_eq_map, List.range_succ_eq_map]
    simp only [List.map_cons, List.map_map]
    refine congrArg (J 0 :: ·) (congrArg (I 0 :: ·) (List.map_congr_left fun q _ => ?_))
    simp only [Function.comp, stF]
    rw [show (Nat.succ (Nat.succ q)) % 2 = q % 2 by omega]
def updS (S : St) (v : Nat) (x : Nat × Int) : St := fun u => if u = v then x else S u
theorem stF_upd (S : St) (v k : Nat) (d : Int) : updF (updF (stF S) (v * 2 + 0) (J k)) (v * 2 + 1) (I d) = stF (updS S v (k, d)) := by
  funext q
  unfold updF stF updS
  by_cases h1 : q = v * 2 + 1
  · subst h1
    rw [if_pos rfl, if_neg (by omega), if_pos (by omega)]
  · rw [if_neg h1]
    by_cases h0 : q = v * 2 + 0
    · subst h0
      rw [if_pos rfl, if_pos (by omega), if_pos (by omega)]
    · rw [if_neg h0]
      by_cases hq : q % 2 = 0
      · rw [if_pos hq, if_pos hq, if_neg (by omega)]
      · rw [if_neg hq, if_neg hq, if_neg (by omega)]
/-- The states of n vertices lie in block b. -/
structure PS (b n : Nat) (S : St) (h : Hp) : Prop where
  lt : b < h.next
  get : h.get b = some (.cells (cellsF (2 * n) (stF S)) 68 false)
theorem u65 : Tryd.prog.underlying 65 = some (.slice 68) := by kernel_rfl
theorem z68 : sizeT Tryd.prog 68 = some 2 := by kernel_rfl
theorem agg68 : isAggT Tryd.prog 68 = some true := by kernel_rfl
theorem idx65 {b n c v : Nat} (hv : v < n) : indexAddrOp Tryd.prog 65 (.slice (some ⟨b, 0, none⟩) n c) (J v) = some (ptr b (v * 2)) := by
  rw [idxSl u65 z68 hv, Nat.zero_add]
theorem PS.kind {b n : Nat} {S : St} {h : Hp} (H : PS b n S h) {v : Nat} (hv : v < n) : loadT Tryd.prog h 3 (ptr b (v * 2 + 0)) = some (J (S v).1) :=
  load1 aggI H.get (by rw [cellsF_get (by omega), stF0])
theorem PS.dist {b n : Nat} {S : St} {h : Hp} (H : PS b n S h) {v : Nat} (hv : v < n) : loadT Tryd.prog h 3 (ptr b (v * 2 + 1)) = some (I (S v).2) :=
  load1 aggI H.get (by rw [cellsF_get (by omega), stF1])
theorem PS.both {b n : Nat} {S : St} {h : Hp} (H : PS b n S h) {v : Nat} (hv : v < n) : loadT Tryd.prog h 68 (ptr b (v * 2)) = some (.agg #[J (S v).1, I (S v).2]) := by
  have h0 : (cellsF (2 * n) (stF S))[v * 2 + 0]? = some (J (S v).1) := by rw [cellsF_get (by omega), stF0]
  have h1 : (cellsF (2 * n) (stF S))[v * 2 + 1]? = some (I (S v).2) := by rw [cellsF_get (by omega), stF1]
  have hd : (cellsF (2 * n) (stF S)).drop (v * 2) = J (S v).1 :: I (S v).2 :: (cellsF (2 * n) (stF S)).drop (v * 2 + 1 + 1) := by
    obtain ⟨l0, e0⟩ := List.getElem?_eq_some_iff.1 h0
    obtain ⟨l1, e1⟩ := List.getElem?_eq_some_iff.1 h1
    show List.drop (v * 2 + 0) _ = _
    rw [List.drop_eq_getElem_cons l0, e0]
    show _ :: List.drop (v * 2 + 1) _ = _
    rw [List.drop_eq_getElem_cons l1, e1]
  simp only [loadT, agg68, z68, loadN, H.get, hd, takeN]
theorem PS.store {b n : Nat} {S : St} {h : Hp} (H : PS b n S h) {v k : Nat} {d : Int} (hv : v < n) : ∃ h', storeT Tryd.prog h 68 (ptr b (v * 2)) (.agg #[J k, I d]) = some h' ∧ PS b n (updS S v (k, d)) h' ∧ h'.next = h.next ∧ ∀ j, j ≠ b → h'.get j = h.get j := by
  have hlen : (cellsF (2 * n) (stF S)).length = 2 * n := cellsF_len _ _
  have hb : Nat.ble (v * 2 + [J k, I d].length) (cellsF (2 * n) (stF S)).length = true := Nat.ble_eq_true_of_le (by rw [hlen]; simp; omega)
  have hs : splice (cellsF (2 * n) (stF S)) (v * 2) [J k, I d] = cellsF (2 * n) (stF (updS S v (k, d))) := by
    rw [← stF_upd, ← cellsF_set, ← cellsF_set]
    generalize hL : cellsF (2 * n) (stF S) = L at hlen
    refine List.ext_getElem? fun q => ?_
    unfold splice
    rw [List.getElem?_set, List.getElem?_set, List.length_set, hlen]
    by_cases q1 : q < v * 2
    · rw [if_neg (by omega), if_neg (by omega), List.append_assoc, List.getElem?_append_left (by simp; omega), List.getElem?_take, if_pos q1]
    · rw [List.append_assoc, List.getElem?_append_right (by simp; omega)]
      simp only [List.length_take, hlen]
      rw [show q - min (v * 2) (2 * n) = q - v * 2 by omega]
      by_cases q2 : q = v * 2
      · subst q2
        rw [if_neg (by omega), if_pos (by omega), if_pos (by omega)]
        simp
      · by_cases q3 : q = v * 2 + 1
        · subst q3
          rw [if_pos (by omega), if_pos (by omega)]
          simp [show v * 2 + 1 - v * 2 = 1 by omega]
        · rw [if_neg (by omega), if_neg (by omega), List.getElem?_append_right (by simp; omega), List.getElem?_drop]
          simp only [List.length_cons, List.length_nil]
          rw [show v * 2 + 2 + (q - v * 2 - (0 + 1 + 1)) = q by omega]
  refine ⟨h.put b (.cells (cellsF (2 * n) (stF (updS S v (k, d)))) 68 false), ?_, ⟨H.lt, get_put _ _ _⟩, rfl, fun j hj => Hp.get_put_ne hj⟩
  have hall : [J k, I d].all scalar = true := rfl
  have hsz : (Value.agg #[J k, I d]).cells.size = 2 := rfl
  have hcl : (Value.agg #[J k, I d]).cells.toList = [J k, I d] := rfl
  have hbe : Nat.beq 2 2 = true := rfl
  simp only [storeT, ptr, z68, hsz, hcl, hbe, storeN, H.get, hb, hall, hs]
def opEq : Oper := { dst := none, op := .binOp .eql 68 (.tmp 0) (.tmp 1) 68, type := 0, pos := "", after := #[], guard := none }
def rhoEq (x y : Value) : Operand → Value
  | .tmp 0 => x
  | _ => y
theorem eq68 (a b c e : Int) (h : Hp) : (pureOp Tryd.prog (rhoEq (.agg #[I a, I b]) (.agg #[I c, I e])) opEq).map (·, h) = some (.bool (decide (a = c ∧ b = e)), h) := by
  have h5 : pureRun Tryd.prog (Op.equal 68 (.agg #[I a, I b]) (.agg #[I c, I e])) = some (decide (a = c ∧ b = e)) := by
    refine run_equal_agg (P := Tryd.prog) (fs := (match Tryd.prog.underlying 68 with | some (.struct fs) => fs | _ => #[])) (by kernel_rfl) (by kernel_rfl) (by kernel_rfl) (by kernel_rfl) ?_
    simp only [eqRes, if_true]
    by_cases h1 : a = c
    · by_cases h2 : b = e
      · simp [h1, h2]
      · simp [h1, h2]
    · simp [h1]
  have hp : pureOp Tryd.prog (rhoEq (.agg #[I a, I b]) (.agg #[I c, I e])) opEq = some (.bool (decide (a = c ∧ b = e))) := by
    refine pureOp_of (by kernel_rfl) ?_ rfl
    show pureRun Tryd.prog (execOp (rhoEq (.agg #[I a, I b]) (.agg #[I c, I e])) opEq) = _
    simp only [execOp, opEq, rhoEq]
    have h4 : pureRun Tryd.prog (eqGuard .eql 68 (.tmp 0) (.tmp 1) (.agg #[I a, I b]) (.agg #[I c, I e])) = some () := by kernel_rfl
    change pureRun Tryd.prog (((eqGuard .eql 68 (.tmp 0) (.tmp 1) (.agg #[I a, I b]) (.agg #[I c, I e])).bind fun _ => (Op.equal 68 (.agg #[I a, I b]) (.agg #[I c, I e])).bind fun r => Sem.pure (Value.bool r)).bind fun r => Sem.pure (Next.value r)) = _
    rw [pureRun_bnd, pureRun_bnd, h4]
    simp only [Option.bind_some]
    rw [pureRun_bnd, h5]
    rfl
  rw [hp]
  rfl
end Go.Proofs.YtegcmgjldapnmaaDoor
