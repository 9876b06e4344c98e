/- What all texts of these heaps use. -/
import Derived.Test.YtegcmgjldapnmaaDoorProg
import Derived.KernelRfl
import Derived.Test.YtegcmgjldapnmaaDoorSyF
import Derived.Test.YtegcmgjldapnmaaDoorWinQA
import Derived.Test.YtegcmgjldapnmaaDoorAwake
import Derived.ChangeKeysEq
namespace Go.Proofs.YtegcmgjldapnmaaDoor
open Go Go.Eng Nim
set_option maxRecDepth 100000
/-- A number that is not less than 0. -/
abbrev J (a : Nat) : Value := .int .i64 (Int.ofNat a)
abbrev I (a : Int) : Value := .int .i64 a
noncomputable abbrev Ev (lf n f : Nat) (l : List Value) (h : Hp) := evInv Tryd.prog orc lf n (.fn f l) h
theorem ok_nat {a b : Nat} (h : decide (Int.ofNat a < Int.ofNat b) = true) : a < b := by have := of_decide_eq_true h; simpa using this
theorem no_nat {a b : Nat} (h : decide (Int.ofNat a < Int.ofNat b) = false) : b ≤ a := by have := of_decide_eq_false h; simp at this; omega
theorem wrap_add {a b : Nat} (h : a + b < 2 ^ 62) : IntKind.wrap .i64 (Int.ofNat a + Int.ofNat b) = Int.ofNat (a + b) := wrap_nat (by omega)
theorem wrap_sub {a b : Nat} (h : b ≤ a) (h2 : a < 2 ^ 62) : IntKind.wrap .i64 (Int.ofNat a - Int.ofNat b) = Int.ofNat (a - b) := by
  have : (Int.ofNat a - Int.ofNat b) = Int.ofNat (a - b) := by
    show (a : Int) - (b : Int) = ((a - b : Nat) : Int)
    omega
  rw [this]
  exact wrap_nat (by omega)
theorem slz32 : SlTz Tryd.prog 32 3 1 := ⟨by kernel_rfl, by kernel_rfl, ⟨_, rfl, by kernel_rfl⟩, ⟨_, rfl, by kernel_rfl⟩, by decide⟩
theorem agI : isAggT Tryd.prog 3 = some false := by kernel_rfl
theorem agB : isAggT Tryd.prog 4 = some false := by kernel_rfl
structure ArB (b N : Nat) (v : Nat → Bool) (h : Hp) : Prop where
  lt : b < h.next
  get : ∃ opn, h.get b = some (.cells (cellsF N fun x => Value.bool (v x)) 4 opn)
theorem ArB.read {b N : Nat} {v : Nat → Bool} {h : Hp} (H : ArB b N v h) {x : Nat} (hx : x < N) : loadT Tryd.prog h 4 (ptr b x) = some (Value.bool (v x)) := by
  obtain ⟨o, e⟩ := H.get
  exact load1 agB e (cellsF_get hx)
theorem ArB.congr {b N : Nat} {v v' : Nat → Bool} {h : Hp} (H : ArB b N v h) (e : ∀ x, x < N → v x = v' x) : ArB b N v' h := by
  obtain ⟨o, e'⟩ := H.get
  exact ⟨H.lt, o, by rw [e']; exact congrArg (fun l => some (AObj.cells l 4 o)) (cellsF_congr fun x hx => by rw [e x hx])⟩
end Go.Proofs.YtegcmgjldapnmaaDoor
namespace Go.Proofs.YtegcmgjldapnmaaDoor
open Go Go.Eng Nim
set_option maxRecDepth 100000
/-- A string of bytes. -/
def strL (l : List Nat) : ByteArray := ⟨(l.map fun n => n.toUInt8).toArray⟩
theorem strL_size (l : List Nat) : (strL l).size = l.length := by
  show ((l.map fun n => n.toUInt8).toArray).size = _
  simp
theorem strL_app (a b : List Nat) : strL a ++ strL b = strL (a ++ b) := by
  apply ByteArray.ext
  rw [ByteArray.data_append]
  show (a.map fun n => n.toUInt8).toArray ++ (b.map fun n => n.toUInt8).toArray = _
  simp [strL]
/-- Each string is one of numbers below 256. -/
theorem strL_of (s : ByteArray) : ∃ l : List Nat, s = strL l ∧ ∀ n ∈ l, n < 256 := by
  refine ⟨s.data.toList.map UInt8.toNat, ?_, fun n hn => ?_⟩
  · apply ByteArray.ext
    show _ = ((s.data.toList.map UInt8.toNat).map fun n => n.toUInt8).toArray
    rw [List.map_map, show ((fun n : Nat => n.toUInt8) ∘ UInt8.toNat) = id from funext fun x => by simp, List.map_id]
  · obtain ⟨u, _, rfl⟩ := List.mem_map.1 hn
    exact u.toNat_lt
/-- What a pure operation comes to. -/
noncomputable def pureX (c : Sem Value) : Option Value := match pureRun Tryd.prog (do pure (Next.value (← c)) : Sem Next) with
  | some (.value v) => match flat v with
    | true => some v
    | false => none
  | _ => none
theorem pureX_of {c : Sem Value} {v : Value} (h : pureRun Tryd.prog c = some v) (hf : flat v = true) : pureX c = some v := by
  unfold pureX
  have : pureRun Tryd.prog (do pure (Next.value (← c)) : Sem Next) = some (.value v) := by
    rw [pureRun_bind, h]; rfl
  rw [this]
  simp only [hf]
theorem u9 : Tryd.prog.underlying 9 = some .string := by kernel_rfl
theorem hu9 : pureRun Tryd.prog (underlying 9) = some .string := by kernel_rfl
theorem u70 : Tryd.prog.underlying 70 = some (.slice 5) := by kernel_rfl
theorem u5 : Tryd.prog.underlying 5 = some (.int .u8) := by kernel_rfl
theorem strL_get {l : List Nat} {i n : Nat} (h : l[i]? = some n) : (strL l)[i]? = some n.toUInt8 := by
  have hi : i < l.length := (List.getElem?_eq_some_iff.1 h).1
  have hs : i < (strL l).size := by rw [strL_size]; exact hi
  rw [getElem?_pos (strL l) i hs]
  congr 1
  show ((l.map fun n => n.toUInt8).toArray)[i]'_ = _
  have := (List.getElem?_eq_some_iff.1 h).2
  simp [this]
theorem x_index {l : List Nat} {i n : Nat} (h : l[i]? = some n) (hn : n < 256) : pureX (Instr.index 9 (.string (strL l)) (J i)) = some (.int .u8 (Int.ofNat n)) := by
  refine pureX_of ?_ rfl
  have e : (strL l)[(Int.ofNat i).toNat]? = some n.toUInt8 := strL_get h
  have h0 : (0 : Int) ≤ Int.ofNat i := Int.natCast_nonneg i
  have hm : n.toUInt8.toNat = n := by simp; omega
  unfold Instr.index
  simp only [asIntOf, pureRun_bind, hu9, pure, pureRun, Option.bind_some, if_pos h0, e]
  rw [hm]
  rfl
theorem x_add {a b : List Nat} (h : a.length + b.length < 2 ^ 62) : pureX (binOp .add 9 (.string (strL a)) (.string (strL b))) = some (.string (strL (a ++ b))) := by
  refine pureX_of ?_ rfl
  rw [← strL_app]
  have hs : ¬ ((((strL a).size + (strL b).size : Nat) : Int) > IntKind.i64.max) := by
    rw [strL_size, strL_size]
    show ¬ ((9223372036854775807 : Int) < ((a.length + b.length : Nat) : Int))
    omega
  simp only [binOp, Op.stringOp, hs, if_false]
  rfl
/-- The string of one byte. -/
theorem x_byte {g : Hp} {q k c : Nat} {z : Int} {e : TypeId} {o : Bool} (hz : z = Int.ofNat k) (hg : g.get q = some (.cells [.int .u8 z] e o)) : bytesStr Tryd.prog g 70 9 (.slice (some ⟨q, 0, none⟩) 1 c) = some (.string (strL [k])) := by
  subst hz
  have hl : elems g 1 1 (.slice (some ⟨q, 0, none⟩) 1 c) = some [.int .u8 (Int.ofNat k)] := by
    simp only [elems, loadN, hg]; rfl
  simp only [bytesStr, u70, u9, u5, hl]
  rfl
end Go.Proofs.YtegcmgjldapnmaaDoor
namespace Go.Proofs.YtegcmgjldapnmaaDoor
open Go Go.Eng Nim
set_option maxRecDepth 100000
theorem strL_list (l : List Nat) : (strL l).toList = l.map fun n => n.toUInt8 := by
  rw [ByteArray.toList_eq]
  show ((l.map fun n => n.toUInt8).toArray).toList = _
  simp
theorem strL_inj {a b : List Nat} (ha : ∀ n ∈ a, n < 256) (hb : ∀ n ∈ b, n < 256) : ((strL a).toList == (strL b).toList) = decide (a = b) := by
  rw [strL_list, strL_list]
  have key : ∀ (a b : List Nat), (∀ n ∈ a, n < 256) → (∀ n ∈ b, n < 256) → (a.map fun n => n.toUInt8) = (b.map fun n => n.toUInt8) → a = b := by
    intro a
    induction a with
    | nil => intro b _ _ h; cases b with
      | nil => rfl
      | cons y q => simp at h
    | cons x r ih =>
      intro b h1 h2 h
      cases b with
      | nil => simp at h
      | cons y q =>
        simp only [List.map_cons, List.cons.injEq] at h
        have hx := h1 x (by simp)
        have hy := h2 y (by simp)
        have : x.toUInt8.toNat = y.toUInt8.toNat := by rw [h.1]
        have hxy : x = y := by simp at this; omega
        rw [hxy, ih q (fun n hn => h1 n (by simp [hn])) (fun n hn => h2 n (by simp [hn])) h.2]
  by_cases h : a = b
  · subst h; simp
  · rw [decide_eq_false h]
    exact beq_eq_false_iff_ne.2 fun h2 => h (key a b ha hb h2)
theorem strL_cut (l : List Nat) (a b : Nat) : (strL l).extract a b = strL ((l.take b).drop a) := by
  apply ByteArray.ext
  rw [ByteArray.data_extract]
  show ((l.map fun n => n.toUInt8).toArray).extract a b = (((l.take b).drop a).map fun n => n.toUInt8).toArray
  rw [List.extract_toArray, List.extract_eq_take_drop, List.map_drop, List.map_take, List.drop_take]
theorem x_drop {l : List Nat} {k : Nat} (h : k ≤ l.length) : pureX (Instr.sliceAt 9 (.string (strL l)) (some (J k)) none none) = some (.string (strL (l.drop k))) := by
  refine pureX_of ?_ rfl
  have h0 : (0 : Int) ≤ Int.ofNat k ∧ Int.ofNat k ≤ ((strL l).size : Int) := ⟨Int.natCast_nonneg k, by rw [strL_size]; show (k : Int) ≤ _; omega⟩
  unfold Instr.sliceAt Instr.slice Instr.sliceBounds Instr.sliceBound
  simp only [pureRun_bind, hu9, pureRun, pure, asIntOf, Option.bind_some, if_pos h0, Option.isSome_none, Bool.false_eq_true, if_false]
  rw [strL_size, strL_cut, List.take_length]
  rfl
theorem x_take {l : List Nat} {k : Nat} (h : k ≤ l.length) : pureX (Instr.sliceAt 9 (.string (strL l)) none (some (J k)) none) = some (.string (strL (l.take k))) := by
  refine pureX_of ?_ rfl
  have h0 : (0 : Int) ≤ Int.ofNat k ∧ Int.ofNat k ≤ ((strL l).size : Int) := ⟨Int.natCast_nonneg k, by rw [strL_size]; show (k : Int) ≤ _; omega⟩
  unfold Instr.sliceAt Instr.slice Instr.sliceBounds Instr.sliceBound
  simp only [pureRun_bind, hu9, pureRun, pure, asIntOf, Option.bind_some, if_pos h0, Option.isSome_none, Bool.false_eq_true, if_false]
  rw [strL_cut, List.drop_zero]
  rfl
end Go.Proofs.YtegcmgjldapnmaaDoor
namespace Go.Proofs.YtegcmgjldapnmaaDoor
open Go Go.Eng Nim
set_option maxRecDepth 100000
set_option maxHeartbeats 4000000
/-- The digits of the law's code. -/
def codeD (l : List Nat) : List Nat := if l = [] then [7] else (l.take 8).map (· % 8)
def codeS (d : List Nat) : List Nat := [48, 46] ++ d.map (48 + ·)
theorem u8_nat {a : Nat} (h : a < 256) : IntKind.wrap .u8 (Int.ofNat a) = Int.ofNat a := Int.emod_eq_of_lt (Int.natCast_nonneg _) (by show ((a : Nat) : Int) < 2 ^ 8; omega)
theorem code_len {l : List Nat} {i : Nat} (h1 : 0 < l.length) (h2 : 0 < i) : (Int.ofNat (strL ([48, 46] ++ (l.take i).map (fun n => 48 + n % 8))).size == Int.ofNat 2) = false := by
  rw [strL_size, List.length_append, List.length_map, List.length_take]
  refine beq_eq_false_iff_ne.2 fun h => ?_
  have : [48, 46].length + min i l.length = 2 := Int.ofNat.inj h
  simp only [List.length_cons, List.length_nil] at this
  omega
theorem code_of (l : List Nat) (hl : ∀ n ∈ l, n < 256) (lf m : Nat) (hlf : 300 ≤ lf) (h : Hp) : ∃ v h', Ev lf (m + 1) 27 [.string (strL l)] h = some (v, h') ∧ v = .string (strL (codeS (codeD l))) ∧ h.Ext h' := by
  refine fnS_ok (Q := fun v h' => v = .string (strL (codeS (codeD l))) ∧ h.Ext h') ?_
  have W := Sto.start h
  refine sy_loop 0 lf h (α := Nat) (fun x => [(0, .string (strL l)), (3, .string (strL ([48, 46] ++ (l.take x).map (fun n => 48 + n % 8)))), (4, J x)]) (fun x g => x ≤ 8 ∧ x ≤ l.length ∧ h.Ext g) (fun x _ => 8 - x) 0 (by kernel_rfl) (by kernel_rfl)
    ⟨by kernel_rfl, by kernel_rfl, by kernel_rfl, trivial⟩ (show 8 - 0 < lf by omega) ⟨Nat.zero_le _, Nat.zero_le _, Hp.Ext.refl h⟩ ?_
  rintro m1 i f1 g ⟨hi, hil, X⟩ ih
  have W := Sto.start g
  refine ok_go 2 ?_
  refine sy_test 0 (decide (Int.ofNat i < Int.ofNat (strL l).size)) (by kernel_rfl) ?_ ?_
  · intro ht
    have ht : i < l.length := by have := ok_nat ht; rwa [strL_size] at this
    refine sy_test 3 (decide (Int.ofNat i < 8)) (by kernel_rfl) ?_ ?_
    · intro ht2
      have hi8 : i < 8 := ok_nat ht2
      have hn : l[i]? = some l[i] := List.getElem?_eq_getElem ht
      have hn2 : l[i] < 256 := hl _ (List.getElem_mem ht)
      refine sy_load 0 (r := pureX (Instr.index 9 (.string (strL l)) (J i))) (h' := g) (by kernel_rfl) (x_index hn hn2) ?_
      refine ow_new 2 W (AObj.cells [Value.int IntKind.u8 (IntKind.wrap IntKind.u8 (48 + Int.tmod (Int.ofNat l[i]) 8))] 5 false) (fun q => Value.slice (some { block := q, off := 0 }) 1 2) (by kernel_rfl) fun k1 nk1 Wk1 => ?_
      have W := Wk1
      have hz : IntKind.wrap .u8 (48 + (Int.ofNat l[i]).tmod 8) = Int.ofNat (48 + l[i] % 8) := by
        show IntKind.wrap .u8 (Int.ofNat (48 + l[i] % 8)) = _
        exact u8_nat (by omega)
      refine sy_load 0 (r := bytesStr Tryd.prog k1 70 9 (.slice (some ⟨g.next, 0, none⟩) 1 2)) (h' := k1) (by kernel_rfl) (x_byte hz (W.get 0 rfl)) ?_
      refine ok_go 0 ?_
      refine sy_load 0 (r := pureX (binOp .add 9 (.string (strL ([48, 46] ++ (l.take i).map (fun n => 48 + n % 8)))) (.string (strL [48 + l[i] % 8])))) (h' := k1) (by kernel_rfl) (x_add (by simp; omega)) ?_
      refine ok_go 1 ?_
      have hwi : IntKind.wrap .i64 (Int.ofNat (i + 1)) = Int.ofNat (i + 1) := wrap_nat (by omega)
      have ha : [48, 46] ++ (l.take i).map (fun n => 48 + n % 8) ++ [48 + l[i] % 8] = [48, 46] ++ (l.take (i + 1)).map (fun n => 48 + n % 8) := by
        rw [List.take_succ_eq_append_getElem ht, List.map_append, List.append_assoc]; rfl
      exact sy_next 0 _ k1 (by kernel_rfl) (by kernel_rfl) (ih (i + 1) _ k1 ⟨by omega, by omega, X.trans W.ext⟩ (show 8 - (i + 1) < 8 - i by omega) ⟨by kernel_rfl, (by kernel_rfl : _ = Value.string (strL ([48, 46] ++ (l.take i).map (fun n => 48 + n % 8) ++ [48 + l[i] % 8]))).trans (by rw [ha]), (by kernel_rfl : _ = Value.int .i64 (IntKind.wrap .i64 (Int.ofNat (i + 1)))).trans (by rw [hwi]), trivial⟩)
    · intro ht2
      have hi8 : 8 ≤ i := no_nat (b := 8) ht2
      refine ok_go 2 ?_
      by_cases hl0 : l = []
      · subst hl0
        obtain rfl : i = 0 := by simpa using hil
        refine sy_done 2 (v := Value.string (strL ([48, 46] ++ List.map (fun n => 48 + n % 8) (List.take 0 [])) ++ { data := #[55] })) (h := g) (by kernel_rfl) ?_
        exact ⟨rfl, X⟩
      · have hlp : 0 < l.length := List.length_pos_iff.2 hl0
        refine sy_no 0 (b := Int.ofNat (strL ([48, 46] ++ (l.take i).map (fun n => 48 + n % 8))).size == Int.ofNat 2) (by kernel_rfl) (code_len hlp (by omega)) ?_
        refine sy_done 0 (v := Value.string (strL ([48, 46] ++ List.map (fun n => 48 + n % 8) (List.take i l)))) (h := g) (by kernel_rfl) ?_
        refine ⟨?_, X⟩
        have ht8 : l.take i = l.take 8 := by
          rcases Nat.lt_or_ge i l.length with h1 | h1
          · rw [show i = 8 by omega]
          · rw [List.take_of_length_le h1, List.take_of_length_le (by omega)]
        simp only [codeS, codeD]
        rw [if_neg hl0, List.map_map, ht8]
        rfl
  · intro ht
    have ht : l.length ≤ i := by have := no_nat ht; rw [strL_size] at this; omega
    refine ok_go 5 ?_
    by_cases hl0 : l = []
    · subst hl0
      obtain rfl : i = 0 := by simpa using hil
      refine sy_done 2 (v := Value.string (strL ([48, 46] ++ List.map (fun n => 48 + n % 8) (List.take 0 [])) ++ { data := #[55] })) (h := g) (by kernel_rfl) ?_
      exact ⟨rfl, X⟩
    · have hlp : 0 < l.length := List.length_pos_iff.2 hl0
      refine sy_no 0 (b := Int.ofNat (strL ([48, 46] ++ (l.take i).map (fun n => 48 + n % 8))).size == Int.ofNat 2) (by kernel_rfl) (code_len hlp (by omega)) ?_
      refine sy_done 0 (v := Value.string (strL ([48, 46] ++ List.map (fun n => 48 + n % 8) (List.take i l)))) (h := g) (by kernel_rfl) ?_
      refine ⟨?_, X⟩
      have ht8 : l.take i = l.take 8 := by
        rcases Nat.lt_or_ge i l.length with h1 | h1
        · rw [show i = 8 by omega]
        · rw [List.take_of_length_le h1, List.take_of_length_le (by omega)]
      simp only [codeS, codeD]
      rw [if_neg hl0, List.map_map, ht8]
      rfl
end Go.Proofs.YtegcmgjldapnmaaDoor
namespace Go.Proofs.YtegcmgjldapnmaaDoor
open Go Go.Eng Nim
set_option maxRecDepth 100000
set_option maxHeartbeats 4000000
theorem has_of (l : List Nat) (lf m : Nat) (hl : ∀ n ∈ l, n < 256) (h : Hp) : Ev lf (m + 1) 100 [.string (strL l), .string (strL [48, 46])] h = some (.bool (decide (l.take 2 = [48, 46])), h) := by
  refine fn_eq ?_
  refine sy_test 3 (decide (Int.ofNat (ByteArray.size (strL l)) ≥ Int.ofNat (ByteArray.size (strL [48, 46])))) (by kernel_rfl) ?_ ?_
  · intro ht
    have h2 : 2 ≤ l.length := by
      have := of_decide_eq_true ht
      rw [strL_size] at this
      exact Int.ofNat_le.1 this
    refine ok_go 4 ?_
    refine sy_load 0 (r := pureX (Instr.sliceAt 9 (.string (strL l)) none (some (J 2)) none)) (h' := h) (by kernel_rfl) (x_take h2) ?_
    refine sy_done 4 (v := Value.bool (ByteArray.toList (strL (List.take 2 l)) == ByteArray.toList (strL [48, 46]))) (h := h) (by kernel_rfl) ?_
    exact ⟨congrArg Value.bool (strL_inj (fun n hn => hl n (List.mem_of_mem_take hn)) (by decide)), rfl⟩
  · intro ht
    have h2 : l.length < 2 := by
      have := of_decide_eq_false ht
      rw [strL_size] at this
      have := Int.ofNat_lt.1 (Int.not_le.1 this)
      exact this
    refine sy_done 6 (v := Value.bool false) (h := h) (by kernel_rfl) ?_
    refine ⟨?_, rfl⟩
    rw [decide_eq_false]
    intro h3
    have := congrArg List.length h3
    rw [List.length_take] at this
    simp at this
    omega
/-- A set of bytes in memory. -/
def SetB (q : Nat) (f : Nat → Bool) (h : Hp) : Prop := ∃ e o, h.get q = some (.cells (cellsF 256 fun c => .bool (f c)) e o)
theorem contains_of (f : Nat → Bool) (q lf m c : Nat) (hc : c < 256) (h : Hp) (A : SetB q f h) : Ev lf (m + 1) 101 [ptr q 0, .int .u8 (Int.ofNat c)] h = some (.bool (f c), h) := by
  refine fn_eq ?_
  have W := Sto.start h
  obtain ⟨e, o, A⟩ := A
  refine sy_load 1 (r := indexAddrOp Tryd.prog 98 (ptr (q) (0)) (Value.int IntKind.u8 (Int.ofNat c))) (h' := h) (by kernel_rfl) (idxA0 (e := 4) (n := 256) (by kernel_rfl) (by kernel_rfl) (by omega)) ?_
  refine sy_load 0 (r := loadT Tryd.prog h 4 (ptr q c)) (h' := h) (v := .bool (f c)) (by kernel_rfl) (load1 agB A (cellsF_get hc)) ?_
  refine sy_done 0 (v := Value.bool (f c)) (h := h) (by kernel_rfl) ?_
  exact ⟨rfl, rfl⟩
theorem cutp_of (l : List Nat) (lf m : Nat) (h : Hp) (hp : ∀ h, Ev lf m 100 [.string (strL l), .string (strL [48, 46])] h = some (.bool (decide (l.take 2 = [48, 46])), h)) :
    Ev lf (m + 1) 70 [.string (strL l), .string (strL [48, 46])] h = some (.tuple #[.string (strL (if l.take 2 = [48, 46] then l.drop 2 else l)), .bool (decide (l.take 2 = [48, 46]))], h) := by
  refine fn_eq ?_
  have W := Sto.start h
  refine sy_call 0 (by kernel_rfl) (hp (h)) ?_
  by_cases hd : l.take 2 = [48, 46]
  · rw [decide_eq_true hd, if_pos hd]
    have h2 : 2 ≤ l.length := by
      have := congrArg List.length hd
      rw [List.length_take] at this
      simp at this
      omega
    refine ok_go 3 ?_
    refine sy_load 0 (r := pureX (Instr.sliceAt 9 (.string (strL l)) (some (J 2)) none none)) (h' := h) (by kernel_rfl) (x_drop h2) ?_
    refine sy_done 0 (v := Value.tuple { toList := [Value.string (strL (List.drop 2 l)), Value.bool true] }) (h := h) (by kernel_rfl) ?_
    exact ⟨rfl, rfl⟩
  · rw [decide_eq_false hd, if_neg hd]
    refine sy_done 2 (v := Value.tuple { toList := [Value.string (strL l), Value.bool false] }) (h := h) (by kernel_rfl) ?_
    exact ⟨rfl, rfl⟩
theorem cut_of (l : List Nat) (lf m : Nat) (h : Hp) (hp : ∀ h, Ev lf m 70 [.string (strL l), .string (strL [48, 46])] h = some (.tuple #[.string (strL (if l.take 2 = [48, 46] then l.drop 2 else l)), .bool (decide (l.take 2 = [48, 46]))], h)) :
    Ev lf (m + 1) 60 [.string (strL l), .string (strL [48, 46])] h = some (.tuple #[.string (strL (if l.take 2 = [48, 46] then l.drop 2 else l)), .bool (decide (l.take 2 = [48, 46]))], h) := by
  refine fn_eq ?_
  refine sy_call 0 (by kernel_rfl) (hp (h)) ?_
  refine sy_done 2 (v := Value.tuple { toList := [Value.string (strL (if List.take 2 l = [48, 46] then List.drop 2 l else l)), Value.bool (decide (List.take 2 l = [48, 46]))] }) (h := h) (by kernel_rfl) ?_
  exact ⟨rfl, rfl⟩
theorem upd_take {l : List Nat} {i : Nat} (ht : i < l.length) : cellsF 256 (updF (fun c => Value.bool ((l.take i).contains c)) l[i] (.bool true)) = cellsF 256 (fun c => Value.bool ((l.take (i + 1)).contains c)) := by
  refine cellsF_congr fun c _ => ?_
  rw [List.take_succ_eq_append_getElem ht]
  unfold updF
  by_cases hc : c = l[i]
  · rw [if_pos hc]
    exact congrArg Value.bool (List.contains_iff_mem.2 (List.mem_append_right _ (List.mem_singleton.2 hc))).symm
  · rw [if_neg hc]
    show Value.bool ((l.take i).contains c) = _
    have : (l.take i).contains c = (l.take i ++ [l[i]]).contains c := by
      rw [Bool.eq_iff_iff, List.contains_iff_mem, List.contains_iff_mem, List.mem_append, List.mem_singleton]
      exact ⟨.inl, fun h => h.resolve_right hc⟩
    rw [this]
theorem cellsF_all {N : Nat} {f : Nat → Value} (h : ∀ c, scalar (f c) = true) : (cellsF N f).all scalar = true := by
  rw [List.all_eq_true]
  intro v hv
  obtain ⟨c, _, rfl⟩ := List.mem_map.1 hv
  exact h c
theorem ow_storeAF {P : Program} {h H : Hp} {l : List (Nat × AObj)} {Q : Value → Hp → Prop} (n k : Nat) {t : SA} (W : Sto h H l) {i N : Nat} {T : TypeId} {f : Nat → Value} {cs : List Value} {e : TypeId} {opn : Bool} (hk : l[k]? = some (i, .cells cs e opn)) (hl : N = cs.length) (hs : sizeT P T = some N) (hf : ∀ c, scalar (f c) = true)
    (he : askR (goS n t) = (storeT P H T (ptr i 0) (.agg (cellsF N f).toArray)).map (undef, ·)) (hq : ∀ H', H'.next = H.next → Sto h H' (l.set k (i, .cells (cellsF N f) e opn)) → Ok Q (askK (goS n t) undef H')) : Ok Q t :=
  ow_storeA n k W (cellsF N f) hk rfl (by rw [cellsF_len]; exact hl) (by rw [cellsF_len]; exact hs) (cellsF_all hf) he hq
/-- A set of bytes. -/
theorem set_of (l : List Nat) (hl : ∀ n ∈ l, n < 128) (hll : l.length ≤ 100) (lf m : Nat) (hlf : 300 ≤ lf) (h : Hp) : ∃ v h', Ev lf (m + 1) 73 [.string (strL l)] h = some (v, h') ∧ v = .tuple #[.agg (cellsF 256 fun c => .bool (l.contains c)).toArray, .bool true] ∧ h.Ext h' := by
  refine fnS_ok (Q := fun v h' => v = .tuple #[.agg (cellsF 256 fun c => .bool (l.contains c)).toArray, .bool true] ∧ h.Ext h') ?_
  have W := Sto.start h
  refine ow_new 0 W (.cells (cellsF 256 fun _ => .bool false) 98 false) (fun q => ptr q 0) (by kernel_rfl) fun g1 ng1 W => ?_
  refine sy_loop 0 lf g1 (α := Nat) (fun x => [(0, .string (strL l)), (2, ptr h.next 0), (3, .bool false), (4, J x)]) (fun x g => x ≤ l.length ∧ Sto h g [(h.next, .cells (cellsF 256 fun c => .bool ((l.take x).contains c)) 98 false)]) (fun x _ => l.length - x) 0 (by kernel_rfl) (by kernel_rfl)
    ⟨by kernel_rfl, by kernel_rfl, by kernel_rfl, by kernel_rfl, trivial⟩ (show l.length - 0 < lf by omega) ⟨Nat.zero_le _, W⟩ ?_
  rintro m1 i f1 g ⟨hi, W⟩ ih
  refine ok_go 2 ?_
  refine sy_test 0 (decide (Int.ofNat i < Int.ofNat (strL l).size)) (by kernel_rfl) ?_ ?_
  · intro ht
    have ht : i < l.length := by have := ok_nat ht; rwa [strL_size] at this
    have hn : l[i]? = some l[i] := List.getElem?_eq_getElem ht
    have hn2 : l[i] < 128 := hl _ (List.getElem_mem ht)
    refine ok_go 0 ?_
    refine sy_load 0 (r := pureX (Instr.index 9 (.string (strL l)) (J i))) (h' := g) (by kernel_rfl) (x_index hn (by omega)) ?_
    refine ok_go 1 ?_
    refine sy_no 0 (b := decide (Int.ofNat l[i] ≥ 128)) (by kernel_rfl) ?_ ?_
    · exact decide_eq_false (by show ¬ ((128 : Int) ≤ (l[i] : Int)); omega)
    refine sy_load 0 (r := indexAddrOp Tryd.prog 98 (ptr (Hp.next h) (0)) (Value.int IntKind.u8 (Int.ofNat l[i]))) (h' := g) (by kernel_rfl) (idxA0 (e := 4) (n := 256) (by kernel_rfl) (by kernel_rfl) (by omega)) ?_
    refine ow_storeF (P := Tryd.prog) (T := 4) (off := l[i]) (v := Value.bool true) 0 0 W rfl (by omega) (by kernel_rfl) (by first | rfl | assumption) (by kernel_rfl) fun k1 nk1 Wk1 => ?_
    have W := Wk1
    refine ok_go 1 ?_
    have hw : IntKind.wrap .i64 (Int.ofNat (i + 1)) = Int.ofNat (i + 1) := wrap_nat (by omega)
    rw [List.set_cons_zero, upd_take ht] at W
    exact sy_next 0 _ k1 (by kernel_rfl) (by kernel_rfl) (ih (i + 1) _ k1 ⟨ht, W⟩ (show l.length - (i + 1) < l.length - i by omega) ⟨by kernel_rfl, by kernel_rfl, by kernel_rfl, (by kernel_rfl : _ = Value.int .i64 (IntKind.wrap .i64 (Int.ofNat (i + 1)))).trans (by rw [hw]), trivial⟩)
  · intro ht
    have ht : l.length ≤ i := by have := no_nat ht; rwa [strL_size] at this
    have hti : l.take i = l := List.take_of_length_le ht
    rw [hti] at W
    refine ok_go 0 ?_
    refine ow_loadA (P := Tryd.prog) (T := 98) (z := 256) 0 0 W rfl (by kernel_rfl) (by kernel_rfl) (takeN_all (cellsF 256 fun c => Value.bool (l.contains c))) (by kernel_rfl) ?_
    refine ow_storeAF (P := Tryd.prog) (T := 98) (N := 256) (f := fun c => Value.bool (l.contains c)) 0 0 W rfl (by rw [cellsF_len]) (by kernel_rfl) (fun c => rfl) (by kernel_rfl) fun k1 nk1 W => ?_
    refine ok_go 0 ?_
    refine ow_loadA (P := Tryd.prog) (T := 98) (z := 256) 0 0 W rfl (by kernel_rfl) (by kernel_rfl) (takeN_all (cellsF 256 fun c => Value.bool (l.contains c))) (by kernel_rfl) ?_
    refine sy_done 0 (v := Value.tuple { toList := [Value.agg { toList := cellsF 256 fun c => Value.bool (List.contains l c) }, Value.bool true] }) (h := k1) (by kernel_rfl) ?_
    exact ⟨rfl, W.ext⟩
end Go.Proofs.YtegcmgjldapnmaaDoor
namespace Go.Proofs.YtegcmgjldapnmaaDoor
open Go Go.Eng Nim
set_option maxRecDepth 100000
set_option maxHeartbeats 4000000
theorem right_of (f : Nat → Bool) (q : Nat) (l : List Nat) (hl : ∀ n ∈ l, n < 256) (hll : l.length ≤ 100000) (lf m : Nat) (hlf : l.length < lf) (h : Hp) (co : ∀ c, c < 256 → Ev lf m 101 [ptr q 0, .int .u8 (Int.ofNat c)] h = some (.bool (f c), h)) :
    ∃ v h', Ev lf (m + 1) 75 [.string (strL l), ptr q 0] h = some (v, h') ∧ h' = h ∧ ∃ k, v = .string (strL (l.take k)) ∧ k ≤ l.length ∧ (∀ j, k ≤ j → ∀ n, l[j]? = some n → f n = true) ∧ (k = 0 ∨ ∃ n, l[k - 1]? = some n ∧ f n = false) := by
  refine fnS_ok (Q := fun v h' => h' = h ∧ ∃ k, v = .string (strL (l.take k)) ∧ k ≤ l.length ∧ (∀ j, k ≤ j → ∀ n, l[j]? = some n → f n = true) ∧ (k = 0 ∨ ∃ n, l[k - 1]? = some n ∧ f n = false)) ?_
  have W := Sto.start h
  refine sy_loop 0 lf h (α := Nat) (fun d => [(0, .string (strL (l.take (l.length - d)))), (1, ptr q 0)]) (fun d g => d ≤ l.length ∧ g = h ∧ ∀ j, l.length - d ≤ j → ∀ n, l[j]? = some n → f n = true) (fun d _ => l.length - d) 0 (by kernel_rfl) (by kernel_rfl)
    ⟨(by kernel_rfl : _ = Value.string (strL l)).trans (by rw [Nat.sub_zero, List.take_length]), by kernel_rfl, trivial⟩ (show l.length - 0 < lf by omega) ⟨Nat.zero_le _, rfl, fun j hj n hn => by have := (List.getElem?_eq_some_iff.1 hn).1; omega⟩ ?_
  rintro m1 d f1 g ⟨hd, rfl, ha⟩ ih
  have hlen : (strL (l.take (l.length - d))).size = l.length - d := by rw [strL_size, List.length_take]; omega
  have W := Sto.start g
  refine ok_go 2 ?_
  refine sy_test 0 (decide (Int.ofNat (ByteArray.size (strL (List.take (List.length l - d) l))) > 0)) (by kernel_rfl) ?_ ?_
  · intro ht
    have hlt : d < l.length := by
      have : (0 : Int) < ((strL (l.take (l.length - d))).size : Int) := of_decide_eq_true ht
      rw [hlen] at this
      omega
    have hk : l[l.length - d - 1]? = some l[l.length - d - 1] := List.getElem?_eq_getElem (by omega)
    have hk2 : (l.take (l.length - d))[l.length - d - 1]? = some l[l.length - d - 1] := by rw [List.getElem?_take, if_pos (by omega)]; exact hk
    have hn2 : l[l.length - d - 1] < 256 := hl _ (List.getElem_mem _)
    have hw : IntKind.wrap .i64 (Int.ofNat (strL (l.take (l.length - d))).size - 1) = Int.ofNat (l.length - d - 1) := by
      rw [hlen]; exact wrap_sub (b := 1) (by omega) (by omega)
    refine ok_go 2 ?_
    refine sy_load 0 (r := pureX (Instr.index 9 (.string (strL (l.take (l.length - d)))) (I (IntKind.wrap .i64 (Int.ofNat (strL (l.take (l.length - d))).size - 1))))) (h' := g) (by kernel_rfl) (by rw [hw]; exact x_index hk2 hn2) ?_
    have co := co _ hn2
    refine sy_call 0 (by kernel_rfl) (co) ?_
    cases hf : f l[l.length - d - 1] with
    | false =>
      refine sy_done 2 (v := Value.string (strL (List.take (List.length l - d) l))) (h := g) (by kernel_rfl) ?_
      exact ⟨rfl, _, rfl, by omega, ha, .inr ⟨_, hk, hf⟩⟩
    | true =>
      refine ok_go 4 ?_
      refine sy_load 0 (r := pureX (Instr.sliceAt 9 (.string (strL (l.take (l.length - d)))) none (some (I (IntKind.wrap .i64 (Int.ofNat (strL (l.take (l.length - d))).size - 1)))) none)) (h' := g) (by kernel_rfl) (by rw [hw]; exact x_take (by rw [List.length_take]; omega)) ?_
      refine ok_go 0 ?_
      have e : (l.take (l.length - d)).take (l.length - d - 1) = l.take (l.length - (d + 1)) := by rw [List.take_take]; congr 1; omega
      exact sy_next 0 _ g (by kernel_rfl) (by kernel_rfl) (ih (d + 1) _ g ⟨hlt, rfl, fun j hj n hn => by
        rcases Nat.lt_or_ge j (l.length - d) with h1 | h1
        · obtain rfl : j = l.length - d - 1 := by omega
          rw [hk] at hn
          cases hn
          exact hf
        · exact ha j h1 n hn⟩ (show l.length - (d + 1) < l.length - d by omega) ⟨(by kernel_rfl : _ = Value.string (strL ((l.take (l.length - d)).take (l.length - d - 1)))).trans (by rw [e]), by kernel_rfl, trivial⟩)
  · intro ht
    have hlt : d = l.length := by
      have : ¬ (0 : Int) < ((strL (l.take (l.length - d))).size : Int) := of_decide_eq_false ht
      rw [hlen] at this
      omega
    refine sy_done 0 (v := Value.string (strL (List.take (List.length l - d) l))) (h := g) (by kernel_rfl) ?_
    exact ⟨rfl, _, rfl, by omega, ha, .inl (by omega)⟩
end Go.Proofs.YtegcmgjldapnmaaDoor
namespace Go.Proofs.YtegcmgjldapnmaaDoor
open Go Go.Eng Nim
set_option maxRecDepth 100000
set_option maxHeartbeats 4000000
theorem left_of (f : Nat → Bool) (q : Nat) (l : List Nat) (hl : ∀ n ∈ l, n < 256) (hll : l.length ≤ 100000) (lf m : Nat) (hlf : l.length < lf) (h : Hp) (co : ∀ c, c < 256 → Ev lf m 101 [ptr q 0, .int .u8 (Int.ofNat c)] h = some (.bool (f c), h)) :
    ∃ v h', Ev lf (m + 1) 74 [.string (strL l), ptr q 0] h = some (v, h') ∧ h' = h ∧ ∃ k, v = .string (strL (l.drop k)) ∧ k ≤ l.length ∧ (∀ j, j < k → ∀ n, l[j]? = some n → f n = true) ∧ (k = l.length ∨ ∃ n, l[k]? = some n ∧ f n = false) := by
  refine fnS_ok (Q := fun v h' => h' = h ∧ ∃ k, v = .string (strL (l.drop k)) ∧ k ≤ l.length ∧ (∀ j, j < k → ∀ n, l[j]? = some n → f n = true) ∧ (k = l.length ∨ ∃ n, l[k]? = some n ∧ f n = false)) ?_
  have W := Sto.start h
  refine sy_loop 0 lf h (α := Nat) (fun d => [(0, .string (strL (l.drop d))), (1, ptr q 0)]) (fun d g => d ≤ l.length ∧ g = h ∧ ∀ j, j < d → ∀ n, l[j]? = some n → f n = true) (fun d _ => l.length - d) 0 (by kernel_rfl) (by kernel_rfl)
    ⟨(by kernel_rfl : _ = Value.string (strL l)).trans (by rw [List.drop_zero]), by kernel_rfl, trivial⟩ (show l.length - 0 < lf by omega) ⟨Nat.zero_le _, rfl, fun j hj => by omega⟩ ?_
  rintro m1 d f1 g ⟨hd, rfl, ha⟩ ih
  have hlen : (strL (l.drop d)).size = l.length - d := by rw [strL_size, List.length_drop]
  have W := Sto.start g
  refine ok_go 2 ?_
  refine sy_test 0 (decide (Int.ofNat (ByteArray.size (strL (List.drop d l))) > 0)) (by kernel_rfl) ?_ ?_
  · intro ht
    have hlt : d < l.length := by
      have : (0 : Int) < ((strL (l.drop d)).size : Int) := of_decide_eq_true ht
      rw [hlen] at this
      omega
    have hk : l[d]? = some l[d] := List.getElem?_eq_getElem hlt
    have hk2 : (l.drop d)[0]? = some l[d] := by rw [List.getElem?_drop]; exact hk
    have hn2 : l[d] < 256 := hl _ (List.getElem_mem _)
    refine sy_load 0 (r := pureX (Instr.index 9 (.string (strL (l.drop d))) (J 0))) (h' := g) (by kernel_rfl) (x_index hk2 hn2) ?_
    have co := co _ hn2
    refine sy_call 0 (by kernel_rfl) (co) ?_
    cases hf : f l[d] with
    | false =>
      refine sy_done 2 (v := Value.string (strL (List.drop d l))) (h := g) (by kernel_rfl) ?_
      exact ⟨rfl, _, rfl, by omega, ha, .inr ⟨_, hk, hf⟩⟩
    | true =>
      refine ok_go 2 ?_
      refine sy_load 0 (r := pureX (Instr.sliceAt 9 (.string (strL (l.drop d))) (some (J 1)) none none)) (h' := g) (by kernel_rfl) (x_drop (by rw [List.length_drop]; omega)) ?_
      refine ok_go 0 ?_
      exact sy_next 0 _ g (by kernel_rfl) (by kernel_rfl) (ih (d + 1) _ g ⟨hlt, rfl, fun j hj n hn => by
        rcases Nat.lt_or_ge j d with h1 | h1
        · exact ha j h1 n hn
        · obtain rfl : j = d := by omega
          rw [hk] at hn
          cases hn
          exact hf⟩ (show l.length - (d + 1) < l.length - d by omega) ⟨(by kernel_rfl : _ = Value.string (strL ((l.drop d).drop 1))).trans (by rw [List.drop_drop]), by kernel_rfl, trivial⟩)
  · intro ht
    have hlt : d = l.length := by
      have : ¬ (0 : Int) < ((strL (l.drop d)).size : Int) := of_decide_eq_false ht
      rw [hlen] at this
      omega
    refine sy_done 0 (v := Value.string (strL (List.drop d l))) (h := g) (by kernel_rfl) ?_
    exact ⟨rfl, _, rfl, by omega, ha, .inl (by omega)⟩
def octs : List Nat := [48, 49, 50, 51, 52, 53, 54, 55]
theorem trim_of (l : List Nat) (hl : ∀ n ∈ l, n < 256) (hll : l.length ≤ 90000) (lf m : Nat) (hlf : 300 ≤ lf) (h : Hp)
    (st : ∀ h, ∃ v h', Ev lf m 73 [.string (strL octs)] h = some (v, h') ∧ v = .tuple #[.agg (cellsF 256 fun c => .bool (octs.contains c)).toArray, .bool true] ∧ h.Ext h')
    (ri : ∀ q h, SetB q (fun c => octs.contains c) h → ∃ v h', Ev lf m 75 [.string (strL l), ptr q 0] h = some (v, h') ∧ h' = h ∧ ∃ k, v = .string (strL (l.take k)) ∧ k ≤ l.length ∧ (∀ j, k ≤ j → ∀ n, l[j]? = some n → octs.contains n = true) ∧ (k = 0 ∨ ∃ n, l[k - 1]? = some n ∧ octs.contains n = false))
    (le : ∀ l q h, (∀ n ∈ l, n < 256) → l.length ≤ 90000 → SetB q (fun c => octs.contains c) h → ∃ v h', Ev lf m 74 [.string (strL l), ptr q 0] h = some (v, h') ∧ h' = h ∧ ∃ k, v = .string (strL (l.drop k)) ∧ k ≤ l.length ∧ (∀ j, j < k → ∀ n, l[j]? = some n → octs.contains n = true) ∧ (k = l.length ∨ ∃ n, l[k]? = some n ∧ octs.contains n = false)) :
    ∃ v h', Ev lf (m + 1) 61 [.string (strL l), .string (strL octs)] h = some (v, h') ∧ h.Ext h' ∧ ∃ r, v = .string (strL r) ∧ (∀ n ∈ r, n < 256) ∧ (r = [] ↔ ∀ n ∈ l, octs.contains n = true) := by
  refine fnS_ok (Q := fun v h' => h.Ext h' ∧ ∃ r, v = .string (strL r) ∧ (∀ n ∈ r, n < 256) ∧ (r = [] ↔ ∀ n ∈ l, octs.contains n = true)) ?_
  have W := Sto.start h
  by_cases h0 : l = []
  · subst h0
    refine sy_done 5 (v := Value.string (strL [])) (h := h) (by kernel_rfl) ?_
    exact ⟨Hp.Ext.refl h, [], rfl, hl, ⟨fun _ n hn => (by cases hn), fun _ => rfl⟩⟩
  · refine ok_go 1 ?_
    refine sy_no 0 (b := ((strL l).toList == (strL []).toList)) (by kernel_rfl) (by rw [strL_inj hl (by simp)]; exact decide_eq_false h0) ?_
    refine ok_go 11 ?_
    obtain ⟨y1, q1, ec1, rc1⟩ := st (h)
    refine sy_call 0 (by kernel_rfl) ec1 ?_
    obtain ⟨rfl, X⟩ := rc1
    have W := W.call X
    refine ok_go 2 ?_
    refine ow_new 0 W (.cells (cellsF 256 fun _ => .bool false) 98 false) (fun q => ptr q 0) (by kernel_rfl) fun g1 ng1 W => ?_
    refine ok_go 0 ?_
    refine ow_storeAF (P := Tryd.prog) (T := 98) (N := 256) (f := fun c => Value.bool (octs.contains c)) 0 0 W rfl (by rw [cellsF_len]) (by kernel_rfl) (fun c => rfl) (by kernel_rfl) fun g2 ng2 W => ?_
    have S : SetB q1.next (fun c => octs.contains c) g2 := ⟨_, _, W.get 0 rfl⟩
    obtain ⟨_, q2, e2, hq2, k, rfl, hk, ha, hb⟩ := ri q1.next g2 S
    subst hq2
    obtain ⟨_, q3, e3, hq3, j, rfl, hj, hc, hd⟩ := le (l.take k) q1.next _ (fun n hn => hl n (List.mem_of_mem_take hn)) (by rw [List.length_take]; omega) S
    subst hq3
    refine ok_go 1 ?_
    refine sy_call 0 (by kernel_rfl) e2 ?_
    refine ok_go 0 ?_
    refine sy_call 0 (by kernel_rfl) e3 ?_
    refine sy_done 0 (v := Value.string (strL (List.drop j (List.take k l)))) (h := q3) (by kernel_rfl) ?_
    refine ⟨W.ext, _, rfl, fun n hn => hl n (List.mem_of_mem_take (List.mem_of_mem_drop hn)), fun h1 n hn => ?_, fun h1 => ?_⟩
    · rcases hb with rfl | ⟨z, hz, hf⟩
      · obtain ⟨i, hi⟩ := List.mem_iff_getElem?.1 hn
        exact ha i (Nat.zero_le i) n hi
      · have h2 : ((l.take k).drop j).length = 0 := by rw [h1]; rfl
        have h3 := (List.getElem?_eq_some_iff.1 hz).1
        have h4 : (l.take k)[k - 1]? = some z := by
          rcases Nat.eq_zero_or_pos k with h0 | h0
          · subst h0
            rw [List.length_drop, List.length_take] at h2
            rcases hd with hd | ⟨y, hy, _⟩
            · exact absurd hf (by
                rw [ha 0 (Nat.le_refl 0) z hz]; simp)
            · simp at hy
          · rw [List.getElem?_take, if_pos (by omega)]; exact hz
        have h5 := (List.getElem?_eq_some_iff.1 h4).1
        rw [List.length_drop] at h2
        have := hc (k - 1) (by omega) z h4
        rw [hf] at this
        cases this
    · have h2 : k = 0 := by
        rcases hb with hb | ⟨z, hz, hf⟩
        · exact hb
        · rw [h1 z (List.mem_of_getElem? hz)] at hf; cases hf
      subst h2
      simp
theorem check_of (l : List Nat) (hl : ∀ n ∈ l, n < 256) (lf m : Nat) (h : Hp)
    (cu : ∀ h, Ev lf m 60 [.string (strL l), .string (strL [48, 46])] h = some (.tuple #[.string (strL (if l.take 2 = [48, 46] then l.drop 2 else l)), .bool (decide (l.take 2 = [48, 46]))], h))
    (tr : ∀ l h, (∀ n ∈ l, n < 256) → l.length ≤ 8 → ∃ v h', Ev lf m 61 [.string (strL l), .string (strL octs)] h = some (v, h') ∧ h.Ext h' ∧ ∃ r, v = .string (strL r) ∧ (∀ n ∈ r, n < 256) ∧ (r = [] ↔ ∀ n ∈ l, octs.contains n = true)) :
    ∃ v h', Ev lf (m + 1) 40 [.string (strL l)] h = some (v, h') ∧ h.Ext h' ∧ ∃ e, v = J e ∧ (e = 0 ∨ e = 60) ∧ (e = 0 ↔ ∃ d : List Nat, l = codeS d ∧ 1 ≤ d.length ∧ d.length ≤ 8 ∧ ∀ n ∈ d, n < 8) := by
  refine fnS_ok (Q := fun v h' => h.Ext h' ∧ ∃ e, v = J e ∧ (e = 0 ∨ e = 60) ∧ (e = 0 ↔ ∃ d : List Nat, l = codeS d ∧ 1 ≤ d.length ∧ d.length ≤ 8 ∧ ∀ n ∈ d, n < 8)) ?_
  have W := Sto.start h
  refine sy_call 0 (by kernel_rfl) (cu (h)) ?_
  by_cases hp : l.take 2 = [48, 46]
  · rw [decide_eq_true hp, if_pos hp]
    have hl2 : l = 48 :: 46 :: l.drop 2 := by
      have := List.take_append_drop 2 l
      rw [hp] at this
      exact this.symm
    have hdl : ∀ n ∈ l.drop 2, n < 256 := fun n hn => hl n (List.mem_of_mem_drop hn)
    generalize l.drop 2 = d at *
    have hcod : (∃ d : List Nat, l = codeS d ∧ 1 ≤ d.length ∧ d.length ≤ 8 ∧ ∀ n ∈ d, n < 8) ↔ 1 ≤ d.length ∧ d.length ≤ 8 ∧ ∀ n ∈ d, octs.contains n = true := by
      constructor
      · rintro ⟨c, rfl, h1, h2, h3⟩
        have : d = c.map (48 + ·) := by
          have := hl2
          simp only [codeS, List.cons_append, List.nil_append, List.cons.injEq, true_and] at this
          exact this.symm
        subst this
        rw [List.length_map]
        refine ⟨h1, h2, fun n hn => ?_⟩
        obtain ⟨x, hx, rfl⟩ := List.mem_map.1 hn
        have := h3 x hx
        rcases (by omega : x = 0 ∨ x = 1 ∨ x = 2 ∨ x = 3 ∨ x = 4 ∨ x = 5 ∨ x = 6 ∨ x = 7) with rfl | rfl | rfl | rfl | rfl | rfl | rfl | rfl <;> rfl
      · rintro ⟨h1, h2, h3⟩
        have h4 : ∀ n ∈ d, 48 ≤ n ∧ n < 56 := fun n hn => by
          have := h3 n hn
          rw [List.contains_iff_mem] at this
          simp only [octs, List.mem_cons, List.not_mem_nil, or_false] at this
          omega
        refine ⟨d.map (· - 48), ?_, by rwa [List.length_map], by rwa [List.length_map], fun n hn => ?_⟩
        · rw [hl2, codeS, List.map_map]
          have : d.map ((48 + ·) ∘ (· - 48)) = d := by
            conv => rhs; rw [← List.map_id d]
            refine List.map_congr_left fun n hn => ?_
            have := h4 n hn
            show 48 + (n - 48) = n
            omega
          rw [this]; rfl
        · obtain ⟨x, hx, rfl⟩ := List.mem_map.1 hn
          have := h4 x hx
          show x - 48 < 8
          omega
    rw [hcod]
    have hsz : (strL d).size = d.length := strL_size d
    refine sy_test 9 (decide (Int.ofNat (ByteArray.size (strL d)) < 1)) (by kernel_rfl) ?_ ?_
    · intro ht
      have ht : d.length < 1 := by have := of_decide_eq_true ht; rw [hsz] at this; exact Int.ofNat_lt.1 this
      refine sy_done 8 (v := Value.int IntKind.i64 (Int.ofNat 60)) (h := h) (by kernel_rfl) ?_
      exact ⟨Hp.Ext.refl _, 60, rfl, .inr rfl, fun h => (by cases h), fun h => (by omega)⟩
    · intro ht
      have ht : 1 ≤ d.length := by have := of_decide_eq_false ht; rw [hsz] at this; exact Nat.le_of_not_lt fun h => this (Int.ofNat_lt.2 h)
      refine ok_go 5 ?_
      refine sy_test 0 (decide (Int.ofNat (ByteArray.size (strL d)) > 8)) (by kernel_rfl) ?_ ?_
      · intro ht8
        have ht8 : 8 < d.length := by have := of_decide_eq_true ht8; rw [hsz] at this; exact Int.ofNat_lt.1 this
        refine sy_done 4 (v := Value.int IntKind.i64 (Int.ofNat 60)) (h := h) (by kernel_rfl) ?_
        exact ⟨Hp.Ext.refl _, 60, rfl, .inr rfl, fun h => (by cases h), fun h => (by omega)⟩
      · intro ht8
        have ht8 : d.length ≤ 8 := by have := of_decide_eq_false ht8; rw [hsz] at this; exact Nat.le_of_not_lt fun h => this (Int.ofNat_lt.2 h)
        obtain ⟨v1, q1, e1, X1, r, rfl, hr, hrr⟩ := tr d h hdl ht8
        refine ok_go 1 ?_
        refine sy_call 0 (by kernel_rfl) e1 ?_
        by_cases hr0 : r = []
        · refine ok_go 3 ?_
          refine sy_no 0 (b := !((strL r).toList == (strL []).toList)) (by kernel_rfl) (by rw [strL_inj hr (by simp), decide_eq_true hr0]; rfl) ?_
          refine sy_done 0 (v := Value.int IntKind.i64 (Int.ofNat 0)) (h := q1) (by kernel_rfl) ?_
          exact ⟨X1, 0, rfl, .inl rfl, fun _ => ⟨ht, ht8, hrr.1 hr0⟩, fun _ => rfl⟩
        · refine ok_go 3 ?_
          refine sy_yes 0 (b := !((strL r).toList == (strL []).toList)) (by kernel_rfl) (by rw [strL_inj hr (by simp), decide_eq_false hr0]; rfl) ?_
          refine sy_done 0 (v := Value.int IntKind.i64 (Int.ofNat 60)) (h := q1) (by kernel_rfl) ?_
          exact ⟨X1, 60, rfl, .inr rfl, fun h => (by cases h), fun h => absurd (hrr.2 h.2.2) hr0⟩
  · rw [decide_eq_false hp, if_neg hp]
    refine sy_done 16 (v := Value.int IntKind.i64 (Int.ofNat 60)) (h := h) (by kernel_rfl) ?_
    refine ⟨Hp.Ext.refl _, 60, rfl, .inr rfl, fun h => (by cases h), fun h => ?_⟩
    obtain ⟨d, rfl, _⟩ := h
    exact absurd rfl hp
end Go.Proofs.YtegcmgjldapnmaaDoor
namespace Go.Proofs.YtegcmgjldapnmaaDoor
open Go Go.Eng Nim
set_option maxRecDepth 100000
set_option maxHeartbeats 4000000
/-- The next letter of a string, as the evaluator asks for it. -/
noncomputable def nextR (i : Nat) (h : Hp) : Option (Value × Hp) := match h.get i with
  | some (.iter s pos) => match Nat.blt pos s.size with
    | true =>
      let d := Utf8.decode s pos
      some (.tuple #[.bool true, .int .i64 pos, .int .i32 d.1], h.put i (.iter s (pos + d.2)))
    | false => some (.tuple #[.bool false], h)
  | _ => none
theorem decode_of {l : List Nat} {i n : Nat} (h : l[i]? = some n) (hn : n < 128) : Utf8.decode (strL l) i = (n, 1) := by
  have hi : i < l.length := (List.getElem?_eq_some_iff.1 h).1
  have e : ((strL l).get! (i + 0)).toNat = n := by
    show (((l.map fun n : Nat => n.toUInt8).toArray)[i]!).toNat = n
    have h2 := (List.getElem?_eq_some_iff.1 h).2
    rw [getElem!_pos _ i (by simpa using hi)]
    simp [h2]
    omega
  unfold Utf8.decode
  simp only [e, if_pos hn]
theorem ow_next {h H : Hp} {l : List (Nat × AObj)} {Q : Value → Hp → Prop} (n k : Nat) {t : SA} (W : Sto h H l) {i p z : Nat} {s : List Nat} (hk : l[k]? = some (i, .iter (strL s) p)) (hp : s[p]? = some z) (hz : z < 128) (he : askR (goS n t) = nextR i H)
    (hq : ∀ H', H'.next = H.next → Sto h H' (l.set k (i, .iter (strL s) (p + 1))) → Ok Q (askK (goS n t) (.tuple #[.bool true, J p, .int .i32 (Int.ofNat z)]) H')) : Ok Q t := by
  have hlt : Nat.blt p (strL s).size = true := by
    rw [strL_size]; exact Nat.ble_eq_true_of_le (List.getElem?_eq_some_iff.1 hp).1
  refine sy_call n (v := .tuple #[.bool true, J p, .int .i32 (Int.ofNat z)]) (h' := H.put i (.iter (strL s) (p + 1))) (he.trans ?_) rfl (hq _ rfl (W.put k hk _))
  simp only [nextR, W.get k hk, hlt, decode_of hp hz]
  rfl
theorem ow_over {h H : Hp} {l : List (Nat × AObj)} {Q : Value → Hp → Prop} (n k : Nat) {t : SA} (W : Sto h H l) {i p : Nat} {s : List Nat} (hk : l[k]? = some (i, .iter (strL s) p)) (hp : s.length ≤ p) (he : askR (goS n t) = nextR i H)
    (hq : Ok Q (askK (goS n t) (.tuple #[.bool false]) H)) : Ok Q t := by
  have hlt : Nat.blt p (strL s).size = false := by
    rw [strL_size]
    cases hb : Nat.blt p s.length with
    | false => rfl
    | true => have := Nat.le_of_ble_eq_true hb; omega
  refine sy_call n (he.trans ?_) rfl hq
  simp only [nextR, W.get k hk, hlt]
theorem digits_of (d : List Nat) (hd : ∀ n ∈ d, n < 8) (hl : d.length ≤ 8) (lf m : Nat) (hlf : 300 ≤ lf) (h : Hp) : ∃ v h', Ev lf (m + 1) 49 [.string (strL (codeS d))] h = some (v, h') ∧ ∃ q, v = oslV q d.length ∧ Sto h h' (oent q 3 (d.map J)) := by
  refine fnS_ok (Q := fun v h' => ∃ q, v = oslV q d.length ∧ Sto h h' (oent q 3 (d.map J))) ?_
  have W := Sto.start h
  refine sy_load 0 (r := pureX (Instr.sliceAt 9 (.string (strL (codeS d))) (some (J 2)) none none)) (h' := h) (by kernel_rfl) (x_drop (by simp [codeS])) ?_
  refine ok_go 0 ?_
  refine ow_new 0 W (.iter (strL ((codeS d).drop 2)) 0) (fun q => ptr q 0) (by kernel_rfl) fun g1 ng1 W => ?_
  have hcd : (codeS d).drop 2 = d.map (48 + ·) := rfl
  rw [hcd] at W
  refine sy_loop 0 lf g1 (α := Nat × Nat × Value) (fun x => [(3, x.2.2), (8, ptr h.next 0)]) (fun x g => x.1 ≤ d.length ∧ x.2.2 = oslV x.2.1 x.1 ∧ scalar x.2.2 = true ∧ Sto h g ((h.next, .iter (strL (d.map (48 + ·))) x.1) :: oent x.2.1 3 ((d.take x.1).map J))) (fun x _ => d.length - x.1) (0, 0, .slice none 0 0) (by kernel_rfl) (by kernel_rfl)
    ⟨by kernel_rfl, by kernel_rfl, trivial⟩ (show d.length - 0 < lf by omega) ⟨Nat.zero_le _, rfl, rfl, W⟩ ?_
  rintro m1 ⟨i, q, sl⟩ f1 g ⟨hi, hsl, hsc, W⟩ ih
  dsimp only at hi hsl hsc W
  refine ok_go 0 ?_
  rcases Nat.lt_or_ge i d.length with hlt | hge
  · have hp : (d.map (48 + ·))[i]? = some (48 + d[i]) := by rw [List.getElem?_map, List.getElem?_eq_getElem hlt]; rfl
    have hd8 := hd _ (List.getElem_mem hlt)
    refine ow_next 0 0 W rfl hp (by omega) (by kernel_rfl) fun g2 ng2 W => ?_
    refine ow_new 5 W (AObj.cells [Value.int IntKind.i64 (IntKind.wrap IntKind.i64 (IntKind.wrap IntKind.i32 (Int.ofNat (48 + d[i]) - 48)))] 3 false) (fun q => Value.slice (some { block := q, off := 0 }) 1 2) (by kernel_rfl) fun k1 nk1 Wk1 => ?_
    have W := Wk1
    have hz : IntKind.wrap .i64 (IntKind.wrap .i32 (Int.ofNat (48 + d[i]) - 48)) = Int.ofNat d[i] := by
      have : (Int.ofNat (48 + d[i]) - 48 : Int) = Int.ofNat d[i] := by show ((48 + d[i] : Nat) : Int) - 48 = ((d[i] : Nat) : Int); omega
      rw [this]
      rcases (by omega : d[i] = 0 ∨ d[i] = 1 ∨ d[i] = 2 ∨ d[i] = 3 ∨ d[i] = 4 ∨ d[i] = 5 ∨ d[i] = 6 ∨ d[i] = 7) with e | e | e | e | e | e | e | e <;> rw [e] <;> rfl
    rw [hz] at W
    have hlen : ((d.take i).map J).length = i * 1 := by rw [List.length_map, List.length_take]; omega
    refine ow_app (P := Tryd.prog) (t := 32) (e := 3) (z := 1) (c := i) (i := q) 0 (l := [(h.next, .iter (strL (d.map (48 + ·))) (i + 1))]) W slz32 hlen rfl rfl (by omega) (by rw [← hsl]; kernel_rfl) fun k2 sl2 nk2 hsl2 hsc2 W => ?_
    refine ok_go 0 ?_
    have ht : (d.take i).map J ++ [J d[i]] = (d.take (i + 1)).map J := by rw [List.take_succ_eq_append_getElem hlt, List.map_append]; rfl
    rw [ht] at W
    exact sy_next 0 _ k2 (by kernel_rfl) (by kernel_rfl) (ih (i + 1, _, sl2) _ k2 ⟨hlt, hsl2, hsc2, W⟩ (show d.length - (i + 1) < d.length - i by omega) ⟨by kernel_rfl, by kernel_rfl, trivial⟩)
  · refine ow_over 0 0 W rfl (by rw [List.length_map]; exact hge) (by kernel_rfl) ?_
    refine ok_go 2 ?_
    refine sy_done 0 (v := sl) (h := g) (by kernel_rfl) ?_
    obtain rfl : i = d.length := by omega
    rw [List.take_length] at W
    exact ⟨q, hsl, W.drop 1⟩
end Go.Proofs.YtegcmgjldapnmaaDoor
namespace Go.Proofs.YtegcmgjldapnmaaDoor
open Go Go.Eng Nim
set_option maxRecDepth 100000
set_option maxHeartbeats 4000000
/-- An array of bools in memory. -/
def MarkB (q N : Nat) (f : Nat → Bool) (h : Hp) : Prop := ∃ e o, h.get q = some (.cells (cellsF N fun c => .bool (f c)) e o)
theorem index_of (f : Nat → Bool) (q N c k : Nat) (hN : N ≤ 10000) (hk : k < N) (h1 : f k = false) (h2 : ∀ j, j < k → f j = true) (lf m : Nat) (hlf : 20000 ≤ lf) (h : Hp) (A : MarkB q N f h) :
    Ev lf (m + 1) 105 [.slice (some ⟨q, 0, none⟩) N c, .bool false] h = some (J k, h) := by
  refine fn_eq ?_
  have W := Sto.start h
  obtain ⟨e, o, A⟩ := A
  refine ok_go 1 ?_
  refine sy_loop 0 lf h (α := Nat) (fun x => [(0, .slice (some ⟨q, 0, none⟩) N c), (1, .bool false), (7, J N), (8, J x)]) (fun x g => x ≤ k ∧ g = h) (fun x _ => k - x) 0 (by kernel_rfl) (by kernel_rfl)
    ⟨by kernel_rfl, by kernel_rfl, by kernel_rfl, by kernel_rfl, trivial⟩ (show k - 0 < lf by omega) ⟨Nat.zero_le _, rfl⟩ ?_
  rintro m1 i f1 g ⟨hi, rfl⟩ ih
  have W := Sto.start g
  refine ok_go 1 ?_
  refine sy_yes 0 (b := decide (Int.ofNat i < Int.ofNat N)) (by kernel_rfl) (decide_eq_true (by show (i : Int) < (N : Int); omega)) ?_
  refine sy_load 0 (r := indexAddrOp Tryd.prog 69 (Value.slice (some { block := q, off := 0 }) N c) (Value.int IntKind.i64 (Int.ofNat i))) (h' := g) (by kernel_rfl) (idxS0 (e := 4) (by kernel_rfl) (by kernel_rfl) (by omega)) ?_
  refine sy_load 0 (r := loadT Tryd.prog g 4 (ptr q i)) (h' := g) (v := .bool (f i)) (by kernel_rfl) (load1 agB A (cellsF_get (by omega))) ?_
  rcases Nat.lt_or_ge i k with hlt | hge
  · rw [h2 i hlt]
    have hw : IntKind.wrap .i64 (Int.ofNat (i + 1)) = Int.ofNat (i + 1) := wrap_nat (by omega)
    refine ok_go 3 ?_
    exact sy_next 0 _ g (by kernel_rfl) (by kernel_rfl) (ih (i + 1) _ g ⟨hlt, rfl⟩ (show k - (i + 1) < k - i by omega) ⟨by kernel_rfl, by kernel_rfl, by kernel_rfl, (by kernel_rfl : _ = Value.int .i64 (IntKind.wrap .i64 (Int.ofNat (i + 1)))).trans (by rw [hw]), trivial⟩)
  · obtain rfl : i = k := by omega
    rw [h1]
    refine sy_done 2 (v := Value.int IntKind.i64 (Int.ofNat i)) (h := g) (by kernel_rfl) ?_
    exact ⟨rfl, rfl⟩
theorem missing_of (f : Nat → Bool) (q k : Nat) (lf m : Nat) (h : Hp) (A : MarkB q 8192 f h)
    (ix : ∀ c, Ev lf m 105 [.slice (some ⟨q, 0, none⟩) 8192 c, .bool false] h = some (J k, h)) : Ev lf (m + 1) 79 [ptr q 0] h = some (J k, h) := by
  refine fn_eq ?_
  have W := Sto.start h
  refine ok_go 2 ?_
  refine sy_call 0 (by kernel_rfl) (ix (16384)) ?_
  refine sy_done 0 (v := Value.int IntKind.i64 (Int.ofNat k)) (h := h) (by kernel_rfl) ?_
  exact ⟨rfl, rfl⟩
end Go.Proofs.YtegcmgjldapnmaaDoor
namespace Go.Proofs.YtegcmgjldapnmaaDoor
open Go Go.Eng Nim Oct
set_option maxRecDepth 100000
set_option maxHeartbeats 4000000
theorem ops_snoc (g n : Nat) : ∀ (d : List Nat) (i : Nat), ops (d ++ [g]) i n = ops d i n ++ op1 g (i + d.length) n
  | [], i => by simp [ops]
  | x :: d, i => by
    rw [List.cons_append, ops, ops, ops_snoc g n d (i + 1), List.append_assoc]
    congr 2
    rw [List.length_cons]
    congr 1
    omega
theorem ops_app (n : Nat) : ∀ (d e : List Nat) (i : Nat), ops (d ++ e) i n = ops d i n ++ ops e (i + d.length) n
  | [], e, i => by simp [ops]
  | x :: d, e, i => by
    rw [List.cons_append, ops, ops, ops_app n d e (i + 1), List.append_assoc]
    congr 2
    rw [List.length_cons]
    congr 1
    omega
theorem and1 {g : Nat} (h : g < 8) : (andI (Int.ofNat g) 1 == 0) = !(g % 2 == 1) := by
  rcases (by omega : g = 0 ∨ g = 1 ∨ g = 2 ∨ g = 3 ∨ g = 4 ∨ g = 5 ∨ g = 6 ∨ g = 7) with rfl | rfl | rfl | rfl | rfl | rfl | rfl | rfl <;> rfl
theorem and2 {g : Nat} (h : g < 8) : (andI (Int.ofNat g) 2 != 0) = (g / 2 % 2 == 1) := by
  rcases (by omega : g = 0 ∨ g = 1 ∨ g = 2 ∨ g = 3 ∨ g = 4 ∨ g = 5 ∨ g = 6 ∨ g = 7) with rfl | rfl | rfl | rfl | rfl | rfl | rfl | rfl <;> rfl
theorem and4 {g : Nat} (h : g < 8) : (andI (Int.ofNat g) 4 != 0) = (g / 4 % 2 == 1) := by
  rcases (by omega : g = 0 ∨ g = 1 ∨ g = 2 ∨ g = 3 ∨ g = 4 ∨ g = 5 ∨ g = 6 ∨ g = 7) with rfl | rfl | rfl | rfl | rfl | rfl | rfl | rfl <;> rfl
/-- The moves from a heap, given to a round each. -/
theorem moves_run (d : List Nat) (n : Nat) (hn : n ≤ 10000) (hd : ∀ x ∈ d, x < 8) (hl : d.length ≤ 8) (lf m a b y : Nat) (hlf : 20000 ≤ lf) (xa : Option Addr) (xc : Nat) (Iv : Nat → Hp → Prop)
    (hI : ∀ j g, Iv j g → g.get a = some (.cells [.slice xa d.length xc] 32 false) ∧ g.get b = some (.cells [J n] 3 false) ∧ Rds g (.slice xa d.length xc) (d.map J))
    (hy : ∀ j p g, (ops d 0 n)[j]? = some p → Iv j g → ∃ g', evInv Tryd.prog orc lf m (.yield y [J p.1, J p.2]) g = some (.bool true, g') ∧ Iv (j + 1) g') (h : Hp) (h0 : Iv 0 h) :
    ∃ v h', Ev lf (m + 1) 65 [.func (.yield y) #[] #[], ptr a 0, ptr b 0] h = some (v, h') ∧ Iv (ops d 0 n).length h' := by
  have hpre : ∀ i j p, (ops (d.take i) 0 n)[j]? = some p → (ops d 0 n)[j]? = some p := fun i j p h => by
    rw [← List.take_append_drop i d, ops_app]
    have := (List.getElem?_eq_some_iff.1 h).1
    rw [List.getElem?_append_left this]
    exact h
  refine fnS_ok (Q := fun v h' => Iv (ops d 0 n).length h') ?_
  obtain ⟨ga, gb, R⟩ := hI 0 h h0
  refine sy_load 0 (r := loadT Tryd.prog h 32 (ptr a 0)) (h' := h) (v := .slice xa d.length xc) (by kernel_rfl) (load1 (by kernel_rfl) ga rfl) ?_
  refine ok_go 1 ?_
  refine sy_loop 0 lf h (α := Nat) (fun i => [(0, .func (.yield y) #[] #[]), (1, ptr a 0), (2, ptr b 0), (8, .slice xa d.length xc), (9, J d.length), (10, J i)]) (fun i g => i ≤ d.length ∧ Iv (ops (d.take i) 0 n).length g) (fun i _ => d.length - i) 0 (by kernel_rfl) (by kernel_rfl)
    ⟨by kernel_rfl, by kernel_rfl, by kernel_rfl, by kernel_rfl, by kernel_rfl, by kernel_rfl, trivial⟩ (show d.length - 0 < lf by omega) ⟨Nat.zero_le _, h0⟩ ?_
  rintro m1 i f1 g ⟨hi, hJ⟩ ih
  obtain ⟨ga, gb, R⟩ := hI _ g hJ
  refine ok_go 1 ?_
  refine sy_test 0 (decide (Int.ofNat i < Int.ofNat d.length)) (by kernel_rfl) ?_ ?_
  · intro ht
    have ht := ok_nat ht
    have hw : IntKind.wrap .i64 (Int.ofNat (i + 1)) = Int.ofNat (i + 1) := wrap_nat (by omega)
    have hg8 := hd _ (List.getElem_mem ht)
    have hsn : ops (d.take (i + 1)) 0 n = ops (d.take i) 0 n ++ op1 d[i] i n := by
      rw [List.take_succ_eq_append_getElem ht, ops_snoc, List.length_take, Nat.zero_add, Nat.min_eq_left (by omega)]
    obtain ⟨q1, r1, r2⟩ := R.read (P := Tryd.prog) (t := 32) (e := 3) (kd := .i64) (by kernel_rfl) (by kernel_rfl) (by kernel_rfl) (k := i) (v := J d[i]) (by rw [List.getElem?_map, List.getElem?_eq_getElem ht]; rfl)
    refine ok_go 0 ?_
    refine sy_load 0 (h' := g) (by kernel_rfl) r1 ?_
    refine ok_go 0 ?_
    refine sy_load 0 (h' := g) (by kernel_rfl) r2 ?_
    refine ok_go 0 ?_
    refine sy_load 0 (r := loadT Tryd.prog g 3 (ptr b 0)) (h' := g) (v := J n) (by kernel_rfl) (load1 agI gb rfl) ?_
    generalize d[i] = dg at *
    have hleft : IntKind.wrap .i64 (IntKind.wrap .i64 (Int.ofNat n - Int.ofNat i) - 1) = (n : Int) - i - 1 := by
      rw [wrap_int (x := Int.ofNat n - Int.ofNat i) (by show -(2 ^ 63) ≤ (n : Int) - (i : Int); omega) (by show (n : Int) - (i : Int) < 2 ^ 63; omega)]
      exact wrap_int (by show -(2 ^ 63) ≤ (n : Int) - (i : Int) - 1; omega) (by show (n : Int) - (i : Int) - 1 < 2 ^ 63; omega)
    rcases Nat.lt_or_ge n (i + 1) with hA | hA
    · have ho : op1 dg i n = [] := by unfold op1; rw [if_pos hA]
      refine ok_go 3 ?_
      refine sy_yes 0 (b := decide ((IntKind.wrap .i64 (IntKind.wrap .i64 (Int.ofNat n - Int.ofNat i) - 1)) < 0)) (by kernel_rfl) (by rw [hleft]; exact decide_eq_true (by omega)) ?_
      refine ok_go 6 ?_
      exact sy_next 0 _ g (by kernel_rfl) (by kernel_rfl) (ih (i + 1) _ g ⟨ht, by rw [hsn, List.length_append]; rw [ho]; exact hJ⟩ (show d.length - (i + 1) < d.length - i by omega) ⟨by kernel_rfl, by kernel_rfl, by kernel_rfl, by kernel_rfl, by kernel_rfl, (by kernel_rfl : _ = Value.int .i64 (IntKind.wrap .i64 (Int.ofNat (i + 1)))).trans (by rw [hw]), trivial⟩)
    · refine ok_go 3 ?_
      refine sy_no 0 (b := decide ((IntKind.wrap .i64 (IntKind.wrap .i64 (Int.ofNat n - Int.ofNat i) - 1)) < 0)) (by kernel_rfl) (by rw [hleft]; exact decide_eq_false (by omega)) ?_
      rcases Nat.eq_or_lt_of_le hA with hB | hC
      · have hl0 : (n : Int) - i - 1 = 0 := by omega
        refine ok_go 3 ?_
        refine sy_yes 0 (b := (IntKind.wrap .i64 (IntKind.wrap .i64 (Int.ofNat n - Int.ofNat i) - 1)) == 0) (by kernel_rfl) (by rw [hleft, hl0]; rfl) ?_
        cases h1 : (dg % 2 == 1) with
        | false =>
          have ho : op1 dg i n = [] := by
            unfold op1; rw [if_neg (by omega), if_pos hB.symm, if_neg (by intro h; rw [h] at h1; cases h1)]
          refine ok_go 7 ?_
          refine sy_yes 0 (b := andI (Int.ofNat dg) 1 == 0) (by kernel_rfl) (by rw [and1 hg8, h1]; rfl) ?_
          refine ok_go 1 ?_
          exact sy_next 0 _ g (by kernel_rfl) (by kernel_rfl) (ih (i + 1) _ g ⟨ht, by rw [hsn, List.length_append]; rw [ho]; exact hJ⟩ (show d.length - (i + 1) < d.length - i by omega) ⟨by kernel_rfl, by kernel_rfl, by kernel_rfl, by kernel_rfl, by kernel_rfl, (by kernel_rfl : _ = Value.int .i64 (IntKind.wrap .i64 (Int.ofNat (i + 1)))).trans (by rw [hw]), trivial⟩)
        | true =>
          have ho : op1 dg i n = [(0, 0)] := by
            unfold op1; rw [if_neg (by omega), if_pos hB.symm, if_pos (by simpa using h1)]
          refine ok_go 7 ?_
          refine sy_no 0 (b := andI (Int.ofNat dg) 1 == 0) (by kernel_rfl) (by rw [and1 hg8, h1]; rfl) ?_
          refine ok_go 1 ?_
          refine sy_yes 0 (b := (IntKind.wrap .i64 (IntKind.wrap .i64 (Int.ofNat n - Int.ofNat i) - 1)) == 0) (by kernel_rfl) (by rw [hleft, hl0]; rfl) ?_
          obtain ⟨g1, e1, J1⟩ := hy _ (0, 0) g (by
            have hsub : (ops (d.take (i + 1)) 0 n)[(ops (d.take i) 0 n).length]? = some (0, 0) := by rw [hsn, ho, List.getElem?_append_right (Nat.le_refl _), Nat.sub_self]; rfl
            exact hpre _ _ _ hsub) hJ
          refine ok_go 0 ?_
          refine sy_call 0 (by kernel_rfl) e1 ?_
          refine ok_go 3 ?_
          exact sy_next 0 _ g1 (by kernel_rfl) (by kernel_rfl) (ih (i + 1) _ g1 ⟨ht, by rw [hsn, List.length_append]; rw [ho]; exact J1⟩ (show d.length - (i + 1) < d.length - i by omega) ⟨by kernel_rfl, by kernel_rfl, by kernel_rfl, by kernel_rfl, by kernel_rfl, (by kernel_rfl : _ = Value.int .i64 (IntKind.wrap .i64 (Int.ofNat (i + 1)))).trans (by rw [hw]), trivial⟩)
      · refine ok_go 3 ?_
        refine sy_no 0 (b := (IntKind.wrap .i64 (IntKind.wrap .i64 (Int.ofNat n - Int.ofNat i) - 1)) == 0) (by kernel_rfl) (by rw [hleft]; exact beq_eq_false_iff_ne.2 (by omega)) ?_
        have hLV : (IntKind.wrap .i64 (IntKind.wrap .i64 (Int.ofNat n - Int.ofNat i) - 1)) = Int.ofNat (n - (i + 1)) := by
          rw [hleft]; show (n : Int) - i - 1 = ((n - (i + 1) : Nat) : Int); omega
        have ho : op1 dg i n = (if dg / 2 % 2 = 1 then [(n - (i + 1), 0)] else []) ++ (if dg / 4 % 2 = 1 then (List.range ((n - (i + 1)) / 2)).map fun a => (a + 1, n - (i + 1) - (a + 1)) else []) := by
          unfold op1; rw [if_neg (by omega), if_neg (by omega)]
        refine ok_go 7 ?_
        refine sy_no 0 (b := (IntKind.wrap .i64 (IntKind.wrap .i64 (Int.ofNat n - Int.ofNat i) - 1)) == 0) (by kernel_rfl) (by rw [hleft]; exact beq_eq_false_iff_ne.2 (by omega)) ?_
        refine ok_go 2 ?_
        cases h2 : (dg / 2 % 2 == 1) with
        | false =>
          have h2' : dg / 2 % 2 ≠ 1 := by intro h; rw [h] at h2; cases h2
          have hcnt : (if dg / 2 % 2 = 1 then [(n - (i + 1), 0)] else ([] : List (Nat × Nat))).length = 0 := by rw [if_neg h2']; rfl
          refine sy_no 0 (b := andI (Int.ofNat dg) 2 != 0) (by kernel_rfl) (by rw [and2 hg8, h2]) ?_
          refine ok_go 5 ?_
          refine sy_loop 0 lf g (α := Nat) (fun x => [(0, .func (.yield y) #[] #[]), (1, ptr a 0), (2, ptr b 0), (5, J dg), (6, I (IntKind.wrap .i64 (IntKind.wrap .i64 (Int.ofNat n - Int.ofNat i) - 1))), (7, J x), (8, .slice xa d.length xc), (9, J d.length), (10, J i)]) (fun x g => 1 ≤ x ∧ (dg / 4 % 2 = 1 → 2 * (x - 1) ≤ n - (i + 1)) ∧ (dg / 4 % 2 ≠ 1 → x = 1) ∧ Iv ((ops (d.take i) 0 n).length + 0 + (x - 1)) g) (fun x _ => n - x) 1 (by kernel_rfl) (by kernel_rfl)
            ⟨by kernel_rfl, by kernel_rfl, by kernel_rfl, by kernel_rfl, by kernel_rfl, by kernel_rfl, by kernel_rfl, by kernel_rfl, by kernel_rfl, trivial⟩ (show n - 1 < lf by omega) ⟨Nat.le_refl 1, fun _ => by omega, fun _ => rfl, hJ⟩ ?_
          rintro m2 x f2 gx ⟨hx1, hx2, hx3, Jx⟩ ih2
          cases h4 : (dg / 4 % 2 == 1) with
          | false =>
            have h4' : dg / 4 % 2 ≠ 1 := by intro h; rw [h] at h4; cases h4
            obtain rfl : x = 1 := hx3 h4'
            refine ok_go 2 ?_
            refine sy_no 0 (b := andI (Int.ofNat dg) 4 != 0) (by kernel_rfl) (by rw [and4 hg8, h4]) ?_
            refine ok_go 6 ?_
            exact sy_next 0 _ gx (by kernel_rfl) (by kernel_rfl) (ih (i + 1) _ gx ⟨ht, by rw [hsn, List.length_append]; rw [ho, if_neg h4', List.append_nil, hcnt]; exact Jx⟩ (show d.length - (i + 1) < d.length - i by omega) ⟨by kernel_rfl, by kernel_rfl, by kernel_rfl, by kernel_rfl, by kernel_rfl, (by kernel_rfl : _ = Value.int .i64 (IntKind.wrap .i64 (Int.ofNat (i + 1)))).trans (by rw [hw]), trivial⟩)
          | true =>
            have h4' : dg / 4 % 2 = 1 := by simpa using h4
            have hx2 := hx2 h4'
            have hwx : IntKind.wrap .i64 (2 * Int.ofNat x) = Int.ofNat (2 * x) := wrap_nat (n := 2 * x) (by omega)
            refine ok_go 2 ?_
            refine sy_yes 0 (b := andI (Int.ofNat dg) 4 != 0) (by kernel_rfl) (by rw [and4 hg8, h4]) ?_
            refine ok_go 6 ?_
            refine sy_test 0 (decide (IntKind.wrap .i64 (2 * Int.ofNat x) ≤ (IntKind.wrap .i64 (IntKind.wrap .i64 (Int.ofNat n - Int.ofNat i) - 1)))) (by kernel_rfl) ?_ ?_
            · intro hle
              have hle : 2 * x ≤ n - (i + 1) := by
                have := of_decide_eq_true hle
                rw [hwx, hLV] at this
                exact Int.ofNat_le.1 this
              have hsub : IntKind.wrap .i64 ((IntKind.wrap .i64 (IntKind.wrap .i64 (Int.ofNat n - Int.ofNat i) - 1)) - Int.ofNat x) = Int.ofNat (n - (i + 1) - x) := by rw [hLV]; exact wrap_sub (by omega) (by omega)
              have hw2 : IntKind.wrap .i64 (Int.ofNat (x + 1)) = Int.ofNat (x + 1) := wrap_nat (by omega)
              obtain ⟨g2, e2, J2⟩ := hy _ (x, n - (i + 1) - x) gx (by
                have hsub : (ops (d.take (i + 1)) 0 n)[(ops (d.take i) 0 n).length + 0 + (x - 1)]? = some (x, n - (i + 1) - x) := by
                  rw [hsn, Nat.add_assoc, List.getElem?_append_right (by omega), Nat.add_sub_cancel_left, ho, if_pos h4', List.getElem?_append_right (by rw [hcnt]; omega), hcnt, Nat.add_sub_cancel_left, List.getElem?_map, List.getElem?_range (by omega)]
                  show some (x - 1 + 1, n - (i + 1) - (x - 1 + 1)) = _
                  rw [show x - 1 + 1 = x by omega]
                exact hpre _ _ _ hsub) Jx
              have e2' : evInv Tryd.prog orc lf m (.yield y [J x, I (IntKind.wrap .i64 ((IntKind.wrap .i64 (IntKind.wrap .i64 (Int.ofNat n - Int.ofNat i) - 1)) - Int.ofNat x))]) gx = some (.bool true, g2) := by rw [hsub]; exact e2
              refine ok_go 1 ?_
              refine sy_call 0 (by kernel_rfl) e2' ?_
              refine ok_go 3 ?_
              exact sy_next 0 _ g2 (by kernel_rfl) (by kernel_rfl) (ih2 (x + 1) _ g2 ⟨by omega, fun _ => by omega, fun h => absurd h4' h, by rw [show x + 1 - 1 = x - 1 + 1 by omega, ← Nat.add_assoc]; exact J2⟩ (show n - (x + 1) < n - x by omega) ⟨by kernel_rfl, by kernel_rfl, by kernel_rfl, by kernel_rfl, by kernel_rfl, (by kernel_rfl : _ = Value.int .i64 (IntKind.wrap .i64 (Int.ofNat (x + 1)))).trans (by rw [hw2]), by kernel_rfl, by kernel_rfl, by kernel_rfl, trivial⟩)
            · intro hle
              have hle : n - (i + 1) < 2 * x := by
                have := of_decide_eq_false hle
                rw [hwx, hLV] at this
                exact Int.ofNat_lt.1 (Int.not_le.1 this)
              refine ok_go 1 ?_
              exact sy_next 0 _ gx (by kernel_rfl) (by kernel_rfl) (ih (i + 1) _ gx ⟨ht, by rw [hsn, List.length_append]; rw [ho, if_pos h4', List.length_append, hcnt, List.length_map, List.length_range, show (n - (i + 1)) / 2 = x - 1 by omega, ← Nat.add_assoc]; exact Jx⟩ (show d.length - (i + 1) < d.length - i by omega) ⟨by kernel_rfl, by kernel_rfl, by kernel_rfl, by kernel_rfl, by kernel_rfl, (by kernel_rfl : _ = Value.int .i64 (IntKind.wrap .i64 (Int.ofNat (i + 1)))).trans (by rw [hw]), trivial⟩)
        | true =>
          have h2' : dg / 2 % 2 = 1 := by simpa using h2
          have hcnt : (if dg / 2 % 2 = 1 then [(n - (i + 1), 0)] else ([] : List (Nat × Nat))).length = 1 := by rw [if_pos h2']; rfl
          refine sy_yes 0 (b := andI (Int.ofNat dg) 2 != 0) (by kernel_rfl) (by rw [and2 hg8, h2]) ?_
          obtain ⟨g1, e1, J1⟩ := hy _ (n - (i + 1), 0) g (by
            have hsub : (ops (d.take (i + 1)) 0 n)[(ops (d.take i) 0 n).length]? = some (n - (i + 1), 0) := by rw [hsn, ho, List.getElem?_append_right (Nat.le_refl _), Nat.sub_self, if_pos h2']; rfl
            exact hpre _ _ _ hsub) hJ
          have e1' : evInv Tryd.prog orc lf m (.yield y [I (IntKind.wrap .i64 (IntKind.wrap .i64 (Int.ofNat n - Int.ofNat i) - 1)), J 0]) g = some (.bool true, g1) := by rw [hLV]; exact e1
          refine ok_go 2 ?_
          refine sy_call 0 (by kernel_rfl) e1' ?_
          refine ok_go 4 ?_
          refine ok_go 0 ?_
          refine sy_loop 0 lf g1 (α := Nat) (fun x => [(0, .func (.yield y) #[] #[]), (1, ptr a 0), (2, ptr b 0), (5, J dg), (6, I (IntKind.wrap .i64 (IntKind.wrap .i64 (Int.ofNat n - Int.ofNat i) - 1))), (7, J x), (8, .slice xa d.length xc), (9, J d.length), (10, J i)]) (fun x g => 1 ≤ x ∧ (dg / 4 % 2 = 1 → 2 * (x - 1) ≤ n - (i + 1)) ∧ (dg / 4 % 2 ≠ 1 → x = 1) ∧ Iv ((ops (d.take i) 0 n).length + 1 + (x - 1)) g) (fun x _ => n - x) 1 (by kernel_rfl) (by kernel_rfl)
            ⟨by kernel_rfl, by kernel_rfl, by kernel_rfl, by kernel_rfl, by kernel_rfl, by kernel_rfl, by kernel_rfl, by kernel_rfl, by kernel_rfl, trivial⟩ (show n - 1 < lf by omega) ⟨Nat.le_refl 1, fun _ => by omega, fun _ => rfl, J1⟩ ?_
          rintro m2 x f2 gx ⟨hx1, hx2, hx3, Jx⟩ ih2
          cases h4 : (dg / 4 % 2 == 1) with
          | false =>
            have h4' : dg / 4 % 2 ≠ 1 := by intro h; rw [h] at h4; cases h4
            obtain rfl : x = 1 := hx3 h4'
            refine ok_go 2 ?_
            refine sy_no 0 (b := andI (Int.ofNat dg) 4 != 0) (by kernel_rfl) (by rw [and4 hg8, h4]) ?_
            refine ok_go 6 ?_
            exact sy_next 0 _ gx (by kernel_rfl) (by kernel_rfl) (ih (i + 1) _ gx ⟨ht, by rw [hsn, List.length_append]; rw [ho, if_neg h4', List.append_nil, hcnt]; exact Jx⟩ (show d.length - (i + 1) < d.length - i by omega) ⟨by kernel_rfl, by kernel_rfl, by kernel_rfl, by kernel_rfl, by kernel_rfl, (by kernel_rfl : _ = Value.int .i64 (IntKind.wrap .i64 (Int.ofNat (i + 1)))).trans (by rw [hw]), trivial⟩)
          | true =>
            have h4' : dg / 4 % 2 = 1 := by simpa using h4
            have hx2 := hx2 h4'
            have hwx : IntKind.wrap .i64 (2 * Int.ofNat x) = Int.ofNat (2 * x) := wrap_nat (n := 2 * x) (by omega)
            refine ok_go 2 ?_
            refine sy_yes 0 (b := andI (Int.ofNat dg) 4 != 0) (by kernel_rfl) (by rw [and4 hg8, h4]) ?_
            refine ok_go 6 ?_
            refine sy_test 0 (decide (IntKind.wrap .i64 (2 * Int.ofNat x) ≤ (IntKind.wrap .i64 (IntKind.wrap .i64 (Int.ofNat n - Int.ofNat i) - 1)))) (by kernel_rfl) ?_ ?_
            · intro hle
              have hle : 2 * x ≤ n - (i + 1) := by
                have := of_decide_eq_true hle
                rw [hwx, hLV] at this
                exact Int.ofNat_le.1 this
              have hsub : IntKind.wrap .i64 ((IntKind.wrap .i64 (IntKind.wrap .i64 (Int.ofNat n - Int.ofNat i) - 1)) - Int.ofNat x) = Int.ofNat (n - (i + 1) - x) := by rw [hLV]; exact wrap_sub (by omega) (by omega)
              have hw2 : IntKind.wrap .i64 (Int.ofNat (x + 1)) = Int.ofNat (x + 1) := wrap_nat (by omega)
              obtain ⟨g2, e2, J2⟩ := hy _ (x, n - (i + 1) - x) gx (by
                have hsub : (ops (d.take (i + 1)) 0 n)[(ops (d.take i) 0 n).length + 1 + (x - 1)]? = some (x, n - (i + 1) - x) := by
                  rw [hsn, Nat.add_assoc, List.getElem?_append_right (by omega), Nat.add_sub_cancel_left, ho, if_pos h4', List.getElem?_append_right (by rw [hcnt]; omega), hcnt, Nat.add_sub_cancel_left, List.getElem?_map, List.getElem?_range (by omega)]
                  show some (x - 1 + 1, n - (i + 1) - (x - 1 + 1)) = _
                  rw [show x - 1 + 1 = x by omega]
                exact hpre _ _ _ hsub) Jx
              have e2' : evInv Tryd.prog orc lf m (.yield y [J x, I (IntKind.wrap .i64 ((IntKind.wrap .i64 (IntKind.wrap .i64 (Int.ofNat n - Int.ofNat i) - 1)) - Int.ofNat x))]) gx = some (.bool true, g2) := by rw [hsub]; exact e2
              refine ok_go 1 ?_
              refine sy_call 0 (by kernel_rfl) e2' ?_
              refine ok_go 3 ?_
              exact sy_next 0 _ g2 (by kernel_rfl) (by kernel_rfl) (ih2 (x + 1) _ g2 ⟨by omega, fun _ => by omega, fun h => absurd h4' h, by rw [show x + 1 - 1 = x - 1 + 1 by omega, ← Nat.add_assoc]; exact J2⟩ (show n - (x + 1) < n - x by omega) ⟨by kernel_rfl, by kernel_rfl, by kernel_rfl, by kernel_rfl, by kernel_rfl, (by kernel_rfl : _ = Value.int .i64 (IntKind.wrap .i64 (Int.ofNat (x + 1)))).trans (by rw [hw2]), by kernel_rfl, by kernel_rfl, by kernel_rfl, trivial⟩)
            · intro hle
              have hle : n - (i + 1) < 2 * x := by
                have := of_decide_eq_false hle
                rw [hwx, hLV] at this
                exact Int.ofNat_lt.1 (Int.not_le.1 this)
              refine ok_go 1 ?_
              exact sy_next 0 _ gx (by kernel_rfl) (by kernel_rfl) (ih (i + 1) _ gx ⟨ht, by rw [hsn, List.length_append]; rw [ho, if_pos h4', List.length_append, hcnt, List.length_map, List.length_range, show (n - (i + 1)) / 2 = x - 1 by omega, ← Nat.add_assoc]; exact Jx⟩ (show d.length - (i + 1) < d.length - i by omega) ⟨by kernel_rfl, by kernel_rfl, by kernel_rfl, by kernel_rfl, by kernel_rfl, (by kernel_rfl : _ = Value.int .i64 (IntKind.wrap .i64 (Int.ofNat (i + 1)))).trans (by rw [hw]), trivial⟩)
  · intro ht
    have ht := no_nat ht
    refine sy_done 0 (v := Value.tuple { toList := [] }) (h := g) (by kernel_rfl) ?_
    obtain rfl : i = d.length := by omega
    rwa [List.take_length] at hJ
end Go.Proofs.YtegcmgjldapnmaaDoor
namespace Go.Proofs.YtegcmgjldapnmaaDoor
open Go Go.Eng Nim Oct
set_option maxRecDepth 100000
set_option maxHeartbeats 8000000
theorem moves_of (xa : Option Addr) (k xc : Nat) (n : Int) (lf m : Nat) (h : Hp) : ∃ v h', Ev lf (m + 1) 48 [.slice xa k xc, I n] h = some (v, h') ∧ v = .func (.func 65) #[] #[ptr h.next 0, ptr (h.next + 1) 0] ∧ h'.next = h.next + 2 ∧ Sto h h' [(h.next + 1, .cells [I n] 3 false), (h.next, .cells [.slice xa k xc] 32 false)] := by
  refine fnS_ok (Q := fun v h' => v = .func (.func 65) #[] #[ptr h.next 0, ptr (h.next + 1) 0] ∧ h'.next = h.next + 2 ∧ Sto h h' [(h.next + 1, .cells [I n] 3 false), (h.next, .cells [.slice xa k xc] 32 false)]) ?_
  have W := Sto.start h
  refine ow_new 0 W (AObj.cells [Value.slice xa k xc] 32 false) (fun q => Value.pointer (some { block := q, off := 0 })) (by kernel_rfl) fun g1 ng1 Wg1 => ?_
  have W := Wg1
  refine ow_new 0 W (AObj.cells [Value.int IntKind.i64 n] 3 false) (fun q => Value.pointer (some { block := q, off := 0 })) (by kernel_rfl) fun g2 ng2 Wg2 => ?_
  have W := Wg2
  refine ok_go 1 ?_
  rw [ng1] at W ng2
  refine ok_go 0 ?_
  refine sy_done 0 (v := .func (.func 65) #[] #[ptr h.next 0, ptr g1.next 0]) (h := g2) (by kernel_rfl) ⟨by rw [ng1], by omega, W⟩
/-- The capacity of the values known so far, and whether more may follow. -/
def kc (n : Nat) : Nat := match n with | 0 => 2 | n + 1 => 2 * (n + 2) + 1
def opn (n : Nat) : Bool := match n with | 0 => false | _ + 1 => true
theorem kn_app {h H : Hp} {l : List (Nat × AObj)} {n i j : Nat} {vs : List Value} {v : Value} (hv : scalar v = true) (hall : vs.all scalar = true) (hl : vs.length = n + 1) (hn : n < 100000) (W : Sto h H ((j, .cells [v] 3 false) :: (i, .cells vs 3 (opn n)) :: l)) :
    ∃ H', appendOp Tryd.prog H 32 (.slice (some ⟨i, 0, none⟩) (n + 1) (kc n)) (.slice (some ⟨j, 0, none⟩) 1 2) = some (.slice (some ⟨H.next, 0, none⟩) (n + 2) (kc (n + 1)), H') ∧ H'.next = H.next + 1 ∧ Sto h H' ((H.next, .cells (vs ++ [v]) 3 true) :: l) := by
  have hel : elems H 1 1 (.slice (some ⟨j, 0, none⟩) 1 2) = some [v] := by simp only [elems, loadN, W.get 0 rfl]; rfl
  have u : Tryd.prog.underlying 32 = some (.slice 3) := slz32.u
  obtain ⟨inf, hi1, hi2⟩ := slz32.i
  obtain ⟨zv, hz1, hz2⟩ := slz32.zr
  cases n with
  | zero =>
    have hg : H.get i = some (.cells vs 3 false) := W.get 1 rfl
    have hld : loadN H i 0 (1 * 1) = some vs := by
      simp only [loadN, hg, List.drop_zero]
      rw [show 1 * 1 = vs.length by rw [hl]]
      exact takeN_all vs
    refine ⟨H.new (.cells (vs ++ [v]) 3 true), ?_, rfl, (W.drop 2).new _⟩
    simp only [appendOp, u, slz32.s, hi1, hz1, hz2, hi2, hel, show lenV (.slice (some ⟨j, 0, none⟩) 1 2) = some 1 from rfl, List.all_cons, List.all_nil, hv, Bool.and_true, kc]
    simp only [show Nat.ble (0 + 1 + 1) most = true from Nat.ble_eq_true_of_le (by unfold most; omega), show Nat.ble (0 + 1 + 1) (2 / 2) = false from rfl, show Nat.beq (2 % 2) 0 = true from rfl, Nat.zero_add, hld]
  | succ n =>
    cases vs with
    | nil => simp at hl
    | cons v0 r =>
      have W2 : Sto h H (((j, .cells [v] 3 false) :: l) ++ oent i 3 (v0 :: r)) := W.perm (by
        refine List.Perm.cons _ ?_
        exact (List.perm_append_comm (l₁ := [(i, AObj.cells (v0 :: r) 3 true)]) (l₂ := l)))
      obtain ⟨H', e, hn', V⟩ := append_sto (n := n + 2) (m := 0) (new := [v]) (x := .slice (some ⟨j, 0, none⟩) 1 2) W2 slz32 (by rw [Nat.mul_one]; exact hl) rfl rfl hel (by simp [hv]) (by omega)
      exact ⟨H', e, hn', (V.drop 1).perm (List.perm_append_comm)⟩
theorem updc {N : Nat} {l : List Nat} {j x : Nat} (hj : l[j]? = some x) : cellsF N (updF (fun c => Value.bool ((l.take j).contains c)) x (.bool true)) = cellsF N (fun c => Value.bool ((l.take (j + 1)).contains c)) := by
  have ht := (List.getElem?_eq_some_iff.1 hj).1
  have hx := (List.getElem?_eq_some_iff.1 hj).2
  refine cellsF_congr fun c _ => ?_
  rw [List.take_succ_eq_append_getElem ht, hx]
  unfold updF
  by_cases hc : c = x
  · rw [if_pos hc]
    exact congrArg Value.bool (List.contains_iff_mem.2 (List.mem_append_right _ (List.mem_singleton.2 hc))).symm
  · rw [if_neg hc]
    show Value.bool ((l.take j).contains c) = _
    have : (l.take j).contains c = (l.take j ++ [x]).contains c := by
      rw [Bool.eq_iff_iff, List.contains_iff_mem, List.contains_iff_mem, List.mem_append, List.mem_singleton]
      exact ⟨.inl, fun h => h.resolve_right hc⟩
    rw [this]
theorem values_run (d : List Nat) (hd : ∀ x ∈ d, x < 8) (hl : d.length ≤ 8) (N : Nat) (hN : N ≤ 2100) (lf m y cp : Nat) (hlf : 20000 ≤ lf) (hb : Hp) (CI : Nat → List (Nat × AObj) → Prop) (CE : List (Nat × AObj) → Prop)
    (hy : ∀ n C g F, n < N → CI n C → Sto hb g (C ++ F) → ∃ g' C', evInv Tryd.prog orc lf (m + 2) (.yield y [J n, J (gv d n)]) g = some (.bool true, g') ∧ Sto hb g' (C' ++ F) ∧ CI (n + 1) C')
    (hy2 : ∀ C g F, CI N C → Sto hb g (C ++ F) → ∃ g' C', evInv Tryd.prog orc lf (m + 2) (.yield y [J N, J (gv d N)]) g = some (.bool false, g') ∧ Sto hb g' (C' ++ F) ∧ CE C')
    (dg : ∀ h, ∃ v h', Ev lf (m + 2) 49 [.string (strL (codeS d))] h = some (v, h') ∧ ∃ q, v = oslV q d.length ∧ Sto h h' (oent q 3 (d.map J)))
    (mv : ∀ xa k xc n h, ∃ v h', Ev lf (m + 2) 48 [.slice xa k xc, I n] h = some (v, h') ∧ v = .func (.func 65) #[] #[ptr h.next 0, ptr (h.next + 1) 0] ∧ h'.next = h.next + 2 ∧ Sto h h' [(h.next + 1, .cells [I n] 3 false), (h.next, .cells [.slice xa k xc] 32 false)])
    (ms : ∀ f q k h, MarkB q 8192 f h → k < 8192 → f k = false → (∀ j, j < k → f j = true) → Ev lf (m + 2) 79 [ptr q 0] h = some (J k, h))
    (C0 F0 : List (Nat × AObj)) (h : Hp) (h0 : CI 0 C0) (W : Sto hb h (C0 ++ ((cp, .cells [.string (strL (codeS d))] 9 false) :: F0))) :
    ∃ v h', Ev lf (m + 3) 78 [.func (.yield y) #[] #[], ptr cp 0] h = some (v, h') ∧ ∃ C', CE C' ∧ Sto hb h' (C' ++ ((cp, .cells [.string (strL (codeS d))] 9 false) :: F0)) := by
  refine fnS_ok (Q := fun v h' => ∃ C', CE C' ∧ Sto hb h' (C' ++ ((cp, .cells [.string (strL (codeS d))] 9 false) :: F0))) ?_
  have W := W.perm List.perm_append_comm
  rw [List.cons_append] at W
  refine ow_load (P := Tryd.prog) (T := 9) (off := 0) 0 0 W rfl rfl (by kernel_rfl) (by kernel_rfl) ?_
  obtain ⟨y1, q1, ec1, rc1⟩ := dg (h)
  refine sy_call 0 (by kernel_rfl) ec1 ?_
  obtain ⟨dq, hdq, W1⟩ := rc1
  have W := W.over W1
  obtain ⟨xa, xc, hsh⟩ : ∃ a c, y1 = .slice a d.length c := by
    rw [hdq]; cases d.length <;> exact ⟨_, _, rfl⟩
  refine ow_new 0 W (AObj.cells [Value.int IntKind.i64 (Int.ofNat 0)] 3 false) (fun q => Value.slice (some { block := q, off := 0 }) 1 2) (by kernel_rfl) fun g1 ng1 Wg1 => ?_
  have W := Wg1
  refine ow_new 0 W (AObj.cells [Value.slice none 0 0] 32 false) (fun q => Value.pointer (some { block := q, off := 0 })) (by kernel_rfl) fun g2 ng2 Wg2 => ?_
  have W := Wg2
  refine ow_store (P := Tryd.prog) (T := 32) (off := 0) (v := Value.slice (some { block := Hp.next q1, off := 0 }) 1 2) 0 0 W rfl (Nat.le_of_ble_eq_true (by kernel_rfl)) (by kernel_rfl) (by first | rfl | assumption) (by kernel_rfl) fun g3 ng3 Wg3 => ?_
  have W := Wg3
  have key : ∀ (K : Nat) (R : List (Nat × AObj)), True := fun _ _ => trivial
  let R0 : List (Nat × AObj) := oent dq 3 (d.map J) ++ (cp, .cells [.string (strL (codeS d))] 9 false) :: F0
  let B : Nat → Nat → List Nat → List (Nat × AObj) := fun n ki ds => (g1.next, .cells [.slice (some ⟨ki, 0, none⟩) (n + 1) (kc n)] 32 false) :: (ki, .cells (cellsF (n + 1) fun k => J (gv d k)) 3 (opn n)) :: (R0 ++ ds.map (fun d => (d, .defd false)))
  refine sy_loop 0 lf g3 (α := Nat × Nat × List (Nat × AObj) × List Nat) (fun x => [(0, .func (.yield y) #[] #[]), (3, y1), (4, ptr g1.next 0), (5, J x.1), (slotD, marksV x.2.2.2)])
    (fun x g => x.1 ≤ N ∧ CI x.1 x.2.2.1 ∧ Sto hb g (B x.1 x.2.1 x.2.2.2 ++ x.2.2.1))
    (fun x _ => N - x.1) (0, q1.next, C0, []) (by kernel_rfl) (by kernel_rfl) ⟨by kernel_rfl, by kernel_rfl, by kernel_rfl, by kernel_rfl, by kernel_rfl, trivial⟩ (show N - 0 < lf by omega) ⟨Nat.zero_le _, h0, by
      show Sto hb g3 ((g1.next, .cells [.slice (some ⟨q1.next, 0, none⟩) 1 2] 32 false) :: (q1.next, .cells [J 0] 3 false) :: ((R0 ++ []) ++ C0))
      rw [List.append_nil, List.append_assoc, List.cons_append]
      exact W⟩ ?_
  rintro m1 ⟨n, ki, C, ds⟩ f1 g ⟨hn, hC, W⟩ ih
  dsimp only at hn hC W
  have W : Sto hb g ((g1.next, .cells [.slice (some ⟨ki, 0, none⟩) (n + 1) (kc n)] 32 false) :: (ki, .cells (cellsF (n + 1) fun k => J (gv d k)) 3 (opn n)) :: ((R0 ++ ds.map (fun d => (d, .defd false))) ++ C)) := W
  refine ow_load (P := Tryd.prog) (T := 32) (off := 0) 0 0 W rfl rfl (by kernel_rfl) (by kernel_rfl) ?_
  refine sy_load 0 (r := indexAddrOp Tryd.prog 32 (Value.slice (some { block := ki, off := 0 }) (n + 1) (kc n)) (Value.int IntKind.i64 (Int.ofNat (Prod.fst (n, ki, C, ds))))) (h' := g) (by kernel_rfl) (idxS0 (e := 3) (by kernel_rfl) (by kernel_rfl) (by omega)) ?_
  refine ow_loadF (P := Tryd.prog) (T := 3) (off := Prod.fst (n, ki, C, ds)) 0 1 W rfl (by omega) (by kernel_rfl) (by kernel_rfl) ?_
  have Wc : Sto hb g (C ++ B n ki ds) := W.perm (List.perm_append_comm (l₁ := B n ki ds) (l₂ := C))
  rcases Nat.lt_or_ge n N with hlt | hge
  · obtain ⟨g5, C5, e5, W5, hC5⟩ := hy n C g _ hlt hC Wc
    refine sy_call 0 (by kernel_rfl) e5 ?_
    have W : Sto hb g5 ((g1.next, .cells [.slice (some ⟨ki, 0, none⟩) (n + 1) (kc n)] 32 false) :: (ki, .cells (cellsF (n + 1) fun k => J (gv d k)) 3 (opn n)) :: ((R0 ++ ds.map (fun d => (d, .defd false))) ++ C5)) := W5.perm (List.perm_append_comm (l₁ := C5) (l₂ := B n ki ds))
    refine ok_go 1 ?_
    refine ow_new 0 W (.cells (cellsF 8192 fun _ => .bool false) 104 false) (fun q => ptr q 0) (by kernel_rfl) fun g6 ng6 W => ?_
    rw [hsh]
    have hwn : IntKind.wrap .i64 (Int.ofNat (n + 1)) = Int.ofNat (n + 1) := wrap_nat (by omega)
    obtain ⟨_, g7, e7, rfl, ng7, W7⟩ := mv xa d.length xc (IntKind.wrap .i64 (Int.ofNat (n + 1))) g6
    rw [hwn] at W7
    have W := W.over W7
    rw [List.cons_append, List.cons_append, List.nil_append] at W
    refine ok_go 1 ?_
    refine sy_call 0 (by kernel_rfl) e7 ?_
    refine ow_range 0 (callF := evInv Tryd.prog orc lf (m + 2)) (P := Tryd.prog) (lf := lf) (m := 41) (rcOf Tryd.prog 78 0) W [(4, ptr g1.next 0), (6, ptr g5.next 0)] 65 [.func (.yield (g7.next + 1)) #[] #[], ptr g6.next 0, ptr (g6.next + 1) 0]
      (by kernel_rfl) (fun F => by kernel_rfl) ⟨by kernel_rfl, by kernel_rfl, trivial⟩ (by kernel_rfl) (by kernel_rfl) fun F1 f2 HH hr nH W => ?_
    let CC : RC := rcOf Tryd.prog 78 0
    let ov : List Nat := (ops d 0 (n + 1)).map fun p => gv d p.1 ^^^ gv d p.2
    let Iv : Nat → Hp → Prop := fun j q => Sto hb q ((g7.next + 1, CC.obj F1 g7.next .ready none) :: (g7.next, .defd false) :: (g6.next + 1, .cells [J (n + 1)] 3 false) :: (g6.next, .cells [.slice xa d.length xc] 32 false) :: (g5.next, .cells (cellsF 8192 fun c => .bool ((ov.take j).contains c)) 104 false) ::
      (g1.next, .cells [.slice (some ⟨ki, 0, none⟩) (n + 1) (kc n)] 32 false) :: (ki, .cells (cellsF (n + 1) fun k => J (gv d k)) 3 (opn n)) :: ((R0 ++ ds.map (fun d => (d, .defd false))) ++ C5))
    have hI : ∀ j q, Iv j q → q.get g6.next = some (.cells [.slice xa d.length xc] 32 false) ∧ q.get (g6.next + 1) = some (.cells [J (n + 1)] 3 false) ∧ Rds q (.slice xa d.length xc) (d.map J) := fun j q W => by
      refine ⟨W.get 3 rfl, W.get 2 rfl, ?_⟩
      have := osl_rd (e := 3) (i := dq) (zs := d.map J) (H := q) (fun p hp => by
        have := W.all p (by simp only [R0, List.mem_cons, List.mem_append]; exact .inr (.inr (.inr (.inr (.inr (.inr (.inr (.inl (.inl (.inl hp)))))))))) 
        exact this.2)
      rw [List.length_map, ← hdq, hsh] at this
      exact this
    have hyI : ∀ j p q, (ops d 0 (n + 1))[j]? = some p → Iv j q → ∃ q', evInv Tryd.prog orc lf (m + 1) (.yield (g7.next + 1) [J p.1, J p.2]) q = some (.bool true, q') ∧ Iv (j + 1) q' := fun j p q hp W => by
      have key : ∃ w q', evInv Tryd.prog orc lf (m + 1) (.yield (g7.next + 1) [J p.1, J p.2]) q = some (w, q') ∧ (w = .bool true ∧ Iv (j + 1) q') := by
        refine yld_ok (c := CC) (Q := fun w q' => w = .bool true ∧ Iv (j + 1) q') hr (W.get 0 rfl) (by kernel_rfl) ?_
        have W : Sto hb q ((g7.next + 1, CC.obj F1 g7.next .ready none) :: (g7.next, .defd false) :: (g6.next + 1, .cells [J (n + 1)] 3 false) :: (g6.next, .cells [.slice xa d.length xc] 32 false) :: (g5.next, .cells (cellsF 8192 fun c => .bool ((ov.take j).contains c)) 104 false) ::
          (g1.next, .cells [.slice (some ⟨ki, 0, none⟩) (n + 1) (kc n)] 32 false) :: (ki, .cells (cellsF (n + 1) fun k => J (gv d k)) 3 (opn n)) :: ((R0 ++ ds.map (fun d => (d, .defd false))) ++ C5)) := W
        have hlt2 := ops_lt (List.mem_of_getElem? hp)
        refine ow_busy 0 0 W rfl (by kernel_rfl) fun b1 nb1 Wb1 => ?_
        have W := Wb1
        refine ow_load (P := Tryd.prog) (T := 32) (off := 0) 0 5 W rfl rfl (by kernel_rfl) (by kernel_rfl) ?_
        refine sy_load 0 (r := indexAddrOp Tryd.prog 32 (Value.slice (some { block := ki, off := 0 }) (n + 1) (kc n)) (Value.int IntKind.i64 (Int.ofNat (Prod.fst p)))) (h' := b1) (by kernel_rfl) (idxS0 (e := 3) (by kernel_rfl) (by kernel_rfl) (by omega)) ?_
        refine ow_loadF (P := Tryd.prog) (T := 3) (off := Prod.fst p) 0 6 W rfl (by omega) (by kernel_rfl) (by kernel_rfl) ?_
        refine ow_load (P := Tryd.prog) (T := 32) (off := 0) 0 5 W rfl rfl (by kernel_rfl) (by kernel_rfl) ?_
        refine sy_load 0 (r := indexAddrOp Tryd.prog 32 (Value.slice (some { block := ki, off := 0 }) (n + 1) (kc n)) (Value.int IntKind.i64 (Int.ofNat (Prod.snd p)))) (h' := b1) (by kernel_rfl) (idxS0 (e := 3) (by kernel_rfl) (by kernel_rfl) (by omega)) ?_
        refine ow_loadF (P := Tryd.prog) (T := 3) (off := Prod.snd p) 0 6 W rfl (by omega) (by kernel_rfl) (by kernel_rfl) ?_
        refine ok_go 1 ?_
        have ga := gv_self d p.1
        have gb := gv_self d p.2
        have hx : xorI (Int.ofNat (gv d p.1)) (Int.ofNat (gv d p.2)) = Int.ofNat (gv d p.1 ^^^ gv d p.2) := xor_nat (by omega) (by omega)
        have hlt3 : gv d p.1 ^^^ gv d p.2 < n + 1 := opt_le d (n + 1) (List.mem_of_getElem? hp)
        refine sy_load 0 (r := indexAddrOp Tryd.prog 104 (ptr g5.next 0) (I (xorI (Int.ofNat (gv d p.1)) (Int.ofNat (gv d p.2))))) (h' := b1) (by kernel_rfl) (by rw [hx]; exact idxA0 (n := 8192) (e := 4) (by kernel_rfl) (by kernel_rfl) (by omega)) ?_
        have Wb1 := W
        refine ok_go 0 ?_
        refine ow_storeF (P := Tryd.prog) (T := 4) (off := gv d p.1 ^^^ gv d p.2) (v := .bool true) 0 4 W rfl (by omega) (by kernel_rfl) rfl (by kernel_rfl) fun b2 nb2 W => ?_
        refine ow_round 0 0 W rfl (by kernel_rfl) fun c1 nc1 Wc1 => ?_
        have W := Wc1
        have hov : ov[j]? = some (gv d p.1 ^^^ gv d p.2) := by
          show ((ops d 0 (n + 1)).map fun p => gv d p.1 ^^^ gv d p.2)[j]? = _
          rw [List.getElem?_map, hp]; rfl
        have hcu := updc (N := 8192) hov
        refine sy_done 0 (v := Value.bool true) (h := c1) (by kernel_rfl) ?_
        refine ⟨rfl, ?_⟩
        show Sto hb c1 (_ :: _ :: _ :: _ :: (g5.next, .cells (cellsF 8192 fun c => .bool ((ov.take (j + 1)).contains c)) 104 false) :: _)
        rw [← hcu]
        exact W
      obtain ⟨w, q', e, rfl, J1⟩ := key
      exact ⟨q', e, J1⟩
    obtain ⟨v8, h8, e8, J8⟩ := moves_run d (n + 1) (by omega) hd hl lf (m + 1) g6.next (g6.next + 1) (g7.next + 1) hlf xa xc Iv hI hyI HH W
    have hol : (ops d 0 (n + 1)).length = ov.length := (List.length_map _).symm
    rw [hol] at J8
    have J9 : Sto hb h8 ((g7.next + 1, CC.obj F1 g7.next .ready none) :: (g7.next, .defd false) :: (g6.next + 1, .cells [J (n + 1)] 3 false) :: (g6.next, .cells [.slice xa d.length xc] 32 false) :: (g5.next, .cells (cellsF 8192 fun c => .bool (ov.contains c)) 104 false) ::
      (g1.next, .cells [.slice (some ⟨ki, 0, none⟩) (n + 1) (kc n)] 32 false) :: (ki, .cells (cellsF (n + 1) fun k => J (gv d k)) 3 (opn n)) :: ((R0 ++ ds.map (fun d => (d, .defd false))) ++ C5)) := by
      have := J8
      simp only [Iv, List.take_length] at this
      exact this
    refine ⟨v8, h8, .ready, none, g7.next, .normal, _, e8, J9, by decide, rfl, fun h9 n9 W => ?_⟩
    have hmex : gv d (n + 1) = mex ov := gv_succ d n
    obtain ⟨mx1, mx2⟩ := mex_spec ov
    have e9 := ms (fun c => ov.contains c) g5.next (gv d (n + 1)) h9 ⟨_, _, W.get 3 rfl⟩ (by have := gv_self d (n + 1); omega) (by
      rw [hmex]
      cases hc : ov.contains (mex ov) with
      | false => rfl
      | true => exact absurd (List.contains_iff_mem.1 hc) mx2) (fun j hj => by rw [hmex] at hj; exact List.contains_iff_mem.2 (mx1 j hj))
    have Wh9 := W
    refine ow_load (P := Tryd.prog) (T := 32) (off := 0) 0 4 W rfl rfl (by kernel_rfl) (by kernel_rfl) ?_
    refine sy_call 0 (by kernel_rfl) e9 ?_
    refine ow_new 0 W (AObj.cells [Value.int IntKind.i64 (Int.ofNat (gv d (n + 1)))] 3 false) (fun q => Value.slice (some { block := q, off := 0 }) 1 2) (by kernel_rfl) fun r1 nr1 Wr1 => ?_
    have W := Wr1
    have Wp := W.perm (List.Perm.cons _ (List.perm_middle (l₁ := [_, _, _, _, _])))
    obtain ⟨r2, e10, nr2, W⟩ := kn_app (v := J (gv d (n + 1))) rfl (cellsF_all (N := n + 1) (f := fun k => J (gv d k)) fun c => rfl) (cellsF_len _ _) (by omega) Wp
    have hcs : cellsF (n + 1) (fun k => J (gv d k)) ++ [J (gv d (n + 1))] = cellsF (n + 2) (fun k => J (gv d k)) := by
      show ((List.range (n + 1)).map _) ++ _ = (List.range (n + 1 + 1)).map _
      rw [List.range_succ (n := n + 1), List.map_append]; rfl
    rw [hcs] at W
    refine sy_call 0 (by kernel_rfl) e10 ?_
    have Wr2 := W
    rw [List.cons_append, List.cons_append, List.cons_append, List.cons_append, List.cons_append, List.nil_append] at W
    refine ow_store (P := Tryd.prog) (T := 32) (off := 0) (v := Value.slice (some { block := Hp.next r1, off := 0 }) (n + 2) (kc (n + 1))) 0 5 W rfl (Nat.le_of_ble_eq_true (by kernel_rfl)) (by kernel_rfl) (by first | rfl | assumption) (by kernel_rfl) fun s1 ns1 Ws1 => ?_
    have W := Ws1
    refine sy_need 0 [1] [⟨some (Value.tuple { toList := [] }, h9), Value.tuple { toList := [] }, h9⟩] (by kernel_rfl) ⟨rfl, trivial⟩ ?_
    have W : Sto hb s1 ([(r1.next, .cells (cellsF (n + 2) fun k => J (gv d k)) 3 true), (g7.next, .defd false), (g6.next + 1, .cells [J (n + 1)] 3 false), (g6.next, .cells [.slice xa d.length xc] 32 false), (g5.next, .cells (cellsF 8192 fun c => .bool (ov.contains c)) 104 false)] ++
      (g1.next, .cells [.slice (some ⟨r1.next, 0, none⟩) (n + 2) (kc (n + 1))] 32 false) :: ((R0 ++ ds.map (fun d => (d, .defd false))) ++ C5)) := W
    have W := W.perm List.perm_middle
    have W := W.sub (l' := (g1.next, .cells [.slice (some ⟨r1.next, 0, none⟩) (n + 2) (kc (n + 1))] 32 false) :: (r1.next, .cells (cellsF (n + 2) fun k => J (gv d k)) 3 true) :: (g7.next, .defd false) :: ((R0 ++ ds.map (fun d => (d, .defd false))) ++ C5))
      (((((List.Sublist.refl _).cons _).cons _).cons _).cons_cons _ |>.cons_cons _ |>.cons_cons _)
    have W : Sto hb s1 (B (n + 1) r1.next (g7.next :: ds) ++ C5) := W.perm (List.Perm.cons _ (List.Perm.cons _ (List.Perm.append_right C5 (List.perm_middle (l₁ := R0)).symm)))
    rw [← hsh] at *
    refine ok_go 1 ?_
    exact sy_next 0 _ s1 (by kernel_rfl) (by kernel_rfl) (ih (n + 1, r1.next, C5, g7.next :: ds) _ s1 ⟨hlt, hC5, W⟩ (show N - (n + 1) < N - n by omega) ⟨by kernel_rfl, by kernel_rfl, by kernel_rfl, (by kernel_rfl : _ = Value.int .i64 (IntKind.wrap .i64 (Int.ofNat (n + 1)))).trans (by rw [hwn]), by kernel_rfl, trivial⟩)
  · obtain rfl : n = N := by omega
    obtain ⟨g5, C5, e5, W5, hC5⟩ := hy2 C g _ hC Wc
    refine sy_call 0 (by kernel_rfl) e5 ?_
    have W6 : Sto hb g5 (ds.map (fun d => (d, AObj.defd false)) ++ (C5 ++ ((cp, .cells [.string (strL (codeS d))] 9 false) :: F0))) := by
      have W7 := W5.perm (List.perm_append_comm (l₁ := C5) (l₂ := B n ki ds))
      have W8 := (W7.drop 2 : Sto hb g5 ((R0 ++ ds.map (fun d => (d, AObj.defd false))) ++ C5))
      have W9 := W8.sub (l' := (((cp, AObj.cells [.string (strL (codeS d))] 9 false) :: F0) ++ ds.map (fun d => (d, AObj.defd false))) ++ C5) (((List.sublist_append_right _ _).append (List.Sublist.refl _)).append (List.Sublist.refl _))
      refine W9.perm ?_
      refine (List.Perm.append_right C5 List.perm_append_comm).trans ?_
      rw [List.append_assoc]
      exact List.Perm.append_left _ List.perm_append_comm
    refine ok_go 1 ?_
    refine ow_marks 0 ds W6 (by kernel_rfl) fun g6 ng6 W => ?_
    refine sy_done 0 (v := Value.tuple { toList := [] }) (h := g6) (by kernel_rfl) ?_
    exact ⟨C5, hC5, W⟩
end Go.Proofs.YtegcmgjldapnmaaDoor
namespace Go.Proofs.YtegcmgjldapnmaaDoor
open Go Go.Eng Nim Oct
set_option maxRecDepth 100000
set_option maxHeartbeats 8000000
def gvs (d : List Nat) (n : Nat) : List Value := (List.range n).map fun k => J (gv d k)
theorem gvs_len (d : List Nat) (n : Nat) : (gvs d n).length = n := by simp [gvs]
theorem gvs_snoc (d : List Nat) (n : Nat) : gvs d n ++ [J (gv d n)] = gvs d (n + 1) := by
  unfold gvs; rw [List.range_succ, List.map_append]; rfl
theorem list_of (d : List Nat) (n : Nat) (hn : n ≤ 2000) (lf m : Nat) (hlf : 20000 ≤ lf) (h : Hp)
    (vr : ∀ (y cp : Nat) (hb : Hp) (CI : Nat → List (Nat × AObj) → Prop) (CE : List (Nat × AObj) → Prop)
      (_ : ∀ k C g F, k < n → CI k C → Sto hb g (C ++ F) → ∃ g' C', evInv Tryd.prog orc lf (m + 2) (.yield y [J k, J (gv d k)]) g = some (.bool true, g') ∧ Sto hb g' (C' ++ F) ∧ CI (k + 1) C')
      (_ : ∀ C g F, CI n C → Sto hb g (C ++ F) → ∃ g' C', evInv Tryd.prog orc lf (m + 2) (.yield y [J n, J (gv d n)]) g = some (.bool false, g') ∧ Sto hb g' (C' ++ F) ∧ CE C')
      (C0 F0 : List (Nat × AObj)) (h : Hp), CI 0 C0 → Sto hb h (C0 ++ ((cp, .cells [.string (strL (codeS d))] 9 false) :: F0)) →
      ∃ v h', Ev lf (m + 3) 78 [.func (.yield y) #[] #[], ptr cp 0] h = some (v, h') ∧ ∃ C', CE C' ∧ Sto hb h' (C' ++ ((cp, .cells [.string (strL (codeS d))] 9 false) :: F0))) :
    ∃ v h', Ev lf (m + 4) 41 [.string (strL (codeS d)), J n] h = some (v, h') ∧ ∃ q, v = oslV q (n + 1) ∧ Sto h h' (oent q 3 (gvs d (n + 1))) := by
  refine fnS_ok (Q := fun v h' => ∃ q, v = oslV q (n + 1) ∧ Sto h h' (oent q 3 (gvs d (n + 1)))) ?_
  have W := Sto.start h
  refine ow_new 0 W (AObj.cells [Value.int IntKind.i64 (Int.ofNat n)] 3 false) (fun q => Value.pointer (some { block := q, off := 0 })) (by kernel_rfl) fun g1 ng1 Wg1 => ?_
  have W := Wg1
  refine ow_new 0 W (AObj.cells [Value.slice none 0 0] 32 false) (fun q => Value.pointer (some { block := q, off := 0 })) (by kernel_rfl) fun g2 ng2 Wg2 => ?_
  have W := Wg2
  refine ow_new 0 W (AObj.cells [Value.string (strL (codeS d))] 9 false) (fun q => Value.func (Fn.func 78) { toList := [] } { toList := [Value.pointer (some { block := q, off := 0 })] }) (by kernel_rfl) fun g3 ng3 Wg3 => ?_
  have W := Wg3
  refine ow_range 0 (callF := evInv Tryd.prog orc lf (m + 3)) (P := Tryd.prog) (lf := lf) (m := 20) (rcOf Tryd.prog 41 0) W [(3, ptr h.next 0), (5, ptr g1.next 0)] 78 [.func (.yield (g3.next + 1)) #[] #[], ptr g2.next 0]
    (by kernel_rfl) (fun F => by kernel_rfl) ⟨by kernel_rfl, by kernel_rfl, trivial⟩ (by kernel_rfl) (by kernel_rfl) fun F1 f2 HH hr nH W => ?_
  let CC : RC := rcOf Tryd.prog 41 0
  let CI : Nat → List (Nat × AObj) → Prop := fun k C => ∃ q sl, sl = oslV q k ∧ scalar sl = true ∧ C = (g3.next + 1, CC.obj F1 g3.next .ready none) :: (g3.next, .defd false) :: (g1.next, .cells [sl] 32 false) :: (h.next, .cells [J n] 3 false) :: oent q 3 (gvs d k)
  let CE : List (Nat × AObj) → Prop := fun C => ∃ q sl, sl = oslV q (n + 1) ∧ scalar sl = true ∧ C = (g3.next + 1, CC.obj F1 g3.next .done (some (.exit 0))) :: (g3.next, .defd false) :: (g1.next, .cells [sl] 32 false) :: (h.next, .cells [J n] 3 false) :: oent q 3 (gvs d (n + 1))
  have body : ∀ k C g F, k ≤ n → CI k C → Sto h g (C ++ F) → ∃ w g', evInv Tryd.prog orc lf (m + 2) (.yield (g3.next + 1) [J k, J (gv d k)]) g = some (w, g') ∧ ∃ C', Sto h g' (C' ++ F) ∧ ((k < n ∧ w = .bool true ∧ CI (k + 1) C') ∨ (k = n ∧ w = .bool false ∧ CE C')) := fun k C g F hk hC W => by
    obtain ⟨q, sl, hsl, hsc, rfl⟩ := hC
    refine yld_ok (c := CC) (Q := fun w g' => ∃ C', Sto h g' (C' ++ F) ∧ ((k < n ∧ w = .bool true ∧ CI (k + 1) C') ∨ (k = n ∧ w = .bool false ∧ CE C'))) hr (W.get 0 rfl) (by kernel_rfl) ?_
    have W : Sto h g ((g3.next + 1, CC.obj F1 g3.next .ready none) :: (g3.next, .defd false) :: (g1.next, .cells [sl] 32 false) :: (h.next, .cells [J n] 3 false) :: (oent q 3 (gvs d k) ++ F)) := W
    refine ow_busy 0 0 W rfl (by kernel_rfl) fun b1 nb1 Wb1 => ?_
    have W := Wb1
    refine ow_load (P := Tryd.prog) (T := 32) (off := 0) 0 2 W rfl rfl (by kernel_rfl) (by kernel_rfl) ?_
    refine ow_new 0 W (AObj.cells [Value.int IntKind.i64 (Int.ofNat (gv d k))] 3 false) (fun q => Value.slice (some { block := q, off := 0 }) 1 2) (by kernel_rfl) fun b2 nb2 Wb2 => ?_
    have W := Wb2
    have W : Sto h b2 ((b1.next, .cells [J (gv d k)] 3 false) :: (([(g3.next + 1, CC.obj F1 g3.next .busy none), (g3.next, .defd false), (g1.next, .cells [sl] 32 false), (h.next, .cells [J n] 3 false)] ++ F) ++ oent q 3 (gvs d k))) := W.perm (List.Perm.cons _ (List.Perm.append_left [_, _, _, _] (List.perm_append_comm)))
    refine ow_app (P := Tryd.prog) (t := 32) (e := 3) (z := 1) (c := k) (i := q) 0 W slz32 (by rw [gvs_len, Nat.mul_one]) rfl rfl (by omega) (by rw [← hsl]; kernel_rfl) fun b3 sl2 nb3 hsl2 hsc2 W => ?_
    rw [gvs_snoc] at W
    have W : Sto h b3 ((g3.next + 1, CC.obj F1 g3.next .busy none) :: (g3.next, .defd false) :: (g1.next, .cells [sl] 32 false) :: (h.next, .cells [J n] 3 false) :: (F ++ oent b2.next 3 (gvs d (k + 1)))) := W
    refine ow_store (P := Tryd.prog) (T := 32) (off := 0) (v := sl2) 0 2 W rfl (Nat.le_of_ble_eq_true (by kernel_rfl)) (by kernel_rfl) (by first | rfl | assumption) (by kernel_rfl) fun c1 nc1 Wc1 => ?_
    have W := Wc1
    refine ow_load (P := Tryd.prog) (T := 3) (off := 0) 0 3 W rfl rfl (by kernel_rfl) (by kernel_rfl) ?_
    refine ok_go 1 ?_
    refine sy_test 0 (Int.ofNat k == Int.ofNat n) (by kernel_rfl) ?_ ?_
    · intro he
      have he : k = n := by
        have := eq_of_beq he
        exact Int.ofNat.inj this
      subst he
      refine ow_leave 0 0 (Ex.exit 0) W rfl (by kernel_rfl) (by simp) fun e1 ne1 We1 => ?_
      have W := We1
      refine sy_done 0 (v := Value.bool false) (h := e1) (by kernel_rfl) ?_
      have W : Sto h e1 ((g3.next + 1, CC.obj F1 g3.next .done (some (.exit 0))) :: (g3.next, .defd false) :: (g1.next, .cells [sl2] 32 false) :: (h.next, .cells [J k] 3 false) :: (F ++ oent b2.next 3 (gvs d (k + 1)))) := W
      exact ⟨(g3.next + 1, CC.obj F1 g3.next .done (some (.exit 0))) :: (g3.next, .defd false) :: (g1.next, .cells [sl2] 32 false) :: (h.next, .cells [J k] 3 false) :: oent b2.next 3 (gvs d (k + 1)), W.perm (List.Perm.cons _ (List.Perm.cons _ (List.Perm.cons _ (List.Perm.cons _ List.perm_append_comm)))), .inr ⟨rfl, rfl, b2.next, sl2, hsl2, hsc2, rfl⟩⟩
    · intro he
      have he : k < n := by
        rcases Nat.eq_or_lt_of_le hk with h1 | h1
        · subst h1; simp at he
        · exact h1
      refine ow_round 0 0 W rfl (by kernel_rfl) fun e1 ne1 We1 => ?_
      have W := We1
      refine sy_done 0 (v := Value.bool true) (h := e1) (by kernel_rfl) ?_
      have W : Sto h e1 ((g3.next + 1, CC.obj F1 g3.next .ready none) :: (g3.next, .defd false) :: (g1.next, .cells [sl2] 32 false) :: (h.next, .cells [J n] 3 false) :: (F ++ oent b2.next 3 (gvs d (k + 1)))) := W
      exact ⟨(g3.next + 1, CC.obj F1 g3.next .ready none) :: (g3.next, .defd false) :: (g1.next, .cells [sl2] 32 false) :: (h.next, .cells [J n] 3 false) :: oent b2.next 3 (gvs d (k + 1)), W.perm (List.Perm.cons _ (List.Perm.cons _ (List.Perm.cons _ (List.Perm.cons _ List.perm_append_comm)))), .inl ⟨he, rfl, b2.next, sl2, hsl2, hsc2, rfl⟩⟩
  obtain ⟨v8, h8, e8, C8, ⟨q, sl, hsl, hsc, rfl⟩, W8⟩ := vr (g3.next + 1) g2.next h CI CE
    (fun k C g F hk hC W => by
      obtain ⟨w, g', e, C', W', h1 | h1⟩ := body k C g F (by omega) hC W
      · obtain ⟨_, rfl, h2⟩ := h1
        exact ⟨g', C', e, W', h2⟩
      · omega)
    (fun C g F hC W => by
      obtain ⟨w, g', e, C', W', h1 | h1⟩ := body n C g F (Nat.le_refl n) hC W
      · omega
      · obtain ⟨_, rfl, h2⟩ := h1
        exact ⟨g', C', e, W', h2⟩)
    [(g3.next + 1, CC.obj F1 g3.next .ready none), (g3.next, .defd false), (g1.next, .cells [.slice none 0 0] 32 false), (h.next, .cells [J n] 3 false)] [] HH ⟨0, .slice none 0 0, rfl, rfl, rfl⟩
    (W.perm (List.Perm.append_left [_, _] (List.perm_append_comm (l₁ := [_]) (l₂ := [_, _]))))
  have W8 : Sto h h8 ((g3.next + 1, (rcOf Tryd.prog 41 0).obj F1 g3.next .done (some (.exit 0))) :: (g3.next, .defd false) :: (g1.next, .cells [sl] 32 false) :: (h.next, .cells [J n] 3 false) :: (oent q 3 (gvs d (n + 1)) ++ [(g2.next, .cells [.string (strL (codeS d))] 9 false)])) := W8
  refine ⟨v8, h8, .done, some (.exit 0), g3.next, .exit 0, (g3.next, .defd false) :: (g1.next, .cells [sl] 32 false) :: (h.next, .cells [J n] 3 false) :: (oent q 3 (gvs d (n + 1)) ++ [(g2.next, .cells [.string (strL (codeS d))] 9 false)]), e8, W8, by decide, rfl, fun h9 n9 W => ?_⟩
  refine ow_load (P := Tryd.prog) (T := 32) (off := 0) 0 1 W rfl rfl (by kernel_rfl) (by kernel_rfl) ?_
  have W : Sto h h9 ([g3.next].map (fun d => (d, AObj.defd false)) ++ ((g1.next, .cells [sl] 32 false) :: (h.next, .cells [J n] 3 false) :: (oent q 3 (gvs d (n + 1)) ++ [(g2.next, .cells [.string (strL (codeS d))] 9 false)]))) := W
  refine ow_marks 0 [g3.next] W (by kernel_rfl) fun h10 n10 W => ?_
  refine sy_done 0 (v := sl) (h := h10) (by kernel_rfl) ?_
  refine ⟨q, hsl, (W.drop 2).sub ?_⟩
  exact List.sublist_append_left _ _
end Go.Proofs.YtegcmgjldapnmaaDoor
namespace Go.Proofs.YtegcmgjldapnmaaDoor
open Go Go.Eng Nim Oct
set_option maxRecDepth 100000
set_option maxHeartbeats 8000000
theorem oent_gvs (d : List Nat) (q n : Nat) : oent q 3 (gvs d (n + 1)) = [(q, .cells (cellsF (n + 1) fun k => J (gv d k)) 3 true)] := by
  show oent q 3 ((List.range (n + 1)).map fun k => J (gv d k)) = _
  rw [show cellsF (n + 1) (fun k => J (gv d k)) = (List.range (n + 1)).map fun k => J (gv d k) from rfl, List.range_succ_eq_map, List.map_cons]
  rfl
/-- What stands behind Period, Values and IsPeriod. -/
structure UpV (d : List Nat) (lf m : Nat) : Prop where
  ck : ∀ h, ∃ v h', Ev lf m 40 [.string (strL (codeS d))] h = some (v, h') ∧ v = J 0 ∧ h.Ext h'
  ls : ∀ n h, n ≤ 2000 → ∃ v h', Ev lf m 41 [.string (strL (codeS d)), J n] h = some (v, h') ∧ ∃ q, v = .slice (some ⟨q, 0, none⟩) (n + 1) (2 * (n + 1) + 1) ∧ Sto h h' [(q, .cells (cellsF (n + 1) fun k => J (gv d k)) 3 true)]
theorem Values_of (d : List Nat) (n : Nat) (hn : n ≤ 2000) (lf m : Nat) (U : UpV d lf m) (h : Hp) : ∃ v h', Ev lf (m + 1) 32 [.string (strL (codeS d)), J n] h = some (v, h') ∧ ∃ q, v = .tuple #[.slice (some ⟨q, 0, none⟩) (n + 1) (2 * (n + 1) + 1), J 0] ∧ Sto h h' [(q, .cells (cellsF (n + 1) fun k => J (gv d k)) 3 true)] := by
  refine fnS_ok (Q := fun v h' => ∃ q, v = .tuple #[.slice (some ⟨q, 0, none⟩) (n + 1) (2 * (n + 1) + 1), J 0] ∧ Sto h h' [(q, .cells (cellsF (n + 1) fun k => J (gv d k)) 3 true)]) ?_
  have W := Sto.start h
  have ck := U.ck
  have ls := U.ls
  obtain ⟨y1, q1, ec1, rc1⟩ := ck (h)
  refine sy_call 0 (by kernel_rfl) ec1 ?_
  obtain ⟨rfl, X⟩ := rc1
  have W := W.call X
  refine ok_go 7 ?_
  refine sy_no 0 (b := decide (Int.ofNat n > 2000)) (by kernel_rfl) (decide_eq_false (by show ¬ ((2000 : Int) < (n : Int)); omega)) ?_
  obtain ⟨y2, q2, ec2, rc2⟩ := ls (n) (q1) (by first | assumption | omega | exact rfl)
  refine sy_call 0 (by kernel_rfl) ec2 ?_
  obtain ⟨q, rfl, W2⟩ := rc2
  refine sy_done 0 (v := Value.tuple { toList := [Value.slice (some { block := q, off := 0 }) (n + 1) (2 * (n + 1) + 1), Value.int IntKind.i64 (Int.ofNat 0)] }) (h := q2) (by kernel_rfl) ?_
  exact ⟨q, rfl, W.over W2⟩
theorem Period_of (d : List Nat) (hd8 : d.length ≤ 8) (L : Nat) (hL1 : 1 ≤ L) (hL : L ≤ 2000) (lf m : Nat) (hlf : 20000 ≤ lf) (U : UpV d lf m) (h : Hp) : ∃ v h', Ev lf (m + 1) 28 [.string (strL (codeS d)), J L] h = some (v, h') ∧ h.Ext h' ∧ ∃ a p s, v = .tuple #[J a, J p, .bool s, J 0] ∧ First (gv d) d.length L a p s := by
  refine fnS_ok (Q := fun v h' => h.Ext h' ∧ ∃ a p s, v = .tuple #[J a, J p, .bool s, J 0] ∧ First (gv d) d.length L a p s) ?_
  have W := Sto.start h
  have ck := U.ck
  have ls := U.ls
  obtain ⟨y1, q1, ec1, rc1⟩ := ck (h)
  refine sy_call 0 (by kernel_rfl) ec1 ?_
  obtain ⟨rfl, X⟩ := rc1
  have W := W.call X
  refine ok_go 3 ?_
  refine sy_no 0 (b := decide (Int.ofNat L < 1)) (by kernel_rfl) (decide_eq_false (by show ¬ ((L : Int) < 1); omega)) ?_
  refine ok_go 3 ?_
  refine sy_no 0 (b := decide (Int.ofNat L > 2000)) (by kernel_rfl) (decide_eq_false (by show ¬ ((2000 : Int) < (L : Int)); omega)) ?_
  obtain ⟨y2, q2, ec2, rc2⟩ := ls (L) (q1) (by first | assumption | omega | exact rfl)
  refine sy_call 0 (by kernel_rfl) ec2 ?_
  obtain ⟨q, rfl, W2⟩ := rc2
  have W := W.over W2
  refine ok_go 2 ?_
  have hD : IntKind.wrap .i64 (Int.ofNat (strL (codeS d)).size - 2) = Int.ofNat d.length := by
    rw [strL_size]
    have : (codeS d).length = d.length + 2 := by simp [codeS]
    rw [this]
    exact wrap_sub (a := d.length + 2) (b := 2) (by omega) (by omega)
  have W : Sto h q2 [(q, .cells (cellsF (L + 1) fun k => J (gv d k)) 3 true)] := W
  generalize d.length = D at *
  let SL : Value := .slice (some ⟨q, 0, none⟩) (L + 1) (2 * (L + 1) + 1)
  let v : Nat → Nat := gv d
  refine sy_loop 0 lf q2 (α := Nat) (fun p => [(1, J L), (9, SL), (10, J D), (11, J p)]) (fun p g => 1 ≤ p ∧ p ≤ 2001 ∧ g = q2 ∧ ∀ q k, 1 ≤ q → q < p → 2 * k + 3 * q + D ≤ L → ¬ goes v D k q) (fun p _ => 2002 - p) 1 (by kernel_rfl) (by kernel_rfl)
    ⟨by kernel_rfl, by kernel_rfl, (by kernel_rfl : _ = I (IntKind.wrap .i64 (Int.ofNat (strL (codeS d)).size - 2))).trans (by rw [hD]), by kernel_rfl, trivial⟩ (show 2002 - 1 < lf by omega) ⟨Nat.le_refl 1, by decide, rfl, fun q k h1 h2 => by omega⟩ ?_
  rintro m1 p f1 g ⟨hp1, hp2, rfl, hno⟩ ih
  have hw : IntKind.wrap .i64 (Int.ofNat (p + 1)) = Int.ofNat (p + 1) := wrap_nat (by omega)
  have h3p : IntKind.wrap .i64 (3 * Int.ofNat p) = Int.ofNat (3 * p) := wrap_nat (n := 3 * p) (by omega)
  have h2p : IntKind.wrap .i64 (2 * Int.ofNat p) = Int.ofNat (2 * p) := wrap_nat (n := 2 * p) (by omega)
  refine ok_go 3 ?_
  refine sy_test 0 (decide (IntKind.wrap .i64 (IntKind.wrap .i64 (3 * Int.ofNat p) + Int.ofNat D) ≤ Int.ofNat L)) (by kernel_rfl) ?_ ?_
  · intro hle
    have hle : 3 * p + D ≤ L := by
      rw [h3p, wrap_add (by omega)] at hle
      exact Int.ofNat_le.1 (of_decide_eq_true hle)
    refine ok_go 0 ?_
    refine sy_loop 0 lf g (α := Nat) (fun a => [(1, J L), (9, SL), (10, J D), (11, J p), (12, J a)]) (fun a g' => a ≤ 2001 ∧ g' = g ∧ ∀ k, k < a → ¬ goes v D k p) (fun a _ => 2002 - a) 0 (by kernel_rfl) (by kernel_rfl)
      ⟨by kernel_rfl, by kernel_rfl, by kernel_rfl, by kernel_rfl, by kernel_rfl, trivial⟩ (show 2002 - 0 < lf by omega) ⟨by decide, rfl, fun k hk => by omega⟩ ?_
    rintro m2 a f2 g ⟨ha, rfl, hna⟩ ih2
    have h2a : IntKind.wrap .i64 (2 * Int.ofNat a) = Int.ofNat (2 * a) := wrap_nat (n := 2 * a) (by omega)
    have hsum : IntKind.wrap .i64 (IntKind.wrap .i64 (IntKind.wrap .i64 (2 * Int.ofNat a) + IntKind.wrap .i64 (3 * Int.ofNat p)) + Int.ofNat D) = Int.ofNat (2 * a + 3 * p + D) := by
      rw [h2a, h3p, wrap_add (by omega), wrap_add (by omega)]
    refine ok_go 5 ?_
    refine sy_test 0 (decide (IntKind.wrap .i64 (IntKind.wrap .i64 (IntKind.wrap .i64 (2 * Int.ofNat a) + IntKind.wrap .i64 (3 * Int.ofNat p)) + Int.ofNat D) ≤ Int.ofNat L)) (by kernel_rfl) ?_ ?_
    · intro hle2
      have hle2 : 2 * a + 3 * p + D ≤ L := by rw [hsum] at hle2; exact Int.ofNat_le.1 (of_decide_eq_true hle2)
      have htop : IntKind.wrap .i64 (IntKind.wrap .i64 (IntKind.wrap .i64 (2 * Int.ofNat a) + IntKind.wrap .i64 (2 * Int.ofNat p)) + Int.ofNat D) = Int.ofNat (2 * a + 2 * p + D) := by
        rw [h2a, h2p, wrap_add (by omega), wrap_add (by omega)]
      refine ok_go 4 ?_
      refine sy_loop 0 lf g (α := Nat) (fun c => [(1, J L), (9, SL), (10, J D), (11, J p), (12, J a), (13, I ((a : Int) - 1 + c))]) (fun c g' => c ≤ a + 2 * p + D + 1 ∧ g' = g ∧ ∀ j, a + c ≤ j → j ≤ 2 * a + 2 * p + D → v j = v (j + p)) (fun c _ => c) (a + 2 * p + D + 1) (by kernel_rfl) (by kernel_rfl)
        ⟨by kernel_rfl, by kernel_rfl, by kernel_rfl, by kernel_rfl, by kernel_rfl, (by kernel_rfl : _ = I (IntKind.wrap .i64 (IntKind.wrap .i64 (IntKind.wrap .i64 (2 * Int.ofNat a) + IntKind.wrap .i64 (2 * Int.ofNat p)) + Int.ofNat D))).trans (by rw [htop]; congr 1; show ((2 * a + 2 * p + D : Nat) : Int) = (a : Int) - 1 + ((a + 2 * p + D + 1 : Nat) : Int); omega), trivial⟩ (show a + 2 * p + D + 1 < lf by omega) ⟨Nat.le_refl _, rfl, fun j h1 h2 => by omega⟩ ?_
      rintro m3 c f3 g ⟨hc, rfl, hs⟩ ih3
      refine ok_go 1 ?_
      refine sy_test 0 (decide ((a : Int) - 1 + c ≥ Int.ofNat a)) (by kernel_rfl) ?_ ?_
      · intro hge
        have hc1 : 1 ≤ c := by
          have : (a : Int) ≤ (a : Int) - 1 + c := of_decide_eq_true hge
          omega
        have hI : (a : Int) - 1 + c = Int.ofNat (a + c - 1) := by show _ = ((a + c - 1 : Nat) : Int); omega
        have hadd : IntKind.wrap .i64 ((a : Int) - 1 + c + Int.ofNat p) = Int.ofNat (a + c - 1 + p) := by rw [hI]; exact wrap_add (by omega)
        refine ok_go 0 ?_
        refine sy_load 0 (r := indexAddrOp Tryd.prog 32 SL (I ((a : Int) - 1 + c))) (h' := g) (by kernel_rfl) (by rw [hI]; exact idxS0 (e := 3) (by kernel_rfl) (by kernel_rfl) (by omega)) ?_
        refine ok_go 0 ?_
        refine ow_loadF (P := Tryd.prog) (T := 3) (off := a + c - 1) 0 0 W rfl (by omega) (by kernel_rfl) (by kernel_rfl) ?_
        refine ok_go 1 ?_
        refine sy_load 0 (r := indexAddrOp Tryd.prog 32 SL (I (IntKind.wrap .i64 ((a : Int) - 1 + c + Int.ofNat p)))) (h' := g) (by kernel_rfl) (by rw [hadd]; exact idxS0 (e := 3) (by kernel_rfl) (by kernel_rfl) (by omega)) ?_
        refine ok_go 0 ?_
        refine ow_loadF (P := Tryd.prog) (T := 3) (off := a + c - 1 + p) 0 0 W rfl (by omega) (by kernel_rfl) (by kernel_rfl) ?_
        refine ok_go 1 ?_
        refine sy_test 0 (Int.ofNat (gv d (a + c - 1)) != Int.ofNat (gv d (a + c - 1 + p))) (by kernel_rfl) ?_ ?_
        · intro hne
          have hne : v (a + c - 1) ≠ v (a + c - 1 + p) := fun h => by
            have h : gv d (a + c - 1) = gv d (a + c - 1 + p) := h
            rw [h] at hne
            simp at hne
          have hmax : IntKind.wrap .i64 ((if (a : Int) - 1 + c > Int.ofNat a then (a : Int) - 1 + c else Int.ofNat a) + 1) = Int.ofNat (a + c - 1 + 1) := by
            have : (if (a : Int) - 1 + c > Int.ofNat a then (a : Int) - 1 + c else Int.ofNat a) = Int.ofNat (a + c - 1) := by
              rw [hI]
              split
              · rfl
              · rename_i h
                have h : ¬ ((a : Int) < ((a + c - 1 : Nat) : Int)) := h
                show (a : Int) = ((a + c - 1 : Nat) : Int)
                omega
            rw [this]
            exact wrap_add (b := 1) (by omega)
          refine ok_go 2 ?_
          exact sy_next 0 _ g (by kernel_rfl) (by kernel_rfl) (ih2 (a + c - 1 + 1) _ g ⟨by omega, rfl, fun k hk => by
            rcases Nat.lt_or_ge k a with h1 | h1
            · exact hna k h1
            · exact fun hg => hne (hg (a + c - 1) (by omega) (by omega))⟩ (show 2002 - (a + c - 1 + 1) < 2002 - a by omega) ⟨by kernel_rfl, by kernel_rfl, by kernel_rfl, by kernel_rfl, (by kernel_rfl : _ = I (IntKind.wrap .i64 ((if (a : Int) - 1 + c > Int.ofNat a then (a : Int) - 1 + c else Int.ofNat a) + 1))).trans (by rw [hmax]), trivial⟩)
        · intro heq
          have heq : v (a + c - 1) = v (a + c - 1 + p) := by
            have := bne_eq_false_iff_eq.1 heq
            exact Int.ofNat.inj this
          have hwc : IntKind.wrap .i64 ((a : Int) - 1 + c - 1) = (a : Int) - 1 + ((c - 1 : Nat) : Int) := by
            rw [wrap_int (by omega) (by omega)]; omega
          refine ok_go 1 ?_
          exact sy_next 0 _ g (by kernel_rfl) (by kernel_rfl) (ih3 (c - 1) _ g ⟨by omega, rfl, fun j h1 h2 => by
            rcases Nat.lt_or_ge j (a + c) with h3 | h3
            · obtain rfl : j = a + c - 1 := by omega
              exact heq
            · exact hs j h3 h2⟩ (show c - 1 < c by omega) ⟨by kernel_rfl, by kernel_rfl, by kernel_rfl, by kernel_rfl, by kernel_rfl, (by kernel_rfl : _ = I (IntKind.wrap .i64 ((a : Int) - 1 + c - 1))).trans (by rw [hwc]), trivial⟩)
      · intro hge
        obtain rfl : c = 0 := by
          have : ¬ (a : Int) ≤ (a : Int) - 1 + c := of_decide_eq_false hge
          omega
        refine sy_done 0 (v := Value.tuple { toList := [Value.int IntKind.i64 (Int.ofNat a), Value.int IntKind.i64 (Int.ofNat p), Value.bool true, Value.int IntKind.i64 (Int.ofNat 0)] }) (h := g) (by kernel_rfl) ?_
        exact ⟨W.ext, a, p, true, rfl, hp1, hle2, fun n h1 h2 => hs n (by omega) h2, hno, hna⟩
    · intro hle2
      have hle2 : ¬ 2 * a + 3 * p + D ≤ L := by rw [hsum] at hle2; exact fun h => of_decide_eq_false hle2 (Int.ofNat_le.2 h)
      refine ok_go 1 ?_
      exact sy_next 0 _ g (by kernel_rfl) (by kernel_rfl) (ih (p + 1) _ g ⟨by omega, by omega, rfl, fun q k h1 h2 h3 => by
        rcases Nat.lt_or_ge q p with h4 | h4
        · exact hno q k h1 h4 h3
        · obtain rfl : q = p := by omega
          exact hna k (by omega)⟩ (show 2002 - (p + 1) < 2002 - p by omega) ⟨by kernel_rfl, by kernel_rfl, by kernel_rfl, (by kernel_rfl : _ = Value.int .i64 (IntKind.wrap .i64 (Int.ofNat (p + 1)))).trans (by rw [hw]), trivial⟩)
  · intro hle
    have hle : ¬ 3 * p + D ≤ L := by
      rw [h3p, wrap_add (by omega)] at hle
      exact fun h => of_decide_eq_false hle (Int.ofNat_le.2 h)
    refine sy_done 0 (v := Value.tuple { toList := [Value.int IntKind.i64 (Int.ofNat 0), Value.int IntKind.i64 (Int.ofNat 0), Value.bool false, Value.int IntKind.i64 (Int.ofNat 0)] }) (h := g) (by kernel_rfl) ?_
    exact ⟨W.ext, 0, 0, false, rfl, rfl, rfl, fun q k h1 h2 => by
      rcases Nat.lt_or_ge q p with h4 | h4
      · exact hno q k h1 h4 h2
      · omega⟩
end Go.Proofs.YtegcmgjldapnmaaDoor
namespace Go.Proofs.YtegcmgjldapnmaaDoor
open Go Go.Eng Nim Oct
set_option maxRecDepth 100000
set_option maxHeartbeats 8000000
theorem isp_of (d : List Nat) (D q L a p lf m : Nat) (hD : D ≤ 8) (hL : L ≤ 2000) (ha : a ≤ L) (hp : p ≤ L) (hp1 : 1 ≤ p) (hlf : 20000 ≤ lf) (h : Hp) (hq : q < h.next) (hg : h.get q = some (.cells (cellsF (L + 1) fun k => J (gv d k)) 3 true)) :
    ∃ v h', Ev lf (m + 1) 42 [.slice (some ⟨q, 0, none⟩) (L + 1) (2 * (L + 1) + 1), J D, J a, J p] h = some (v, h') ∧ h' = h ∧ ∃ b, v = .bool b ∧ (b = true ↔ 2 * a + 3 * p + D ≤ L ∧ goes (gv d) D a p) := by
  refine fnS_ok (Q := fun v h' => h' = h ∧ ∃ b, v = .bool b ∧ (b = true ↔ 2 * a + 3 * p + D ≤ L ∧ goes (gv d) D a p)) ?_
  have h2a : IntKind.wrap .i64 (2 * Int.ofNat a) = Int.ofNat (2 * a) := wrap_nat (n := 2 * a) (by omega)
  have h3p : IntKind.wrap .i64 (3 * Int.ofNat p) = Int.ofNat (3 * p) := wrap_nat (n := 3 * p) (by omega)
  have h2p : IntKind.wrap .i64 (2 * Int.ofNat p) = Int.ofNat (2 * p) := wrap_nat (n := 2 * p) (by omega)
  have hsum : IntKind.wrap .i64 (IntKind.wrap .i64 (IntKind.wrap .i64 (2 * Int.ofNat a) + IntKind.wrap .i64 (3 * Int.ofNat p)) + Int.ofNat D) = Int.ofNat (2 * a + 3 * p + D) := by
    rw [h2a, h3p, wrap_add (by omega), wrap_add (by omega)]
  have htop : IntKind.wrap .i64 (IntKind.wrap .i64 (IntKind.wrap .i64 (2 * Int.ofNat a) + IntKind.wrap .i64 (2 * Int.ofNat p)) + Int.ofNat D) = Int.ofNat (2 * a + 2 * p + D) := by
    rw [h2a, h2p, wrap_add (by omega), wrap_add (by omega)]
  let SL : Value := .slice (some ⟨q, 0, none⟩) (L + 1) (2 * (L + 1) + 1)
  refine ok_go 6 ?_
  refine sy_test 0 (decide (IntKind.wrap .i64 (IntKind.wrap .i64 (IntKind.wrap .i64 (2 * Int.ofNat a) + IntKind.wrap .i64 (3 * Int.ofNat p)) + Int.ofNat D) ≥ Int.ofNat (L + 1))) (by kernel_rfl) ?_ ?_
  · intro ht
    have ht : L + 1 ≤ 2 * a + 3 * p + D := by rw [hsum] at ht; exact Int.ofNat_le.1 (of_decide_eq_true ht)
    refine sy_done 0 (v := Value.bool false) (h := h) (by kernel_rfl) ?_
    exact ⟨rfl, false, rfl, ⟨fun h => (by cases h), fun h => (by omega)⟩⟩
  · intro ht
    have ht : 2 * a + 3 * p + D ≤ L := by rw [hsum] at ht; have := of_decide_eq_false ht; exact Nat.le_of_not_lt fun h => this (Int.ofNat_le.2 h)
    refine ok_go 0 ?_
    refine sy_loop 0 lf h (α := Nat) (fun n => [(0, SL), (1, J D), (2, J a), (3, J p), (9, J n)]) (fun n g => a ≤ n ∧ n ≤ 2 * a + 2 * p + D + 1 ∧ g = h ∧ ∀ j, a ≤ j → j < n → gv d j = gv d (j + p)) (fun n _ => 10000 - n) a (by kernel_rfl) (by kernel_rfl)
      ⟨by kernel_rfl, by kernel_rfl, by kernel_rfl, by kernel_rfl, by kernel_rfl, trivial⟩ (show 10000 - a < lf by omega) ⟨Nat.le_refl _, by omega, rfl, fun j h1 h2 => by omega⟩ ?_
    rintro m1 n f1 g ⟨hn1, hn2, rfl, hs⟩ ih
    have hw : IntKind.wrap .i64 (Int.ofNat (n + 1)) = Int.ofNat (n + 1) := wrap_nat (by omega)
    refine ok_go 5 ?_
    refine sy_test 0 (decide (Int.ofNat n ≤ IntKind.wrap .i64 (IntKind.wrap .i64 (IntKind.wrap .i64 (2 * Int.ofNat a) + IntKind.wrap .i64 (2 * Int.ofNat p)) + Int.ofNat D))) (by kernel_rfl) ?_ ?_
    · intro hle
      have hle : n ≤ 2 * a + 2 * p + D := by rw [htop] at hle; exact Int.ofNat_le.1 (of_decide_eq_true hle)
      have hadd : IntKind.wrap .i64 (Int.ofNat n + Int.ofNat p) = Int.ofNat (n + p) := wrap_add (by omega)
      refine ok_go 0 ?_
      refine sy_load 0 (r := indexAddrOp Tryd.prog 32 SL (J n)) (h' := g) (by kernel_rfl) (idxS0 (e := 3) (by kernel_rfl) (by kernel_rfl) (by omega)) ?_
      refine ok_go 0 ?_
      refine sy_load 0 (r := loadT Tryd.prog g 3 (ptr q n)) (h' := g) (v := J (gv d n)) (by kernel_rfl) (load1 agI hg (cellsF_get (by omega))) ?_
      refine ok_go 1 ?_
      refine sy_load 0 (r := indexAddrOp Tryd.prog 32 SL (I (IntKind.wrap .i64 (Int.ofNat n + Int.ofNat p)))) (h' := g) (by kernel_rfl) (by rw [hadd]; exact idxS0 (e := 3) (by kernel_rfl) (by kernel_rfl) (by omega)) ?_
      refine ok_go 0 ?_
      refine sy_load 0 (r := loadT Tryd.prog g 3 (ptr q (n + p))) (h' := g) (v := J (gv d (n + p))) (by kernel_rfl) (load1 agI hg (cellsF_get (by omega))) ?_
      refine ok_go 1 ?_
      refine sy_test 0 (Int.ofNat (gv d n) != Int.ofNat (gv d (n + p))) (by kernel_rfl) ?_ ?_
      · intro hne
        refine sy_done 0 (v := Value.bool false) (h := g) (by kernel_rfl) ?_
        refine ⟨rfl, false, rfl, ⟨fun h => (by cases h), fun h => ?_⟩⟩
        have := h.2 n hn1 hle
        rw [this] at hne
        simp at hne
      · intro heq
        have heq : gv d n = gv d (n + p) := Int.ofNat.inj (bne_eq_false_iff_eq.1 heq)
        refine ok_go 1 ?_
        exact sy_next 0 _ g (by kernel_rfl) (by kernel_rfl) (ih (n + 1) _ g ⟨by omega, by omega, rfl, fun j h1 h2 => by
          rcases Nat.lt_or_ge j n with h3 | h3
          · exact hs j h1 h3
          · obtain rfl : j = n := by omega
            exact heq⟩ (show 10000 - (n + 1) < 10000 - n by omega) ⟨by kernel_rfl, by kernel_rfl, by kernel_rfl, by kernel_rfl, (by kernel_rfl : _ = Value.int .i64 (IntKind.wrap .i64 (Int.ofNat (n + 1)))).trans (by rw [hw]), trivial⟩)
    · intro hle
      have hle : 2 * a + 2 * p + D < n := by rw [htop] at hle; have := of_decide_eq_false hle; exact Nat.lt_of_not_le fun h => this (Int.ofNat_le.2 h)
      refine sy_done 0 (v := Value.bool true) (h := g) (by kernel_rfl) ?_
      exact ⟨rfl, true, rfl, ⟨fun _ => ⟨ht, fun j h1 h2 => hs j h1 (by omega)⟩, fun _ => rfl⟩⟩
/-- What IsPeriod asks. -/
def IsP (d : List Nat) (l a p : Int) : Prop := 1 ≤ l ∧ l ≤ 2000 ∧ 0 ≤ a ∧ a ≤ l ∧ 1 ≤ p ∧ p ≤ l ∧ 2 * a.toNat + 3 * p.toNat + d.length ≤ l.toNat ∧ goes (gv d) d.length a.toNat p.toNat
theorem IsPeriod_of (d : List Nat) (hd8 : d.length ≤ 8) (l a p : Int) (lf m : Nat) (U : UpV d lf m) (h : Hp)
    (ip : ∀ q L a p h, L ≤ 2000 → a ≤ L → p ≤ L → 1 ≤ p → q < h.next → h.get q = some (.cells (cellsF (L + 1) fun k => J (gv d k)) 3 true) → ∃ v h', Ev lf m 42 [.slice (some ⟨q, 0, none⟩) (L + 1) (2 * (L + 1) + 1), J d.length, J a, J p] h = some (v, h') ∧ h' = h ∧ ∃ b, v = .bool b ∧ (b = true ↔ 2 * a + 3 * p + d.length ≤ L ∧ goes (gv d) d.length a p)) :
    ∃ v h', Ev lf (m + 1) 29 [.string (strL (codeS d)), I l, I a, I p] h = some (v, h') ∧ h.Ext h' ∧ ∃ b, v = .bool b ∧ (b = true ↔ IsP d l a p) := by
  refine fnS_ok (Q := fun v h' => h.Ext h' ∧ ∃ b, v = .bool b ∧ (b = true ↔ IsP d l a p)) ?_
  have W := Sto.start h
  have ck := U.ck
  have ls := U.ls
  obtain ⟨y1, q1, ec1, rc1⟩ := ck (h)
  refine sy_call 0 (by kernel_rfl) ec1 ?_
  obtain ⟨rfl, X⟩ := rc1
  have W := W.call X
  refine ok_go 5 ?_
  by_cases h1 : l < 1
  · refine sy_yes 0 (b := decide (l < 1)) (by kernel_rfl) (decide_eq_true h1) ?_
    refine sy_done 17 (v := Value.bool false) (h := q1) (by kernel_rfl) ?_
    exact ⟨X, false, rfl, ⟨fun h => (by cases h), fun h => absurd h.1 (by omega)⟩⟩
  refine sy_no 0 (b := decide (l < 1)) (by kernel_rfl) (decide_eq_false h1) ?_
  refine ok_go 3 ?_
  by_cases h2 : l > 2000
  · refine sy_yes 0 (b := decide (l > 2000)) (by kernel_rfl) (decide_eq_true h2) ?_
    refine sy_done 14 (v := Value.bool false) (h := q1) (by kernel_rfl) ?_
    exact ⟨X, false, rfl, ⟨fun h => (by cases h), fun h => absurd h.2.1 (by omega)⟩⟩
  refine sy_no 0 (b := decide (l > 2000)) (by kernel_rfl) (decide_eq_false h2) ?_
  refine ok_go 3 ?_
  by_cases h3 : a < 0
  · refine sy_yes 0 (b := decide (a < 0)) (by kernel_rfl) (decide_eq_true h3) ?_
    refine sy_done 11 (v := Value.bool false) (h := q1) (by kernel_rfl) ?_
    exact ⟨X, false, rfl, ⟨fun h => (by cases h), fun h => absurd h.2.2.1 (by omega)⟩⟩
  refine sy_no 0 (b := decide (a < 0)) (by kernel_rfl) (decide_eq_false h3) ?_
  refine ok_go 4 ?_
  by_cases h4 : a > l
  · refine sy_yes 0 (b := decide (a > l)) (by kernel_rfl) (decide_eq_true h4) ?_
    refine sy_done 7 (v := Value.bool false) (h := q1) (by kernel_rfl) ?_
    exact ⟨X, false, rfl, ⟨fun h => (by cases h), fun h => absurd h.2.2.2.1 (by omega)⟩⟩
  refine sy_no 0 (b := decide (a > l)) (by kernel_rfl) (decide_eq_false h4) ?_
  refine ok_go 3 ?_
  by_cases h5 : p < 1
  · refine sy_yes 0 (b := decide (p < 1)) (by kernel_rfl) (decide_eq_true h5) ?_
    refine sy_done 4 (v := Value.bool false) (h := q1) (by kernel_rfl) ?_
    exact ⟨X, false, rfl, ⟨fun h => (by cases h), fun h => absurd h.2.2.2.2.1 (by omega)⟩⟩
  refine sy_no 0 (b := decide (p < 1)) (by kernel_rfl) (decide_eq_false h5) ?_
  refine ok_go 4 ?_
  by_cases h6 : p > l
  · refine sy_yes 0 (b := decide (p > l)) (by kernel_rfl) (decide_eq_true h6) ?_
    refine sy_done 0 (v := Value.bool false) (h := q1) (by kernel_rfl) ?_
    exact ⟨X, false, rfl, ⟨fun h => (by cases h), fun h => absurd h.2.2.2.2.2.1 (by omega)⟩⟩
  refine sy_no 0 (b := decide (p > l)) (by kernel_rfl) (decide_eq_false h6) ?_
  obtain ⟨L, rfl⟩ := Int.eq_ofNat_of_zero_le (show 0 ≤ l by omega)
  obtain ⟨A, rfl⟩ := Int.eq_ofNat_of_zero_le (show 0 ≤ a by omega)
  obtain ⟨P, rfl⟩ := Int.eq_ofNat_of_zero_le (show 0 ≤ p by omega)
  obtain ⟨_, q2, e2, ⟨q, rfl, W2⟩⟩ := ls L q1 (by omega)
  obtain ⟨_, q3, e3, hq3, b, rfl, hb⟩ := ip q L A P q2 (by omega) (by omega) (by omega) (by omega) (W2.lt 0 rfl) (W2.get 0 rfl)
  subst hq3
  have hD : IntKind.wrap .i64 (Int.ofNat (strL (codeS d)).size - 2) = Int.ofNat d.length := by
    rw [strL_size]
    have : (codeS d).length = d.length + 2 := by simp [codeS]
    rw [this]
    exact wrap_sub (a := d.length + 2) (b := 2) (by omega) (by omega)
  have e3' : Ev lf m 42 [.slice (some ⟨q, 0, none⟩) (L + 1) (2 * (L + 1) + 1), I (IntKind.wrap .i64 (Int.ofNat (strL (codeS d)).size - 2)), J A, J P] q3 = some (.bool b, q3) := by rw [hD]; exact e3
  refine ok_go 0 ?_
  refine sy_call 0 (by kernel_rfl) e2 ?_
  refine ok_go 2 ?_
  refine sy_call 0 (by kernel_rfl) e3' ?_
  refine sy_done 0 (v := Value.bool b) (h := q3) (by kernel_rfl) ?_
  refine ⟨X.trans W2.ext, b, rfl, hb.trans ⟨fun h => ⟨by omega, by omega, by omega, by omega, by omega, by omega, h.1, h.2⟩, fun h => ⟨h.2.2.2.2.2.2.1, h.2.2.2.2.2.2.2⟩⟩⟩
end Go.Proofs.YtegcmgjldapnmaaDoor
namespace Go.Proofs.YtegcmgjldapnmaaDoor
open Go Go.Eng Nim Oct
set_option maxRecDepth 100000
set_option maxHeartbeats 8000000
/-- The digits of a code. -/
structure Good (d : List Nat) : Prop where
  one : 1 ≤ d.length
  most : d.length ≤ 8
  lt : ∀ x ∈ d, x < 8
theorem codeD_good (l : List Nat) : Good (codeD l) := by
  unfold codeD
  split
  · exact ⟨by decide, by decide, by decide⟩
  · rename_i h
    have := List.length_pos_iff.2 h
    refine ⟨by rw [List.length_map, List.length_take]; omega, by rw [List.length_map, List.length_take]; omega, fun x hx => ?_⟩
    obtain ⟨y, _, rfl⟩ := List.mem_map.1 hx
    exact Nat.mod_lt _ (by decide)
theorem codeS_lt {d : List Nat} (G : Good d) : ∀ n ∈ codeS d, n < 256 := fun n hn => by
  rcases List.mem_append.1 hn with h | h
  · simp at h; omega
  · obtain ⟨x, hx, rfl⟩ := List.mem_map.1 h
    have := G.lt x hx
    show 48 + x < 256
    omega
theorem upV (k : Nat) (d : List Nat) (G : Good d) : UpV d 100000 (k + 4) where
  ck := fun h => by
    have hcl := codeS_lt G
    have co : ∀ (f : Nat → Bool) (q : Nat) (h : Hp), SetB q f h → ∀ c, c < 256 → Ev 100000 (k + 1) 101 [ptr q 0, .int .u8 (Int.ofNat c)] h = some (.bool (f c), h) := fun f q h A c hc => contains_of f q 100000 k c hc h A
    obtain ⟨v, h', e, X, z, rfl, h1, h2⟩ := check_of (codeS d) hcl 100000 (k + 3) h
      (fun h => cut_of (codeS d) 100000 (k + 2) h fun h => cutp_of (codeS d) 100000 (k + 1) h fun h => has_of (codeS d) 100000 k hcl h)
      (fun l h hl hll => by
        exact trim_of l hl (by omega) 100000 (k + 2) (by decide) h (fun h => set_of octs (by decide) (by decide) 100000 (k + 1) (by decide) h)
          (fun q h A => right_of (fun c => octs.contains c) q l hl (by omega) 100000 (k + 1) (by omega) h (co _ q h A))
          (fun l q h hl hll A => left_of (fun c => octs.contains c) q l hl (by omega) 100000 (k + 1) (by omega) h (co _ q h A)))
    refine ⟨_, h', e, ?_, X⟩
    rw [h2.2 ⟨d, rfl, G.one, G.most, G.lt⟩]
  ls := fun n h hn => by
    obtain ⟨v, h', e, q, rfl, W⟩ := list_of d n hn 100000 k (by decide) h (fun y cp hb CI CE hy hy2 C0 F0 h h0 W => values_run d G.lt G.most n (by omega) 100000 k y cp (by decide) hb CI CE hy hy2
      (fun h => digits_of d G.lt G.most 100000 (k + 1) (by decide) h) (fun xa j xc n h => moves_of xa j xc n 100000 (k + 1) h)
      (fun f q j h A hj h1 h2 => missing_of f q j 100000 (k + 1) h A fun c => index_of f q 8192 c j (by decide) hj h1 h2 100000 k (by decide) h A) C0 F0 h h0 W)
    rw [oent_gvs] at W
    exact ⟨_, h', e, q, rfl, W⟩
/-- What the laws call. -/
structure UpO (m : Nat) : Prop where
  cd : ∀ l h, (∀ n ∈ l, n < 256) → ∃ v h', Ev 100000 m 27 [.string (strL l)] h = some (v, h') ∧ v = .string (strL (codeS (codeD l))) ∧ h.Ext h'
  pe : ∀ d L h, Good d → 1 ≤ L → L ≤ 2000 → ∃ v h', Ev 100000 m 28 [.string (strL (codeS d)), J L] h = some (v, h') ∧ h.Ext h' ∧ ∃ a p s, v = .tuple #[J a, J p, .bool s, J 0] ∧ First (gv d) d.length L a p s
  va : ∀ d n h, Good d → n ≤ 2000 → ∃ v h', Ev 100000 m 32 [.string (strL (codeS d)), J n] h = some (v, h') ∧ ∃ q, v = .tuple #[.slice (some ⟨q, 0, none⟩) (n + 1) (2 * (n + 1) + 1), J 0] ∧ Sto h h' [(q, .cells (cellsF (n + 1) fun k => J (gv d k)) 3 true)]
  is : ∀ d l a p h, Good d → ∃ v h', Ev 100000 m 29 [.string (strL (codeS d)), I l, I a, I p] h = some (v, h') ∧ h.Ext h' ∧ ∃ b, v = .bool b ∧ (b = true ↔ IsP d l a p)
  aw : ∀ h, Ev 100000 m 14 [] h = some (.bool true, h)
theorem upO (k : Nat) : UpO (k + 5) where
  cd := fun l h hl => code_of l hl 100000 (k + 4) (by decide) h
  pe := fun d L h G h1 h2 => Period_of d G.most L h1 h2 100000 (k + 4) (by decide) (upV k d G) h
  va := fun d n h G hn => Values_of d n hn 100000 (k + 4) (upV k d G) h
  is := fun d l a p h G => IsPeriod_of d G.most l a p 100000 (k + 4) (upV k d G) h fun q L a p h hL ha hp hp1 hq hg => isp_of d d.length q L a p 100000 (k + 3) G.most hL ha hp hp1 (by decide) h hq hg
  aw := fun h => rfl
end Go.Proofs.YtegcmgjldapnmaaDoor
namespace Go.Proofs.YtegcmgjldapnmaaDoor
open Go Go.Eng Nim Oct
set_option maxRecDepth 100000
set_option maxHeartbeats 8000000
/-- A row, wherever these blocks stand. -/
def RowIn (L : List (Nat × AObj)) (rv : Value) (r : List Nat) : Prop := ∀ H, Hold H L → Rds H rv (r.map J)
theorem RowIn.mono {L L' : List (Nat × AObj)} {rv : Value} {r : List Nat} (R : RowIn L rv r) (h : ∀ p ∈ L, p ∈ L') : RowIn L' rv r := fun H K => R H (K.sub h)
structure RowsS (L : List (Nat × AObj)) (vs : List Value) (rows : List (List Nat)) : Prop where
  len : vs.length = rows.length
  sc : ∀ v ∈ vs, scalar v = true
  row : ∀ (i : Nat) (rv : Value) (r : List Nat), vs[i]? = some rv → rows[i]? = some r → RowIn L rv r
theorem RowsS.snoc {L : List (Nat × AObj)} {vs : List Value} {rows : List (List Nat)} (R : RowsS L vs rows) {L2 : List (Nat × AObj)} {rv : Value} {r : List Nat} (hs : scalar rv = true) (hr : RowIn L2 rv r) : RowsS (L2 ++ L) (vs ++ [rv]) (rows ++ [r]) := by
  refine ⟨by simp [R.len], fun v hv => ?_, fun i a b ha hb => ?_⟩
  · rcases List.mem_append.1 hv with h | h
    · exact R.sc v h
    · obtain rfl := List.mem_singleton.1 h; exact hs
  · rcases Nat.lt_or_ge i vs.length with h | h
    · rw [List.getElem?_append_left h] at ha
      rw [List.getElem?_append_left (by rw [← R.len]; exact h)] at hb
      exact (R.row i a b ha hb).mono fun p hp => List.mem_append_right _ hp
    · rw [List.getElem?_append_right h] at ha
      rw [List.getElem?_append_right (by rw [← R.len]; exact h)] at hb
      have hi : i - vs.length = 0 := by have := (List.getElem?_eq_some_iff.1 ha).1; simp at this; omega
      rw [hi] at ha
      rw [← R.len, hi] at hb
      cases ha
      cases hb
      exact hr.mono fun p hp => List.mem_append_left _ hp
theorem slz31 : SlTz Tryd.prog 31 32 1 := ⟨by kernel_rfl, by kernel_rfl, ⟨_, rfl, by kernel_rfl⟩, ⟨_, rfl, by kernel_rfl⟩, by decide⟩
end Go.Proofs.YtegcmgjldapnmaaDoor
namespace Go.Proofs.YtegcmgjldapnmaaDoor
open Go Go.Eng Nim Oct
set_option maxRecDepth 100000
set_option maxHeartbeats 8000000
def accR (d : List Nat) (r : List Nat) : Nat := r.foldl (fun a x => a ^^^ gv d x) 0
theorem accR_take (d r : List Nat) {x : Nat} (hx : x < r.length) : accR d (r.take (x + 1)) = accR d (r.take x) ^^^ gv d r[x] := by
  unfold accR
  rw [List.take_succ_eq_append_getElem hx, List.foldl_append]
  rfl
theorem xor_12 {a b : Nat} (ha : a < 4096) (hb : b < 4096) : a ^^^ b < 4096 := Nat.xor_lt_two_pow (n := 12) ha hb
theorem fold_lt (d : List Nat) : ∀ (r : List Nat) (a : Nat), a < 4096 → (∀ x ∈ r, x < 4096) → r.foldl (fun a x => a ^^^ gv d x) a < 4096
  | [], _, ha, _ => ha
  | y :: r, a, ha, h => fold_lt d r _ (xor_12 ha (Nat.lt_of_le_of_lt (gv_self d y) (h y List.mem_cons_self))) fun x hx => h x (List.mem_cons_of_mem _ hx)
end Go.Proofs.YtegcmgjldapnmaaDoor
namespace Go.Proofs.YtegcmgjldapnmaaDoor.Oct
end Go.Proofs.YtegcmgjldapnmaaDoor.Oct
namespace Go.Proofs.YtegcmgjldapnmaaDoor
open Go Go.Eng Nim Oct
set_option maxRecDepth 100000
set_option maxHeartbeats 8000000
theorem rdI {h : Hp} {rv : Value} {r : List Int} (hr : Rds h rv (r.map I)) {k : Nat} (hk : k < r.length) : ∃ p, indexAddrOp Tryd.prog 32 rv (J k) = some p ∧ loadT Tryd.prog h 3 p = some (I r[k]) :=
  hr.read (e := 3) (by kernel_rfl) (by kernel_rfl) (by kernel_rfl) (by rw [List.getElem?_map, List.getElem?_eq_getElem hk]; rfl)
end Go.Proofs.YtegcmgjldapnmaaDoor
namespace Go.Proofs.YtegcmgjldapnmaaDoor
open Go Go.Eng Nim Oct
set_option maxRecDepth 100000
set_option maxHeartbeats 8000000
/-- What a slice that stands in an argument looks like. -/
def WfS : Value → Prop
  | .slice none n c => n = 0 ∧ c = 0
  | .slice (some a) n c => (a.spot = none ∧ n ≤ c / 2) ∨ (n = 0 ∧ c = 0)
  | _ => False
theorem takeN_take : ∀ {n : Nat} {l : List Value} {r : List Value}, takeN n l = some r → ∀ k, k ≤ n → takeN k l = some (r.take k)
  | _, _, _, _, 0, _ => by simp [takeN]
  | 0, _, _, _, k + 1, hk => absurd hk (by omega)
  | n + 1, [], _, h, k + 1, _ => by simp [takeN] at h
  | n + 1, v :: l, r, h, k + 1, hk => by
    unfold takeN at h
    split at h
    · rename_i l' hl'
      cases h
      unfold takeN
      rw [takeN_take hl' k (by omega)]
      rfl
    · cases h
theorem u22 : Tryd.prog.underlying 32 = some (.slice 3) := by kernel_rfl
theorem rds_elems {H : Hp} {x : Value} {vs : List Value} (hx : Rds H x vs) : lenV x = some vs.length ∧ elems H 1 vs.length x = some vs := by
  obtain ⟨a, c, hsh⟩ := hx.shape
  refine ⟨by rw [hsh]; rfl, ?_⟩
  rcases hx with ⟨⟨a, rfl⟩, rfl⟩ | ⟨i, off, c, rfl, hr⟩
  · rcases a with _ | ⟨i, off, _ | q⟩ <;> rfl
  · cases vs with
    | nil => rfl
    | cons v r => simp only [elems, List.length_cons, Nat.mul_one]; exact (hr (by simp)).2
end Go.Proofs.YtegcmgjldapnmaaDoor
