/- Library functions without a body: what they give, in the model and in the evaluator. -/
import Derived.Test.YtkfbfgcflnkllaaGreatDoorEngG2
import Derived.KernelRfl
namespace Go.Eng
open Go.RowKit

theorem look_add : Extern.allRows.lookup "math/bits.Add64" = Extern.MathBitsCarry.rows.lookup "math/bits.Add64" := by kernel_rfl
theorem look_sub : Extern.allRows.lookup "math/bits.Sub64" = Extern.MathBitsCarry.rows.lookup "math/bits.Sub64" := by kernel_rfl
theorem look_same : Extern.allRows.lookup "internal/abi.NoEscape" = some Extern.AbiNoEscape.same := by kernel_rfl
theorem look_byte : Extern.allRows.lookup "internal/bytealg.IndexByteString" = some Extern.BytealgIndexByte.indexByte := by kernel_rfl
theorem look_make : Extern.allTypedRows.lookup "internal/bytealg.MakeNoZero" = some Extern.BytealgMakeNoZero.makeNoZero := by kernel_rfl
theorem isNone_of {α : Type} {o : Option α} {b : Bool} (h : o.isNone = b) (hb : b = true) : o = none := by
  cases o
  · rfl
  · simp at h; rw [h] at hb; cases hb
theorem nx0 : Extern.allNextRows.lookup "" = none := isNone_of (b := true) (by kernel_rfl) rfl
theorem nx1 : Extern.allNextRows.lookup "math/bits.Add64" = none := isNone_of (b := true) (by kernel_rfl) rfl
theorem nx2 : Extern.allNextRows.lookup "math/bits.Sub64" = none := isNone_of (b := true) (by kernel_rfl) rfl
theorem nx3 : Extern.allNextRows.lookup "internal/abi.NoEscape" = none := isNone_of (b := true) (by kernel_rfl) rfl
theorem nx4 : Extern.allNextRows.lookup "internal/bytealg.IndexByteString" = none := isNone_of (b := true) (by kernel_rfl) rfl
theorem nx5 : Extern.allNextRows.lookup "internal/bytealg.MakeNoZero" = none := isNone_of (b := true) (by kernel_rfl) rfl
theorem gn1 : Extern.allGenericRows.lookup "math/bits.Add64" = none := isNone_of (b := true) (by kernel_rfl) rfl
theorem gn2 : Extern.allGenericRows.lookup "math/bits.Sub64" = none := isNone_of (b := true) (by kernel_rfl) rfl
theorem gn3 : Extern.allGenericRows.lookup "internal/abi.NoEscape" = none := isNone_of (b := true) (by kernel_rfl) rfl
theorem gn4 : Extern.allGenericRows.lookup "internal/bytealg.IndexByteString" = none := isNone_of (b := true) (by kernel_rfl) rfl
theorem gn5 : Extern.allGenericRows.lookup "internal/bytealg.MakeNoZero" = none := isNone_of (b := true) (by kernel_rfl) rfl
theorem ty1 : Extern.allTypedRows.lookup "math/bits.Add64" = none := isNone_of (b := true) (by kernel_rfl) rfl
theorem ty2 : Extern.allTypedRows.lookup "math/bits.Sub64" = none := isNone_of (b := true) (by kernel_rfl) rfl
theorem ty3 : Extern.allTypedRows.lookup "internal/abi.NoEscape" = none := isNone_of (b := true) (by kernel_rfl) rfl
theorem ty4 : Extern.allTypedRows.lookup "internal/bytealg.IndexByteString" = none := isNone_of (b := true) (by kernel_rfl) rfl

section
variable {P : Program} {B : Prot} {w0 : World} {E : Env} {h : Hp} {w : World}

theorem callFunc_ext {g : FuncId} {fn : Func} (hf : P.funcs[g]? = some fn) (hb : fn.body = none) (hn : fn.name ≠ "runtime.NumGoroutine") {args : Array Value}
    (h1 : Extern.allNextRows.lookup fn.name = none) (h2 : fn.origin = "") {e : Array Value → Sem Value} (h3 : Extern.find fn = some e) :
    (callFunc g args).run P w = ((do pure (.value (← e args))) : Sem Next).run P w := by
  have hx : Extern.findNext fn = none := by simp [Extern.findNext, h1, h2, nx0]
  simp [callFunc, hf, hb, hn, hx, h3, mark, Sem.run]

theorem run_mark (m : Mark) (w : World) : (mark m).run P w = .ok () w := by simp [mark, Sem.run]

theorem three_run (name : String) (x y d : Nat) (hd : d ≤ 1) : (Extern.MathBitsCarry.three name #[.int .u64 (Int.ofNat x), .int .u64 (Int.ofNat y), .int .u64 (Int.ofNat d)]).run P w = .ok (x, y, d) w := by
  refine (congrArg (Sem.run P · w) (show Extern.MathBitsCarry.three name #[.int .u64 (Int.ofNat x), .int .u64 (Int.ofNat y), .int .u64 (Int.ofNat d)] = (asInt (.int .u64 (Int.ofNat d)) >>= _) from rfl)).trans ?_
  have hd' : ¬ ((1 : Int) < (d : Int)) := by omega
  have hd2 : ¬ (1 < d) := by omega
  simp [asInt, asIntOf, hd', Array.getLit]

theorem add_row : ∃ e, Extern.allRows.lookup "math/bits.Add64" = some e ∧ ∀ (x y d : Nat), d ≤ 1 → ∀ w, (e #[.int .u64 (Int.ofNat x), .int .u64 (Int.ofNat y), .int .u64 (Int.ofNat d)]).run P w = .ok (pair64 ((x + y + d) % 18446744073709551616) ((x + y + d) / 18446744073709551616)) w := by
  refine ⟨_, look_add.trans (show _ = some _ from rfl), fun x y d hd w => ?_⟩
  simp only [Sem.run_bind, three_run _ x y d hd, Result.andThen_ok, Sem.run_pure]
  rfl

theorem sub_row : ∃ e, Extern.allRows.lookup "math/bits.Sub64" = some e ∧ ∀ (x y d : Nat), d ≤ 1 → ∀ w, (e #[.int .u64 (Int.ofNat x), .int .u64 (Int.ofNat y), .int .u64 (Int.ofNat d)]).run P w =
    .ok (pair64 ((x + 18446744073709551616 - y - d) % 18446744073709551616) (if x < y + d then 1 else 0)) w := by
  refine ⟨_, look_sub.trans (show _ = some _ from rfl), fun x y d hd w => ?_⟩
  simp only [Sem.run_bind, three_run _ x y d hd, Result.andThen_ok, Sem.run_pure]
  rfl

theorem firstByte_eq (s : ByteArray) (b : Nat) : (Extern.BytealgIndexByte.indexByte #[.string s, .int .u8 (Int.ofNat b)]).run P w = .ok (.int .i64 (firstByte s b.toUInt8)) w := by
  refine (congrArg (Sem.run P · w) (show Extern.BytealgIndexByte.indexByte #[.string s, .int .u8 (Int.ofNat b)] = (Extern.Bytes.bytesOf (.string s) >>= fun a => Extern.Bytes.asByte (.int .u8 (Int.ofNat b)) >>= fun c => _) from rfl)).trans ?_
  simp only [Extern.Bytes.bytesOf, Extern.Bytes.asByte, Sem.run_bind, Sem.run_pure, Result.andThen_ok, firstByte]
  have e1 : (Int.ofNat b).toNat = b := rfl
  rw [e1]
  cases (List.range s.size).find? fun i => s[i]! == b.toUInt8 <;> simp [goInt]

/-- What a call of a function without a body comes to. -/
def ExtOK (P : Program) (B : Prot) (w0 : World) (E : Env) (h : Hp) (w : World) (g : FuncId) (args : List Value) (v : Value) (h' : Hp) : Prop :=
  ∃ E' w', (callFunc g (conL E args).toArray).run P w = .ok (.value (con E' v)) w' ∧ HpOK P B w0 E' h' w' ∧ Agree h.next E E' ∧ h.next ≤ h'.next ∧ sc h'.next v = true

theorem ExtOK.pure (H : HpOK P B w0 E h w) {g : FuncId} {fn : Func} (hf : P.funcs[g]? = some fn) (hb : fn.body = none) (hn : fn.name ≠ "runtime.NumGoroutine") {args : List Value} {v : Value}
    (h1 : Extern.allNextRows.lookup fn.name = none) (h2 : fn.origin = "") {e : Array Value → Sem Value} (h3 : Extern.find fn = some e) (h4 : (e (conL E args).toArray).run P w = .ok (con E v) w) (h5 : sc h.next v = true) :
    ExtOK P B w0 E h w g args v h := by
  refine ⟨E, w, ?_, H, Agree.refl _ _, Nat.le_refl _, h5⟩
  rw [callFunc_ext hf hb hn h1 h2 h3]
  simp [h4]

theorem find_row {fn : Func} {n : String} {e : Array Value → Sem Value} (hn : fn.name = n) (h1 : Extern.allGenericRows.lookup n = none) (h2 : Extern.allTypedRows.lookup n = none) (h3 : Extern.allRows.lookup n = some e) : Extern.find fn = some e := by
  simp [Extern.find, hn, h1, h2, h3]

theorem ext_name {n : String} {c k : Nat} (hc : extName n = c + 1) (hk : c + 1 = k) :
    (k = 1 → n = "math/bits.Add64") ∧ (k = 2 → n = "math/bits.Sub64") ∧ (k = 3 → n = "internal/abi.NoEscape") ∧ (k = 4 → n = "internal/bytealg.IndexByteString") ∧ (k = 5 → n = "internal/bytealg.MakeNoZero") := by
  unfold extName at hc
  refine ⟨fun h => ?_, fun h => ?_, fun h => ?_, fun h => ?_, fun h => ?_⟩ <;> (repeat' split at hc) <;> first | assumption | (exfalso; omega)

theorem digits_size : ∀ (n t : Nat) (acc : Array Value), (Extern.BytealgMakeNoZero.digits n t acc).size = acc.size + n
  | 0, _, acc => rfl
  | n + 1, t, acc => by rw [Extern.BytealgMakeNoZero.digits, digits_size n]; simp; omega

theorem choose_run {q : Question} (hq : q.forced = false) (w : World) : (choose q).run P w = .ok (q.cut (w.tape w.drawn q)) w.drew := by
  simp only [choose, Sem.run, hq, Bool.false_eq_true, if_false]
  rfl

theorem New.drew {w w' : World} {O : Obj} (hN : New w.drew w' O) : New w w' O := ⟨hN.at_, hN.other, hN.size, hN.os, hN.tape, hN.output⟩

theorem makeNoZero_run {ps rs : Array TypeId} {t e : TypeId} (h0 : rs[0]? = some t) (hu : P.underlying t = some (.slice e)) (n : Nat) (hn : n ≤ most) (w : World) :
    ∃ (junk : List Value), n ≤ junk.length ∧ (Extern.BytealgMakeNoZero.makeNoZero ps rs #[.int .i64 (Int.ofNat n)]).run P w = .ok (.slice (some ⟨w.heap.size, 0, none⟩) n junk.length) (w.drew.drew.alloc (.cells junk.toArray e)) := by
  refine ⟨(Extern.BytealgMakeNoZero.digits ((Question.appendCap n 0 e).cut (w.tape w.drawn (.appendCap n 0 e))) ((Question.extern "internal/bytealg.MakeNoZero.bytes" 0).cut (w.drew.tape w.drew.drawn (.extern "internal/bytealg.MakeNoZero.bytes" 0))) #[]).toList, ?_, ?_⟩
  · simp [digits_size, Question.cut]
  · have hlt : ¬ ((Int.ofNat n : Int) < 0 ∨ (2 : Int) ^ 48 < Int.ofNat n) := by
      unfold most at hn
      simp only [Int.ofNat_eq_natCast]
      omega
    have hc1 : (choose (.appendCap n 0 e)).run P w = .ok ((Question.appendCap n 0 e).cut (w.tape w.drawn (.appendCap n 0 e))) w.drew := choose_run rfl w
    have hc2 : (choose (.extern "internal/bytealg.MakeNoZero.bytes" 0)).run P w.drew = .ok ((Question.extern "internal/bytealg.MakeNoZero.bytes" 0).cut (w.drew.tape w.drew.drawn (.extern "internal/bytealg.MakeNoZero.bytes" 0))) w.drew.drew := choose_run rfl w.drew
    have hr : ∀ c (w1 : World), (askRoom c).run P w1 = .ok () w1 := by
      intro c w1
      unfold askRoom
      split <;> simp [mark, Sem.run]
    conv => lhs; arg 2; whnf
    simp only [h0, Sem.run_bind, run_underlying hu, Result.andThen_ok]
    have e1 : (Int.ofNat n).toNat = n := rfl
    have hlt1 : ¬ ((Int.ofNat n : Int) < 0) := fun h => hlt (.inl h)
    have hlt2 : ¬ ((Int.ofNat n : Int) > 2 ^ 48) := fun h => hlt (.inr h)
    simp only [hlt1, hlt2, decide_false, Bool.or_self, Bool.false_eq_true, if_false, e1, hc1, hc2, hr, Sem.run_bind, Sem.run_pure, Result.andThen_ok, newRow]
    simp [newObj, Sem.run]
    exact ⟨by simp [digits_size], rfl⟩

theorem HpOK.ext (H : HpOK P B w0 E h w) {c : Nat} {g : FuncId} {args : List Value} {v : Value} {h' : Hp} (hc : extCode P g = c + 1) (hsc : scL h.next args = true) (ha : evExt P h (c + 1) g args = some (v, h')) :
    ExtOK P B w0 E h w g args v h' := by
  unfold extCode at hc
  split at hc
  · rename_i fn hf
    split at hc
    · rename_i hb
      split at hc
      · rename_i horg
        have horg' : fn.origin = "" := by simpa using horg
        unfold evExt at ha
        split at ha
        · rename_i x y d hcode
          have hnm := (ext_name hc hcode).1 rfl
          split at ha
          · rename_i hd
            cases ha
            obtain ⟨e, he, hr⟩ := add_row (P := P)
            exact ExtOK.pure H hf hb (by rw [hnm]; decide) (by rw [hnm]; exact nx1) horg' (find_row hnm gn1 ty1 he) (hr x y d (Nat.le_of_ble_eq_true hd) w) (by simp [pair64, sc, scA, scL])
          · cases ha
        · rename_i x y d hcode
          have hnm := (ext_name hc hcode).2.1 rfl
          split at ha
          · rename_i hd
            cases ha
            obtain ⟨e, he, hr⟩ := sub_row (P := P)
            refine ExtOK.pure H hf hb (by rw [hnm]; decide) (by rw [hnm]; exact nx2) horg' (find_row hnm gn2 ty2 he) ((hr x y d (Nat.le_of_ble_eq_true hd) w).trans ?_) (by simp [pair64, sc, scA, scL])
            by_cases hlt : x < y + d
            · have : Nat.blt x (y + d) = true := by simpa [Nat.blt_eq] using hlt
              rw [this, if_pos hlt]
              rfl
            · have : Nat.blt x (y + d) = false := by
                cases hb : Nat.blt x (y + d)
                · rfl
                · exact absurd (by simpa [Nat.blt_eq] using hb) hlt
              rw [this, if_neg hlt]
              rfl
          · cases ha
        · rename_i x hcode
          have hnm := (ext_name hc hcode).2.2.1 rfl
          cases ha
          exact ExtOK.pure H hf hb (by rw [hnm]; decide) (by rw [hnm]; exact nx3) horg' (find_row hnm gn3 ty3 look_same) rfl (by simpa [scL] using hsc)
        · rename_i s b hcode
          have hnm := (ext_name hc hcode).2.2.2.1 rfl
          cases ha
          exact ExtOK.pure H hf hb (by rw [hnm]; decide) (by rw [hnm]; exact nx4) horg' (find_row hnm gn4 ty4 look_byte) (firstByte_eq s b) rfl
        · rename_i n hcode
          have hnm := (ext_name hc hcode).2.2.2.2 rfl
          split at ha
          · rename_i e hre hn
            split at ha
            · rename_i hsz
              cases ha
              have hn' := Nat.le_of_ble_eq_true hn
              have hfind : Extern.find fn = some (Extern.BytealgMakeNoZero.makeNoZero fn.params fn.resultTypes) := by simp [Extern.find, hnm, gn5, look_make]
              unfold resultElem at hre
              rw [hf] at hre
              simp only at hre
              split at hre
              · rename_i t ht
                split at hre
                · rename_i e' hu
                  cases hre
                  obtain ⟨junk, hj, hr⟩ := makeNoZero_run (P := P) (ps := fn.params) ht hu n hn' w
                  refine ⟨_, _, ?_, H.new junk.length (O := .cells junk.toArray e) (w' := w.drew.drew.alloc (.cells junk.toArray e)) (New.drew (New.drewAlloc w.drew (.cells junk.toArray e))) ⟨junk, by simp [conL], rfl, by simp, (fun hh => by cases hh), fun _ => ⟨1, hsz, by simp⟩⟩, Env.ext_agree _ _ _ _, by simp, by simp [sc]⟩
                  rw [callFunc_ext hf hb (by rw [hnm]; decide) (by rw [hnm]; exact nx5) horg' hfind]
                  have hr' : (Extern.BytealgMakeNoZero.makeNoZero fn.params fn.resultTypes (conL E [.int .i64 (Int.ofNat n)]).toArray).run P w = .ok (.slice (some ⟨w.heap.size, 0, none⟩) n junk.length) (w.drew.drew.alloc (.cells junk.toArray e)) := hr
                  simp only [Sem.run_bind, hr', Result.andThen_ok, Sem.run_pure]
                  simp [con, conCap]
                · cases hre
              · cases hre
            · cases ha
          · cases ha
        · cases ha
      · cases hc
    · cases hc
  · cases hc

/-- The bytes of a string as a new slice: nobody writes them here. -/
theorem HpOK.strBytes (H : HpOK P B w0 E h w) {s d : TypeId} {x v : Value} {h' : Hp} (hs : P.underlying s = some .string) (ha : strBytes P h d x = some (v, h')) :
    ∃ E' w', (convert s d (con E x)).run P w = .ok (con E' v) w' ∧ HpOK P B w0 E' h' w' ∧ Agree h.next E E' ∧ h.next ≤ h'.next ∧ sc h'.next v = true := by
  unfold Eng.strBytes at ha
  split at ha
  · rename_i e b hd
    split at ha
    · rename_i hu hn
      cases ha
      have hn' := Nat.le_of_ble_eq_true hn
      have hc1 : (choose (.appendCap b.size 0 e)).run P w = .ok ((Question.appendCap b.size 0 e).cut (w.tape w.drawn (.appendCap b.size 0 e))) w.drew := choose_run rfl w
      generalize hcap : (Question.appendCap b.size 0 e).cut (w.tape w.drawn (.appendCap b.size 0 e)) = cap at hc1
      have hle : b.size ≤ cap := by rw [← hcap]; simp [Question.cut]
      have hel : (b.data.map fun x => Value.int .u8 (x.toNat : Int)) = (byteCells b).toArray := by
        apply Array.ext'
        simp [byteCells]
      have hbl : (byteCells b).length = b.size := byteCells_length b
      have hfl : flatL (byteCells b) = true := by
        unfold byteCells
        generalize b.data.toList = l
        induction l with
        | nil => rfl
        | cons c r ih => simp [flatL, flat, ih]
      let O0 : Obj := .cells ((byteCells b).toArray ++ Array.replicate (cap - b.size) (.int .u8 0)) e
      have hsz : ((byteCells b).toArray ++ Array.replicate (cap - b.size) (Value.int .u8 0)).size = cap := by simp [hbl]; omega
      let w1 : World := w.drew.alloc O0
      let w2 : World := w1.freeze ⟨w.heap.size, cap, none⟩ 1
      have N1 : New w w1 O0 := New.drewAlloc w O0
      have h2at : w2.heap[w.heap.size]? = some (.cells ((byteCells b).toArray ++ Array.replicate (cap - b.size) (.int .u8 0)) e (cap, cap + 1)) := by
        have := N1.at_
        simp only [w2, World.freeze, Nat.one_ne_zero, if_false, Array.getElem?_modify, this]
        simp [O0]
      have N2 : New w w2 (.cells ((byteCells b).toArray ++ Array.replicate (cap - b.size) (.int .u8 0)) e (cap, cap + 1)) := by
        refine ⟨h2at, fun k hk => ?_, ?_, N1.os, N1.tape, N1.output⟩
        · rw [← N1.other k hk]
          have : w.heap.size ≠ k := by omega
          simp [w2, World.freeze, Array.getElem?_modify, this]
        · rw [← N1.size]
          simp [w2, World.freeze]
      refine ⟨E.ext h.next w.heap.size (cap - b.size), w2, ?_, H.new (cap - b.size) N2 ⟨List.replicate (cap - b.size) (.int .u8 0), (cap, cap + 1), ?_, scL_flat _ _ hfl, ?_⟩, Env.ext_agree _ _ _ _, by simp, by simp [sc]⟩
      · have hsh : (shape w.heap.size).run P w1 = .ok (some (e, cap)) w1 := by
          simp [shape, Sem.run, World.shape?, N1.at_, O0, hbl]
          omega
        have hfr : (Go.freeze ⟨w.heap.size, cap, none⟩ 1).run P w1 = .ok () w2 := by simp [Go.freeze, Sem.run, w2]
        have hnr : (newRow e ((byteCells b).toArray ++ Array.replicate (cap - b.size) (Value.int .u8 0))).run P w.drew = .ok ⟨w.heap.size, 0, none⟩ w1 := by
          simp [newRow, newObj, Sem.run, w1, O0, World.alloc]
        simp only [con, convert, Sem.run_bind, run_underlying hs, run_underlying hd, run_underlying hu, Result.andThen_ok, Conv.stringToBytes, hc1, hel, hnr, markStringish, hsh, hfr, Sem.run_pure]
        simp [conCap]
        omega
      · rw [conL_flat _ _ hfl]
        simp
      · intro v hv
        simp only [byteCells, List.mem_map] at hv
        obtain ⟨c, _, rfl⟩ := hv
        rfl
    · cases ha
  · cases ha

end
end Go.Eng
