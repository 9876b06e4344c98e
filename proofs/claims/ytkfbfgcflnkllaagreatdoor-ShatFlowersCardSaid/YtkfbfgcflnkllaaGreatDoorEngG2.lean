/- One operation of the model and one of the evaluator: entries of maps, clear, library functions without a body, memory seen as another type. -/
import Derived.Test.YtkfbfgcflnkllaaGreatDoorEngG
namespace Go.Eng
open Go.RowKit

section
variable {P : Program} {B : Prot} {w0 : World} {E : Env} {h : Hp} {w : World}

theorem modify_congr {α : Type} (f g : α → α) : ∀ (l : List α) (i : Nat), (∀ e, l[i]? = some e → f e = g e) → l.modify i f = l.modify i g
  | [], i, _ => by simp
  | e :: r, 0, hh => by simp [hh e (by simp)]
  | e :: r, i + 1, hh => by
    simp only [List.modify_succ_cons]
    rw [modify_congr f g r i (fun x hx => hh x (by simpa using hx))]

theorem bornAt_eq : ∀ (es : List MapEntry) (i : Nat), bornAt es i = ((es[i]?).map (·.born)).getD 0
  | [], i => by simp [bornAt]
  | e :: es, 0 => by simp [bornAt]
  | e :: es, i + 1 => by simp [bornAt, bornAt_eq es i]

theorem HpOK.mapEntry (H : HpOK P B w0 E h w) {t : TypeId} {m k v : Value} {h' : Hp} (ha : mapEntryOp P h t m k = some (v, h')) :
    ∃ w', (Instr.mapEntry t (con E m) (con E k)).run P w = .ok (con E v) w' ∧ HpOK P B w0 E h' w' ∧ h'.next = h.next ∧ sc h.next v = true := by
  unfold mapEntryOp at ha
  split at ha
  · rename_i kt et r hu hk
    rw [con_flat E k hk]
    split at ha
    · rename_i es clock hg
      obtain ⟨h1, h2, O, h3, rfl, h4⟩ := H.obj r _ hg
      have hgo : (getObj (E.μ r)).run P w = .ok (.map (es.map (conE E)).toArray clock) w := by simp [getObj, Sem.run, h3]
      have hso : ∀ o : Obj, (setObj (E.μ r) o).run P w = .ok () { w with heap := w.heap.setIfInBounds (E.μ r) o } := by intro o; simp [setObj, Sem.run, h3]
      have hup : ∀ (o' : AObj) (O' : Obj), isRo o' = false → ObjAt P E h.next r o' O' → HpOK P B w0 E (h.put r o') { w with heap := w.heap.setIfInBounds (E.μ r) O' } :=
        fun o' O' hr hO => H.upd hg rfl hr (Upd.setObj (H.lt hg)) hO
      split at ha
      · rename_i i u hp
        split at ha
        · rename_i hsb
          cases ha
          split at hp
          · cases hp
          · rename_i hfl
            obtain ⟨q1, q2⟩ := find_run E w hfl hp
            obtain ⟨e0, he0, hv0⟩ := find_mem hp
            subst hv0
            have hsu : sc h.next e0.val = true := (h4 e0 (List.mem_of_getElem? he0)).2
            refine ⟨_, ?_, hup _ (.map ((setAt es i k e0.val).map (conE E)).toArray clock) rfl ⟨rfl, ?_⟩, rfl, by simp [sc, scA, scL, hsu]⟩
            · simp only [con, conA, conL, Instr.mapEntry, Sem.run_bind, run_underlying hu, Result.andThen_ok, hgo, q1, q2]
              have hkey : (((es.map (conE E)).toArray[i]?).map (·.key)).getD k = keyAt es i k := by
                rw [keyAt_eq]
                simp only [List.getElem?_toArray, List.getElem?_map, Option.map_map]
                rw [he0]
                rw [List.all_eq_true] at hfl
                have := hfl e0 (List.mem_of_getElem? he0)
                simp [conE, con_flat E _ this]
              have hborn : (((es.map (conE E)).toArray[i]?).map (fun x => (x.born : Int))).getD 0 = (bornAt es i : Int) := by
                rw [bornAt_eq]
                simp [he0, conE]
              have hmod : (es.map (conE E)).toArray.modify i (fun e : MapEntry => { e with key := k }) = ((setAt es i k e0.val).map (conE E)).toArray := by
                rw [setAt_con E k e0.val hk, modify_congr _ (fun e : MapEntry => { e with key := k })]
                · apply Array.ext'
                  simp
                · intro e he
                  simp only [List.getElem?_map, he0, Option.map_some, Option.some.injEq] at he
                  subst he
                  simp [conE]
              simp only [conR, Option.map_some, hkey]
              have hks : (Instr.keyThatStays (keyAt es i k) k).run P w = .ok k w := by simp [Instr.keyThatStays, hsb]
              simp only [Sem.run_bind, hks, Result.andThen_ok, hso, Sem.run_pure, goInt, hmod, hborn]
            · intro x hx
              rcases setAt_mem k _ es i x hx with hx | ⟨rfl, hx2⟩
              · exact h4 x hx
              · exact ⟨sc_flat _ _ hk, by rw [hx2]; exact hsu⟩
        · cases ha
      · rename_i hp
        split at ha
        · rename_i z hz
          cases ha
          split at hp
          · cases hp
          · rename_i hfl
            obtain ⟨q1, q2⟩ := find_run E w hfl hp
            obtain ⟨z1, z2⟩ := zeroOf_run hz w
            refine ⟨_, ?_, hup _ (.map ((es ++ [({ key := k, val := z, born := clock } : MapEntry)]).map (conE E)).toArray (clock + 1)) rfl ⟨rfl, ?_⟩, rfl, by simp [sc, scA, scL, sc_flat _ z z2]⟩
            · simp only [con, conA, conL, Instr.mapEntry, Sem.run_bind, run_underlying hu, Result.andThen_ok, hgo, q1, q2]
              have hpush : (es.map (conE E)).toArray.push { key := k, val := z, born := clock } = ((es ++ [({ key := k, val := z, born := clock } : MapEntry)]).map (conE E)).toArray := by
                apply Array.ext'
                simp [conE, con_flat E k hk, con_flat E z z2]
              simp only [conR, Option.map_none, Sem.run_bind, z1, Result.andThen_ok, hso, Sem.run_pure, goInt, con_flat E z z2, hpush]
            · intro x hx
              rcases List.mem_append.1 hx with hx | hx
              · exact h4 x hx
              · simp at hx
                subst hx
                exact ⟨sc_flat _ _ hk, sc_flat _ _ z2⟩
        · cases ha
      · cases ha
    · cases ha
  · cases ha

theorem storeBorn_spec (E : Env) (b : Nat) (v : Value) : ∀ (es q : List MapEntry), storeBorn es b v = some q →
    (∃ i, (es.map (conE E)).findIdx? (fun e => (e.born : Int) == (b : Int)) = some i ∧ q.map (conE E) = (es.map (conE E)).modify i fun e => { e with val := con E v }) ∧ (∀ x ∈ q, x ∈ es ∨ (∃ y ∈ es, x.key = y.key) ∧ x.val = v)
  | [], q, h => by simp [storeBorn] at h
  | e :: es, q, h => by
    simp only [storeBorn] at h
    split at h
    · rename_i hb
      have hb' : e.born = b := Nat.eq_of_beq_eq_true hb
      cases h
      refine ⟨⟨0, ?_, by simp [conE]⟩, fun x hx => ?_⟩
      · simp [List.findIdx?_cons, conE, hb']
      · rcases List.mem_cons.1 hx with rfl | hx
        · exact .inr ⟨⟨e, by simp, rfl⟩, rfl⟩
        · exact .inl (by simp [hx])
    · rename_i hb
      split at h
      · rename_i q' hq
        cases h
        obtain ⟨⟨i, h1, h2⟩, h3⟩ := storeBorn_spec E b v es q' hq
        have hb' : ¬ e.born = b := fun hh => by rw [hh] at hb; simp at hb
        refine ⟨⟨i + 1, ?_, by simp [h2]⟩, fun x hx => ?_⟩
        · have : ((conE E e).born : Int) ≠ (b : Int) := by simp [conE]; exact fun hh => hb' (by exact_mod_cast hh)
          rw [List.map_cons, List.findIdx?_cons, if_neg (by simpa using this), h1]
          simp
        · rcases List.mem_cons.1 hx with rfl | hx
          · exact .inl (by simp)
          · rcases h3 x hx with h4 | ⟨⟨y, hy, h4⟩, h5⟩
            · exact .inl (by simp [h4])
            · exact .inr ⟨⟨y, by simp [hy], h4⟩, h5⟩
      · cases h

theorem HpOK.entryStore (H : HpOK P B w0 E h w) {t : TypeId} {m s v : Value} {h' : Hp} (hv : sc h.next v = true) (ha : entryStoreOp h m s v = some h') :
    ∃ w', (Instr.entryStore t (con E m) (con E s) (con E v)).run P w = .ok () w' ∧ HpOK P B w0 E h' w' ∧ h'.next = h.next := by
  unfold entryStoreOp at ha
  split at ha
  · rename_i r kd b
    split at ha
    · rename_i es clock hg
      obtain ⟨h1, h2, O, h3, rfl, h4⟩ := H.obj r _ hg
      have hgo : (getObj (E.μ r)).run P w = .ok (.map (es.map (conE E)).toArray clock) w := by simp [getObj, Sem.run, h3]
      have hso : ∀ o : Obj, (setObj (E.μ r) o).run P w = .ok () { w with heap := w.heap.setIfInBounds (E.μ r) o } := by intro o; simp [setObj, Sem.run, h3]
      split at ha
      · rename_i q hq
        cases ha
        obtain ⟨⟨i, q1, q2⟩, q3⟩ := storeBorn_spec E b v es q hq
        refine ⟨{ w with heap := w.heap.setIfInBounds (E.μ r) (.map (q.map (conE E)).toArray clock) }, ?_, H.upd hg rfl rfl (Upd.setObj (H.lt hg)) ⟨rfl, ?_⟩, rfl⟩
        · have hfi : (es.map (conE E)).toArray.findIdx? (fun e => (e.born : Int) == Int.ofNat b) = some i := by
            rw [List.findIdx?_toArray]
            exact q1
          simp only [con, Instr.entryStore, Sem.run_bind, hgo, Result.andThen_ok, asInt, asIntOf, Sem.run_pure, hfi, hso]
          congr 4
          rw [q2]
          apply Array.ext'
          simp
        · intro x hx
          rcases q3 x hx with hx | ⟨⟨y, hy, e1⟩, e2⟩
          · exact h4 x hx
          · exact ⟨by rw [e1]; exact (h4 y hy).1, by rw [e2]; exact hv⟩
      · cases ha
    · cases ha
  · cases ha

theorem HpOK.clear (H : HpOK P B w0 E h w) {t ty : TypeId} {x : Value} {h' : Hp} (ha : clearOp P h t x = some h') :
    ∃ w', (Builtin.clear_ #[t] ty #[con E x]).run P w = .ok (.tuple #[]) w' ∧ HpOK P B w0 E h' w' ∧ h'.next = h.next := by
  unfold clearOp at ha
  split at ha
  · rename_i e l c hu
    cases ha
    exact ⟨w, by simp [Builtin.clear_, run_underlying hu, con], H, rfl⟩
  · rename_i e i off n c hu
    split at ha
    · cases ha
      exact ⟨w, by simp [Builtin.clear_, run_underlying hu, con], H, rfl⟩
    · rename_i n
      split at ha
      · rename_i z hz
        obtain ⟨z1, z2⟩ := zeroOf_run hz w
        have hfl := flat_cells z2
        have hzf : flatL (zeros z.cells.toList (n + 1)) = true := zeros_flat _ hfl (n + 1)
        obtain ⟨w', s1, _, s3, s4, _⟩ := H.store ha (scL_flat _ _ hzf)
        rw [conL_flat E _ hzf] at s1
        refine ⟨w', ?_, s3, s4⟩
        have hzc : (Builtin.zeroCells z.cells (n + 1)).toList = zeros z.cells.toList (n + 1) := by
          have := zeros_eq z (n + 1)
          rw [show Builtin.zeroCells z.cells (n + 1) = (zeros z.cells.toList (n + 1)).toArray from this.symm]
        simp [Builtin.clear_, run_underlying hu, con, z1, hzc, s1]
      · cases ha
  · cases ha

theorem bytesV_load (E : Env) : ∀ (cs : List Value) (a : ByteArray) (b : ByteArray) (blk off : Nat), bytesV cs a = some b → (∀ j v, (conL E cs)[j]? = some v → w.cell? ⟨blk, off + j, none⟩ = some v) →
    (loadBytes ⟨blk, off, none⟩ a cs.length).run P w = .ok b w
  | [], a, b, blk, off, h, _ => by
    simp [bytesV] at h
    simp [loadBytes, h]
  | v :: r, a, b, blk, off, h, hc => by
    have h0 := hc 0 (con E v) (by simp [conL])
    match v, h with
    | .int .u8 (.ofNat x), h =>
      simp only [bytesV] at h
      have ih := bytesV_load E r _ b blk (off + 1) h (fun j u hj => by
        have := hc (j + 1) u (by simpa [conL] using hj)
        rw [show off + 1 + j = off + (j + 1) from by omega]
        exact this)
      simp only [List.length_cons, loadBytes, Sem.run_bind]
      have hl : (load ⟨blk, off, none⟩).run P w = .ok (.int .u8 (.ofNat x)) w := by
        rw [Nat.add_zero] at h0
        simp [load, Sem.run, h0, con]
      have e1 : (⟨blk, off, none⟩ : Addr).add 1 = ⟨blk, off + 1, none⟩ := by simp [Addr.add]
      rw [hl, e1]
      simpa using ih

theorem rowAt_same {n : Nat} (hd : 0 < P.depth) {e u : TypeId} (hu : P.underlyingId e = P.underlyingId u) (h1 : P.cellsOf e = 1) {count : Nat} (hn : n ≤ count) : liesAt P P.depth e count 0 u n = true := by
  obtain ⟨d, hd'⟩ : ∃ d, P.depth = d + 1 := ⟨P.depth - 1, by omega⟩
  have hs : sameLayout P P.depth e u = true := by
    rw [hd']
    simp [sameLayout, hu]
  rw [hd']
  unfold liesAt
  have : rowAt P (sameLayout P P.depth · u) P.depth e count 0 n = true := by
    rw [show rowAt P (sameLayout P P.depth · u) P.depth e count 0 n = rowAt P (sameLayout P P.depth · u) (d + 1) e count 0 n from by rw [hd']]
    unfold rowAt
    simp [h1, hs, hn]
  rw [this]
  rfl

theorem cellsOf_sizeT {t : TypeId} {n : Nat} (hs : sizeT P t = some n) : P.cellsOf t = n := by
  obtain ⟨i, hi, rfl⟩ := sizeT_info hs
  simp [Program.cellsOf, hi]

theorem HpOK.freeze (H : HpOK P B w0 E h w) {i : Nat} {cs : List Value} {e : TypeId} {opn : Bool} (hg : h.get i = some (.cells cs e opn)) (n : Nat) :
    HpOK P B w0 E (h.kill i) (w.freeze ⟨E.μ i, 0, none⟩ n) := by
  have hB := (H.obj i _ hg).2.1.1 rfl
  have hk := H.kill i
  have hsame : ∀ k, k ≠ E.μ i → (w.freeze ⟨E.μ i, 0, none⟩ n).heap[k]? = w.heap[k]? := by
    intro k hne
    unfold World.freeze
    split
    · rfl
    · simp [Array.getElem?_modify, Ne.symm hne]
  have hsz : (w.freeze ⟨E.μ i, 0, none⟩ n).heap.size = w.heap.size := by
    unfold World.freeze
    split <;> simp
  have hos : (w.freeze ⟨E.μ i, 0, none⟩ n).os = w.os ∧ (w.freeze ⟨E.μ i, 0, none⟩ n).tape = w.tape ∧ (w.freeze ⟨E.μ i, 0, none⟩ n).output = w.output := by
    unfold World.freeze
    split <;> simp
  refine ⟨H.bnd, H.below.trans ⟨hos.1, hos.2.1, hos.2.2, by rw [hsz]; exact Nat.le_refl _, fun k hk => hsame k (fun hh => hB (hh ▸ hk))⟩, fun j o ho => ?_, hk.inj, H.glob, H.gnext⟩
  obtain ⟨a1, a2, O, a3, a4⟩ := hk.obj j o ho
  refine ⟨a1, a2, O, ?_, a4⟩
  rw [hsame]
  · exact a3
  · intro hh
    rw [Hp.get_kill] at ho
    split at ho
    · cases ho
    · rename_i hji
      exact H.ne hg rfl ho hji hh

theorem run_freeze (a : Addr) (n : Nat) : (freeze a n).run P w = .ok () (w.freeze a n) := by simp [freeze, Sem.run]

theorem HpOK.unsafeStr (H : HpOK P B w0 E h w) {t ty _kt : TypeId} {kd : IntKind} {p v : Value} {n : Nat} {h' : Hp} (ha : unsafeStr P h t p n = some (v, h')) (rest : List TypeId) :
    ∃ w', (Builtin.unsafeString_ (t :: rest).toArray ty #[con E p, .int kd (Int.ofNat n)]).run P w = .ok (con E v) w' ∧ HpOK P B w0 E h' w' ∧ h'.next = h.next ∧ sc h'.next v = true := by
  unfold Eng.unsafeStr at ha
  split at ha
  · rename_i q
    cases ha
    refine ⟨w, ?_, H, rfl, rfl⟩
    have key : ∀ (A : Array TypeId) (q : Option Addr), A[0]? = some t → (Builtin.unsafeString_ A ty #[.pointer q, .int kd (Int.ofNat 0)]).run P w = .ok (.string .empty) w := by
      intro A q hA
      refine (congrArg (Sem.run P · w) (show Builtin.unsafeString_ A ty #[.pointer q, .int kd (Int.ofNat 0)] = (asInt (.int kd (Int.ofNat 0)) >>= _) from rfl)).trans ?_
      have hmx : ¬ ((0 : Int) > IntKind.i64.max) := by decide
      have hmx' : ¬ (IntKind.i64.max < 0) := by decide
      cases q <;> simp [asInt, asIntOf, hA]
    cases q with
    | none => exact key _ _ (by simp)
    | some a => exact key _ _ (by simp)
  · rename_i n i
    split at ha
    · rename_i cs e opn u hg hu
      split at ha
      · rename_i b hle hby hsz hid
        cases ha
        simp only [Bool.and_eq_true, Nat.ble_eq] at hle
        simp only [Bool.and_eq_true, beq_iff_eq, Nat.blt_eq] at hid
        obtain ⟨h1, _, O, h3, junk, rfl, h5, h6, _⟩ := H.obj i _ hg
        refine ⟨w.freeze ⟨E.μ i, 0, none⟩ (n + 1), ?_, H.freeze hg (n + 1), rfl, rfl⟩
        have hlen : (cs.take (n + 1)).length = n + 1 := by simp; omega
        have hload := bytesV_load (P := P) (w := w) E (cs.take (n + 1)) .empty b (E.μ i) 0 hby (fun j v hj => by
          rw [Nat.zero_add]
          have hj' : j < n + 1 := by
            have := (List.getElem?_eq_some_iff.1 hj).1
            rw [conL_length, hlen] at this
            exact this
          simp only [World.cell?, h3]
          rw [conL_eq] at hj
          rw [List.getElem?_map, List.getElem?_take] at hj
          simp only [hj', if_true] at hj
          simp only [List.getElem?_toArray, conL_eq]
          rw [List.getElem?_append_left (by simp; omega), List.getElem?_map]
          exact hj)
        rw [hlen] at hload
        have hva : (variablesAt ⟨E.μ i, 0, none⟩ u (n + 1)).run P w = .ok true w := by
          have hsh : (shape (E.μ i)).run P w = .ok (some (e, (conL E cs ++ junk).length)) w := by
            simp [shape, Sem.run, World.shape?, h3]
          have hc1 := cellsOf_sizeT hsz
          have := rowAt_same (P := P) (n := n + 1) hid.2 hid.1 hc1 (count := (conL E cs ++ junk).length / P.cellsOf e) (by rw [hc1, Nat.div_one]; simp [conL_length]; omega)
          simp only [variablesAt, Sem.run_bind, run_program, Result.andThen_ok, hsh]
          rw [this]
          rfl
        have hel : (elemOf t).run P w = .ok u w := by simp [elemOf, run_underlying hu]
        have hmx : ¬ ((Int.ofNat (n + 1)) > IntKind.i64.max) := by
          have := hle.2
          unfold most at this
          have : ((Int.ofNat (n + 1)) : Int) ≤ 16777216 := by simp only [Int.ofNat_eq_natCast]; omega
          have e : IntKind.i64.max = 9223372036854775807 := by decide
          rw [e]
          omega
        have hn0 : ¬ ((Int.ofNat (n + 1)) < 0) := by simp only [Int.ofNat_eq_natCast]; omega
        have hnz : ¬ ((Int.ofNat (n + 1)) = 0) := by simp only [Int.ofNat_eq_natCast]; omega
        have htn : (Int.ofNat (n + 1)).toNat = n + 1 := rfl
        refine (congrArg (Sem.run P · w) (show Builtin.unsafeString_ (t :: rest).toArray ty #[.pointer (some ⟨E.μ i, 0, none⟩), .int kd (Int.ofNat (n + 1))] = (asInt (.int kd (Int.ofNat (n + 1))) >>= _) from rfl)).trans ?_
        simp only [con, Sem.run_bind, asInt, asIntOf, Sem.run_pure, Result.andThen_ok, List.getElem?_toArray, List.getElem?_cons_zero, if_neg hn0, if_neg hmx, if_neg hnz, hel, htn, hva, if_true, hload, run_freeze]
      · cases ha
    · cases ha
  · cases ha

theorem unsafeData_run {A : Array TypeId} {ty : TypeId} {x v : Value} (hx : (∃ l c, x = .slice none l c ∧ v = .pointer none) ∨ (∃ a l c k, x = .slice (some a) l c ∧ c / 2 = k + 1 ∧ v = .pointer (some a) ∧ a.spot = none)) :
    (Builtin.unsafeSliceData_ A ty #[con E x]).run P w = .ok (con E v) w := by
  rcases hx with ⟨l, c, rfl, rfl⟩ | ⟨a, l, c, k, rfl, hc, rfl, hs⟩
  · rfl
  · obtain ⟨i, o, sp⟩ := a
    simp only at hs
    subst hs
    have hne : conCap E i c ≠ 0 := by unfold conCap; split <;> omega
    refine (congrArg (Sem.run P · w) (show Builtin.unsafeSliceData_ A ty #[con E (.slice (some ⟨i, o, none⟩) l c)] = (if conCap E i c ≠ 0 then pure (.pointer (some ⟨E.μ i, o, none⟩)) else _) from rfl)).trans ?_
    rw [if_pos hne]
    rfl

theorem capV_con {x : Value} {c : Nat} (hx : capV x = some c) : ∃ a l, con E x = .slice a l c := by
  unfold capV at hx
  split at hx
  · cases hx
    exact ⟨_, _, rfl⟩
  · rename_i a l c'
    split at hx
    · rename_i hb
      have := Tr.beq_true hb
      cases hx
      obtain ⟨i, o, sp⟩ := a
      have hcc : conCap E i c' = c' / 2 := by unfold conCap; rw [if_neg (by omega)]
      cases sp <;> simp only [con, hcc] <;> exact ⟨_, _, rfl⟩
    · cases hx
  · cases hx

theorem run_bytes {f : Value → ByteArray → Sem (ForInStep ByteArray)} (hf : ∀ n s, f (.int .u8 n) s = pure (.yield (s.push (UInt8.ofNat n.toNat)))) (w : World) : ∀ (l : List Value) (a b : ByteArray), bytesV l a = some b → (forIn l a f).run P w = .ok b w
  | [], a, b, h => by
    simp only [bytesV, Option.some.injEq] at h
    subst h
    simp
  | v :: r, a, b, h => by
    match v, h with
    | .int .u8 (.ofNat x), h =>
      simp only [bytesV] at h
      have ih := run_bytes hf w r _ b h
      rw [List.forIn_cons, hf, Sem.run_bind]
      simpa using ih

theorem bytesV_con (E : Env) : ∀ (l : List Value) (a b : ByteArray), bytesV l a = some b → conL E l = l
  | [], a, b, h => rfl
  | v :: r, a, b, h => by
    match v, h with
    | .int .u8 (.ofNat x), h =>
      simp only [bytesV] at h
      simp [conL, con, bytesV_con E r _ b h]

/-- The string of a slice of bytes. -/
theorem HpOK.bytesStr (H : HpOK P B w0 E h w) {s d : TypeId} {x v : Value} (ha : bytesStr P h s d x = some v) :
    sc h.next v = true ∧ (convert s d (con E x)).run P w = .ok (con E v) w := by
  unfold Eng.bytesStr at ha
  split at ha
  · rename_i e a n c hs hd
    split at ha
    · rename_i l hu hel
      split at ha
      · rename_i b hb
        cases ha
        refine ⟨by simp [sc], ?_⟩
        have hl := bytesV_con E l _ b hb
        have hrun : ∀ {f : Value → ByteArray → Sem (ForInStep ByteArray)}, (∀ n s, f (.int .u8 n) s = pure (.yield (s.push (UInt8.ofNat n.toNat)))) → (forIn l.toArray ByteArray.empty f).run P w = .ok b w := fun hf => by
          rw [← Array.forIn_toList]
          exact run_bytes hf w l _ b hb
        have key : ∀ (a' : Option Addr) (c' : Nat), (∀ q, a' = some q → (loadCells q n).run P w = .ok l.toArray w) → (a' = none → b = .empty) → (Conv.bytesToString (.slice a' n c')).run P w = .ok (.string b) w := fun a' c' h1 h2 => by
          cases a' with
          | none => rw [h2 rfl]; simp [Conv.bytesToString]
          | some q =>
            simp only [Conv.bytesToString, Sem.run_bind, h1 q rfl, Result.andThen_ok]
            rw [hrun (fun n s => rfl)]
            simp
        have fin : ∀ (a' : Option Addr) (c' : Nat), con E (.slice a n c) = .slice a' n c' → (∀ q, a' = some q → (loadCells q n).run P w = .ok l.toArray w) → (a' = none → b = .empty) → (convert s d (con E (.slice a n c))).run P w = .ok (con E (.string b)) w := fun a' c' h0 h1 h2 => by
          have := key a' c' h1 h2
          rw [h0]
          cases a' <;> simpa [convert, run_underlying hs, run_underlying hd, run_underlying hu, con] using this
        rcases a with _ | ⟨i, off, _ | q⟩
        · refine fin none c (by simp [con]) (fun q hq => by cases hq) fun _ => ?_
          cases n with
          | zero => simp only [elems, Option.some.injEq] at hel; subst hel; simp only [bytesV, Option.some.injEq] at hb; exact hb.symm
          | succ n => simp [elems] at hel
        · refine fin (some ⟨E.μ i, off, none⟩) _ (by simp [con]; rfl) (fun q hq => ?_) fun hq => by cases hq
          cases hq
          cases n with
          | zero => simp only [elems, Option.some.injEq] at hel; subst hel; simp [loadCells, loadCellsFrom]
          | succ n =>
            simp only [elems, Nat.mul_one] at hel
            have := H.run_loadCells hel
            rwa [hl] at this
        · cases n with
          | zero =>
            simp only [elems, Option.some.injEq] at hel
            subst hel
            exact fin (some ⟨E.μ i, conOff E i off q c, conSpot q c⟩) _ (by simp [con]; rfl) (fun q hq => by simp [loadCells, loadCellsFrom]) fun hq => by cases hq
          | succ n => simp [elems] at hel
      · cases ha
    · cases ha
  · cases ha

/-- Pointers seen as unsafe.Pointer and back. -/
theorem HpOK.convPtr (H : HpOK P B w0 E h w) {s d : TypeId} {x v : Value} (ha : convPtr P h s d x = some v) :
    v = x ∧ (convert s d (con E x)).run P w = .ok (con E v) w := by
  unfold Eng.convPtr at ha
  split at ha
  · rename_i t i off hs hd
    split at ha
    · rename_i cs e opn n hg hsz
      split at ha
      · rename_i hlt
        cases ha
        refine ⟨rfl, ?_⟩
        have hlt' : off < cs.length := by simpa [Nat.blt_eq] using hlt
        obtain ⟨h1, _, O, h3, junk, rfl, h5, h6, _⟩ := H.obj i _ hg
        have hsh : (shape (E.μ i)).run P w = .ok (some (e, (conL E cs ++ junk).length)) w := by simp [shape, Sem.run, World.shape?, h3]
        have hz := run_sizeT (P := P) hsz w
        have hge : ¬ ((conL E cs).length + junk.length ≤ off) := by rw [conL_length]; omega
        have hsw : w.shape? (E.μ i) = some (e, (conL E cs).length + junk.length) := by simp [World.shape?, h3]
        have hge2 : decide ((conL E cs).length + junk.length ≤ off) = false := by simpa using hge
        simp only [con, convert, Sem.run_bind, run_underlying hs, run_underlying hd, Result.andThen_ok]
        simp [Conv.unsafePointer, Conv.seenAt, viewAt, cellsIn, run_underlying hs, run_underlying hd, shape, Sem.run, hsw, hz, hge]
      · cases ha
    · cases ha
  · rename_i u i off hs hd
    split at ha
    · rename_i cs e n hg hsz
      split at ha
      · rename_i hl
        cases ha
        refine ⟨rfl, ?_⟩
        obtain ⟨h1, _, O, h3, junk, rfl, h5, h6, h7, _⟩ := H.obj i _ hg
        have hj := h7 rfl
        subst hj
        have hsw : w.shape? (E.μ i) = some (e, cs.length) := by simp [World.shape?, h3, conL_length]
        have hsh : (shape (E.μ i)).run P w = .ok (some (e, cs.length)) w := by simp [shape, Sem.run, hsw]
        have hva : (variablesAt ⟨E.μ i, off, none⟩ u 1).run P w = .ok true w := by
          simp only [variablesAt, Sem.run_bind, run_program, Result.andThen_ok, hsh, hl, Sem.run_pure]
        have hz := run_sizeT (P := P) hsz w
        simp only [con, convert, Sem.run_bind, run_underlying hs, run_underlying hd, Result.andThen_ok]
        simp [Conv.unsafePointer, Conv.seenAt, viewAt, run_underlying hs, run_underlying hd, shape, Sem.run, hsw, hz]
        have hva' : (variablesAt ⟨E.μ i, off, none⟩ u 1).run P w = .ok true w := hva
        simp [hva']
      · cases ha
    · cases ha
  · cases ha

end
end Go.Eng
