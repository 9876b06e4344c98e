/- One operation of the model and one of the evaluator: the rest. -/
import Derived.Test.YtkfbfgcflnkllaaGreatDoorEngE
namespace Go.Eng
open Go.RowKit

section
variable {P : Program} {B : Prot} {w0 : World} {E : Env} {h : Hp} {w : World}

theorem runV {q : Sem Value} {u : Value} {w' : World} (hq : q.run P w = .ok u w') : ((do pure (.value (← q)) : Sem Next).run P w) = .ok (.value u) w' := by simp [hq]
theorem runU {q : Sem Unit} {w' : World} (hq : q.run P w = .ok () w') : ((do q; pure .skip : Sem Next).run P w) = .ok .skip w' := by simp [hq]

theorem cells_scalar' {l : List Value} (hz : l.all scalar = true) : ∀ x ∈ l, scalar x = true := by
  rw [List.all_eq_true] at hz
  exact hz

theorem HpOK.copy (H : HpOK P B w0 E h w) {t tx ty : TypeId} {d s v : Value} {h' : Hp} (hd : sc h.next d = true)
    (ha : copyOp P h t d s = some (v, h')) :
    OpOK P B w0 E h ((do pure (.value (← Builtin.copy_ #[t, tx] ty #[con E d, con E s])) : Sem Next).run P w) v h' := by
  unfold copyOp at ha
  split at ha
  · rename_i e ht
    split at ha
    · rename_i size n i off dl cap hsize hlen
      dsimp only at ha
      split at ha
      · rename_i new hel
        split at ha
        · rename_i h1 hst
          cases ha
          have key : scL h.next new = true ∧ (Builtin.firstCells size (Nat.min n dl) (con E s)).run P w = .ok (conL E new).toArray w := by
            cases s with
            | slice a m c =>
              cases a with
              | none =>
                simp only [elems] at hel
                split at hel
                · rename_i hz
                  cases hel
                  simp [scL, con, Builtin.firstCells, conL]
                · cases hel
              | some a =>
                obtain ⟨j, o2, sp⟩ := a
                cases sp with
                | some q =>
                  simp only [elems] at hel
                  split at hel
                  · rename_i hz
                    cases hel
                    simp [scL, con, Builtin.firstCells, conL, loadCells, loadCellsFrom, hz]
                  · cases hel
                | none =>
                  simp only [elems] at hel
                  split at hel
                  · rename_i hz
                    cases hel
                    simp [scL, con, Builtin.firstCells, conL, loadCells, loadCellsFrom, hz]
                  · rename_i m hz
                    obtain ⟨_, _, h4, _⟩ := H.load hel
                    refine ⟨h4, ?_⟩
                    simp only [con, Builtin.firstCells]
                    rw [hz]
                    exact H.run_loadCells hel
            | string b =>
              simp only [elems] at hel
              split at hel
              · rename_i hb
                cases hel
                have hfl : flatL (Eng.byteCells b) = true := by
                  unfold Eng.byteCells
                  generalize b.data.toList = l
                  induction l with
                  | nil => rfl
                  | cons c r ih => simp [flatL, flat, ih]
                rw [conL_flat E _ hfl]
                refine ⟨scL_flat _ _ hfl, ?_⟩
                have hb' := Tr.beq_true hb
                rw [hb']
                exact firstCells_string b w
              · cases hel
            | _ => simp [elems] at hel
          obtain ⟨w', h2, _, h3, h4, _⟩ := H.store hst key.1
          refine ⟨E, w', _, runV ?_, .inl rfl, Agree.refl _ _, by omega, h3, by simp [sc]⟩
          have hl : (Builtin.lenOf (con E s)).run P w = .ok n w := by
            cases s with
            | slice a m c =>
              cases a with
              | none => simp [lenV] at hlen; subst hlen; simp [con, Builtin.lenOf]
              | some a => obtain ⟨i, o, x⟩ := a; cases x <;> simp [lenV] at hlen <;> subst hlen <;> simp [con, Builtin.lenOf]
            | string b => simp [lenV] at hlen; subst hlen; simp [con, Builtin.lenOf]
            | _ => simp [lenV] at hlen
          simp [con, Builtin.copy_, run_underlying ht, hl, run_sizeT hsize, key.2, h2, goInt]
        · cases ha
      · cases ha
    · rename_i size n cap hsize hlen
      cases ha
      refine OpOK.pure H (runV ?_) (by simp [sc])
      have hl : (Builtin.lenOf (con E s)).run P w = .ok n w := by
        cases s with
        | slice a m c =>
              cases a with
              | none => simp [lenV] at hlen; subst hlen; simp [con, Builtin.lenOf]
              | some a => obtain ⟨i, o, x⟩ := a; cases x <;> simp [lenV] at hlen <;> subst hlen <;> simp [con, Builtin.lenOf]
        | string b => simp [lenV] at hlen; subst hlen; simp [con, Builtin.lenOf]
        | _ => simp [lenV] at hlen
      have hf : (Builtin.firstCells size 0 (con E s)).run P w = .ok #[] w := by
        cases s with
        | slice a m c =>
          cases a with
          | none => simp [con, Builtin.firstCells]
          | some a => obtain ⟨i, o, x⟩ := a; cases x <;> simp [con, Builtin.firstCells, loadCells, loadCellsFrom]
        | string b => simp [con, Builtin.firstCells]
        | _ => simp [lenV] at hlen
      simp [con, Builtin.copy_, run_underlying ht, hl, run_sizeT hsize, goInt, hf]
    · cases ha
  · cases ha

theorem zeros_length (z : List Value) : ∀ n, (zeros z n).length = n * z.length
  | 0 => by simp [zeros]
  | n + 1 => by simp [zeros, zeros_length z n, Nat.add_mul]; omega

theorem zeros_get (z : List Value) : ∀ (n i : Nat), i < n * z.length → (zeros z n)[i]? = z[i % z.length]?
  | 0, i, h => by omega
  | n + 1, i, h => by
    simp only [zeros]
    by_cases hi : i < z.length
    · rw [List.getElem?_append_left hi, Nat.mod_eq_of_lt hi]
    · rw [List.getElem?_append_right (by omega), zeros_get z n (i - z.length) (by rw [Nat.add_mul] at h; omega)]
      rw [Nat.mod_eq_sub_mod (by omega : i ≥ z.length)]

theorem zeros_eq (z : Value) (n : Nat) : (zeros z.cells.toList n).toArray = (Array.range (n * z.cells.size)).map (z.cells[· % z.cells.size]!) := by
  apply Array.ext
  · simp [zeros_length]
  · intro i h1 h2
    have h3 : i < n * z.cells.size := by simpa using h2
    have hp : 0 < z.cells.size := by
      rcases Nat.eq_zero_or_pos z.cells.size with h0 | h0
      · rw [h0] at h3; omega
      · exact h0
    have hm : i % z.cells.size < z.cells.size := Nat.mod_lt _ hp
    have := zeros_get z.cells.toList n i (by simpa using h3)
    simp at h1
    rw [List.getElem?_eq_getElem h1] at this
    simp at this
    rw [Array.getElem?_eq_getElem hm] at this
    simp [hm]
    exact Option.some.inj this

theorem zeros_flat (z : List Value) (hz : flatL z = true) : ∀ n, flatL (zeros z n) = true
  | 0 => by simp [zeros, flatL]
  | n + 1 => by
    have ih := zeros_flat z hz n
    simp only [zeros]
    generalize zeros z n = r at ih
    clear n
    induction z with
    | nil => simpa using ih
    | cons a z ihz =>
      simp [flatL] at hz ⊢
      exact ⟨hz.1, ihz hz.2⟩

theorem zeros_all (z : List Value) (hz : ∀ v ∈ z, scalar v = true) : ∀ n, ∀ v ∈ zeros z n, scalar v = true
  | 0 => by simp [zeros]
  | n + 1 => by
    intro v hv
    simp only [zeros, List.mem_append] at hv
    rcases hv with hv | hv
    · exact hz v hv
    · exact zeros_all z hz n v hv

theorem natOf_eq {v : Value} {n : Nat} (hv : natOf v = some n) : ∃ k, v = .int k n := by
  cases v with
  | int k m =>
    cases m with
    | ofNat m => simp [natOf] at hv; subst hv; exact ⟨k, rfl⟩
    | negSucc m => simp [natOf] at hv
  | _ => simp [natOf] at hv

theorem HpOK.makeSlice (H : HpOK P B w0 E h w) {t : TypeId} {l c v : Value} {h' : Hp} (ha : makeSliceOp P h t l c = some (v, h')) :
    OpOK P B w0 E h ((do pure (.value (← Instr.makeSlice t (con E l) (con E c))) : Sem Next).run P w) v h' := by
  unfold makeSliceOp at ha
  split at ha
  · rename_i e ht
    split at ha
    · rename_i len cap z inf hl hc hz hinf
      split at ha
      · rename_i h1 h2 h3 h4
        split at ha
        · rename_i h5
          cases ha
          have h1' := Nat.le_of_ble_eq_true h1
          have h2' := Nat.le_of_ble_eq_true h2
          have h3' := Nat.le_of_ble_eq_true h3
          have h4' := Tr.beq_true h4
          obtain ⟨kl, rfl⟩ := natOf_eq hl
          obtain ⟨kc, rfl⟩ := natOf_eq hc
          obtain ⟨i, hi, hiz, hfz⟩ := zeroOf_info hz
          obtain rfl : i = inf := by rw [hi] at hinf; exact Option.some.inj hinf
          have hfl := flat_cells hfz
          have hnew := H.newCells (zeros z.cells.toList cap) e (scL_flat _ _ (zeros_flat _ hfl cap)) (zeros_all _ (cells_scalar h5) cap)
          rw [conL_flat E _ (zeros_flat _ hfl cap)] at hnew
          refine ⟨_, _, _, runV ?_, .inl rfl, Env.ext_agree _ _ _ _, by simp, hnew, by simp [sc]⟩
          unfold most at h2'
          have hmul : i.bytes * cap ≤ 4096 * 16777216 := Nat.mul_le_mul h3' h2'
          have hmul' : (i.bytes : Int) * (cap : Int) ≤ 281474976710656 := by
            have : ((i.bytes * cap : Nat) : Int) ≤ (4096 * 16777216 : Nat) := by exact_mod_cast hmul
            rw [Int.natCast_mul] at this
            omega
          have w1 : IntKind.i64.wrap (len : Int) = len := by simp [IntKind.wrap, IntKind.signed, IntKind.bits]; omega
          have w2 : IntKind.i64.wrap (cap : Int) = cap := by simp [IntKind.wrap, IntKind.signed, IntKind.bits]; omega
          have e1 : ¬ ((cap : Int) < 0) := by omega
          have e2 : ¬ ((len : Int) < 0) := by omega
          have e3 : ¬ (281474976710656 < (i.bytes : Int) * (cap : Int)) := by omega
          have e4 : ¬ ((cap : Int) < (len : Int)) := by omega
          have hzc := zeros_eq z cap
          simp [con, conCap, Instr.makeSlice, run_underlying ht, asInt, asIntOf, typeInfo, hi, w1, w2, e1, e2, e3, e4, sizeOf, zeroValue, hiz, newRow, ← h4']
          by_cases hn : cap * z.cells.size = 0
          · rw [if_pos (by simpa using hn)]
            simp [hzc, hn]
            congr 2
            apply Array.ext'
            simp [Array.toList_range]
          · rw [if_neg (by simpa using hn)]
            simp [hzc]
        · cases ha
      · cases ha
    · cases ha
  · cases ha

theorem conA_set (E : Env) (cs : Array Value) (i : Nat) (v : Value) : (cs.setIfInBounds i v).map (con E) = (cs.map (con E)).setIfInBounds i (con E v) := by
  simp [Array.map_setIfInBounds]

theorem fold_con (E : Env) (off : Nat) : ∀ (l : List (Value × Nat)) (cs : Array Value),
    ((l.map fun p => (con E p.1, p.2)).foldl (fun cs (c, j) => cs.setIfInBounds (off + j) c) (cs.map (con E))) = (l.foldl (fun cs (c, j) => cs.setIfInBounds (off + j) c) cs).map (con E)
  | [], cs => rfl
  | p :: r, cs => by
    simp only [List.map_cons, List.foldl_cons]
    rw [← conA_set, fold_con E off r]

theorem fill_con (E : Env) (place : Nat → Option (Nat × Nat)) : ∀ (parts : List (Nat × Value)) (cs cs' : Array Value), Instr.fill place cs parts = some cs' →
    Instr.fill place (cs.map (con E)) (parts.map fun p => (p.1, con E p.2)) = some (cs'.map (con E))
  | [], cs, cs', hf => by simp [Instr.fill] at hf; simp [Instr.fill, hf]
  | (i, v) :: r, cs, cs', hf => by
    simp only [Instr.fill, List.map_cons] at hf ⊢
    split at hf
    · cases hf
    · rename_i off size hp
      split at hf
      · cases hf
      · rename_i hc
        rw [if_neg (by simpa [con_cells] using hc)]
        have ih := fill_con E place r _ cs' hf
        rw [← ih]
        congr 1
        rw [con_cells]
        simp only [← Array.foldl_toList, Array.toList_zipIdx, Array.toList_map]
        rw [← fold_con]
        congr 1
        rw [List.zipIdx_map]
        apply List.map_congr_left
        intro p _
        rfl

theorem fold_sc (n off : Nat) : ∀ (l : List (Value × Nat)) (cs : Array Value), (∀ p ∈ l, sc n p.1 = true) → scA n cs = true → scA n (l.foldl (fun cs (c, j) => cs.setIfInBounds (off + j) c) cs) = true
  | [], cs, _, h => h
  | p :: r, cs, h1, h2 => by
    simp only [List.foldl_cons]
    refine fold_sc n off r _ (fun q hq => h1 q (by simp [hq])) ?_
    rw [scA_iff] at h2 ⊢
    intro v hv
    rcases Array.mem_or_eq_of_mem_setIfInBounds hv with hv | hv
    · exact h2 v hv
    · subst hv; exact h1 p (by simp)

theorem fill_sc (n : Nat) (place : Nat → Option (Nat × Nat)) : ∀ (parts : List (Nat × Value)) (cs cs' : Array Value), Instr.fill place cs parts = some cs' → scA n cs = true → (∀ p ∈ parts, sc n p.2 = true) → scA n cs' = true
  | [], cs, cs', hf, h1, _ => by simp [Instr.fill] at hf; rw [← hf]; exact h1
  | (i, v) :: r, cs, cs', hf, h1, h2 => by
    simp only [Instr.fill] at hf
    split at hf
    · cases hf
    · split at hf
      · cases hf
      · refine fill_sc n place r _ cs' hf ?_ (fun p hp => h2 p (by simp [hp]))
        rw [← Array.foldl_toList]
        refine fold_sc n _ _ _ (fun p hp => ?_) h1
        have hv := h2 (i, v) (by simp)
        have : p.1 ∈ v.cells := by
          obtain ⟨x, k⟩ := p
          simp only [Array.toList_zipIdx] at hp
          have := List.fst_mem_of_mem_zipIdx hp
          simpa using this
        exact sc_cells hv _ this

theorem HpOK.buildSlice (H : HpOK P B w0 E h w) {t : TypeId} {len : Nat} {parts : List (Nat × Value)} {v : Value} {h' : Hp} (hp : ∀ p ∈ parts, sc h.next p.2 = true)
    (ha : buildSliceOp P h t len parts = some (v, h')) (ps : Array (Nat × Value)) (hps : ps.toList = parts.map fun p => (p.1, con E p.2)) :
    OpOK P B w0 E h ((do pure (.value (← Instr.buildSlice t len ps)) : Sem Next).run P w) v h' := by
  unfold buildSliceOp at ha
  split at ha
  · rename_i e ht
    split at ha
    · rename_i size z hsize hz
      split at ha
      · rename_i h1 h2
        split at ha
        · rename_i cs hf
          split at ha
          · rename_i hall
            cases ha
            have h1' := Tr.beq_true h1
            have h2' := Nat.le_of_ble_eq_true h2
            unfold most at h2'
            obtain ⟨i, hi, hiz, hfz⟩ := zeroOf_info hz
            have hfl := flat_cells hfz
            have hzf : flatL (zeros z.cells.toList len) = true := zeros_flat _ hfl len
            have hscc := fill_sc h.next _ _ _ _ hf (by simpa [scA] using scL_flat h.next _ hzf) hp
            have hcon := fill_con E _ _ _ _ hf
            have hz0 : ((zeros z.cells.toList len).toArray.map (con E)) = (zeros z.cells.toList len).toArray := by
              have := conL_flat E _ hzf
              rw [conL_eq] at this
              apply Array.ext'
              simpa using this
            rw [hz0] at hcon
            have hnew := H.newCells cs.toList e (by obtain ⟨l⟩ := cs; simpa [scA] using hscc) (cells_scalar' hall)
            refine ⟨_, _, _, runV ?_, .inl rfl, Env.ext_agree _ _ _ _, by simp, hnew, by simp [sc]⟩
            have hc2 : (conL E cs.toList).toArray = cs.map (con E) := by rw [conL_eq]; apply Array.ext'; simp
            rw [hc2]
            have hzc := zeros_eq z len
            rw [h1'] at hzc
            have e1 : ¬ (16777216 < len * size) := by omega
            have hsame : (Array.range (len * size)).map ((if len * size = 0 then #[] else z.cells)[· % (if len * size = 0 then #[] else z.cells).size]!) = (zeros z.cells.toList len).toArray := by
              split
              · rename_i h0
                rw [hzc, h0]
                apply Array.ext'
                simp
              · rw [hzc, h1']
            simp only [con, conCap, Instr.buildSlice, Sem.run_bind, run_underlying ht, run_sizeT hsize, Result.andThen_ok]
            rw [if_neg (by omega)]
            have e2 : 2 * len % 2 ≠ 1 := by omega
            by_cases h0 : len * size = 0
            · simp only [if_pos h0] at hsame ⊢
              simp only [pure_bind, hsame, hps, hcon]
              simp [newRow]
            · simp only [if_neg h0] at hsame ⊢
              simp [zeroValue, typeInfo, hi, hiz, hsame, hps, hcon, newRow]
          · cases ha
        · cases ha
      · cases ha
    · cases ha
  · cases ha

theorem HpOK.build (H : HpOK P B w0 E h w) {t : TypeId} {parts : List (Nat × Value)} {v : Value} (hp : ∀ p ∈ parts, sc h.next p.2 = true)
    (ha : buildOp P t parts = some v) (ps : Array (Nat × Value)) (hps : ps.toList = parts.map fun p => (p.1, con E p.2)) :
    OpOK P B w0 E h ((do pure (.value (← Instr.build t ps)) : Sem Next).run P w) v h := by
  unfold buildOp at ha
  split at ha
  · rename_i z fs hz hu
    split at ha
    · rename_i places hpl
      split at ha
      · rename_i cs hf
        cases ha
        obtain ⟨h2, h3⟩ := zeroOf_run hz w
        have hz0 : z.cells.map (con E) = z.cells := by
          have := con_flatCells E h3
          rw [conL_eq] at this
          apply Array.ext'
          simpa using this
        have hcon := fill_con E _ _ _ _ hf
        rw [hz0] at hcon
        have hfz : scA h.next z.cells = true := by
          have := scL_flat h.next _ (flat_cells h3)
          generalize z.cells = a at this
          obtain ⟨l⟩ := a
          simpa [scA] using this
        have hscc := fill_sc h.next _ _ _ _ hf hfz hp
        refine OpOK.pure H (runV ?_) (by simpa [sc] using hscc)
        have hpl' := pureRun_sound _ w hpl
        simp only [Instr.build, Sem.run_bind, h2, Result.andThen_ok, run_underlying hu, hpl', hps, hcon, con, conA_eq]
        rfl
      · cases ha
    · cases ha
  · rename_i z n e hz hu
    split at ha
    · rename_i size hsize
      split at ha
      · rename_i cs hf
        cases ha
        obtain ⟨h2, h3⟩ := zeroOf_run hz w
        have hz0 : z.cells.map (con E) = z.cells := by
          have := con_flatCells E h3
          rw [conL_eq] at this
          apply Array.ext'
          simpa using this
        have hcon := fill_con E _ _ _ _ hf
        rw [hz0] at hcon
        have hfz : scA h.next z.cells = true := by
          have := scL_flat h.next _ (flat_cells h3)
          generalize z.cells = a at this
          obtain ⟨l⟩ := a
          simpa [scA] using this
        have hscc := fill_sc h.next _ _ _ _ hf hfz hp
        refine OpOK.pure H (runV ?_) (by simpa [sc] using hscc)
        simp [Instr.build, h2, run_underlying hu, run_sizeT hsize, hps, hcon, con, conA_eq]
      · cases ha
    · cases ha
  · cases ha

theorem scA_get {n : Nat} {a : Array Value} {i : Nat} {v : Value} (h1 : scA n a = true) (h2 : a[i]? = some v) : sc n v = true := by
  rw [scA_iff] at h1
  exact h1 v (Array.mem_of_getElem? h2)

theorem HpOK.field (H : HpOK P B w0 E h w) {t : TypeId} {x v : Value} {f : Nat} (hx : sc h.next x = true) (ha : fieldOp P t x f = some v) :
    OpOK P B w0 E h ((do pure (.value (← Instr.field t (con E x) f)) : Sem Next).run P w) v h := by
  unfold fieldOp at ha
  split at ha
  · rename_i fs cs hu
    simp only [sc] at hx
    split at ha
    · rename_i fd hfd
      split at ha
      · rename_i n hagg hn
        cases ha
        refine OpOK.pure H (runV ?_) ?_
        · simp [con, Instr.field, run_underlying hu, hfd, asAgg, part, run_isAggT hagg, run_sizeT hn, conA_eq, Array.map_extract]
        · simp only [sc]
          rw [scA_iff] at hx ⊢
          intro v hv
          have hv' := Array.mem_toList_iff.2 hv
          rw [Array.toList_extract] at hv'
          simp only [List.extract] at hv'
          exact hx v (Array.mem_toList_iff.1 (List.mem_of_mem_drop (List.mem_of_mem_take hv')))
      · rename_i hagg
        refine OpOK.pure H (runV ?_) (scA_get hx ha)
        simp [con, Instr.field, run_underlying hu, hfd, asAgg, part, run_isAggT hagg, conA_eq, ha]
      · cases ha
    · cases ha
  · cases ha

theorem HpOK.indexAddr (H : HpOK P B w0 E h w) {t : TypeId} {x i v : Value} (hx : sc h.next x = true) (ha : indexAddrOp P t x i = some v) :
    OpOK P B w0 E h ((do pure (.value (← Instr.indexAt t (con E x) (con E i))) : Sem Next).run P w) v h := by
  unfold indexAddrOp at ha
  split at ha
  · cases ha
  · rename_i k hk
    obtain ⟨ik, rfl⟩ := natOf_eq hk
    split at ha
    · rename_i n e j off hu
      split at ha
      · rename_i s hlt hs
        cases ha
        have hlt' : k < n := by simpa [Nat.blt_eq] using hlt
        refine OpOK.pure H (runV ?_) (by simpa [sc, addTo] using hx)
        have e1 : ((k : Int) < (n : Int)) := by omega
        simp [con, Instr.indexAt, asIntOf, run_underlying hu, Instr.sureAddr, run_sizeT hs, add_lit, addTo]
        intro hh
        omega
      · cases ha
    · rename_i e j off len cap hu
      split at ha
      · rename_i s hlt hs
        cases ha
        have hlt' : k < len := by simpa [Nat.blt_eq] using hlt
        refine OpOK.pure H (runV ?_) (by simpa [sc, addTo] using hx)
        have e1 : ((k : Int) < (len : Int)) := by omega
        simp [con, Instr.indexAt, asIntOf, run_underlying hu, run_sizeT hs, add_lit, addTo]
        try (intro hh; omega)
      · cases ha
    · cases ha

theorem HpOK.fieldAddr (H : HpOK P B w0 E h w) {t : TypeId} {x v : Value} {f : Nat} (hx : sc h.next x = true) (ha : fieldAddrOp P t x f = some v) :
    OpOK P B w0 E h ((do pure (.value (← Instr.fieldAt t (con E x) f)) : Sem Next).run P w) v h := by
  unfold fieldAddrOp at ha
  split at ha
  · rename_i fs i off hu
    split at ha
    · rename_i fd hfd
      split at ha
      · cases ha
      · rename_i n hn
        cases ha
        refine OpOK.pure H (runV ?_) (by simpa [sc, addTo] using hx)
        simp [con, Instr.fieldAt, run_underlying hu, hfd, Instr.sureAddr, fieldPlace, run_sizeT hn, add_lit, addTo]
      · cases ha
    · cases ha
  · cases ha

theorem bound_run {x : Option Value} {d m r : Nat} (hb : bound x d m = some r) : (x = none ∧ r = d) ∨ (∃ k, x = some (.int k r) ∧ r ≤ m) := by
  unfold bound at hb
  split at hb
  · exact .inl ⟨rfl, (Option.some.inj hb).symm⟩
  · rename_i v
    split at hb
    · rename_i n hn
      split at hb
      · rename_i hle
        cases hb
        obtain ⟨k, rfl⟩ := natOf_eq hn
        exact .inr ⟨k, rfl, Nat.le_of_ble_eq_true hle⟩
      · cases hb
    · cases hb

theorem run_bound (k : IntKind) (r y : Nat) (c : BoundsCode) (hr : r ≤ y) : (Instr.sliceBound (.int k r) y c).run P w = .ok r w := by
  have : (r : Int) ≤ (y : Int) := by omega
  simp [Instr.sliceBound, asIntOf, this]
  try (intro hh; omega)

/-- The bounds of a slice expression, at a capacity of C where c at least are known. -/
theorem run_bounds {isS : Bool} {len c C m hh l top : Nat} {lo hi mx : Option Value} (hcC : c ≤ C) (hm : bound mx c c = some m) (ht : top = if mx.isSome then m else c) (hh1 : bound hi len top = some hh) (hl : bound lo 0 hh = some l) (hn : hi = none → mx = none) :
    (Instr.sliceBounds isS len C (lo.map (con E)) (hi.map (con E)) (mx.map (con E))).run P w = .ok (l, hh, if mx.isSome then m else C) w := by
  rcases bound_run hm with ⟨rfl, rfl⟩ | ⟨km, rfl, hm2⟩
  · simp only [Option.isSome_none, Bool.false_eq_true, if_false] at ht
    subst ht
    rcases bound_run hh1 with ⟨rfl, rfl⟩ | ⟨kh, rfl, hh2⟩
    · rcases bound_run hl with ⟨rfl, rfl⟩ | ⟨kl, rfl, hl2⟩
      · simp [Instr.sliceBounds]
      · simp [Instr.sliceBounds, con, run_bound kl l hh _ hl2]
    · rcases bound_run hl with ⟨rfl, rfl⟩ | ⟨kl, rfl, hl2⟩
      · simp [Instr.sliceBounds, con, run_bound kh hh C _ (by omega)]
      · simp [Instr.sliceBounds, con, run_bound kh hh C _ (by omega), run_bound kl l hh _ hl2]
  · simp only [Option.isSome_some, if_true] at ht
    subst ht
    rcases bound_run hh1 with ⟨rfl, rfl⟩ | ⟨kh, rfl, hh2⟩
    · have := hn rfl
      cases this
    · rcases bound_run hl with ⟨rfl, rfl⟩ | ⟨kl, rfl, hl2⟩
      · simp [Instr.sliceBounds, con, run_bound km top C _ (by omega), run_bound kh hh top _ hh2]
      · simp [Instr.sliceBounds, con, run_bound km top C _ (by omega), run_bound kh hh top _ hh2, run_bound kl l hh _ hl2]

theorem sliceZ_run {len cap a b : Nat} {lo hi mx : Option Value} (hz : sliceZ len cap lo hi mx = some (a, b)) (hn : hi = none → mx = none) :
    ∃ l hh m, (∀ isS, (Instr.sliceBounds isS len cap (lo.map (con E)) (hi.map (con E)) (mx.map (con E))).run P w = .ok (l, hh, m) w) ∧ a = hh - l ∧ b = m - l ∧ (len ≤ cap → l ≤ hh ∧ hh ≤ m ∧ m ≤ cap) := by
  unfold sliceZ at hz
  split at hz
  · cases hz
  · rename_i m hm
    split at hz
    · cases hz
    · rename_i hh hh1
      split at hz
      · cases hz
      · rename_i l hl
        cases hz
        have hb := fun isS => run_bounds (P := P) (w := w) (E := E) (isS := isS) (Nat.le_refl cap) hm rfl hh1 hl hn
        have hl2 : l ≤ hh := by
          rcases bound_run hl with ⟨_, rfl⟩ | ⟨_, _, h⟩
          · exact Nat.zero_le _
          · exact h
        cases hs : mx.isSome with
        | true =>
          rw [hs] at hb hh1
          refine ⟨l, hh, m, hb, rfl, rfl, fun hlc => ⟨hl2, ?_, ?_⟩⟩
          · rcases bound_run hh1 with ⟨h0, _⟩ | ⟨_, _, h⟩
            · rw [hn h0] at hs; cases hs
            · simpa using h
          · rcases bound_run hm with ⟨_, rfl⟩ | ⟨_, _, h⟩
            · exact Nat.le_refl _
            · exact h
        | false =>
          rw [hs] at hb hh1
          have hmc : m = cap := by
            rcases bound_run hm with ⟨_, rfl⟩ | ⟨k, hk, _⟩
            · rfl
            · rw [hk] at hs; cases hs
          subst hmc
          refine ⟨l, hh, m, hb, rfl, rfl, fun hlc => ⟨hl2, ?_, Nat.le_refl _⟩⟩
          rcases bound_run hh1 with ⟨_, rfl⟩ | ⟨_, _, h⟩
          · exact hlc
          · simpa using h
theorem HpOK.slice (H : HpOK P B w0 E h w) {t : TypeId} {x v : Value} {lo hi mx : Option Value} (hx : sc h.next x = true) (ha : sliceOp P t x lo hi mx = some v) (hnm : hi = none → mx = none) :
    OpOK P B w0 E h ((do pure (.value (← Instr.sliceAt t (con E x) (lo.map (con E)) (hi.map (con E)) (mx.map (con E)))) : Sem Next).run P w) v h := by
  -- the address, the length and the capacity, whatever more the row holds
  have key : ∀ (i off size c : Nat) (opn : Bool) (len : Nat), sliceV i off size c opn len lo hi mx = some v →
      ∃ l hh m v2, (∀ isS, (Instr.sliceBounds isS len (if opn then c + E.ε i else c) (lo.map (con E)) (hi.map (con E)) (mx.map (con E))).run P w = .ok (l, hh, m) w) ∧
        con E v = .slice (some v2) (hh - l) (m - l) ∧ v2 = (if m = l then (⟨E.μ i, off, none⟩ : Addr) else (⟨E.μ i, off, none⟩ : Addr).add (l * size)) ∧ (i < h.next → sc h.next v = true) := by
    intro i off size c opn len hv
    unfold sliceV at hv
    split at hv
    · cases hv
    · rename_i m hm
      split at hv
      · cases hv
      · rename_i hh hh1
        split at hv
        · cases hv
        · rename_i l hl
          have hcC : c ≤ (if opn then c + E.ε i else c) := by split <;> omega
          have hb := fun isS => run_bounds (P := P) (w := w) (E := E) (isS := isS) hcC hm rfl hh1 hl hnm
          have hmx : mx.isSome = false → m = c := by
            intro hs
            rcases bound_run hm with ⟨_, rfl⟩ | ⟨k, hk, _⟩
            · rfl
            · rw [hk] at hs; cases hs
          refine ⟨l, hh, _, _, hb, ?_, rfl, ?_⟩
          · split at hv
            · cases hv
            · -- open, at the end: l = 0
              rename_i hle hml hop
              have hml' := Tr.beq_true hml
              simp only [Bool.and_eq_true, Bool.not_eq_true'] at hop
              have hmc := hmx hop.2
              split at hv
              · cases hv
                have hc0 : c = 0 := by omega
                simp [hop.1, hop.2, hc0, con, conCap, add_lit]
              · rename_i l
                cases hv
                have hc1 : c = l + 1 := by omega
                subst hc1
                have hdiv : (1 : Nat) / 2 = 0 := rfl
                have hmod : (1 : Nat) % 2 = 1 := rfl
                simp only [hop.1, hop.2, con, conCap, conOff, conSpot, hdiv, hmod, if_true, Bool.false_eq_true, if_false, Nat.zero_add]
                have e2 : l + 1 + E.ε i - (l + 1) = E.ε i := by omega
                rw [e2]
                cases he : E.ε i with
                | zero => simp
                | succ q =>
                  have : ¬ (l + 1 + (q + 1) = l + 1) := by omega
                  rw [if_neg this]
                  simp [add_lit]
            · rename_i hle hml hop
              have hml' := Tr.beq_true hml
              cases hv
              have e1 : (if mx.isSome = true then m else if opn = true then c + E.ε i else c) = m := by
                cases hs : mx.isSome
                · rw [hs] at hop
                  simp at hop
                  simp [hop, hmx hs]
                · simp
              rw [e1]
              simp [con, conCap, hml']
            · rename_i hle hml hop
              have hml' := Tr.beq_false hml
              have hle' := Nat.le_of_ble_eq_true hle
              simp only [Bool.and_eq_true, Bool.not_eq_true'] at hop
              have hmc := hmx hop.2
              cases hv
              have e1 : ¬ (c + E.ε i = l) := by omega
              simp [hop.1, hop.2, con, conCap, add_lit, e1]
              omega
            · rename_i hle hml hop
              have hml' := Tr.beq_false hml
              cases hv
              have e1 : (if mx.isSome = true then m else if opn = true then c + E.ε i else c) = m := by
                cases hs : mx.isSome
                · rw [hs] at hop
                  simp at hop
                  simp [hop, hmx hs]
                · simp
              rw [e1]
              simp [con, conCap, hml', add_lit]
          · intro hi'
            (repeat' split at hv) <;> first | (cases hv; done) | (cases hv; simp [sc, hi'])
  unfold sliceOp at ha
  split at ha
  · rename_i e i off len cap hu
    split at ha
    · rename_i s hs
      obtain ⟨l, hh, m, v2, h1, h2, h3, h4⟩ := key _ _ _ _ _ _ ha
      refine OpOK.pure H (runV ?_) (h4 (by simpa [sc] using hx))
      rw [h2, h3]
      have hc : conCap E i cap = (if (Nat.beq (cap % 2) 1) = true then cap / 2 + E.ε i else cap / 2) := by
        unfold conCap
        by_cases hq : cap % 2 = 1 <;> simp [hq]
      simp only [con, Instr.sliceAt, Sem.run_bind, run_underlying hu, Result.andThen_ok, Instr.slice, hc]
      rw [h1 true]
      simp [run_sizeT hs]
      split <;> simp
    · cases ha
  · rename_i n e i off hu
    split at ha
    · rename_i s hs
      obtain ⟨l, hh, m, v2, h1, h2, h3, h4⟩ := key _ _ _ _ _ _ ha
      refine OpOK.pure H (runV ?_) (h4 (by simpa [sc] using hx))
      rw [h2, h3]
      have h1' := h1 false
      simp only [Bool.false_eq_true, if_false] at h1'
      simp only [con, Instr.sliceAt, Sem.run_bind, run_underlying hu, Result.andThen_ok, Instr.sureAddr, Sem.run_pure]
      rw [h1']
      simp [run_sizeT hs]
    · cases ha
  · rename_i e len cap hu
    split at ha
    · rename_i s a b hs hz
      cases ha
      obtain ⟨l, hh, m, h1, rfl, rfl, _⟩ := sliceZ_run (P := P) (w := w) (E := E) hz hnm
      refine OpOK.pure H (runV ?_) rfl
      simp only [con, Instr.sliceAt, Sem.run_bind, run_underlying hu, Result.andThen_ok, Instr.slice]
      rw [h1 true]
      simp [run_sizeT hs]
    · cases ha
  · rename_i e i off q hu
    split at ha
    · rename_i s a hs hz
      cases ha
      obtain ⟨l, hh, m, h1, _, _, h2⟩ := sliceZ_run (P := P) (w := w) (E := E) (a := a.1) (b := a.2) hz hnm
      obtain ⟨rfl, rfl, rfl⟩ : l = 0 ∧ hh = 0 ∧ m = 0 := by have := h2 (Nat.le_refl 0); omega
      refine OpOK.pure H (runV ?_) (by simpa [sc] using hx)
      simp only [con, Instr.sliceAt, Sem.run_bind, run_underlying hu, Result.andThen_ok, Instr.slice]
      rw [show conCap E i 0 = 0 from rfl, h1 true]
      simp [run_sizeT hs]
    · cases ha
  · cases ha

end
end Go.Eng
