/- One operation of the model and one of the evaluator: slices, structs, addresses. -/
import Derived.Test.YtkfbfgcflnkllaaGreatDoorEngD
namespace Go.Eng
open Go.RowKit

section
variable {P : Program} {B : Prot} {w0 : World} {E : Env} {h : Hp} {w : World}

theorem zeroOf_run {t : TypeId} {z : Value} (hz : zeroOf P t = some z) (w : World) : (zeroValue t).run P w = .ok z w ∧ flat z = true := by
  unfold zeroOf at hz
  split at hz
  · rename_i v hv
    split at hz
    · rename_i hf
      cases hz
      exact ⟨pureRun_sound _ w hv, hf⟩
    · cases hz
  · cases hz

theorem zeroOf_info {t : TypeId} {z : Value} (hz : zeroOf P t = some z) : ∃ i, P.info? t = some i ∧ i.zero = some z ∧ flat z = true := by
  have h1 := (zeroOf_run hz default)
  cases hi : P.info? t with
  | none => simp [zeroValue, typeInfo, hi] at h1
  | some i =>
    cases hz' : i.zero with
    | none => simp [zeroValue, typeInfo, hi, hz'] at h1
    | some v =>
      simp [zeroValue, typeInfo, hi, hz'] at h1
      exact ⟨i, rfl, by rw [hz', h1.1], h1.2⟩

theorem flat_cells {v : Value} (hf : flat v = true) : flatL v.cells.toList = true := by
  cases v with
  | agg cs => obtain ⟨l⟩ := cs; simpa [flat, flatA, Value.cells] using hf
  | _ => simpa [Value.cells, flatL] using hf

theorem con_flatCells {v : Value} (E : Env) (hf : flat v = true) : conL E v.cells.toList = v.cells.toList := conL_flat E _ (flat_cells hf)

/-- What one operation has come to. -/
def OpOK (P : Program) (B : Prot) (w0 : World) (E : Env) (h : Hp) (r : Result Next) (v : Value) (h' : Hp) : Prop :=
  ∃ E' w' nx, r = .ok nx w' ∧ (nx = .value (con E' v) ∨ nx = .skip ∧ v = Eng.undef) ∧ Agree h.next E E' ∧ h.next ≤ h'.next ∧ HpOK P B w0 E' h' w' ∧ sc h'.next v = true

theorem OpOK.pure {r : Result Next} {v : Value} (H : HpOK P B w0 E h w) (hr : r = .ok (.value (con E v)) w) (hs : sc h.next v = true) : OpOK P B w0 E h r v h :=
  ⟨E, w, _, hr, .inl rfl, Agree.refl _ _, Nat.le_refl _, H, hs⟩

/-- A new row of cells. -/
theorem HpOK.newCells (H : HpOK P B w0 E h w) (cs : List Value) (e : TypeId) (hs : scL h.next cs = true) (h1 : ∀ v ∈ cs, scalar v = true) :
    HpOK P B w0 (E.ext h.next w.heap.size 0) (h.new (.cells cs e false)) (w.alloc (.cells (conL E cs).toArray e)) := by
  refine H.new 0 (New.alloc w _) ⟨[], ?_, scL_mono (by omega) cs hs, h1, fun _ => rfl, fun hh => by cases hh⟩
  rw [← conL_congr (Env.ext_agree E h.next w.heap.size 0) cs hs]
  simp

theorem con_ptr_new (E : Env) (n m x o : Nat) : con (E.ext n m x) (.pointer (some ⟨n, o, none⟩)) = .pointer (some ⟨m, o, none⟩) := by simp [con]

theorem cells_scalar {v : Value} (hz : v.cells.toList.all scalar = true) : ∀ x ∈ v.cells.toList, scalar x = true := by
  rw [List.all_eq_true] at hz
  exact hz

theorem HpOK.alloc (H : HpOK P B w0 E h w) {e : TypeId} {z : Value} (hz : zeroOf P e = some z) (h1 : z.cells.toList.all scalar = true) :
    OpOK P B w0 E h ((do pure (.value (← Instr.alloc e true (.tuple #[]))) : Sem Next).run P w) (.pointer (some ⟨h.next, 0, none⟩)) (h.new (.cells z.cells.toList e false)) := by
  obtain ⟨h2, h3⟩ := zeroOf_run hz w
  have hf := flat_cells h3
  refine ⟨_, _, _, ?_, .inl rfl, Env.ext_agree _ _ _ 0, by simp, H.newCells z.cells.toList e (scL_flat _ _ hf) (cells_scalar h1), by simp [sc]⟩
  rw [con_ptr_new, con_flatCells E h3]
  simp [Instr.alloc, h2, newVar, newRow]

theorem HpOK.box (H : HpOK P B w0 E h w) {e : TypeId} {v : Value} (hv : sc h.next v = true) (h1 : v.cells.toList.all scalar = true) :
    OpOK P B w0 E h ((do pure (.value (← Instr.box e (con E v))) : Sem Next).run P w) (.pointer (some ⟨h.next, 0, none⟩)) (h.new (.cells v.cells.toList e false)) := by
  have hsc : scL h.next v.cells.toList = true := by
    rw [scL_iff]; intro x hx; exact sc_cells hv x (by simpa using hx)
  refine ⟨_, _, _, ?_, .inl rfl, Env.ext_agree _ _ _ 0, by simp, H.newCells v.cells.toList e hsc (cells_scalar h1), by simp [sc]⟩
  rw [con_ptr_new]
  have : (con E v).cells = (conL E v.cells.toList).toArray := by rw [con_cells, conL_eq]; apply Array.ext'; simp
  simp [Instr.box, newVar, newRow, this]

theorem scalar_conL {E : Env} {l : List Value} (hl : ∀ v ∈ l, scalar v = true) : ∀ v ∈ conL E l, v.oneCell' = true := by
  intro v hv
  rw [conL_eq] at hv
  obtain ⟨u, hu, rfl⟩ := List.mem_map.1 hv
  rw [scalar_one, scalar_con]
  exact hl u hu

/-- The cells of a slice's elements, as append's laws ask for them. -/
theorem HpOK.src (H : HpOK P B w0 E h w) {size n : Nat} {tx : TypeId} {x : Value} {new : List Value} (hx : (∃ e', P.underlying tx = some (.slice e') ∧ ∃ a m c, x = .slice a m c) ∨ (P.underlying tx = some .string ∧ ∃ b, x = .string b))
    (hn : lenV x = some n) (he : elems h size n x = some new) (h1 : new.all scalar = true) :
    Src P size tx (con E x) n (conL E new) w ∧ scL h.next new = true ∧ new.length = n * size := by
  rw [List.all_eq_true] at h1
  rcases hx with ⟨e', hk, a, m, c, rfl⟩ | ⟨hk, b, rfl⟩
  · simp [lenV] at hn
    subst hn
    cases a with
    | none =>
      simp only [elems] at he
      split at he
      · cases he
        simp only [con, conL]
        exact ⟨Src.ofNil w hk c, by simp [scL], by simp⟩
      · cases he
    | some a =>
      obtain ⟨i, off, sp⟩ := a
      cases sp with
      | some s =>
        simp only [elems] at he
        split at he
        · cases he
          simp only [con, conL]
          exact ⟨Src.ofSlice w hk _ _ _ _ (by simp) (by simp) (by simp), by simp [scL], by simp⟩
        · cases he
      | none =>
        simp only [elems] at he
        split at he
        · cases he
          simp only [con, conL]
          exact ⟨Src.ofSlice w hk _ _ _ _ (by simp) (by simp) (by simp), by simp [scL], by simp⟩
        · obtain ⟨h2, h3, h4, _⟩ := H.load he
          refine ⟨?_, h4, h3⟩
          simp only [con]
          exact Src.ofSlice w hk _ _ _ _ (by rw [conL_length]; exact h3) h2 (scalar_conL h1)
  · simp [lenV] at hn
    subst hn
    simp only [elems] at he
    split at he
    · cases he
      have hfl : flatL (Eng.byteCells b) = true := by
        unfold Eng.byteCells
        generalize b.data.toList = l
        induction l with
        | nil => rfl
        | cons c r ih => simp [flatL, flat, ih]
      rw [conL_flat E _ hfl]
      refine ⟨Src.ofString w hk b, scL_flat _ _ hfl, ?_⟩
      rw [Nat.mul_one]
      exact byteCells_length b
    · cases he

theorem zeroCells_eq (z : Array Value) (n : Nat) : (Builtin.zeroCells z n).size = n * z.size := by simp [Builtin.zeroCells]

theorem grownCap_le (w : World) (need old : Nat) (e : TypeId) : need ≤ grownCap w need old e := by
  simp [grownCap, Question.cut]

theorem HpOK.grow (H : HpOK P B w0 E h w) {e : TypeId} {size : Nat} (hz : sizeT P e = some size) (cs : List Value) (junk : List Value) (x : Nat) (hs : scL h.next cs = true) (h1 : ∀ v ∈ cs, scalar v = true) (hj : junk.length = x * size) :
    HpOK P B w0 (E.ext h.next w.heap.size x) (h.new (.cells cs e true)) (w.drew.alloc (.cells ((conL E cs).toArray ++ junk.toArray) e)) := by
  refine H.new x (New.drewAlloc w _) ⟨junk, ?_, scL_mono (by omega) cs hs, h1, (fun hh => by cases hh), fun _ => ⟨size, hz, by simpa using hj⟩⟩
  rw [← conL_congr (Env.ext_agree E h.next w.heap.size x) cs hs]
  simp

theorem con_slice_new (E : Env) (n m x o l c : Nat) : con (E.ext n m x) (.slice (some ⟨n, o, none⟩) l (2 * c + 1)) = .slice (some ⟨m, o, none⟩) l (c + x) := by
  simp [con, conCap]
  omega

theorem HpOK.append (H : HpOK P B w0 E h w) {t tx ty : TypeId} {s x v : Value} {h' : Hp} (hs : sc h.next s = true)
    (hx : (∃ e', P.underlying tx = some (.slice e') ∧ ∃ a m c, x = .slice a m c) ∨ (P.underlying tx = some .string ∧ ∃ b, x = .string b))
    (ha : appendOp P h t s x = some (v, h')) :
    OpOK P B w0 E h ((do pure (.value (← Builtin.append_ #[t, tx] ty #[con E s, con E x])) : Sem Next).run P w) v h' := by
  unfold appendOp at ha
  split at ha
  · rename_i e ht
    split at ha
    · rename_i size inf z n hsize hinf hzero hlen
      split at ha
      · rename_i new helems hzs hbytes
        split at ha
        · cases ha
        · rename_i hall
          obtain ⟨i, hi, hiz, hfz⟩ := zeroOf_info hzero
          obtain rfl : i = inf := by rw [hi] at hinf; exact Option.some.inj hinf
          obtain ⟨i2, hi2, hsz⟩ := sizeT_info hsize
          obtain rfl : i2 = i := by rw [hi] at hi2; exact (Option.some.inj hi2).symm
          have hby := Nat.le_of_ble_eq_true hbytes
          have hzs' := Tr.beq_true hzs
          obtain ⟨hsrc, hnsc, hnl⟩ := H.src hx hlen helems hall
          rw [List.all_eq_true] at hall
          rw [← hsz] at hsrc
          have hfit : ∀ need old : Nat, old < need → need ≤ most → Builtin.nextslicecap need old * i2.bytes ≤ 281474976710656 := by
            intro need old h1 h2
            have h3 := nextslicecap_le h1
            have h4 : Builtin.nextslicecap need old * i2.bytes ≤ (2 * most) * 4096 := Nat.mul_le_mul (by omega) hby
            unfold most at h4
            omega
          -- a new row
          have grow : ∀ (base : Option Addr) (sLen sCap : Nat) (olds : List Value),
              (Builtin.firstCells i2.size sLen (.slice base sLen sCap)).run P w.drew = .ok (conL E olds).toArray w.drew → sCap < sLen + n → sLen + n ≤ most → scL h.next olds = true → (∀ u ∈ olds, scalar u = true) →
              ∃ y w', (Builtin.append_ #[t, tx] ty #[.slice base sLen sCap, con E x]).run P w =
                .ok (con (E.ext h.next w.heap.size y) (.slice (some ⟨h.next, 0, none⟩) (sLen + n) (2 * (sLen + n) + 1))) w' ∧
                (∀ h2 : Hp, h2.next = h.next → HpOK P B w0 E h2 w → HpOK P B w0 (E.ext h.next w.heap.size y) (h2.new (.cells (olds ++ new) e true)) w') := by
            intro base sLen sCap olds hold hg hm hos ho1
            have hle := grownCap_le w (sLen + n) sCap e
            refine ⟨grownCap w (sLen + n) sCap e - (sLen + n), w.drew.alloc (.cells ((conL E olds ++ conL E new).toArray ++ Builtin.zeroCells z.cells (grownCap w (sLen + n) sCap e - (sLen + n))) e), ?_, ?_⟩
            · rw [run_append_grow_src w t tx ty e i2 z ht hi hiz base sLen sCap (conL E olds) hold _ n (conL E new) hsrc hg (by unfold most at hm; omega) (hfit _ _ hg hm), con_slice_new]
              rw [show sLen + n + (grownCap w (sLen + n) sCap e - (sLen + n)) = grownCap w (sLen + n) sCap e from by omega]
            · intro h2 hn2 H2
              have := H2.grow hsize (olds ++ new) (Builtin.zeroCells z.cells (grownCap w (sLen + n) sCap e - (sLen + n))).toList (grownCap w (sLen + n) sCap e - (sLen + n)) ?_ ?_ ?_
              · rw [hn2] at this
                rw [conL_append] at this
                simpa using this
              · rw [hn2]
                rw [scL_iff] at hos hnsc ⊢
                intro u hu
                rcases List.mem_append.1 hu with hu | hu
                · exact hos u hu
                · exact hnsc u hu
              · intro u hu
                rcases List.mem_append.1 hu with hu | hu
                · exact ho1 u hu
                · exact hall u hu
              · rw [Array.length_toList, zeroCells_eq, hzs']
          have none_ : ∀ b : Option Addr, ∀ c, (Builtin.firstCells i2.size 0 (.slice b 0 c)).run P w.drew = .ok (conL E []).toArray w.drew := by
            intro b c
            cases b <;> simp [Builtin.firstCells, loadCells, loadCellsFrom, conL]
          have wrap : ∀ (q : Sem Value) (u : Value) (w' : World), q.run P w = .ok u w' → ((do pure (.value (← q)) : Sem Next).run P w) = .ok (.value u) w' := by
            intro q u w' hq
            simp [hq]
          split at ha
          · -- nil
            split at ha
            · cases ha
              refine OpOK.pure H (wrap _ _ _ ?_) (by simp [sc])
              rcases hsrc.kind with ⟨e', hk⟩ | hk <;> simp [con, Builtin.append_, run_underlying ht, run_underlying hk, sizeOf, typeInfo, hi, hsrc.len, hsrc.cells]
            · rename_i k
              split at ha
              · rename_i hm
                cases ha
                have hm' := Nat.le_of_ble_eq_true hm
                obtain ⟨y, w', h1, h2⟩ := grow none 0 0 [] (none_ _ _) (by omega) (by omega) (by simp [scL]) (by simp)
                have h3 := h2 h rfl H
                simp only [Nat.zero_add, List.nil_append] at h1 h3
                exact ⟨_, w', _, wrap _ _ _ (by simpa only [con] using h1), .inl rfl, Env.ext_agree _ _ _ _, by simp, h3, by simp [sc]⟩
              · cases ha
          · rename_i i off len cap
            have hib : i < h.next := by simpa [sc] using hs
            split at ha
            · cases ha
            · -- there is room
              rename_i hm hroom
              have hroom' := Nat.le_of_ble_eq_true hroom
              split at ha
              · rename_i h1 hst
                cases ha
                obtain ⟨w', _, h3, h4, h5, _, _, h7, h8⟩ := H.store hst hnsc
                refine ⟨E, w', _, wrap _ _ _ ?_, .inl rfl, Agree.refl _ _, by omega, h4, by simp [sc]; omega⟩
                have hr : len + n ≤ conCap E i cap := by unfold conCap; split <;> omega
                simp only [con]
                rw [run_append_room_src w t tx ty e i2 ht hi (E.μ i) off len (conCap E i cap) _ n (conL E new) hsrc hr (by rw [hsz, conL_length]; exact h7) (by rw [hsz, conL_length]; exact h8), h3, hsz]
              · cases ha
            · -- there is none
              rename_i hm hroom
              have hm' := Nat.le_of_ble_eq_true hm
              have hroom' : cap / 2 < len + n := by
                rcases Nat.lt_or_ge (cap / 2) (len + n) with h1 | h1
                · exact h1
                · rw [Nat.ble_eq_true_of_le h1] at hroom; cases hroom
              split at ha
              · cases ha
              · rename_i old hold
                obtain ⟨_, ho2, ho3, _, ho1⟩ := H.load hold
                have ho4 := H.drew.run_loadCells hold
                have hold' : ∀ c, (Builtin.firstCells i2.size len (.slice (some ⟨E.μ i, off, none⟩) len c)).run P w.drew = .ok (conL E old).toArray w.drew := by
                  intro c
                  simp only [Builtin.firstCells, hsz]
                  exact ho4
                split at ha
                · rename_i hex
                  cases ha
                  have hex' := Tr.beq_true hex
                  have hcap : conCap E i cap = cap / 2 := by unfold conCap; rw [if_neg (by omega)]
                  obtain ⟨y, w', h1, h2⟩ := grow (some ⟨E.μ i, off, none⟩) len (cap / 2) old (hold' _) hroom' hm' ho3 ho1
                  exact ⟨_, w', _, wrap _ _ _ (by simp only [con, hcap]; simpa only [con] using h1), .inl rfl, Env.ext_agree _ _ _ _, by simp, h2 h rfl H, by simp [sc]⟩
                · rename_i hop
                  split at ha
                  · rename_i cs e' hoff hget
                    split at ha
                    · rename_i hcl
                      cases ha
                      have hoff' := Tr.beq_true hoff
                      subst hoff'
                      rw [Bool.and_eq_true] at hcl
                      have hcl' := Tr.beq_true hcl.2
                      obtain rfl := Tr.beq_true hcl.1
                      have hcap : conCap E i cap = cap / 2 + E.ε i := by
                        have := Tr.beq_false hop
                        unfold conCap
                        rw [if_pos (by omega)]
                      by_cases hr : len + n ≤ cap / 2 + E.ε i
                      · obtain ⟨_, _, O, hO, junk, rfl, g1, g2, _, g4⟩ := H.obj i _ hget
                        obtain ⟨s2, g5, g6⟩ := g4 rfl
                        obtain rfl : s2 = size := by rw [hsize] at g5; exact (Option.some.inj g5).symm
                        obtain ⟨k1, k2⟩ := takeN_eq _ _ _ (show takeN (len * s2) (cs.drop 0) = some old from by simpa [loadN, hget] using hold)
                        have hle : len * s2 ≤ cs.length := by
                          have := congrArg List.length k1
                          simp [k2] at this
                          omega
                        have hmul : (len + n) * s2 ≤ (cap / 2 + E.ε i) * s2 := Nat.mul_le_mul_right _ hr
                        rw [Nat.add_mul, Nat.add_mul] at hmul
                        have hfit2 : len * s2 + (conL E new).length ≤ (conL E cs ++ junk).toArray.size := by
                          simp [conL_length, hnl, g6, hcl']
                          exact hmul
                        obtain ⟨q1, q2, q3⟩ := setCells_row P hO hfit2 (scalar_conL hall)
                        have hU := Upd.setRow hO ((conL E cs ++ junk).toArray.toList.take (len * s2) ++ conL E new ++ (conL E cs ++ junk).toArray.toList.drop (len * s2 + (conL E new).length)).toArray
                        rw [← q1] at hU
                        have hos : scL h.next (old ++ new) = true := by
                          rw [scL_iff] at ho3 hnsc ⊢
                          intro u hu
                          rcases List.mem_append.1 hu with hu | hu
                          · exact ho3 u hu
                          · exact hnsc u hu
                        have hM := H.moved (o' := .cells (old ++ new) e' true) (cap / 2 + E.ε i - (len + n)) hget rfl hU ⟨(conL E cs ++ junk).drop (len * s2 + (conL E new).length), ?_, scL_mono (by omega) _ hos, ?_, (fun hh => by cases hh), fun _ => ⟨s2, hsize, ?_⟩⟩
                        · refine ⟨_, _, _, wrap _ _ _ ?_, .inl rfl, Env.ext_agree _ _ _ _, by simp, hM, by simp [sc]⟩
                          simp only [con, hcap]
                          rw [run_append_room_src w t tx ty e' i2 ht hi (E.μ i) 0 len (cap / 2 + E.ε i) _ n (conL E new) hsrc hr (by rw [hsz, Nat.zero_add]; exact q2) (by rw [hsz, Nat.zero_add]; exact q3), hsz, Nat.zero_add]
                          simp [conCap]
                          omega
                        · rw [← conL_congr (Env.ext_agree E h.next (E.μ i) _) _ hos]
                          congr 1
                          apply congrArg List.toArray
                          rw [conL_append, k1]
                          simp only [List.drop_zero, conL_take]
                          rw [List.take_append_of_le_length (by simp [conL_length]; omega)]
                        · intro u hu
                          rcases List.mem_append.1 hu with hu | hu
                          · exact ho1 u hu
                          · exact hall u hu
                        · simp only [List.length_drop, List.length_append, conL_length, hnl, hcl', g6, Env.ext_eps]
                          rw [Nat.sub_mul, Nat.add_mul, Nat.add_mul]
                      · obtain ⟨y, w', h1, h2⟩ := grow (some ⟨E.μ i, 0, none⟩) len (cap / 2 + E.ε i) old (hold' _) (by omega) hm' ho3 ho1
                        exact ⟨_, w', _, wrap _ _ _ (by simp only [con, hcap]; simpa only [con] using h1), .inl rfl, Env.ext_agree _ _ _ _, by simp, h2 (h.kill i) rfl (H.kill i), by simp [sc]⟩
                    · cases ha
                  · cases ha
          · cases ha
      · cases ha
    · cases ha
  · cases ha

end
end Go.Eng
