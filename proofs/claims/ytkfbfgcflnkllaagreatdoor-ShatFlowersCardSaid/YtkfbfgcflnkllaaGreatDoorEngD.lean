/- One operation of the model and one of the evaluator: memory. -/
import Derived.Test.YtkfbfgcflnkllaaGreatDoorEngC
namespace Go.Eng
open Go.RowKit

theorem pureRun_sound {P : Program} {α : Type} (s : Sem α) : ∀ {a : α} (w : World), pureRun P s = some a → s.run P w = .ok a w := by
  induction s with
  | pure a => intro b w h; simp [pureRun] at h; simp [h]
  | program k ih => intro b w h; exact ih P w h
  | _ => intro b w h; simp [pureRun] at h

theorem sizeT_info {P : Program} {t : TypeId} {n : Nat} (h : sizeT P t = some n) : ∃ i, P.info? t = some i ∧ i.size = n := by
  unfold sizeT at h
  split at h
  · rename_i i hi
    exact ⟨i, hi, by simpa using h⟩
  · cases h

theorem run_sizeT {P : Program} {t : TypeId} {n : Nat} (h : sizeT P t = some n) (w : World) : (sizeOf t).run P w = .ok n w := by
  obtain ⟨i, hi, rfl⟩ := sizeT_info h
  simp [sizeOf, typeInfo, hi]

theorem run_isAggT {P : Program} {t : TypeId} {b : Bool} (h : isAggT P t = some b) (w : World) : (isAgg t).run P w = .ok b w := by
  unfold isAggT at h
  cases hu : P.underlying t with
  | none => simp [hu] at h
  | some d =>
    rw [hu] at h
    simp only [isAgg, Sem.run_bind, run_underlying hu, Result.andThen_ok]
    cases d <;> simp_all

theorem takeN_eq : ∀ (n : Nat) (l r : List Value), takeN n l = some r → r = l.take n ∧ r.length = n
  | 0, l, r, h => by simp [takeN] at h; simp [← h]
  | n + 1, [], r, h => by simp [takeN] at h
  | n + 1, v :: l, r, h => by
    simp only [takeN] at h
    split at h
    · rename_i q hq
      obtain ⟨h1, h2⟩ := takeN_eq n l q hq
      cases h
      exact ⟨by simp [← h1], by simp [h2]⟩
    · cases h

theorem add_lit (b o n : Nat) : (⟨b, o, none⟩ : Addr).add n = ⟨b, o + n, none⟩ := by
  unfold Addr.add
  split <;> simp_all

section
variable {P : Program} {B : Prot} {w0 : World} {E : Env} {h : Hp} {w : World}

theorem cell_of {w : World} {b : Nat} {c : List Value} {e : TypeId} {fz : Nat × Nat} (hb : w.heap[b]? = some (.cells c.toArray e fz)) (o : Nat) : w.cell? ⟨b, o, none⟩ = c[o]? := by
  simp [World.cell?, hb]

/-- What is loaded. -/
theorem HpOK.load (H : HpOK P B w0 E h w) {i off n : Nat} {l : List Value} (hl : loadN h i off n = some l) :
    (∀ j v, (conL E l)[j]? = some v → w.cell? ((⟨E.μ i, off, none⟩ : Addr).add j) = some v) ∧ l.length = n ∧ scL h.next l = true ∧ i < h.next ∧ (∀ v ∈ l, scalar v = true) := by
  have key : ∀ (cs : List Value) (rest : List Value) (e : TypeId) (fz : Nat × Nat), w.heap[E.μ i]? = some (.cells (conL E cs ++ rest).toArray e fz) → scL h.next cs = true → (∀ v ∈ cs, scalar v = true) → takeN n (cs.drop off) = some l → i < h.next →
      (∀ j v, (conL E l)[j]? = some v → w.cell? ((⟨E.μ i, off, none⟩ : Addr).add j) = some v) ∧ l.length = n ∧ scL h.next l = true ∧ i < h.next ∧ (∀ v ∈ l, scalar v = true) := by
    intro cs rest e fz hb hs h1s ht hi
    obtain ⟨h1, h2⟩ := takeN_eq _ _ _ ht
    refine ⟨fun j v hv => ?_, h2, ?_, hi, fun v hv => ?_⟩
    · rw [add_lit, cell_of hb]
      have hj : j < l.length := by
        rcases Nat.lt_or_ge j l.length with hj | hj
        · exact hj
        · simp [conL_eq, List.getElem?_eq_none hj] at hv
      rw [conL_eq, List.getElem?_map, h1] at hv
      simp only [List.getElem?_take, List.getElem?_drop] at hv
      rw [h2] at hj
      rw [if_pos hj] at hv
      rw [conL_eq]
      have hlt : off + j < cs.length := by
        rcases Nat.lt_or_ge (off + j) cs.length with hx | hx
        · exact hx
        · simp [List.getElem?_eq_none hx] at hv
      rw [List.getElem?_append_left (by simpa using hlt), List.getElem?_map]
      exact hv
    · rw [scL_iff] at hs ⊢
      intro v hv
      rw [h1] at hv
      exact hs v (List.mem_of_mem_drop (List.mem_of_mem_take hv))
    · rw [h1] at hv
      exact h1s v (List.mem_of_mem_drop (List.mem_of_mem_take hv))
  unfold loadN at hl
  split at hl
  · rename_i cs e opn hg
    obtain ⟨h1, _, O, h3, junk, rfl, h5, h6, _⟩ := H.obj i _ hg
    exact key cs junk e _ h3 h5 h6 hl h1
  · rename_i o cs e hg
    obtain ⟨h1, _, O, h3, pre, rest, fz, rfl, h0, h5, h6⟩ := H.obj i _ hg
    split at hl
    · rename_i hle
      have hle := Nat.le_of_ble_eq_true hle
      obtain ⟨k1, k2⟩ := takeN_eq _ _ _ hl
      refine ⟨fun j v hv => ?_, k2, ?_, h1, fun v hv => ?_⟩
      · rw [add_lit, cell_of h3]
        have hj : j < l.length := by
          rcases Nat.lt_or_ge j l.length with hj | hj
          · exact hj
          · simp [conL_eq, List.getElem?_eq_none hj] at hv
        rw [conL_eq, List.getElem?_map, k1] at hv
        simp only [List.getElem?_take, List.getElem?_drop] at hv
        rw [k2] at hj
        rw [if_pos hj] at hv
        have hlt : off - o + j < cs.length := by
          rcases Nat.lt_or_ge (off - o + j) cs.length with hx | hx
          · exact hx
          · simp [List.getElem?_eq_none hx] at hv
        rw [List.getElem?_append_right (by omega), List.getElem?_append_left (by rw [conL_eq]; simpa using (by omega : off + j - pre.length < cs.length)), conL_eq, List.getElem?_map, show off + j - pre.length = off - o + j by omega]
        exact hv
      · rw [scL_iff] at h5 ⊢
        intro v hv
        rw [k1] at hv
        exact h5 v (List.mem_of_mem_drop (List.mem_of_mem_take hv))
      · rw [k1] at hv
        exact h6 v (List.mem_of_mem_drop (List.mem_of_mem_take hv))
    · cases hl
  · rename_i cs e hg
    obtain ⟨h1, _, O, h3, rest, fz, rfl, h5, h6⟩ := H.obj i _ hg
    exact key cs rest e fz h3 h5 h6 hl h1
  · cases hl

theorem conL_length (E : Env) (l : List Value) : (conL E l).length = l.length := by simp [conL_eq]

theorem HpOK.run_loadCells (H : HpOK P B w0 E h w) {i off n : Nat} {l : List Value} (hl : loadN h i off n = some l) :
    (loadCells ⟨E.μ i, off, none⟩ n).run P w = .ok (conL E l).toArray w := by
  obtain ⟨h1, h2, _⟩ := H.load hl
  have := run_loadCells_list (P := P) w ⟨E.μ i, off, none⟩ (conL E l) h1
  rwa [conL_length, h2] at this

theorem HpOK.loadT (H : HpOK P B w0 E h w) {t : TypeId} {a r : Value} (hl : Eng.loadT P h t a = some r) :
    (Instr.loadAt t (con E a)).run P w = .ok (con E r) w ∧ sc h.next r = true := by
  unfold Eng.loadT at hl
  split at hl
  · rename_i i off
    split at hl
    · rename_i n ha hn
      split at hl
      · rename_i l hload
        cases hl
        have h1 := H.run_loadCells hload
        refine ⟨?_, by simp [sc, scA, (H.load hload).2.2.1]⟩
        simp [con, Instr.loadAt, Instr.sureAddr, loadVar, run_isAggT ha, run_sizeT hn, h1, conA]
      · cases hl
    · rename_i ha
      split at hl
      · rename_i x hload
        cases hl
        obtain ⟨h1, h2, h3, _⟩ := H.load hload
        have := h1 0 (con E r) (by simp [conL])
        rw [add_lit] at this
        simp [scL] at h3
        refine ⟨?_, h3⟩
        simp [con, Instr.loadAt, Instr.sureAddr, loadVar, run_isAggT ha]
        rw [show off + 0 = off from rfl] at this
        simp [this]
      · cases hl
    · cases hl
  · cases hl

theorem scalar_one (v : Value) : v.oneCell' = scalar v := by cases v <;> rfl

theorem conL_append (E : Env) (a b : List Value) : conL E (a ++ b) = conL E a ++ conL E b := by simp [conL_eq]
theorem conL_take (E : Env) (a : List Value) (n : Nat) : conL E (a.take n) = (conL E a).take n := by simp [conL_eq]
theorem conL_drop (E : Env) (a : List Value) (n : Nat) : conL E (a.drop n) = (conL E a).drop n := by simp [conL_eq]

theorem setCells_row {w : World} {b o : Nat} {cur : Array Value} {e : TypeId} {vs : List Value} (P : Program) (hg : w.heap[b]? = some (.cells cur e (0, 0))) (hfit : o + vs.length ≤ cur.size) (hone : ∀ v ∈ vs, v.oneCell' = true) :
    w.setCells b o vs = w.setRow b (cur.toList.take o ++ vs ++ cur.toList.drop (o + vs.length)).toArray ∧ (∀ j, j < vs.length → (w.cell? ⟨b, o + j, none⟩).isSome = true) ∧ (∀ j, j < vs.length → w.frozen? ⟨b, o + j, none⟩ = false) := by
  have hrun := run_storeCells_at P b o e vs 0 _ w hg (by simpa using hfit) hone
  have hc : ∀ j, j < vs.length → (w.cell? ⟨b, o + 0 + j, none⟩).isSome = true := by
    intro j hj
    have : o + 0 + j < cur.size := by omega
    simp [World.cell?, hg]
    omega
  have hf : ∀ j, j < vs.length → w.frozen? ⟨b, o + 0 + j, none⟩ = false := by
    intro j hj
    simp [World.frozen?, hg]
  have hrun2 := run_storeCells_cells (P := P) b o vs 0 w hc hf hone
  have heq := hrun2.symm.trans hrun
  injection heq with _ heq
  exact ⟨heq, hc, hf⟩

/-- What is stored. -/
theorem HpOK.store (H : HpOK P B w0 E h w) {i off : Nat} {vs : List Value} {h' : Hp} (hs : storeN h i off vs = some h') (hsc : scL h.next vs = true) :
    ∃ w', (storeCells ⟨E.μ i, off, none⟩ (conL E vs) 0).run P w = .ok () w' ∧ w' = w.setCells (E.μ i) off (conL E vs) ∧ HpOK P B w0 E h' w' ∧ h'.next = h.next ∧ i < h.next ∧ (∀ v ∈ vs, scalar v = true) ∧
      (∀ j, j < vs.length → (w.cell? ⟨E.μ i, off + j, none⟩).isSome = true) ∧ (∀ j, j < vs.length → w.frozen? ⟨E.μ i, off + j, none⟩ = false) := by
  unfold storeN at hs
  split at hs
  · rename_i cs e opn hg
    split at hs
    · rename_i hle hall
      cases hs
      obtain ⟨h1, h2, O, h3, junk, rfl, h5, h6, h7, h8⟩ := H.obj i _ hg
      have hle' := Nat.le_of_ble_eq_true hle
      rw [List.all_eq_true] at hall
      have hone : ∀ v ∈ conL E vs, v.oneCell' = true := by
        intro v hv
        rw [conL_eq] at hv
        obtain ⟨u, hu, rfl⟩ := List.mem_map.1 hv
        rw [scalar_one, scalar_con]
        exact hall u hu
      have hfit : off + 0 + (conL E vs).length ≤ (conL E cs ++ junk).toArray.size := by simp [conL_length]; omega
      have hrun := run_storeCells_at P (E.μ i) off e (conL E vs) 0 _ w h3 hfit hone
      have hc : ∀ j, j < (conL E vs).length → (w.cell? ⟨E.μ i, off + 0 + j, none⟩).isSome = true := by
        intro j hj
        rw [cell_of h3]
        rw [conL_length] at hj
        have : off + 0 + j < (conL E cs ++ junk).length := by simp [conL_length]; omega
        rw [List.getElem?_eq_getElem this]
        rfl
      have hf : ∀ j, j < (conL E vs).length → w.frozen? ⟨E.μ i, off + 0 + j, none⟩ = false := by
        intro j hj
        simp [World.frozen?, h3]
      have hrun2 := run_storeCells_cells (P := P) (E.μ i) off (conL E vs) 0 w hc hf hone
      have heq := hrun2.symm.trans hrun
      injection heq with _ heq
      refine ⟨_, hrun, ?_, ?_, rfl, h1, hall, fun j hj => ?_, fun j hj => ?_⟩
      · rw [← heq]; rfl
      · refine H.upd hg rfl rfl (Upd.setRow h3 _) ⟨junk, ?_, ?_, ?_, h7, h8⟩
        · congr 1
          apply congrArg List.toArray
          simp only [splice, conL_append, conL_take, conL_drop, Nat.add_zero, List.append_assoc]
          rw [List.take_append_of_le_length (by simp [conL_length]; omega), List.drop_append_of_le_length (by simp [conL_length]; omega)]
          simp [conL_length]
        · rw [scL_iff] at h5 hsc ⊢
          intro v hv
          simp only [splice, List.mem_append] at hv
          rcases hv with (hv | hv) | hv
          · exact h5 v (List.mem_of_mem_take hv)
          · exact hsc v hv
          · exact h5 v (List.mem_of_mem_drop hv)
        · intro v hv
          simp only [splice, List.mem_append] at hv
          rcases hv with (hv | hv) | hv
          · exact h6 v (List.mem_of_mem_take hv)
          · exact hall v hv
          · exact h6 v (List.mem_of_mem_drop hv)
      · have := hc j (by rwa [conL_length]); rwa [Nat.add_zero] at this
      · have := hf j (by rwa [conL_length]); rwa [Nat.add_zero] at this
    · cases hs
  · cases hs

theorem HpOK.storeT (H : HpOK P B w0 E h w) {t : TypeId} {a v : Value} {h' : Hp} (hl : Eng.storeT P h t a v = some h') (hv : sc h.next v = true) :
    ∃ w', (Instr.storeAt t (con E a) (con E v)).run P w = .ok () w' ∧ HpOK P B w0 E h' w' ∧ h'.next = h.next := by
  unfold Eng.storeT at hl
  split at hl
  · rename_i i off n hn
    split at hl
    · rename_i hb
      have hsc : scL h.next v.cells.toList = true := by
        rw [scL_iff]
        intro x hx
        exact sc_cells hv x (by simpa using hx)
      obtain ⟨w', h1, _, h2, h3, _⟩ := H.store hl hsc
      refine ⟨w', ?_, h2, h3⟩
      have hsz : (con E v).cells.size = n := by rw [con_cells]; simpa using Tr.beq_true hb
      have hcl : (con E v).cells.toList = conL E v.cells.toList := by rw [con_cells, conL_eq]; simp
      simp [con, Instr.storeAt, Instr.sureAddr, storeVar, run_sizeT hn, hsz]
      rw [hcl]
      exact h1
    · cases hl
  · cases hl

end
end Go.Eng
