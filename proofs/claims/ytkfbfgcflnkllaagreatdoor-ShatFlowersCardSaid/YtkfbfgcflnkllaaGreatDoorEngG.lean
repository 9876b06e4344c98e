/- One operation of the model and one of the evaluator: maps, strings, comparisons; all of them together. -/
import Derived.Test.YtkfbfgcflnkllaaGreatDoorEngF
namespace Go.Eng
open Go.RowKit

theorem pureRun_bind {P : Program} {α β : Type} (x : Sem α) (f : α → Sem β) : pureRun P (x >>= f) = (pureRun P x).bind fun a => pureRun P (f a) := by
  show pureRun P (x.bind f) = _
  induction x with
  | pure a => rfl
  | program k ih => simp only [Sem.bind, pureRun]; exact ih P
  | _ => rfl

section
variable {P : Program} {B : Prot} {w0 : World} {E : Env} {h : Hp} {w : World}

def conR (E : Env) (r : Option (Nat × Value)) : Option (Nat × Value) := r.map fun p => (p.1, con E p.2)

theorem findNow_con (E : Env) (kind : TypeDesc) (k : Value) : ∀ (es : List MapEntry) (i : Nat), (es.all fun e => flat e.key) = true →
    Instr.findNow kind k (es.map (conE E)) i = (Instr.findNow kind k es i).map (conR E)
  | [], i, _ => rfl
  | e :: es, i, hf => by
    simp only [List.all_cons, Bool.and_eq_true] at hf
    have ih := findNow_con E kind k es (i + 1) hf.2
    simp only [List.map_cons, Instr.findNow, conE, con_flat E _ hf.1]
    split
    · rfl
    · exact ih
    · rfl

theorem findAsking_con (E : Env) (kt : TypeId) (k : Value) : ∀ (es : List MapEntry) (i : Nat), (es.all fun e => flat e.key) = true →
    pureRun P (Instr.findAsking kt k (es.map (conE E)) i) = (pureRun P (Instr.findAsking kt k es i)).map (conR E)
  | [], i, _ => rfl
  | e :: es, i, hf => by
    simp only [List.all_cons, Bool.and_eq_true] at hf
    have ih := findAsking_con E kt k es (i + 1) hf.2
    simp only [List.map_cons, Instr.findAsking, conE, con_flat E _ hf.1, pureRun_bind]
    cases pureRun P (Op.equal kt k e.key) with
    | none => rfl
    | some b =>
      cases b
      · simpa using ih
      · rfl

theorem findKey_con (E : Env) (kt : TypeId) (k : Value) (es : List MapEntry) (hf : (es.all fun e => flat e.key) = true) :
    pureRun P (Instr.findKey kt k (es.map (conE E))) = (pureRun P (Instr.findKey kt k es)).map (conR E) := by
  simp only [Instr.findKey, pureRun_bind]
  cases pureRun P (underlying kt) with
  | none => rfl
  | some d =>
    simp only [Option.bind_some, findNow_con E d k es 0 hf]
    cases Instr.findNow d k es 0 with
    | none => exact findAsking_con E kt k es 0 hf
    | some r => rfl

theorem find_run (E : Env) {b : Bool} {kt : TypeId} {k : Value} {es : List MapEntry} {r : Option (Nat × Value)} (w : World) (hf : (es.all fun e => flat e.key) = true)
    (hr : pureRun P (do Instr.checkKey b 10000 kt k; Instr.findKey kt k es) = some r) :
    (Instr.checkKey b 10000 kt k).run P w = .ok () w ∧ (Instr.findKey kt k (es.map (conE E))).run P w = .ok (conR E r) w := by
  rw [pureRun_bind] at hr
  cases hc : pureRun P (Instr.checkKey b 10000 kt k) with
  | none => simp [hc] at hr
  | some u =>
    rw [hc] at hr
    simp only [Option.bind_some] at hr
    refine ⟨pureRun_sound _ w hc, pureRun_sound _ w ?_⟩
    rw [findKey_con E kt k es hf, hr]
    rfl

theorem findNow_mem {kind : TypeDesc} {k : Value} : ∀ {es : List MapEntry} {i j : Nat} {v : Value}, Instr.findNow kind k es i = some (some (j, v)) → i ≤ j ∧ ∃ e, es[j - i]? = some e ∧ e.val = v
  | [], i, j, v, hf => by simp [Instr.findNow] at hf
  | e :: es, i, j, v, hf => by
    simp only [Instr.findNow] at hf
    split at hf
    · simp at hf
      obtain ⟨rfl, rfl⟩ := hf
      exact ⟨Nat.le_refl _, e, by simp, rfl⟩
    · obtain ⟨h1, e', h2, h3⟩ := findNow_mem hf
      refine ⟨by omega, e', ?_, h3⟩
      rw [show j - i = (j - (i + 1)) + 1 from by omega]
      simpa using h2
    · cases hf

theorem findAsking_mem {kt : TypeId} {k : Value} : ∀ {es : List MapEntry} {i j : Nat} {v : Value}, pureRun P (Instr.findAsking kt k es i) = some (some (j, v)) → i ≤ j ∧ ∃ e, es[j - i]? = some e ∧ e.val = v
  | [], i, j, v, hf => by simp [Instr.findAsking, pureRun, pure] at hf
  | e :: es, i, j, v, hf => by
    simp only [Instr.findAsking, pureRun_bind] at hf
    cases hq : pureRun P (Op.equal kt k e.key) with
    | none => simp [hq] at hf
    | some b =>
      rw [hq] at hf
      cases b with
      | true =>
        simp [pureRun, pure] at hf
        obtain ⟨rfl, rfl⟩ := hf
        exact ⟨Nat.le_refl _, e, by simp, rfl⟩
      | false =>
        simp at hf
        obtain ⟨h1, e', h2, h3⟩ := findAsking_mem hf
        refine ⟨by omega, e', ?_, h3⟩
        rw [show j - i = (j - (i + 1)) + 1 from by omega]
        simpa using h2

theorem find_mem {b : Bool} {kt : TypeId} {k : Value} {es : List MapEntry} {j : Nat} {v : Value} (hr : pureRun P (do Instr.checkKey b 10000 kt k; Instr.findKey kt k es) = some (some (j, v))) : ∃ e, es[j]? = some e ∧ e.val = v := by
  rw [pureRun_bind] at hr
  cases hc : pureRun P (Instr.checkKey b 10000 kt k) with
  | none => simp [hc] at hr
  | some u =>
    rw [hc] at hr
    simp only [Option.bind_some, Instr.findKey, pureRun_bind] at hr
    cases hu : pureRun P (underlying kt) with
    | none => simp [hu] at hr
    | some d =>
      rw [hu] at hr
      simp only [Option.bind_some] at hr
      cases hn : Instr.findNow d k es 0 with
      | none =>
        rw [hn] at hr
        obtain ⟨_, h2⟩ := findAsking_mem hr
        simpa using h2
      | some r =>
        rw [hn] at hr
        simp [pureRun, pure] at hr
        subst hr
        obtain ⟨_, h2⟩ := findNow_mem hn
        simpa using h2

theorem HpOK.lookup (H : HpOK P B w0 E h w) {t : TypeId} {x k v : Value} {ok : Bool} (ha : lookupOp P h t x k ok = some v) :
    OpOK P B w0 E h ((do pure (.value (← Instr.lookup t (con E x) (con E k) ok)) : Sem Next).run P w) v h := by
  unfold lookupOp at ha
  split at ha
  · rename_i kt et hu hk
    rw [con_flat E k hk]
    split at ha
    · rename_i es hes
      -- the entries as the model has them
      have hget : (∀ e ∈ es, sc h.next e.val = true) ∧ ((x = .map none ∧ es = []) ∨ ∃ r clock, x = .map (some r) ∧ w.heap[E.μ r]? = some (.map (es.map (conE E)).toArray clock)) := by
        cases x with
        | map r =>
          cases r with
          | none => simp at hes; subst hes; simp
          | some r =>
            simp only at hes
            split at hes
            · rename_i es' clock hg
              cases hes
              obtain ⟨h1, _, O, h3, rfl, h4⟩ := H.obj r _ hg
              exact ⟨fun e he => (h4 e he).2, .inr ⟨r, clock, rfl, h3⟩⟩
            · cases hes
        | _ => simp at hes
      have hrun : ∀ {r : Option (Nat × Value)} {u : Value}, findIn P kt k es = some r → (u = match r with | some (_, v) => (if ok then Value.tuple #[con E v, .bool true] else con E v) | none => u) →
          (r = none → ∃ z, (zeroValue et).run P w = .ok z w ∧ u = (if ok then Value.tuple #[z, .bool false] else z)) → (Instr.lookup t (con E x) k ok).run P w = .ok u w := by
        intro r u hr hu1 hu2
        unfold findIn at hr
        split at hr
        · cases hr
        · rename_i hfl
          obtain ⟨h1, h2⟩ := find_run E w hfl hr
          have h1' : (Instr.checkKey ((es.map (conE E)).toArray).isEmpty 10000 kt k).run P w = .ok () w := by
            have : ((es.map (conE E)).toArray).isEmpty = es.isEmpty := by simp
            rw [this]; exact h1
          rcases hget.2 with ⟨rfl, rfl⟩ | ⟨r', clock, rfl, hh⟩
          · have h3 : (Instr.checkKey (#[] : Array MapEntry).isEmpty 10000 kt k).run P w = .ok () w := h1
            have h4 : (Instr.findKey kt k (#[] : Array MapEntry).toList).run P w = .ok (conR E r) w := h2
            simp only [con, Instr.lookup, Sem.run_bind, run_underlying hu, Result.andThen_ok, Sem.run_pure, h3, h4]
            cases r with
            | some p =>
              simp only at hu1
              simp [conR, hu1]
            | none =>
              obtain ⟨z, hz1, hz2⟩ := hu2 rfl
              simp [conR, hz1, hz2]
          · have h4 : (Instr.findKey kt k ((es.map (conE E)).toArray).toList).run P w = .ok (conR E r) w := h2
            have hg : (getObj (E.μ r')).run P w = .ok (.map (es.map (conE E)).toArray clock) w := by simp [getObj, Sem.run, hh]
            simp only [con, Instr.lookup, Sem.run_bind, run_underlying hu, Result.andThen_ok, hg, Sem.run_pure, h1', h4]
            cases r with
            | some p =>
              simp only at hu1
              simp [conR, hu1]
            | none =>
              obtain ⟨z, hz1, hz2⟩ := hu2 rfl
              simp [conR, hz1, hz2]
      split at ha
      · rename_i j v' hf
        cases ha
        have hm : sc h.next v' = true := by
          unfold findIn at hf
          split at hf
          · cases hf
          · obtain ⟨e, he, rfl⟩ := find_mem hf
            exact hget.1 e (List.mem_of_getElem? he)
        refine OpOK.pure H (runV (hrun hf ?_ (by simp))) ?_
        · cases ok <;> simp [con, conA, conL]
        · cases ok <;> simp [sc, scA, scL, hm]
      · rename_i hf
        split at ha
        · rename_i z hz
          cases ha
          obtain ⟨hz1, hz2⟩ := zeroOf_run hz w
          refine OpOK.pure H (runV (hrun hf rfl (fun _ => ⟨z, hz1, ?_⟩))) ?_
          · cases ok <;> simp [con, conA, conL, con_flat E z hz2]
          · cases ok <;> simp [sc, scA, scL, sc_flat _ z hz2]
        · cases ha
      · cases ha
    · cases ha
  · cases ha

theorem setAt_con (E : Env) (k v : Value) (hk : flat k = true) : ∀ (es : List MapEntry) (i : Nat), (setAt es i k v).map (conE E) = (es.map (conE E)).modify i fun e => { e with key := k, val := con E v }
  | [], i => by simp [setAt]
  | e :: es, 0 => by simp [setAt, conE, con_flat E k hk]
  | e :: es, i + 1 => by simp [setAt, setAt_con E k v hk es i]

theorem setAt_mem (k v : Value) : ∀ (es : List MapEntry) (i : Nat) (x : MapEntry), x ∈ setAt es i k v → x ∈ es ∨ (x.key = k ∧ x.val = v)
  | [], i, x, h => by simp [setAt] at h
  | e :: es, 0, x, h => by
    simp only [setAt, List.mem_cons] at h
    rcases h with rfl | h
    · exact .inr ⟨rfl, rfl⟩
    · exact .inl (by simp [h])
  | e :: es, i + 1, x, h => by
    simp only [setAt, List.mem_cons] at h
    rcases h with rfl | h
    · exact .inl (by simp)
    · rcases setAt_mem k v es i x h with h | h
      · exact .inl (by simp [h])
      · exact .inr h

theorem keyAt_eq : ∀ (es : List MapEntry) (i : Nat) (d : Value), keyAt es i d = (((es[i]?).map (·.key)).getD d)
  | [], i, d => by simp [keyAt]
  | e :: es, 0, d => by simp [keyAt]
  | e :: es, i + 1, d => by simp [keyAt, keyAt_eq es i d]

theorem HpOK.mapUpdate (H : HpOK P B w0 E h w) {t : TypeId} {m k v : Value} {h' : Hp} (hv : sc h.next v = true) (ha : mapUpdateOp P h t m k v = some h') :
    ∃ w', (Instr.mapUpdate t (con E m) (con E k) (con E v)).run P w = .ok () w' ∧ HpOK P B w0 E h' w' ∧ h'.next = h.next := by
  unfold mapUpdateOp at ha
  split at ha
  · rename_i kt et r hu hk
    rw [con_flat E k hk]
    split at ha
    · rename_i es clock hg
      obtain ⟨h1, h2, O, h3, rfl, h4⟩ := H.obj r _ hg
      have hgo : (getObj (E.μ r)).run P w = .ok (.map (es.map (conE E)).toArray clock) w := by simp [getObj, Sem.run, h3]
      have hso : ∀ o : Obj, (setObj (E.μ r) o).run P w = .ok () { w with heap := w.heap.setIfInBounds (E.μ r) o } := by intro o; simp [setObj, Sem.run, h3]
      have hup : ∀ (o' : AObj) (O' : Obj), isRo o' = false → ObjAt P E h.next r o' O' → HpOK P B w0 E (h.put r o') { w with heap := w.heap.setIfInBounds (E.μ r) O' } :=
        fun o' O' hr hO => H.upd hg rfl hr (Upd.setObj (H.lt hg)) hO
      split at ha
      · rename_i i u hp
        split at ha
        · rename_i hsb
          cases ha
          split at hp
          · cases hp
          · rename_i hfl
            obtain ⟨q1, q2⟩ := find_run E w hfl hp
            refine ⟨_, ?_, hup _ (.map ((setAt es i k v).map (conE E)).toArray clock) rfl ⟨rfl, ?_⟩, rfl⟩
            · simp only [con, Instr.mapUpdate, Sem.run_bind, run_underlying hu, Result.andThen_ok, hgo, q1, q2]
              have hkey : (((es.map (conE E)).toArray[i]?).map (·.key)).getD k = keyAt es i k := by
                rw [keyAt_eq]
                simp only [List.getElem?_toArray, List.getElem?_map, Option.map_map]
                cases he : es[i]? with
                | none => rfl
                | some e =>
                  rw [List.all_eq_true] at hfl
                  have := hfl e (List.mem_of_getElem? he)
                  simp [conE, con_flat E _ this]
              simp only [conR, Option.map_some, hkey]
              have hks : (Instr.keyThatStays (keyAt es i k) k).run P w = .ok k w := by simp [Instr.keyThatStays, hsb]
              simp only [Sem.run_bind, hks, Result.andThen_ok, hso]
              congr 3
              congr 1
              rw [setAt_con E k v hk]
              apply Array.ext'
              simp
            · intro x hx
              rcases setAt_mem k v es i x hx with hx | ⟨rfl, rfl⟩
              · exact h4 x hx
              · exact ⟨sc_flat _ _ hk, hv⟩
        · cases ha
      · rename_i hp
        cases ha
        split at hp
        · cases hp
        · rename_i hfl
          obtain ⟨q1, q2⟩ := find_run E w hfl hp
          refine ⟨_, ?_, hup _ (.map ((es ++ [({ key := k, val := v, born := clock } : MapEntry)]).map (conE E)).toArray (clock + 1)) rfl ⟨rfl, ?_⟩, rfl⟩
          · simp only [con, Instr.mapUpdate, Sem.run_bind, run_underlying hu, Result.andThen_ok, hgo, q1, q2]
            simp only [conR, Option.map_none, hso]
            congr 3
            congr 1
            apply Array.ext'
            simp [conE, con_flat E k hk]
          · intro x hx
            rcases List.mem_append.1 hx with hx | hx
            · exact h4 x hx
            · simp at hx
              subst hx
              exact ⟨sc_flat _ _ hk, hv⟩
      · cases ha
    · cases ha
  · cases ha

end
end Go.Eng
