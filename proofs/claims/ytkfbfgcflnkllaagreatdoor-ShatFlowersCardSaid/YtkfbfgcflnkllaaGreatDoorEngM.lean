/- Calls of the model and the evaluator. -/
import Derived.Test.YtkfbfgcflnkllaaGreatDoorEngL
namespace Go.Eng
open Go.RowKit

section
variable {P : Program} {B : Prot} {w0 : World}

theorem putAll_get : ∀ (l : List Value) (tm : Tr Value) (k t : Nat), (putAll tm k l).get t = if k ≤ t ∧ t < k + l.length then l[t - k]? else tm.get t
  | [], tm, k, t => by
    have : ¬ (k ≤ t ∧ t < k + 0) := by omega
    rw [putAll]
    simp only [List.length_nil]
    rw [if_neg this]
  | v :: r, tm, k, t => by
    simp only [putAll, putAll_get r, Tr.get_set, List.length_cons]
    by_cases h1 : k + 1 ≤ t ∧ t < k + 1 + r.length
    · rw [if_pos h1, if_pos (by omega), show t - k = (t - (k + 1)) + 1 from by omega]
      simp
    · rw [if_neg h1]
      by_cases h2 : t = k
      · subst h2
        simp
      · rw [if_neg h2, if_neg (by omega)]

theorem enter_tm {E : Env} {n : Nat} {f : FuncId} {nt : Nat} {args : List Value} (hs : scL n args = true) (hle : args.length ≤ nt) :
    TmOK E n { fn := f, n := nt, tm := putAll .nil 0 args, defers := [], round := none } ((conL E args).toArray ++ Array.replicate (nt - (conL E args).toArray.size) Go.undef) := by
  rw [scL_iff] at hs
  refine ⟨by simp [conL_length]; omega, fun t ht => ?_, fun t ht => ?_, fun t v hv => ?_⟩
  · simp only at ht ⊢
    rw [putAll_get]
    by_cases h1 : t < args.length
    · rw [if_pos (by omega)]
      rw [Array.getElem?_append_left (by simpa [conL_length] using h1)]
      simp [conL_eq, h1]
    · rw [if_neg (by omega)]
      rw [Array.getElem?_append_right (by simp [conL_length]; omega)]
      have hlt : t - (conL E args).length < nt - (conL E args).length := by rw [conL_length]; omega
      simp [hlt, Eng.undef, Go.undef, con, conA, conL]
  · simp only at ht ⊢
    rw [putAll_get, if_neg (by omega)]
    rfl
  · simp only at hv
    rw [putAll_get] at hv
    split at hv
    · exact hs v (List.mem_of_getElem? hv)
    · simp at hv

/-- Calls that were put off, as they run when a function returns. -/
def DefOK (P : Program) (B : Prot) (w0 : World) (callF : CallF) : Prop :=
  ∀ g args h v h', callF (.fn g args) h = some (v, h') → ∀ E w, HpOK P B w0 E h w → scL h.next args = true →
    (∃ fn, P.funcs[g]? = some fn ∧ fn.body.isNone = false ∧ (fn.name == "runtime.NumGoroutine") = false) ∧
    ∀ (c : Frame) (cs : List Frame), c.mode = .returning → ∃ E' w', HpOK P B w0 E' h' w' ∧ Agree h.next E E' ∧ h.next ≤ h'.next ∧ Steps P (lone (Frame.enter P g (conL E args).toArray .deferred) (c :: cs) w) (lone c cs w')

theorem collect_sound {callF : CallF} (hD : DefOK P B w0 callF) {b : Frame} {T : Array Value} {todo : List Item} {cs : List Frame} : ∀ (ds : List Deferred) {E : Env} {h h2 : Hp} {w : World}, (∀ d ∈ ds, DefSc h.next d) → collect callF ds h = some h2 → HpOK P B w0 E h w →
    ∃ E' w2, HpOK P B w0 E' h2 w2 ∧ Agree h.next E E' ∧ h.next ≤ h2.next ∧ Steps P (lone { at_ b T (ds.map (conD E)) todo with mode := .returning } cs w) (lone { at_ b T [] todo with mode := .returning } cs w2)
  | [], E, h, h2, w, _, hc, H => by
    simp [collect] at hc
    subst hc
    exact ⟨E, w, H, Agree.refl _ _, Nat.le_refl _, .refl _ _⟩
  | d :: ds, E, h, h2, w, hsd, hc, H => by
    simp only [collect] at hc
    split at hc
    · rename_i r hd
      split at hc
      · rename_i hg
        obtain ⟨q1, q2, O, q3, q4⟩ := H.obj r _ hg
        simp only [ObjAt] at q4
        subst q4
        have H1 := H.upd hg rfl rfl (Upd.setObj (w := w) (O := .deferred none) (H.lt hg)) (o' := .defd true) rfl
        obtain ⟨E', w2, H2, ha, hn, s2⟩ := collect_sound hD (b := b) (T := T) (todo := todo) (cs := cs) ds (h := h.put r (.defd true)) (fun x hx => hsd x (by simp [hx])) hc H1
        refine ⟨E', w2, H2, ha, hn, .head ?_ s2⟩
        have hgo : (getObj (E.μ r)).run P w = .ok (.deferred (some [])) w := by simp [getObj, Sem.run, q3]
        have hso : ∀ o : Obj, (setObj (E.μ r) o).run P w = .ok () { w with heap := w.heap.setIfInBounds (E.μ r) o } := by intro o; simp [setObj, Sem.run, q3]
        have htk : (Instr.takeDeferred (E.μ r)).run P w = .ok [] { w with heap := w.heap.setIfInBounds (E.μ r) (.deferred none) } := by simp [Instr.takeDeferred, hgo, hso]
        refine step_lone_go ?_
        have hcd : conD E d = { target := .collected (E.μ r), args := d.args } := by simp [conD, hd]
        simp [stepG, unwind, at_, hcd, Sem.runT_eq, htk]
      · cases hc
    · rename_i g cap hd
      split at hc
      · rename_i u h1 hcall
        have hdd := hsd d (by simp)
        have hsa : scA h.next cap = true ∧ scA h.next d.args = true := by
          rcases hdd with ⟨r, rfl, _⟩ | ⟨g', cap', e1, e2, e3⟩
          · cases hd
          · rw [hd] at e1
            cases e1
            exact ⟨e2, e3⟩
        have hsc : scL h.next (d.args.toList ++ cap.toList) = true := by
          rw [scL_iff]
          intro x hx
          rcases List.mem_append.1 hx with hx | hx
          · exact (scA_iff _ _).1 hsa.2 x (by simpa using hx)
          · exact (scA_iff _ _).1 hsa.1 x (by simpa using hx)
        obtain ⟨⟨fn, f1, f2, f3⟩, hrun⟩ := hD _ _ _ _ _ hcall E w H hsc
        obtain ⟨E1, w1, H1, a1, l1, s1⟩ := hrun { at_ b T (ds.map (conD E)) todo with mode := .returning } cs rfl
        have hmap : ds.map (conD E) = ds.map (conD E1) := List.map_congr_left fun x hx => conD_congr a1 (hsd x (by simp [hx]))
        obtain ⟨E2, w2, H2, a2, l2, s2⟩ := collect_sound hD (b := b) (T := T) (todo := todo) (cs := cs) ds (fun x hx => (hsd x (by simp [hx])).mono l1) hc H1
        rw [← hmap] at s2
        refine ⟨E2, w2, H2, a1.trans a2 l1, Nat.le_trans l1 l2, .head ?_ (Steps.trans s1 s2)⟩
        have hcd : conD E d = { target := .fn (.func g) (conA E cap), args := conA E d.args } := by simp [conD, hd]
        have harg : conA E d.args ++ conA E cap = (conL E (d.args.toList ++ cap.toList)).toArray := by
          apply Array.ext'
          simp [conA_eq, conL_eq]
        have hin : (invoke (.fn (.func g) (conA E cap)) (conA E d.args)).run P w = .ok (.enter g (conL E (d.args.toList ++ cap.toList)).toArray) w := by
          simp only [invoke, harg]
          exact run_callFunc f1 f2 f3 _ w
        refine step_lone_go ?_
        simp only [stepG, at_, List.map_cons, hcd, unwind, callDeferred, Sem.runT_eq, hin]
        simp
      · cases hc
    · cases hc

/-- How a result is read. -/
def readR (T : Array Value) (r : ResultVar) : Sem Value :=
  match r with
  | .tmp t => pure (T.getD t Go.undef)
  | .cell a t => do loadVar t (← asAddr (T.getD a Go.undef))

theorem results_run {E : Env} {h : Hp} {w : World} {F : Fm} {T : Array Value} (H : HpOK P B w0 E h w) (hT : TmOK E h.next F T) : ∀ (rs : List ResultVar) {l : List Value}, resultsOf P F h rs = some l →
    (rs.mapM (readR T)).run P w = .ok (conL E l) w ∧ scL h.next l = true
  | [], l, hr => by simp [resultsOf] at hr; subst hr; simp [conL, scL]
  | .tmp t :: rs, l, hr => by
    simp only [resultsOf] at hr
    split at hr
    · rename_i l' hl
      cases hr
      obtain ⟨h1, h2⟩ := results_run H hT rs hl
      obtain ⟨e1, e2⟩ := hT.eval t
      refine ⟨?_, by simp [scL, e2, h2]⟩
      simp only [List.mapM_cons, readR, Sem.run_bind, Sem.run_pure, Result.andThen_ok, e1, h1, conL]
    · cases hr
  | .cell a t :: rs, l, hr => by
    simp only [resultsOf] at hr
    split at hr
    · rename_i v l' hv hl
      cases hr
      obtain ⟨h1, h2⟩ := results_run H hT rs hl
      obtain ⟨e1, e2⟩ := hT.eval a
      obtain ⟨q1, q2⟩ := H.loadT hv
      refine ⟨?_, by simp [scL, q2, h2]⟩
      have hp : ∃ x, con E ((F.tm.get a).getD Eng.undef) = .pointer (some x) := by
        unfold Eng.loadT at hv
        split at hv
        · rename_i hx
          rw [hx]
          exact ⟨_, rfl⟩
        · cases hv
      obtain ⟨x, hx⟩ := hp
      rw [hx] at e1 q1
      simp only [Instr.loadAt, Instr.sureAddr, Sem.run_bind, Sem.run_pure, Result.andThen_ok] at q1
      simp only [List.mapM_cons, readR, Sem.run_bind, Sem.run_pure, Result.andThen_ok, e1, h1, conL, asAddr, q1]
    · cases hr

theorem results_all {E : Env} {h : Hp} {w : World} {F : Fm} {T : Array Value} {fn : Func} {l : List Value} (H : HpOK P B w0 E h w) (hT : TmOK E h.next F T) (hr : resultsOf P F h fn.results.toList = some l) :
    (results fn T).run P w = .ok (con E (oneOf l)) w ∧ sc h.next (oneOf l) = true := by
  obtain ⟨h1, h2⟩ := results_run H hT _ hr
  constructor
  · have hm : (fn.results.mapM (readR T)).run P w = .ok (conL E l).toArray w := by
      rw [Array.mapM_eq_mapM_toList]
      simp only [Sem.run_map, h1, Result.andThen_ok]
    have e : results fn T = (do let vs ← fn.results.mapM (readR T); pure (if h : vs.size = 1 then vs[0] else .tuple vs)) := by
      have : readR T = (fun x => match x with | ResultVar.tmp t => (pure (T.getD t Go.undef) : Sem Value) | .cell a t => do loadVar t (← asAddr (T.getD a Go.undef))) := by
        funext x
        cases x <;> rfl
      rw [this]
      rfl
    rw [e]
    simp only [Sem.run_bind, hm, Result.andThen_ok, Sem.run_pure]
    match l with
    | [] => simp [oneOf, conL, con, conA]
    | [v] => simp [oneOf, conL]
    | v :: u :: r => simp [oneOf, conL, con, conA]
  · match l, h2 with
    | [], _ => simp [oneOf, sc, scA, scL]
    | [v], h2 => simpa [oneOf, scL] using h2
    | v :: u :: r, h2 => simpa [oneOf, sc, scA] using h2

theorem putZip_ok {E : Env} {n : Nat} : ∀ (ps : List Tmp) (args : List Value) {F : Fm} {T : Array Value}, TmOK E n F T → scL n args = true →
    TmOK E n (putZip F (ps.zip args)) ((ps.zip (conL E args)).foldl (fun tmps (t, a) => tmps.setIfInBounds t a) T)
  | [], args, F, T, h, _ => by simpa [putZip] using h
  | p :: ps, [], F, T, h, _ => by simpa [putZip, conL] using h
  | p :: ps, a :: args, F, T, h, hs => by
    simp only [scL, Bool.and_eq_true] at hs
    simp only [conL, List.zip_cons_cons, putZip, List.foldl_cons]
    exact putZip_ok ps args (h.put (some p) hs.1) hs.2

theorem putZip_fn : ∀ (l : List (Tmp × Value)) (F : Fm), (putZip F l).fn = F.fn
  | [], F => rfl
  | (t, v) :: r, F => by
    simp only [putZip]
    rw [putZip_fn r]
    simp only [Fm.put]
    split <;> rfl

theorem inv_fn {O : Orc} {lf n : Nat} (ih : ∀ B w0, CallOK P B w0 (evInv P O lf n)) (ihD : DefOK P B w0 (plainC O (evInv P O lf n))) {kd : CallKind} (f : FuncId) (hO : O f = none) (args : List Value) (h : Hp) (v : Value) (h' : Hp) (he : evInv P O lf (n + 1) (.fn f args) h = some (v, h')) (E : Env) (w : World) (H : HpOK P B w0 E h w) (hsc : scL h.next args = true) :
    (∃ fn, P.funcs[f]? = some fn ∧ fn.body.isNone = false ∧ (fn.name == "runtime.NumGoroutine") = false) ∧
    ∀ cs, tryRecover (Frame.enter P f (conL E args).toArray kd) cs = none → ∃ E' w' fr, HpOK P B w0 E' h' w' ∧ Agree h.next E E' ∧ h.next ≤ h'.next ∧ sc h'.next v = true ∧ Steps P (lone (Frame.enter P f (conL E args).toArray kd) cs w) (lone fr cs w') ∧
      fr.mode = .returning ∧ fr.defers = [] ∧ fr.kind = kd ∧ fr.fn = f ∧ fr.roundOf = none ∧ ∃ fn, P.funcs[f]? = some fn ∧ (results fn fr.tmps).run P w' = .ok (con E' v) w' := by
  simp only [evInv, hO] at he
  split at he
  · cases he
  · rename_i fn hfn
    split at he
    · rename_i body hb hname hle
      refine ⟨⟨fn, hfn, by simp [hb], hname⟩, fun cs hq => ?_⟩
      have hle' := Nat.le_of_ble_eq_true hle
      have htm := enter_tm (E := E) (f := f) hsc hle'
      have hent : Frame.enter P f (conL E args).toArray kd = at_ (Frame.enter P f (conL E args).toArray kd) ((conL E args).toArray ++ Array.replicate (fn.ntmps - (conL E args).toArray.size) Go.undef) [] [.code body] := by
        simp [Frame.enter, at_, hfn, hb]
      have hF : FrOK E h.next (Frame.enter P f (conL E args).toArray kd) { fn := f, n := fn.ntmps, tm := putAll .nil 0 args, defers := [], round := none } ((conL E args).toArray ++ Array.replicate (fn.ntmps - (conL E args).toArray.size) Go.undef) [] :=
        ⟨htm, rfl, rfl, (fun l hl => by cases hl), rfl, (fun d hd => by cases hd)⟩
      have fin : ∀ (e : Ex) (F1 : Fm) (h1 : Hp), evC (evInv P O lf n) P lf body { fn := f, n := fn.ntmps, tm := putAll .nil 0 args, defers := [], round := none } h = some (e, F1, h1) → (∀ id, e ≠ .exit id) →
          (match collect (plainC O (evInv P O lf n)) F1.defers h1 with | none => none | some h2 => match resultsOf P F1 h2 fn.results.toList with | some l => some (oneOf l, h2) | none => none) = some (v, h') →
          ∃ E' w' fr, HpOK P B w0 E' h' w' ∧ Agree h.next E E' ∧ h.next ≤ h'.next ∧ sc h'.next v = true ∧ Steps P (lone (Frame.enter P f (conL E args).toArray kd) cs w) (lone fr cs w') ∧
            fr.mode = .returning ∧ fr.defers = [] ∧ fr.kind = kd ∧ fr.fn = f ∧ fr.roundOf = none ∧ ∃ fn, P.funcs[f]? = some fn ∧ (results fn fr.tmps).run P w' = .ok (con E' v) w' := by
        intro e F1 h1 hev hne hfin
        obtain ⟨E1, T1, ds1, w1, k1, s1⟩ := code_sound ih lf body _ h e F1 h1 hev E w _ _ _ H hF [] cs hq
        rw [← hent] at s1
        have ret : ∃ todo, Steps P (lone (Frame.enter P f (conL E args).toArray kd) cs w) (lone { at_ (Frame.enter P f (conL E args).toArray kd) T1 ds1 todo with mode := .returning } cs w1) := by
          cases e with
          | normal => exact ⟨[], Steps.trans s1 (.one (step_lone_go (by simp [stepG, stepG.exec, at_, Frame.enter])))⟩
          | ret =>
            obtain ⟨k0, s1⟩ := s1
            exact ⟨_, Steps.trans s1 (.one (step_lone_go (by simp [stepG, stepG.exec, at_, Frame.enter]; rfl)))⟩
          | exit id => exact absurd rfl (hne id)
        obtain ⟨todo, s2⟩ := ret
        split at hfin
        · cases hfin
        · rename_i h2 hcol
          split at hfin
          · rename_i l hres
            cases hfin
            obtain ⟨E2, w2, H2, a2, le2, s3⟩ := collect_sound ihD (b := Frame.enter P f (conL E args).toArray kd) (T := T1) (todo := todo) (cs := cs) F1.defers k1.fr.defersc hcol k1.hp
            rw [← k1.fr.defers] at s3
            have ht2 : TmOK E2 h'.next F1 T1 := k1.fr.tm.mono a2 le2
            obtain ⟨r1, r2⟩ := results_all (fn := fn) H2 ht2 hres
            exact ⟨E2, w2, _, H2, k1.agree.trans a2 k1.le, Nat.le_trans k1.le le2, r2, Steps.trans s2 s3, rfl, rfl, rfl, rfl, rfl, fn, hfn, r1⟩
          · cases hfin
      split at he
      · cases he
      · rename_i e F1 h1 hne hev
        exact fin e F1 h1 hev (fun id hh => by subst hh; exact hne id rfl) he
      · cases he
    · cases he

theorem step_leave {fr c : Frame} {cs : List Frame} {w : World} {v : Value} {f : FuncId} (h1 : fr.mode = .returning) (h2 : fr.defers = []) (h3 : fr.kind = .normal) (h4 : fr.fn = f) (h5 : ∃ fn, P.funcs[f]? = some fn ∧ (results fn fr.tmps).run P w = .ok v w) :
    step P (lone fr (c :: cs) w) = .next (lone (c.finish v) cs w) := by
  obtain ⟨fn, hf, hr⟩ := h5
  subst h4
  exact step_lone_go (by simp [stepG, unwind, doReturn, h1, h2, h3, hf, hr])

theorem step_leave_def {fr c : Frame} {cs : List Frame} {w : World} {v : Value} {f : FuncId} (h1 : fr.mode = .returning) (h2 : fr.defers = []) (h3 : fr.kind = .deferred) (h4 : fr.fn = f) (h5 : ∃ fn, P.funcs[f]? = some fn ∧ (results fn fr.tmps).run P w = .ok v w) (hm : c.mode = .returning) :
    step P (lone fr (c :: cs) w) = .next (lone c cs w) := by
  obtain ⟨fn, hf, hr⟩ := h5
  subst h4
  exact step_lone_go (by simp [stepG, unwind, doReturn, h1, h2, h3, hf, hr, hm])

theorem beginRound_run {E : Env} {h : Hp} {w : World} (H : HpOK P B w0 E h w) {l : Nat} {pd : Option Code} {fm : Fm} {ps : Array Tmp} {as bo : Code} {d : Nat} (hg : h.get l = some (.loop .ready pd fm ps as bo d)) :
    ∃ w', (Instr.beginRound (E.μ l)).run P w = .ok () w' ∧ HpOK P B w0 E (h.put l (.loop .busy pd fm ps as bo d)) w' := by
  obtain ⟨h1, h2, O, h3, h4, T, h5, rfl⟩ := H.obj l _ hg
  have hgo : (getObj (E.μ l)).run P w = .ok (.loop { state := .ready, pending := pd, fn := fm.fn, tmps := T, params := ps, assign := as, body := bo, defers := E.μ d }) w := by simp [getObj, Sem.run, h3]
  have hso : ∀ o : Obj, (setObj (E.μ l) o).run P w = .ok () { w with heap := w.heap.setIfInBounds (E.μ l) o } := by intro o; simp [setObj, Sem.run, h3]
  refine ⟨_, ?_, H.upd hg rfl rfl (Upd.setObj (H.lt hg)) ⟨h4, T, h5, rfl⟩⟩
  simp [Instr.beginRound, Instr.getLoop, hgo, hso]

theorem endRound_run {E : Env} {h : Hp} {w : World} (H : HpOK P B w0 E h w) {l : Nat} {st : LoopState} {pd : Option Code} {fm : Fm} {ps : Array Tmp} {as bo : Code} {d : Nat} (hg : h.get l = some (.loop st pd fm ps as bo d)) (j : Option Code) :
    ∃ w', (Instr.endRound (E.μ l) j).run P w = .ok (.bool j.isNone) w' ∧ HpOK P B w0 E (h.put l (.loop (if j.isNone then .ready else .done) j fm ps as bo d)) w' := by
  obtain ⟨h1, h2, O, h3, h4, T, h5, rfl⟩ := H.obj l _ hg
  have hgo : (getObj (E.μ l)).run P w = .ok (.loop { state := st, pending := pd, fn := fm.fn, tmps := T, params := ps, assign := as, body := bo, defers := E.μ d }) w := by simp [getObj, Sem.run, h3]
  have hso : ∀ o : Obj, (setObj (E.μ l) o).run P w = .ok () { w with heap := w.heap.setIfInBounds (E.μ l) o } := by intro o; simp [setObj, Sem.run, h3]
  refine ⟨_, ?_, H.upd hg rfl rfl (Upd.setObj (H.lt hg)) ⟨h4, T, h5, rfl⟩⟩
  simp [Instr.endRound, Instr.getLoop, hgo, hso]

theorem inv_yield {O : Orc} {lf n : Nat} (ih : ∀ B w0, CallOK P B w0 (evInv P O lf n)) (l : Nat) (args : List Value) (h : Hp) (v : Value) (h' : Hp) (he : evInv P O lf (n + 1) (.yield l args) h = some (v, h')) (E : Env) (w : World) (H : HpOK P B w0 E h w) (hl : l < h.next) (hsc : scL h.next args = true) :
    ∃ fr0, InvLays P E w (.yield l args) fr0 ∧ ∀ c cs, ∃ E' w', HpOK P B w0 E' h' w' ∧ Agree h.next E E' ∧ h.next ≤ h'.next ∧ sc h'.next v = true ∧ Steps P (lone fr0 (c :: cs) w) (lone (c.finish (con E' v)) cs w') := by
  simp only [evInv] at he
  split at he
  · rename_i pd0 fm ps as body d0 hg
    split at he
    · cases he
    · rename_i hps
      have hps' := Tr.beq_true hps
      split at he
      · rename_i F1 h1 hev1
        split at he
        · rename_i pd fm1 ps1 as1 body1 d1 hg1
          split at he
          · rename_i e F2 h2 hev2
            split at he
            · rename_i st2 pd2 fm2 ps2 as2 body2 d2 hg2 hd2
              -- the record of the loop
              obtain ⟨q1, q2, O, q3, q4, T, q5, rfl⟩ := H.obj l _ hg
              have hgo : (getObj (E.μ l)).run P w = .ok (.loop { state := .ready, pending := pd0, fn := fm.fn, tmps := T, params := ps, assign := as, body := body, defers := E.μ d0 }) w := by simp [getObj, Sem.run, q3]
              have hz := putZip_ok (E := E) ps.toList args q5 hsc
              refine ⟨Frame.round (E.μ l) fm.fn ((ps.toList.zip (conL E args)).foldl (fun tmps (t, a) => tmps.setIfInBounds t a) T) as body .normal, ⟨_, ?_, .inr ⟨_, _, _, _, _, rfl, rfl⟩⟩, fun c cs => ?_⟩
              · have e1 : (conL E args).toArray.size = ps.size := by simp [conL_length]; exact hps'
                simp only [Instr.yield, Instr.getLoop, Sem.run_bind, hgo, Result.andThen_ok, Sem.run_pure]
                rw [if_neg (by simp [conL_length]; exact hps')]
                simp only [Sem.run_pure, ← Array.foldl_toList, Array.toList_zip]
              · have hent : Frame.round (E.μ l) fm.fn ((ps.toList.zip (conL E args)).foldl (fun tmps (t, a) => tmps.setIfInBounds t a) T) as body .normal =
                    at_ (Frame.round (E.μ l) fm.fn ((ps.toList.zip (conL E args)).foldl (fun tmps (t, a) => tmps.setIfInBounds t a) T) as body .normal) ((ps.toList.zip (conL E args)).foldl (fun tmps (t, a) => tmps.setIfInBounds t a) T) [] [.code as, .beginRound, .code body] := by
                  simp [Frame.round, at_]
                generalize hT0 : (ps.toList.zip (conL E args)).foldl (fun tmps (t, a) => tmps.setIfInBounds t a) T = T0 at hz hent ⊢
                generalize hb : Frame.round (E.μ l) fm.fn T0 as body .normal = b at hent ⊢
                have hb1 : b.fn = fm.fn := by rw [← hb]; rfl
                have hb2 : b.roundOf = some (E.μ l) := by rw [← hb]; rfl
                have hb3 : b.kind = .normal := by rw [← hb]; rfl
                have hq0 : tryRecover b (c :: cs) = none := by unfold tryRecover; rw [hb3]
                have hF : FrOK E h.next b { putZip fm (ps.toList.zip args) with defers := [], round := some l } T0 [] :=
                  ⟨⟨hz.size, hz.val, hz.out, hz.scd⟩, by rw [hb1]; exact (putZip_fn _ _).symm, by rw [hb2]; rfl, (fun l' hl' => by cases hl'; exact hl), rfl, (fun d hd => by cases hd)⟩
                obtain ⟨E1, T1, ds1, w1, k1, s1⟩ := code_sound ih lf as _ h .normal F1 h1 hev1 E w b T0 [] H hF [.beginRound, .code body] (c :: cs) hq0
                have hr1 : b.roundOf = some (E1.μ l) := by rw [hb2, (k1.agree l hl).1]
                obtain ⟨w1', x1, x2⟩ := beginRound_run k1.hp hg1
                have st1 : step P (lone (at_ b T1 ds1 [.beginRound, .code body]) (c :: cs) w1) = .next (lone (at_ b T1 ds1 [.code body]) (c :: cs) w1') :=
                  step_lone_go (by simp [stepG, stepG.exec, stepG.apply, at_, hr1, x1, Frame.finish])
                obtain ⟨E2, T2, ds2, w2, k2, s2⟩ := code_sound ih lf body _ _ e F2 h2 hev2 E1 w1' b T1 ds1 x2 (by simpa using k1.fr) [] (c :: cs) hq0
                have hl1 : l < h1.next := by have := k1.le; omega
                have hr2 : b.roundOf = some (E2.μ l) := by rw [hr1, (k2.agree l (by simpa using hl1)).1]
                have a2 : Agree h.next E E2 := k1.agree.trans k2.agree (by simpa using k1.le)
                have le2 : h.next ≤ h2.next := by have := k1.le; have := k2.le; simp at this; omega
                -- the jump that ends the round
                obtain ⟨w3, y1, y2⟩ := endRound_run k2.hp hg2 e.code
                have hb4 : ∀ todo, ({ at_ b T2 ds2 todo with mode := .run } : Frame) = at_ b T2 ds2 todo := fun _ => rfl
                have stj : ∃ todo, Steps P (lone b (c :: cs) w) (lone (at_ b T2 ds2 todo) (c :: cs) w2) ∧ step P (lone (at_ b T2 ds2 todo) (c :: cs) w2) = .next (lone (c.finish (.bool e.code.isNone)) cs w3) := by
                  have pre : Steps P (lone b (c :: cs) w) (lone (at_ b T1 ds1 [.code body]) (c :: cs) w1') := by
                    rw [hent]
                    exact Steps.trans s1 (.one st1)
                  cases e with
                  | normal =>
                    refine ⟨_, pre.trans s2, step_lone_go ?_⟩
                    simp only [Ex.code] at y1
                    simp [stepG, stepG.exec, at_, hr2, Sem.runT_eq, Ex.code, y1, doReturn, hb3]
                  | exit id =>
                    obtain ⟨k0, z1, z2⟩ := s2
                    refine ⟨_, pre.trans z2, step_lone_go ?_⟩
                    have z1' : exitTo id k0 = none := by rw [z1]; rfl
                    simp only [Ex.code] at y1
                    simp [stepG, stepG.exec, at_, hr2, Sem.runT_eq, Ex.code, y1, doReturn, hb3, z1']
                  | ret =>
                    obtain ⟨k0, z2⟩ := s2
                    refine ⟨_, pre.trans z2, step_lone_go ?_⟩
                    simp only [Ex.code] at y1
                    simp [stepG, stepG.exec, at_, hr2, Sem.runT_eq, Ex.code, y1, doReturn, hb3]
                obtain ⟨todo, t1, t2⟩ := stj
                cases e with
                | normal =>
                  cases he
                  exact ⟨E2, w3, by simpa [Ex.code] using y2, a2, by simpa using le2, by simp [sc], t1.trans (.one (by simpa [con, Ex.code] using t2))⟩
                | exit id =>
                  cases he
                  exact ⟨E2, w3, by simpa [Ex.code] using y2, a2, by simpa using le2, by simp [sc], t1.trans (.one (by simpa [con, Ex.code] using t2))⟩
                | ret =>
                  cases he
                  exact ⟨E2, w3, by simpa [Ex.code] using y2, a2, by simpa using le2, by simp [sc], t1.trans (.one (by simpa [con, Ex.code] using t2))⟩
            · cases he
          · cases he
        · cases he
      · cases he
  · cases he

/-- What is known ahead is so. -/
def OrcOK (P : Program) (O : Orc) : Prop := ∀ f g, O f = some g → ∀ B w0, CallOK P B w0 fun
  | .fn f' args, h => if f' = f then g args h else none
  | .yield _ _, _ => none

theorem inv_sound {O : Orc} (hO : OrcOK P O) (lf : Nat) : ∀ (n : Nat), (∀ (B : Prot) (w0 : World), CallOK P B w0 (evInv P O lf n)) ∧ (∀ (B : Prot) (w0 : World), DefOK P B w0 (plainC O (evInv P O lf n))) := by
  intro n
  induction n with
  | zero =>
    refine ⟨fun B w0 inv h v h' he => by simp [evInv] at he, fun B w0 g args h v h' he => ?_⟩
    simp only [plainC, evInv] at he
    split at he <;> cases he
  | succ n ih =>
    refine ⟨fun B w0 inv h v h' he E w H hsc => ?_, fun B w0 g args h v h' he E w H hsc => ?_⟩
    · cases inv with
      | fn f args =>
        cases hf : O f with
        | some g =>
          have := hO f g hf B w0 (.fn f args) h v h' (by simp only [evInv, hf] at he; simpa using he) E w H hsc
          exact this
        | none =>
          obtain ⟨h1, h2⟩ := inv_fn (kd := .normal) ih.1 (ih.2 B w0) f hf args h v h' he E w H hsc
          refine ⟨_, ⟨h1, rfl⟩, fun c cs => ?_⟩
          obtain ⟨E', w', fr, g1, g2, g3, g4, g5, m1, m2, m3, m4, _, m5⟩ := h2 (c :: cs) (by unfold tryRecover; rfl)
          exact ⟨E', w', g1, g2, g3, g4, Steps.trans g5 (.one (step_leave m1 m2 m3 m4 m5))⟩
      | yield l args =>
        simp only [scInv, Bool.and_eq_true, decide_eq_true_eq] at hsc
        exact inv_yield ih.1 l args h v h' he E w H hsc.1 hsc.2
    · simp only [plainC] at he
      split at he
      · rename_i hf
        obtain ⟨h1, h2⟩ := inv_fn (kd := .deferred) ih.1 (ih.2 B w0) g hf args h v h' he E w H hsc
        refine ⟨h1, fun c cs hm => ?_⟩
        obtain ⟨E', w', fr, g1, g2, g3, g4, g5, m1, m2, m3, m4, _, m5⟩ := h2 (c :: cs) (by
          unfold tryRecover
          simp only [Frame.enter]
          rw [hm])
        exact ⟨E', w', g1, g2, g3, Steps.trans g5 (.one (step_leave_def m1 m2 m3 m4 m5 hm))⟩
      · cases he

/-- A call that the evaluator has run, as the model runs it: whatever the world. -/
theorem calls_of_ev {O : Orc} (hO : OrcOK P O) {lf n : Nat} {f : FuncId} (hf : O f = none) {args : List Value} {h : Hp} {v : Value} {h' : Hp} (he : evInv P O lf n (.fn f args) h = some (v, h')) {E : Env} {w : World} (H : HpOK P B w0 E h w) (hsc : scL h.next args = true) :
    Calls P f (conL E args).toArray w fun e w' => ∃ E', e = .returned (con E' v) ∧ HpOK P B w0 E' h' w' ∧ Agree h.next E E' ∧ h.next ≤ h'.next ∧ sc h'.next v = true := by
  cases n with
  | zero => simp [evInv] at he
  | succ n =>
    intro cs
    obtain ⟨_, h2⟩ := inv_fn (kd := .normal) (inv_sound hO lf n).1 ((inv_sound hO lf n).2 B w0) f hf args h v h' he E w H hsc
    obtain ⟨E', w', fr, g1, g2, g3, g4, g5, m1, m2, m3, m4, _, m5⟩ := h2 cs (by unfold tryRecover; rfl)
    refine ⟨_, w', fr, ⟨E', rfl, g1, g2, g3, g4⟩, g5, m4, m1, m2, m3, ?_⟩
    rw [m4]
    exact m5

end
end Go.Eng
