/- Code of the model and the evaluator: statements. -/
import Derived.Test.YtkfbfgcflnkllaaGreatDoorEngI
namespace Go.Eng
open Go.RowKit

section
variable {P : Program} {B : Prot} {w0 : World}

def scInv (n : Nat) : Inv → Bool
  | .fn _ args => scL n args
  | .yield l args => decide (l < n) && scL n args

/-- What a call lays. -/
def InvLays (P : Program) (E : Env) (w : World) : Inv → Frame → Prop
  | .fn f args, fr => (∃ fn, P.funcs[f]? = some fn ∧ fn.body.isNone = false ∧ (fn.name == "runtime.NumGoroutine") = false) ∧ fr = Frame.enter P f (conL E args).toArray .normal
  | .yield l args, fr => ∃ nx, (Instr.yield (E.μ l) (conL E args).toArray).run P w = .ok nx w ∧ Lays P nx fr

def CallOK (P : Program) (B : Prot) (w0 : World) (callF : CallF) : Prop :=
  ∀ inv h v h', callF inv h = some (v, h') → ∀ E w, HpOK P B w0 E h w → scInv h.next inv = true →
    ∃ fr0, InvLays P E w inv fr0 ∧ ∀ c cs, ∃ E' w', HpOK P B w0 E' h' w' ∧ Agree h.next E E' ∧ h.next ≤ h'.next ∧ sc h'.next v = true ∧ Steps P (lone fr0 (c :: cs) w) (lone (c.finish (con E' v)) cs w')

theorem run_callFunc {f : FuncId} {fn : Func} (h1 : P.funcs[f]? = some fn) (h2 : fn.body.isNone = false) (h3 : (fn.name == "runtime.NumGoroutine") = false) (a : Array Value) (w : World) :
    (callFunc f a).run P w = .ok (.enter f a) w := by
  have h3' : fn.name ≠ "runtime.NumGoroutine" := by simpa using h3
  have h2' : fn.body ≠ none := by intro hh; simp [hh] at h2
  simp [callFunc, h1, h3', h2']

theorem target_run {E : Env} {w : World} {fv : Value} {args : List Value} {inv : Inv} {fr0 : Frame} (ht : target fv args = some inv) (hl : InvLays P E w inv fr0) :
    ∃ nx, ((do let d ← Deferred.ofValue (con E fv) (conL E args).toArray; invoke d.target d.args : Sem Next)).run P w = .ok nx w ∧ Lays P nx fr0 := by
  unfold target at ht
  split at ht
  · rename_i g first cap
    cases ht
    obtain ⟨⟨fn, h1, h2, h3⟩, rfl⟩ := hl
    refine ⟨_, ?_, .inl ⟨_, _, rfl, rfl⟩⟩
    simp only [con, conFn, Deferred.ofValue, invoke, Sem.run_bind, Sem.run_pure, Result.andThen_ok, run_callFunc h1 h2 h3]
    congr 2
    apply Array.ext'
    simp [conA_eq, conL_eq]
  · rename_i l first cap
    split at ht
    · rename_i hf hc
      cases ht
      obtain ⟨nx, h1, h2⟩ := hl
      refine ⟨nx, ?_, h2⟩
      have e1 : first = #[] := by apply Array.ext'; simpa using hf
      have e2 : cap = #[] := by apply Array.ext'; simpa using hc
      subst e1
      subst e2
      simp only [con, conFn, Deferred.ofValue, invoke, Sem.run_bind, Sem.run_pure, Result.andThen_ok]
      simpa [conA, conL] using h1
    · cases ht
  · cases ht

theorem target_sc {n : Nat} {fv : Value} {args : List Value} {inv : Inv} (ht : target fv args = some inv) (hf : sc n fv = true) (ha : scL n args = true) : scInv n inv = true := by
  unfold target at ht
  split at ht
  · rename_i g first cap
    cases ht
    simp only [sc, Bool.and_eq_true, scA_iff] at hf
    rw [scL_iff] at ha
    simp only [scInv, scL_iff, List.mem_append]
    rintro v ((hv | hv) | hv)
    · exact hf.1 v (by simpa using hv)
    · exact ha v hv
    · exact hf.2 v (by simpa using hv)
  · rename_i l first cap
    split at ht
    · cases ht
      simp only [sc, Bool.and_eq_true] at hf
      simp [scInv, ha]
      simpa using hf.1.1
    · cases ht
  · cases ht

theorem finish_at {b : Frame} {T : Array Value} {ds : List Deferred} {ops : Array Oper} {i : Nat} {rest : List Nat} {k : List Item} {o : Oper} (ho : ops[i]? = some o) (v : Value) :
    (at_ b T ds (.inRegion ops (i :: rest) :: k)).finish v = at_ b (match o.dst with | some d => T.setIfInBounds d v | none => T) ds (.inRegion ops rest :: k) := by
  cases hd : o.dst <;> simp [Frame.finish, at_, ho, hd]

theorem op_sound' {callF : CallF} (hC : CallOK P B w0 callF) {E : Env} {h h' : Hp} {w : World} {b : Frame} {F : Fm} {T : Array Value} {ds : List Deferred} {ops : Array Oper} {i : Nat} {rest : List Nat} {k : List Item} {o : Oper} {v : Value}
    (H : HpOK P B w0 E h w) (hev : ∀ x ∈ o.op.operands, okOpd P x = true → (at_ b T ds (.inRegion ops (i :: rest) :: k)).eval x = con E (F.eval x) ∧ sc h.next (F.eval x) = true) (ho : ops[i]? = some o) (hw : Region.wanted o (yielded ops T) = true) (ha : evOp callF P o F h = some (v, h')) (cs : List Frame) :
    ∃ E' w', HpOK P B w0 E' h' w' ∧ Agree h.next E E' ∧ h.next ≤ h'.next ∧ sc h'.next v = true ∧
      Steps P (lone (at_ b T ds (.inRegion ops (i :: rest) :: k)) cs w) (lone (at_ b (match o.dst with | some d => T.setIfInBounds d (con E' v) | none => T) ds (.inRegion ops rest :: k)) cs w') := by
  have hnd : ∀ c, o.op ≠ .defer c := by
    intro c hc
    unfold evOp at ha
    split at ha
    · cases ha
    · simp [hc] at ha
  by_cases hcall : ∃ c f, o.op = .call c ∧ c.callee = .value f
  · obtain ⟨c, f, hc1, hc2⟩ := hcall
    unfold evOp at ha
    split at ha
    · cases ha
    · rename_i hok
      rw [Array.all_eq_true_iff_forall_mem] at hok
      simp only [hc1, hc2] at ha
      split at ha
      · -- a function of the library without a body
        rename_i c' g hse
        obtain ⟨q, rfl, hcode⟩ : ∃ q, c' = q + 1 ∧ f = .func g ∧ extCode P g = q + 1 := by
          unfold staticExt at hse
          split at hse
          · split at hse
            · cases hse
            · rename_i q hq
              cases hse
              exact ⟨q, rfl, rfl, hq⟩
          · cases hse
        obtain ⟨rfl, hcode⟩ := hcode
        have hma : ∀ x ∈ c.args, x ∈ o.op.operands := fun x hx => by rw [hc1]; simp [Op.operands, Call.operands, hx]
        have hoa : ∀ x ∈ c.args, okOpd P x = true := fun x hx => hok x (hma x hx)
        have hscA : scL h.next (c.args.toList.map F.eval) = true := by
          rw [scL_iff]
          intro u hu
          obtain ⟨x, hx, rfl⟩ := List.mem_map.1 hu
          exact (hev x (hma x (by simpa using hx)) (hoa x (by simpa using hx))).2
        obtain ⟨E', w', g1, g2, g3, g4, g5⟩ := H.ext hcode hscA ha
        refine ⟨E', w', g2, g3, g4, g5, .one ?_⟩
        rw [← finish_at ho]
        refine step_op_value rfl rfl ho hw hnd (nx := .value (con E' v)) ?_ (.inl rfl)
        have e1 : c.args.map (at_ b T ds (.inRegion ops (i :: rest) :: k)).eval = (conL E (c.args.toList.map F.eval)).toArray := by
          apply Array.ext'
          simp only [Array.toList_map, conL_eq, List.map_map]
          apply List.map_congr_left
          intro x hx
          exact (hev x (hma x (by simpa using hx)) (hoa x (by simpa using hx))).1
        simp only [execOp, hc1, resolve, hc2, e1, Frame.eval, Deferred.ofValue, Sem.run_bind, Sem.run_pure, Result.andThen_ok, invoke]
        simpa using g1
      · split at ha
        case h_2 => cases ha
        rename_i inv ht
        have hmf : f ∈ o.op.operands := by rw [hc1]; simp [Op.operands, Call.operands, hc2]
        have hma : ∀ x ∈ c.args, x ∈ o.op.operands := fun x hx => by rw [hc1]; simp [Op.operands, Call.operands, hx]
        have hof : okOpd P f = true := hok f hmf
        have hoa : ∀ x ∈ c.args, okOpd P x = true := fun x hx => hok x (hma x hx)
        have hscA : scL h.next (c.args.toList.map F.eval) = true := by
          rw [scL_iff]
          intro u hu
          obtain ⟨x, hx, rfl⟩ := List.mem_map.1 hu
          exact (hev x (hma x (by simpa using hx)) (hoa x (by simpa using hx))).2
        obtain ⟨fr0, h1, h2⟩ := hC inv h v h' ha E w H (target_sc ht (hev f hmf hof).2 hscA)
        obtain ⟨nx, h3, h4⟩ := target_run ht h1
        obtain ⟨E', w', g1, g2, g3, g4, g5⟩ := h2 (at_ b T ds (.inRegion ops (i :: rest) :: k)) cs
        refine ⟨E', w', g1, g2, g3, g4, Steps.head (m₁ := lone fr0 (at_ b T ds (.inRegion ops (i :: rest) :: k) :: cs) w) ?_ ?_⟩
        · refine step_op_call rfl rfl ho hw hnd ?_ h4
          have e1 : c.args.map (at_ b T ds (.inRegion ops (i :: rest) :: k)).eval = (conL E (c.args.toList.map F.eval)).toArray := by
            apply Array.ext'
            simp only [Array.toList_map, conL_eq, List.map_map]
            apply List.map_congr_left
            intro x hx
            exact (hev x (hma x (by simpa using hx)) (hoa x (by simpa using hx))).1
          simp only [execOp, hc1, resolve, hc2, (hev f hmf hof).1, e1]
          exact h3
        · rw [← finish_at ho]
          exact g5
  · obtain ⟨E', w', nx, h1, h2, h3, h4, h5, h6⟩ := evOp_sound H hev ha (fun c f hc hf => hcall ⟨c, f, hc, hf⟩)
    refine ⟨E', w', h5, h3, h4, h6, .one ?_⟩
    rw [← finish_at ho]
    refine step_op_value rfl rfl ho hw hnd h1 ?_
    rcases h2 with rfl | ⟨rfl, rfl⟩
    · exact .inl rfl
    · right
      exact ⟨rfl, by simp [Eng.undef, Go.undef, con, conA, conL]⟩

theorem op_sound {callF : CallF} (hC : CallOK P B w0 callF) {E : Env} {h h' : Hp} {w : World} {b : Frame} {F : Fm} {T : Array Value} {ds : List Deferred} {ops : Array Oper} {i : Nat} {rest : List Nat} {k : List Item} {o : Oper} {v : Value}
    (H : HpOK P B w0 E h w) (hF : FrOK E h.next b F T ds) (ho : ops[i]? = some o) (hw : Region.wanted o (yielded ops T) = true) (ha : evOp callF P o F h = some (v, h')) (cs : List Frame) :
    ∃ E' w', HpOK P B w0 E' h' w' ∧ Agree h.next E E' ∧ h.next ≤ h'.next ∧ sc h'.next v = true ∧
      Steps P (lone (at_ b T ds (.inRegion ops (i :: rest) :: k)) cs w) (lone (at_ b (match o.dst with | some d => T.setIfInBounds d (con E' v) | none => T) ds (.inRegion ops rest :: k)) cs w') :=
  op_sound' hC H (fun x _ hx => hF.eval (P := P) H.glob H.gnext (.inRegion ops (i :: rest) :: k) x hx) ho hw ha cs

/-- All of what is kept from one state of a run to a later one. -/
structure Kept (P : Program) (B : Prot) (w0 : World) (E E' : Env) (h h' : Hp) (b : Frame) (F' : Fm) (T' : Array Value) (ds' : List Deferred) (w' : World) : Prop where
  hp : HpOK P B w0 E' h' w'
  fr : FrOK E' h'.next b F' T' ds'
  agree : Agree h.next E E'
  le : h.next ≤ h'.next

theorem Kept.trans {E E' E2 : Env} {h h' h2 : Hp} {b : Frame} {F' F2 : Fm} {T' T2 : Array Value} {ds' ds2 : List Deferred} {w' w2 : World} (k1 : Kept P B w0 E E' h h' b F' T' ds' w') (k2 : Kept P B w0 E' E2 h' h2 b F2 T2 ds2 w2) :
    Kept P B w0 E E2 h h2 b F2 T2 ds2 w2 := ⟨k2.hp, k2.fr, k1.agree.trans k2.agree k1.le, Nat.le_trans k1.le k2.le⟩

theorem tryRecover_at {b : Frame} {T : Array Value} {ds : List Deferred} {todo : List Item} {cs : List Frame} (hq : tryRecover b cs = none) : tryRecover (at_ b T ds todo) cs = none := by
  rw [← hq]
  unfold tryRecover
  rfl

theorem FrOK.defer {E : Env} {n : Nat} {b : Frame} {F : Fm} {T : Array Value} {ds : List Deferred} (h : FrOK E n b F T ds) {d : Deferred} (hd : DefSc n d) : FrOK E n b { F with defers := d :: F.defers } T (conD E d :: ds) := by
  refine ⟨⟨h.tm.size, h.tm.val, h.tm.out, h.tm.scd⟩, h.fn, h.round, h.roundsc, by simp [h.defers], fun x hx => ?_⟩
  rcases List.mem_cons.1 hx with rfl | hx
  · exact hd
  · exact h.defersc x hx

theorem late_sound {E : Env} {h h' : Hp} {w : World} {b : Frame} {F F' : Fm} {T : Array Value} {ds : List Deferred} {ops : Array Oper} {i : Nat} {rest : List Nat} {k : List Item} {o : Oper} {v : Value} {cs : List Frame}
    (H : HpOK P B w0 E h w) (hF : FrOK E h.next b F T ds) (ho : ops[i]? = some o) (hw : Region.wanted o (yielded ops T) = true) (ha : evLate P o F h = some (v, F', h')) (hq : tryRecover b cs = none) :
    ∃ E' ds' w', HpOK P B w0 E' h' w' ∧ FrOK E' h'.next b F' T ds' ∧ Agree h.next E E' ∧ h.next ≤ h'.next ∧ sc h'.next v = true ∧
      Steps P (lone (at_ b T ds (.inRegion ops (i :: rest) :: k)) cs w) (lone (at_ b (match o.dst with | some d => T.setIfInBounds d (con E' v) | none => T) ds' (.inRegion ops rest :: k)) cs w') := by
  have hev : ∀ x ∈ o.op.operands, okOpd P x = true → (at_ b T ds (.inRegion ops (i :: rest) :: k)).eval x = con E (F.eval x) ∧ sc h.next (F.eval x) = true := fun x _ hx => hF.eval (P := P) H.glob H.gnext (.inRegion ops (i :: rest) :: k) x hx
  have hun : con E Eng.undef = Go.undef := by simp [Eng.undef, Go.undef, con, conA, conL]
  unfold evLate at ha
  split at ha
  · cases ha
  · rename_i hok
    rw [Array.all_eq_true_iff_forall_mem] at hok
    split at ha
    · rename_i c hop
      split at ha
      · rename_i d hd
        cases ha
        unfold deferOf at hd
        split at hd
        · rename_i f hcal hrd
          split at hd
          · rename_i g first cap hfv
            cases hd
            have hrb : (at_ b T ds (.inRegion ops (i :: rest) :: k)).roundOf = none := by
              have := hF.round
              rw [hrd] at this
              exact this
            have hmf : f ∈ o.op.operands := by rw [hop]; simp [Op.operands, Call.operands, hcal]
            have hma : ∀ x ∈ c.args, x ∈ o.op.operands := fun x hx => by rw [hop]; simp [Op.operands, Call.operands, hx]
            have ef := hev f hmf (hok f hmf)
            rw [hfv] at ef
            have hsf : scA h.next first = true ∧ scA h.next cap = true := by simpa [sc] using ef.2
            have hsa : scA h.next (first ++ c.args.map F.eval) = true := by
              rw [scA_iff]
              intro x hx
              rcases Array.mem_append.1 hx with hx | hx
              · exact (scA_iff _ _).1 hsf.1 x hx
              · obtain ⟨y, hy, rfl⟩ := Array.mem_map.1 hx
                exact (hev y (hma y hy) (hok y (hma y hy))).2
            refine ⟨E, _, w, H, hF.defer (d := { target := .fn (.func g) cap, args := first ++ c.args.map F.eval }) (.inr ⟨g, cap, rfl, hsf.2, hsa⟩), Agree.refl _ _, Nat.le_refl _, by simp [Eng.undef, sc, scA, scL], .one ?_⟩
            have e1 : c.args.map (at_ b T ds (.inRegion ops (i :: rest) :: k)).eval = (c.args.map F.eval).map (con E) := by
              apply Array.ext'
              simp only [Array.toList_map, List.map_map]
              apply List.map_congr_left
              intro x hx
              exact (hev x (hma x (by simpa using hx)) (hok x (hma x (by simpa using hx)))).1
            have hst := step_op_defer (P := P) (fr := at_ b T ds (.inRegion ops (i :: rest) :: k)) (cs := cs) (w := w) (d := conD E { target := .fn (.func g) cap, args := first ++ c.args.map F.eval }) rfl rfl ho hw hrb (by
              simp only [execOp, hop, resolve, hcal, ef.1, e1, con, conFn, Deferred.ofValue, Sem.run_bind, Sem.run_pure, Result.andThen_ok]
              simp [conD, conA_eq])
            rw [hst, hun]
            have := finish_at (b := b) (T := T) (ds := conD E { target := .fn (.func g) cap, args := first ++ c.args.map F.eval } :: ds) (ops := ops) (i := i) (rest := rest) (k := k) ho Go.undef
            rw [← this]
            rfl
          · cases hd
        · cases hd
      · cases ha
    · rename_i c hop
      split at ha
      · rename_i hcal hrd hargs
        cases ha
        have hrb : (at_ b T ds (.inRegion ops (i :: rest) :: k)).roundOf = none := by
          have := hF.round
          rw [hrd] at this
          exact this
        have hst := step_op_recover (P := P) (fr := at_ b T ds (.inRegion ops (i :: rest) :: k)) (cs := cs) (w := w) rfl rfl ho hw hrb (by
          simp [execOp, hop, resolve, hcal, invoke, builtin]) (tryRecover_at hq)
        refine ⟨E, ds, w, H, hF, Agree.refl _ _, Nat.le_refl _, by simp [sc], .one ?_⟩
        rw [hst, finish_at ho]
        rfl
      · cases ha
    · rename_i s d x hop
      have hnd : ∀ c, o.op ≠ .defer c := fun c hc => by rw [hop] at hc; cases hc
      have hmx : x ∈ o.op.operands := by rw [hop]; simp [Op.operands]
      have ex := hev x hmx (hok x hmx)
      split at ha
      · rename_i hs
        split at ha
        · rename_i v1 h1 hb
          cases ha
          obtain ⟨E', w', g1, g2, g3, g4, g5⟩ := H.strBytes (E := E) (x := F.eval x) hs hb
          refine ⟨E', _, w', g2, hF.mono g3 g4, g3, g4, g5, .one ?_⟩
          rw [← finish_at ho]
          refine step_op_value rfl rfl ho hw hnd (nx := .value (con E' v)) ?_ (.inl rfl)
          simp only [execOp, hop, ex.1]
          exact runV g1
        · cases ha
      · split at ha
        · rename_i v1 hb
          cases ha
          obtain ⟨g0, g1⟩ := H.bytesStr (E := E) hb
          refine ⟨E, ds, w, H, hF, Agree.refl _ _, Nat.le_refl _, g0, .one ?_⟩
          rw [← finish_at ho]
          refine step_op_value rfl rfl ho hw hnd (nx := .value (con E v)) ?_ (.inl rfl)
          simp only [execOp, hop, ex.1]
          exact runV g1
        · cases ha
      · split at ha
        · rename_i v1 hb
          cases ha
          obtain ⟨rfl, g1⟩ := H.convPtr (E := E) hb
          refine ⟨E, ds, w, H, hF, Agree.refl _ _, Nat.le_refl _, ex.2, .one ?_⟩
          rw [← finish_at ho]
          refine step_op_value rfl rfl ho hw hnd (nx := .value (con E (F.eval x))) ?_ (.inl rfl)
          simp only [execOp, hop, ex.1]
          exact runV g1
        · cases ha
    · cases ha

theorem ops_sound {callF : CallF} (hC : CallOK P B w0 callF) {b : Frame} {ops : Array Oper} {k : List Item} (cs : List Frame) : tryRecover b cs = none → ∀ (l : List Oper) (i : Nat) {E : Env} {h h' : Hp} {w : World} {F F' : Fm} {T : Array Value} {ds : List Deferred},
    (∀ j, l[j]? = ops[i + j]?) → HpOK P B w0 E h w → FrOK E h.next b F T ds → evOps callF P ops l F h = some (F', h') →
    ∃ E' T' ds' w', Kept P B w0 E E' h h' b F' T' ds' w' ∧ Steps P (lone (at_ b T ds (.inRegion ops (List.range' i l.length) :: k)) cs w) (lone (at_ b T' ds' k) cs w') := by
  intro hq l
  induction l with
  | nil =>
    intro i E h h' w F F' T ds _ H hF ha
    simp [evOps] at ha
    obtain ⟨rfl, rfl⟩ := ha
    refine ⟨E, T, ds, w, ⟨H, hF, Agree.refl _ _, Nat.le_refl _⟩, .one ?_⟩
    exact step_lone_go (by simp [stepG, stepG.exec, at_])
  | cons o l ih =>
    intro i E h h' w F F' T ds hl H hF ha
    have ho : ops[i]? = some o := by simpa using (hl 0).symm
    have hl' : ∀ j, l[j]? = ops[i + 1 + j]? := fun j => by have := hl (j + 1); simpa [Nat.add_assoc, Nat.add_comm 1 j] using this
    simp only [evOps] at ha
    rw [wantedT_eq hF.tm] at ha
    simp only [List.length_cons, List.range'_succ]
    cases hw : Region.wanted o (yielded ops T) with
    | true =>
      rw [hw] at ha
      simp only at ha
      split at ha
      · split at ha
        · rename_i v F1 h1 hop
          obtain ⟨E', ds', w', g1, g1', g2, g3, g4, g5⟩ := late_sound (rest := List.range' (i + 1) l.length) (k := k) H hF ho hw hop hq
          have hF2 := g1'.put o.dst g4
          obtain ⟨E2, T2, ds2, w2, k2, s2⟩ := ih (i + 1) hl' g1 hF2 ha
          exact ⟨E2, T2, ds2, w2, ⟨k2.hp, k2.fr, g2.trans k2.agree g3, Nat.le_trans g3 k2.le⟩, g5.trans s2⟩
        · cases ha
      split at ha
      · rename_i v h1 hop
        obtain ⟨E', w', g1, g2, g3, g4, g5⟩ := op_sound (rest := List.range' (i + 1) l.length) (k := k) hC H hF ho hw hop cs
        have hF2 := (hF.mono g2 g3).put o.dst g4
        obtain ⟨E2, T2, ds2, w2, k2, s2⟩ := ih (i + 1) hl' g1 hF2 ha
        exact ⟨E2, T2, ds2, w2, ⟨k2.hp, k2.fr, g2.trans k2.agree g3, Nat.le_trans g3 k2.le⟩, g5.trans s2⟩
      · cases ha
    | false =>
      rw [hw] at ha
      simp only at ha
      have hF2 := hF.put o.dst (v := Eng.undef) (by simp [Eng.undef, sc, scA, scL])
      have hst := step_op_skip' (P := P) (fr := at_ b T ds (.inRegion ops (i :: List.range' (i + 1) l.length) :: k)) (cs := cs) (w := w) rfl rfl ho hw
      rw [finish_at ho] at hst
      have e : con E Eng.undef = Go.undef := by simp [Eng.undef, Go.undef, con, conA, conL]
      rw [e] at hF2
      obtain ⟨E2, T2, ds2, w2, k2, s2⟩ := ih (i + 1) hl' H hF2 ha
      exact ⟨E2, T2, ds2, w2, k2, .head hst s2⟩

/-- Where a piece of code has come to. -/
def After (P : Program) (b : Frame) (k : List Item) (cs : List Frame) (m : Machine) (T' : Array Value) (ds' : List Deferred) (w' : World) : Ex → Prop
  | .normal => Steps P m (lone (at_ b T' ds' k) cs w')
  | .exit id => ∃ k0, exitTo id k0 = exitTo id k ∧ Steps P m (lone (at_ b T' ds' (.code (.exit id) :: k0)) cs w')
  | .ret => ∃ k0, Steps P m (lone (at_ b T' ds' (.code .ret :: k0)) cs w')

theorem After.of_steps {b : Frame} {k : List Item} {cs : List Frame} {m m1 : Machine} {T' : Array Value} {ds' : List Deferred} {w' : World} {e : Ex} (hs : Steps P m m1) (ha : After P b k cs m1 T' ds' w' e) : After P b k cs m T' ds' w' e := by
  cases e with
  | normal => exact hs.trans ha
  | exit id => obtain ⟨k0, h1, h2⟩ := ha; exact ⟨k0, h1, hs.trans h2⟩
  | ret => obtain ⟨k0, h1⟩ := ha; exact ⟨k0, hs.trans h1⟩

/-- What follows in a row is left out by whatever leaves. -/
theorem After.drop {b : Frame} {x : Item} {k : List Item} {cs : List Frame} {m : Machine} {T' : Array Value} {ds' : List Deferred} {w' : World} {e : Ex} (hx : ∀ id, exitTo id (x :: k) = exitTo id k) (hne : e ≠ .normal) (ha : After P b (x :: k) cs m T' ds' w' e) : After P b k cs m T' ds' w' e := by
  cases e with
  | normal => exact absurd rfl hne
  | exit id => obtain ⟨k0, h1, h2⟩ := ha; exact ⟨k0, by rw [h1, hx], h2⟩
  | ret => exact ha

def CodeOK (P : Program) (B : Prot) (w0 : World) (f : Fm → Hp → R3) (c : Code) : Prop :=
  ∀ (F : Fm) (h : Hp) (e : Ex) (F' : Fm) (h' : Hp), f F h = some (e, F', h') → ∀ (E : Env) (w : World) (b : Frame) (T : Array Value) (ds : List Deferred), HpOK P B w0 E h w → FrOK E h.next b F T ds →
    ∀ k cs, tryRecover b cs = none → ∃ E' T' ds' w', Kept P B w0 E E' h h' b F' T' ds' w' ∧ After P b k cs (lone (at_ b T ds (.code c :: k)) cs w) T' ds' w' e

theorem loop_sound {f : Fm → Hp → R3} {c : Code} (hc : CodeOK P B w0 f c) : ∀ (n : Nat) (F : Fm) (h : Hp) (e : Ex) (F' : Fm) (h' : Hp), loopN f n F h = some (e, F', h') → ∀ (E : Env) (w : World) (b : Frame) (T : Array Value) (ds : List Deferred), HpOK P B w0 E h w → FrOK E h.next b F T ds →
    ∀ k cs, tryRecover b cs = none → ∃ E' T' ds' w', Kept P B w0 E E' h h' b F' T' ds' w' ∧ After P b k cs (lone (at_ b T ds (.code c :: .inLoop c :: k)) cs w) T' ds' w' e := by
  intro n
  induction n with
  | zero => intro F h e F' h' hl; simp [loopN] at hl
  | succ n ih =>
    intro F h e F' h' hl E w b T ds H hF k cs hq
    simp only [loopN] at hl
    split at hl
    · rename_i F1 h1 hb
      obtain ⟨E1, T1, ds1, w1, k1, s1⟩ := hc F h .normal F1 h1 hb E w b T ds H hF (.inLoop c :: k) cs hq
      obtain ⟨E2, T2, ds2, w2, k2, s2⟩ := ih F1 h1 e F' h' hl E1 w1 b T1 ds1 k1.hp k1.fr k cs hq
      refine ⟨E2, T2, ds2, w2, k1.trans k2, .of_steps (Steps.trans s1 (.one ?_)) s2⟩
      exact step_lone_go (by simp [stepG, stepG.exec, at_])
    · rename_i r hr
      have he : e ≠ .normal := by
        intro hh; subst hh
        exact hr F' h' hl
      obtain ⟨E1, T1, ds1, w1, k1, s1⟩ := hc F h e F' h' hl E w b T ds H hF (.inLoop c :: k) cs hq
      exact ⟨E1, T1, ds1, w1, k1, s1.drop (fun id => by simp [exitTo]) he⟩

end
end Go.Eng
