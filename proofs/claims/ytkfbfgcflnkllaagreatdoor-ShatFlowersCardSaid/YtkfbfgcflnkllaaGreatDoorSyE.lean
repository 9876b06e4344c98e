/- Ranges over functions: rules for the runs. -/
import Derived.Test.YtkfbfgcflnkllaaGreatDoorSyD
namespace Go.Eng

noncomputable section

def rngP : SA → Option (Cx × Nat)
  | .rng κ n _ _ _ => some (κ, n)
  | _ => none

def rngF : SA → Fr
  | .rng _ _ f _ _ => f
  | _ => fun _ => undef

def rngR : SA → Fm → Option (Ex × Hp)
  | .rng _ _ _ R _ => R
  | _ => fun _ => none

def rngK : SA → Ex → Hp → SA
  | .rng _ _ _ _ k => k
  | _ => fun _ _ => .bad

variable {Q : Value → Hp → Prop}

theorem ok_rng {t : SA} {κ : Cx} {n : Nat} (hp : rngP t = some (κ, n)) (hk : ∀ F, Rel κ n F (rngF t) → ∃ ex h', rngR t F = some (ex, h') ∧ Ok Q (rngK t ex h')) : Ok Q t := by
  cases t with
  | rng κ' n' f R k => cases hp; exact hk
  | _ => cases hp

/-- The ranges of a piece of code, one after the other. -/
def rngsIn : Code → List RC
  | .seq a b => rngsIn a ++ rngsIn b
  | .cond _ a b => rngsIn a ++ rngsIn b
  | .block _ b => rngsIn b
  | .loop b => rngsIn b
  | .scope b => rngsIn b
  | .rangeFunc g ps as body => ⟨g, ps, as, body⟩ :: rngsIn body
  | _ => []

def noRC : RC := ⟨.const undef, #[], .skip, .skip⟩

/-- Range k of function i. -/
def rcOf (P : Program) (i k : Nat) : RC :=
  match P.funcs[i]? with
  | some fn => match fn.body with
    | some b => ((rngsIn b)[k]?).getD noRC
    | none => noRC
  | none => noRC

/-- The object of a range. -/
abbrev RC.obj (c : RC) (F : Fm) (d : Nat) (st : LoopState) (pd : Option Code) : AObj := .loop st pd F c.ps c.as c.body d

/-- The heap when a range begins. -/
abbrev RC.heap (c : RC) (F : Fm) (h : Hp) : Hp := (h.new (.defd false)).new (c.obj F h.next .ready none)

theorem range_ev {callF : CallF} {P : Program} {lf : Nat} {c : RC} {F : Fm} {h h3 : Hp} {g : FuncId} {args : List Value} {v : Value} {st : LoopState} {pd : Option Code} {d : Nat} {e : Ex} (hrd : F.round = none) (ht : okOpd P c.g = true)
    (htg : target (F.eval c.g) [.func (.yield (h.next + 1)) #[] #[]] = some (.fn g args)) (hc : callF (.fn g args) (c.heap F h) = some (v, h3)) (hg : h3.get (h.next + 1) = some (c.obj F d st pd)) (hst : st ≠ .busy) (he : endPending pd = some e) :
    exR (evC callF P lf c.code F h) = some (e, h3.put (h.next + 1) (c.obj F d .exhausted pd)) := by
  have hn : (h.new (.defd false)).next = h.next + 1 := rfl
  simp only [RC.code, evC, hrd, ht, hn, htg]
  rw [hc]
  simp only [hg]
  cases st with
  | busy => exact absurd rfl hst
  | _ => simp only [he]; rfl

theorem range_ev_in {callF : CallF} {P : Program} {lf : Nat} {c : RC} {F : Fm} {h h3 : Hp} {g : FuncId} {args : List Value} {v : Value} {st : LoopState} {pd : Option Code} {l d d' : Nat} {e : Ex} {st0 : LoopState} {pd0 : Option Code} {F0 : Fm} {ps0 : Array Tmp} {as0 b0 : Code} (hrd : F.round = some l)
    (hl : h.get l = some (.loop st0 pd0 F0 ps0 as0 b0 d)) (ht : okOpd P c.g = true)
    (htg : target (F.eval c.g) [.func (.yield h.next) #[] #[]] = some (.fn g args)) (hc : callF (.fn g args) (h.new (c.obj F d .ready none)) = some (v, h3)) (hg : h3.get h.next = some (c.obj F d' st pd)) (hst : st ≠ .busy) (he : endPending pd = some e) :
    exR (evC callF P lf c.code F h) = some (e, h3.put h.next (c.obj F d' .exhausted pd)) := by
  simp only [RC.code, evC, hrd, ht, hl, htg]
  rw [hc]
  simp only [hg]
  cases st with
  | busy => exact absurd rfl hst
  | _ => simp only [he]; rfl

/-- A range in a function's own code. c: its code; vals: what the frame holds. -/
theorem sy_range (n : Nat) {t : SA} {callF : CallF} {P : Program} {lf m : Nat} (c : RC) (h : Hp) (vals : List (Nat × Value)) (g : FuncId) (args : List Value) (hp : rngP (goS n t) = some (⟨none, true⟩, m))
    (hR : ∀ F, rngR (goS n t) F = exR (evC callF P lf c.code F h)) (hv : Has (rngF (goS n t)) vals) (ht : okOpd P c.g = true)
    (htg : target (oev (rngF (goS n t)) c.g) [.func (.yield (h.next + 1)) #[] #[]] = some (.fn g args))
    (hk : ∀ F f, Rel ⟨none, true⟩ m F (upds f vals) → ∃ v h3 st pd d e, callF (.fn g args) (c.heap F h) = some (v, h3) ∧ h3.get (h.next + 1) = some (c.obj F d st pd) ∧ st ≠ .busy ∧ endPending pd = some e ∧ Ok Q (rngK (goS n t) e (h3.put (h.next + 1) (c.obj F d .exhausted pd)))) : Ok Q t := by
  refine ok_go n (ok_rng hp fun F hr => ?_)
  obtain ⟨v, h3, st, pd, d, e, h1, h2, h4, h5, h6⟩ := hk F (rngF (goS n t)) (by rw [upds_has hv]; exact hr)
  refine ⟨e, _, ?_, h6⟩
  rw [hR]
  exact range_ev hr.round ht (by rw [hr.oev]; exact htg) h1 h2 h4 h5

/-- A range in a round of another one. -/
theorem sy_range_in (n : Nat) {t : SA} {callF : CallF} {P : Program} {lf m l : Nat} {d0 : Nat} {st0 : LoopState} {pd0 : Option Code} {F0 : Fm} {ps0 : Array Tmp} {as0 b0 : Code} (c : RC) (h : Hp) (vals : List (Nat × Value)) (g : FuncId) (args : List Value) (hp : rngP (goS n t) = some (⟨some l, true⟩, m))
    (hR : ∀ F, rngR (goS n t) F = exR (evC callF P lf c.code F h)) (hl : h.get l = some (.loop st0 pd0 F0 ps0 as0 b0 d0)) (hv : Has (rngF (goS n t)) vals) (ht : okOpd P c.g = true)
    (htg : target (oev (rngF (goS n t)) c.g) [.func (.yield h.next) #[] #[]] = some (.fn g args))
    (hk : ∀ F f, Rel ⟨some l, true⟩ m F (upds f vals) → ∃ v h3 st pd d e, callF (.fn g args) (h.new (c.obj F d0 .ready none)) = some (v, h3) ∧ h3.get h.next = some (c.obj F d st pd) ∧ st ≠ .busy ∧ endPending pd = some e ∧ Ok Q (rngK (goS n t) e (h3.put h.next (c.obj F d .exhausted pd)))) : Ok Q t := by
  refine ok_go n (ok_rng hp fun F hr => ?_)
  obtain ⟨v, h3, st, pd, d, e, h1, h2, h4, h5, h6⟩ := hk F (rngF (goS n t)) (by rw [upds_has hv]; exact hr)
  refine ⟨e, _, ?_, h6⟩
  rw [hR]
  exact range_ev_in hr.round hl ht (by rw [hr.oev]; exact htg) h1 h2 h4 h5

/-! The marks of ranges. -/

def marksV : List Nat → Value
  | [] => undef
  | d :: r => consD d (marksV r)

theorem marks_ds : ∀ l : List Nat, dsOf (marksV l) = l
  | [] => rfl
  | d :: r => by rw [marksV, dsOf_cons, marks_ds r]

theorem collect_ok : ∀ (l : List Nat) {h : Hp}, l.Nodup → (∀ d ∈ l, h.get d = some (.defd false)) → ∃ h', collectL l h = some h' ∧ h'.next = h.next ∧ ∀ i, i ∉ l → h'.get i = h.get i
  | [], h, _, _ => ⟨h, rfl, rfl, fun _ _ => rfl⟩
  | d :: r, h, hn, hd => by
    have hn' := List.nodup_cons.1 hn
    obtain ⟨h', e1, e2, e3⟩ := collect_ok r (h := h.put d (.defd true)) hn'.2 fun x hx => by
      have hne : x ≠ d := fun e => by subst e; exact hn'.1 hx
      rw [Hp.get_put_ne hne]
      exact hd x (List.mem_cons_of_mem _ hx)
    refine ⟨h', ?_, e2, fun i hi => ?_⟩
    · simp only [collectL, hd d (List.mem_cons_self ..)]
      exact e1
    · have hne : i ≠ d := fun e => by subst e; exact hi (List.mem_cons_self ..)
      rw [e3 i (fun hh => hi (List.mem_cons_of_mem _ hh)), Hp.get_put_ne hne]

/-- The end of a function that has ranges: their marks. -/
theorem sy_marks (n : Nat) {t : SA} {h : Hp} (l : List Nat) (he : askR (goS n t) = (collectL (dsOf (marksV l)) h).map (undef, ·)) (hn : l.Nodup) (hd : ∀ d ∈ l, h.get d = some (.defd false))
    (hk : ∀ h', h'.next = h.next → (∀ i, i ∉ l → h'.get i = h.get i) → Ok Q (askK (goS n t) undef h')) : Ok Q t := by
  obtain ⟨h', e1, e2, e3⟩ := collect_ok l hn hd
  refine ok_go n (ok_ask (v := undef) (h' := h') ?_ (hk h' e2 e3))
  rw [he, marks_ds, e1]
  rfl

/-! A round's own questions. -/

theorem sy_busy (n : Nat) {t : SA} {l : Nat} {h : Hp} (he : askR (goS n t) = busyR l h) {pd : Option Code} {fm : Fm} {ps : Array Tmp} {as b : Code} {d : Nat} (hg : h.get l = some (.loop .ready pd fm ps as b d))
    (hk : Ok Q (askK (goS n t) undef (h.put l (.loop .busy pd fm ps as b d)))) : Ok Q t :=
  sy_call n he (v := undef) (h' := h.put l (.loop .busy pd fm ps as b d)) (by unfold busyR; rw [hg]) hk

theorem sy_round (n : Nat) {t : SA} {l : Nat} {h : Hp} (he : askR (goS n t) = roundR l .normal h) {st : LoopState} {pd : Option Code} {fm : Fm} {ps : Array Tmp} {as b : Code} {d : Nat} (hg : h.get l = some (.loop st pd fm ps as b d))
    (hk : Ok Q (askK (goS n t) (.bool true) (h.put l (.loop .ready none fm ps as b d)))) : Ok Q t :=
  sy_call n he (v := .bool true) (h' := h.put l (.loop .ready none fm ps as b d)) (by unfold roundR; rw [hg]) hk

theorem sy_leave (n : Nat) {t : SA} {l : Nat} {h : Hp} (ex : Ex) (he : askR (goS n t) = roundR l ex h) (hx : ex ≠ .normal) {st : LoopState} {pd : Option Code} {fm : Fm} {ps : Array Tmp} {as b : Code} {d : Nat} (hg : h.get l = some (.loop st pd fm ps as b d))
    (hk : Ok Q (askK (goS n t) (.bool false) (h.put l (.loop .done ex.code fm ps as b d)))) : Ok Q t :=
  sy_call n he (v := .bool false) (h' := h.put l (.loop .done ex.code fm ps as b d)) (by
    unfold roundR; rw [hg]
    cases ex <;> first | exact absurd rfl hx | rfl) hk

end
end Go.Eng
