/- Code of the model and the evaluator: operations in a row, calls. -/
import Derived.Test.YtkfbfgcflnkllaaGreatDoorEngH
namespace Go.Eng
open Go.RowKit

/-- The frame b at some slots, deferred calls and rest of its work. -/
def at_ (b : Frame) (T : Array Value) (ds : List Deferred) (todo : List Item) : Frame := { b with tmps := T, todo := todo, defers := ds, mode := .run }

def conD (E : Env) (d : Deferred) : Deferred :=
  match d.target with
  | .collected r => { d with target := .collected (E.μ r) }
  | .fn (.func g) cap => { target := .fn (.func g) (conA E cap), args := conA E d.args }
  | _ => d

/-- A call that was put off, and what it speaks of. -/
def DefSc (n : Nat) (d : Deferred) : Prop :=
  (∃ r, d = { target := .collected r, args := #[] } ∧ r < n) ∨ (∃ g cap, d.target = .fn (.func g) cap ∧ scA n cap = true ∧ scA n d.args = true)

theorem DefSc.mono {n m : Nat} {d : Deferred} (h : DefSc n d) (hm : n ≤ m) : DefSc m d := by
  rcases h with ⟨r, h1, h2⟩ | ⟨g, cap, h1, h2, h3⟩
  · exact .inl ⟨r, h1, by omega⟩
  · exact .inr ⟨g, cap, h1, scA_mono hm _ h2, scA_mono hm _ h3⟩

theorem conD_congr {n : Nat} {E E' : Env} (hE : Agree n E E') {d : Deferred} (h : DefSc n d) : conD E d = conD E' d := by
  rcases h with ⟨r, rfl, h2⟩ | ⟨g, cap, h1, h2, h3⟩
  · simp [conD, (hE r h2).1]
  · simp [conD, h1, conA_congr hE _ h2, conA_congr hE _ h3]

structure FrOK (E : Env) (n : Nat) (b : Frame) (F : Fm) (T : Array Value) (ds : List Deferred) : Prop where
  tm : TmOK E n F T
  fn : b.fn = F.fn
  round : b.roundOf = F.round.map E.μ
  roundsc : ∀ l, F.round = some l → l < n
  defers : ds = F.defers.map (conD E)
  defersc : ∀ d ∈ F.defers, DefSc n d

theorem FrOK.mono {E E' : Env} {n m : Nat} {b : Frame} {F : Fm} {T : Array Value} {ds : List Deferred} (h : FrOK E n b F T ds) (hE : Agree n E E') (hm : n ≤ m) : FrOK E' m b F T ds := by
  refine ⟨h.tm.mono hE hm, h.fn, ?_, fun l hl => by have := h.roundsc l hl; omega, ?_, fun d hd => ?_⟩
  · rw [h.round]
    cases hr : F.round with
    | none => rfl
    | some l => simp [(hE l (h.roundsc l hr)).1]
  · rw [h.defers]
    apply List.map_congr_left
    intro d hd
    exact conD_congr hE (h.defersc d hd)
  · exact (h.defersc d hd).mono hm

theorem TmOK.eval {E : Env} {n : Nat} {F : Fm} {T : Array Value} (h : TmOK E n F T) (t : Nat) : T.getD t Go.undef = con E ((F.tm.get t).getD Eng.undef) ∧ sc n ((F.tm.get t).getD Eng.undef) = true := by
  constructor
  · rcases Nat.lt_or_ge t F.n with ht | ht
    · simp [h.val t ht]
    · have : T.size ≤ t := by rw [h.size]; exact ht
      simp [h.out t ht, this, Eng.undef, Go.undef, con, conA, conL]
  · cases hg : F.tm.get t with
    | none => simp [Eng.undef, sc, scA, scL]
    | some v => exact h.scd t v hg

theorem TmOK.put {E : Env} {n : Nat} {F : Fm} {T : Array Value} (h : TmOK E n F T) (dst : Option Tmp) {v : Value} (hv : sc n v = true) :
    TmOK E n (F.put dst v) (match dst with | some d => T.setIfInBounds d (con E v) | none => T) := by
  cases dst with
  | none => exact h
  | some d =>
    simp only [Fm.put]
    split
    · rename_i hlt
      have hlt' : d < F.n := by simpa [Nat.blt_eq] using hlt
      refine ⟨by simp [h.size], fun t ht => ?_, fun t ht => ?_, fun t u hu => ?_⟩
      · simp only at ht
        rw [Array.getElem?_setIfInBounds, Tr.get_set]
        by_cases htd : d = t
        · subst htd
          simp [h.size, hlt']
        · rw [if_neg htd, if_neg (Ne.symm htd)]
          exact h.val t ht
      · simp only at ht
        have htd : t ≠ d := fun hh => by subst hh; exact absurd hlt' (Nat.not_lt.2 ht)
        rw [Tr.get_set, if_neg htd]
        exact h.out t ht
      · simp only [Tr.get_set] at hu
        split at hu
        · cases hu; exact hv
        · exact h.scd t u hu
    · rename_i hlt
      have hge : F.n ≤ d := by
        rcases Nat.lt_or_ge d F.n with hh | hh
        · rw [← Nat.blt_eq] at hh; rw [hh] at hlt; cases hlt
        · exact hh
      have : T.setIfInBounds d (con E v) = T := by
        apply Array.ext
        · simp
        · intro i h1 h2
          have hsz := h.size
          have hdi : ¬ d = i := fun hh => by subst hh; rw [hsz] at h2; exact absurd h2 (Nat.not_lt.2 hge)
          exact Array.getElem_setIfInBounds_ne h2 hdi
      rw [this]
      exact h

theorem FrOK.put {E : Env} {n : Nat} {b : Frame} {F : Fm} {T : Array Value} {ds : List Deferred} (h : FrOK E n b F T ds) (dst : Option Tmp) {v : Value} (hv : sc n v = true) :
    FrOK E n b (F.put dst v) (match dst with | some d => T.setIfInBounds d (con E v) | none => T) ds := by
  have e : (F.put dst v).fn = F.fn ∧ (F.put dst v).round = F.round ∧ (F.put dst v).defers = F.defers := by
    cases dst with
    | none => simp [Fm.put]
    | some d => simp only [Fm.put]; split <;> simp
  exact ⟨h.tm.put dst hv, by rw [e.1]; exact h.fn, by rw [e.2.1]; exact h.round, by rw [e.2.1]; exact h.roundsc, by rw [e.2.2]; exact h.defers, by rw [e.2.2]; exact h.defersc⟩

theorem FrOK.eval {E : Env} {n : Nat} {b : Frame} {F : Fm} {T : Array Value} {ds : List Deferred} {P : Program} (h : FrOK E n b F T ds) (hg : ∀ g, g < P.globals.size → E.μ g = g) (hgn : P.globals.size ≤ n) (todo : List Item) (x : Operand) (hx : okOpd P x = true) :
    (at_ b T ds todo).eval x = con E (F.eval x) ∧ sc n (F.eval x) = true := by
  cases x with
  | tmp t => exact h.tm.eval t
  | const v => simp [okOpd] at hx; exact ⟨(con_flat E v hx).symm, sc_flat n v hx⟩
  | global g =>
    have hlt : g < P.globals.size := by simpa [okOpd, Nat.blt_eq] using hx
    simp [Frame.eval, Fm.eval, con, hg g hlt, sc]
    omega
  | func f => simp [Frame.eval, Fm.eval, con, conFn, conA, conL, sc, scA, scL]

section
variable {P : Program}

theorem step_op_value {fr : Frame} {cs : List Frame} {w w' : World} {ops : Array Oper} {i : Nat} {rest : List Nat} {k : List Item} {o : Oper} {nx : Next} {v : Value}
    (hm : fr.mode = .run) (ht : fr.todo = .inRegion ops (i :: rest) :: k) (ho : ops[i]? = some o) (hw : Region.wanted o (yielded ops fr.tmps) = true) (hnd : ∀ c, o.op ≠ .defer c)
    (hr : (execOp fr.eval o).run P w = .ok nx w') (hnx : nx = .value v ∨ nx = .skip ∧ v = Go.undef) : step P (lone fr cs w) = .next (lone (fr.finish v) cs w') := by
  refine step_lone_go ?_
  have h1 : stepG P true { frame := fr, callers := cs, status := .running, dying := none } w = stepG.apply P true fr cs none (execOp fr.eval o) w := by
    simp only [stepG, hm, stepG.exec, ht]
    simp only [ho, Option.map_some, Option.getD_some, hw, if_true, stepG.oper, Frame.oper?, ht]
    split
    · rename_i h1 h2; exact absurd h2 (hnd _)
    · rfl
  rw [h1]
  rcases hnx with rfl | ⟨rfl, rfl⟩ <;> simp [stepG.apply, hr]

/-- Operations whose meaning hangs on the frame. -/
theorem step_op_own {fr : Frame} {cs : List Frame} {w : World} {ops : Array Oper} {i : Nat} {rest : List Nat} {k : List Item} {o : Oper}
    (hm : fr.mode = .run) (ht : fr.todo = .inRegion ops (i :: rest) :: k) (ho : ops[i]? = some o) (hw : Region.wanted o (yielded ops fr.tmps) = true) (hrd : fr.roundOf = none) {g : GStep}
    (hs : stepG.apply P true fr cs none (execOp fr.eval o) w = g) : stepG P true { frame := fr, callers := cs, status := .running, dying := none } w = g := by
  rw [← hs]
  simp only [stepG, hm, stepG.exec, ht]
  simp only [ho, Option.map_some, Option.getD_some, hw, if_true, stepG.oper, Frame.oper?, ht, hrd]

theorem step_op_defer {fr : Frame} {cs : List Frame} {w : World} {ops : Array Oper} {i : Nat} {rest : List Nat} {k : List Item} {o : Oper} {d : Deferred}
    (hm : fr.mode = .run) (ht : fr.todo = .inRegion ops (i :: rest) :: k) (ho : ops[i]? = some o) (hw : Region.wanted o (yielded ops fr.tmps) = true) (hrd : fr.roundOf = none)
    (hr : (execOp fr.eval o).run P w = .ok (.defer d) w) : step P (lone fr cs w) = .next (lone ({ fr with defers := d :: fr.defers }.finish Go.undef) cs w) := by
  refine step_lone_go ?_
  rw [step_op_own hm ht ho hw hrd rfl]
  simp [stepG.apply, hr]

theorem step_op_recover {fr : Frame} {cs : List Frame} {w : World} {ops : Array Oper} {i : Nat} {rest : List Nat} {k : List Item} {o : Oper}
    (hm : fr.mode = .run) (ht : fr.todo = .inRegion ops (i :: rest) :: k) (ho : ops[i]? = some o) (hw : Region.wanted o (yielded ops fr.tmps) = true) (hrd : fr.roundOf = none)
    (hr : (execOp fr.eval o).run P w = .ok .recover w) (hq : tryRecover fr cs = none) : step P (lone fr cs w) = .next (lone (fr.finish .nilIface) cs w) := by
  refine step_lone_go ?_
  rw [step_op_own hm ht ho hw hrd rfl]
  simp [stepG.apply, hr, hrd, hq]

theorem step_op_skip' {fr : Frame} {cs : List Frame} {w : World} {ops : Array Oper} {i : Nat} {rest : List Nat} {k : List Item} {o : Oper}
    (hm : fr.mode = .run) (ht : fr.todo = .inRegion ops (i :: rest) :: k) (ho : ops[i]? = some o) (hw : Region.wanted o (yielded ops fr.tmps) = false) : step P (lone fr cs w) = .next (lone (fr.finish Go.undef) cs w) := by
  refine step_lone_go ?_
  simp only [stepG, hm, stepG.exec, ht]
  simp [ho, hw]

/-- A call: the frame that it lays. -/
def Lays (P : Program) (nx : Next) (fr : Frame) : Prop :=
  (∃ f a, nx = .enter f a ∧ fr = Frame.enter P f a .normal) ∨ (∃ l f t as bo, nx = .round l f t as bo ∧ fr = Frame.round l f t as bo .normal)

theorem step_op_call {fr fr0 : Frame} {cs : List Frame} {w w' : World} {ops : Array Oper} {i : Nat} {rest : List Nat} {k : List Item} {o : Oper} {nx : Next}
    (hm : fr.mode = .run) (ht : fr.todo = .inRegion ops (i :: rest) :: k) (ho : ops[i]? = some o) (hw : Region.wanted o (yielded ops fr.tmps) = true) (hnd : ∀ c, o.op ≠ .defer c)
    (hr : (execOp fr.eval o).run P w = .ok nx w') (hnx : Lays P nx fr0) : step P (lone fr cs w) = .next (lone fr0 (fr :: cs) w') := by
  refine step_lone_go ?_
  have h1 : stepG P true { frame := fr, callers := cs, status := .running, dying := none } w = stepG.apply P true fr cs none (execOp fr.eval o) w := by
    simp only [stepG, hm, stepG.exec, ht]
    simp only [ho, Option.map_some, Option.getD_some, hw, if_true, stepG.oper, Frame.oper?, ht]
    split
    · rename_i h1 h2; exact absurd h2 (hnd _)
    · rfl
  rw [h1]
  rcases hnx with ⟨f, a, rfl, rfl⟩ | ⟨l, f, t, as, bo, rfl, rfl⟩ <;> simp [stepG.apply, hr, ht]

theorem wantedT_eq {E : Env} {n : Nat} {F : Fm} {T : Array Value} (h : TmOK E n F T) (ops : Array Oper) (o : Oper) : wantedT ops F o = Region.wanted o (yielded ops T) := by
  have hy : ∀ j, yieldedT ops F.tm j = yielded ops T j := by
    intro j
    unfold yieldedT yielded
    cases hj : ops[j]? with
    | none => rfl
    | some q =>
      simp only [Option.bind_some]
      cases hd : q.dst with
      | none => rfl
      | some d =>
        simp only [Option.bind_some]
        rcases Nat.lt_or_ge d F.n with hlt | hge
        · rw [h.val d hlt]
          cases hg : F.tm.get d with
          | none => simp [Eng.undef, con]
          | some v =>
            simp only [Option.getD_some]
            cases hv : con E v with
            | bool b => rw [con_bool hv]
            | _ => split <;> simp_all [con]
        · rw [h.out d hge, Array.getElem?_eq_none (by rw [h.size]; exact hge)]
  unfold wantedT Region.wanted
  cases hgd : o.guard with
  | none => rfl
  | some g =>
    obtain ⟨j, want⟩ := g
    simp only [hy]
    cases yielded ops T j with
    | none => simp
    | some b => cases b <;> cases want <;> simp

end
end Go.Eng
