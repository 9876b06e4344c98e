/- A quicker evaluator in passing style: code. -/
import Derived.Test.YtkfbfgcflnkllaaGreatDoorFxD
import Derived.Test.YtkfbfgcflnkllaaGreatDoorEngK
namespace Go.Eng
noncomputable section

abbrev KE := Ev → Tm → Hp → Ans

def frm (e : Ev) (tm : Tm) : Fm := { e.F with tm := tm }

def putT (n : Nat) (d : Option Tmp) (v : Value) (tm : Tm) : Tm :=
  match d with
  | some d => match Nat.blt d n with
    | true => tm.set d (some v)
    | false => tm
  | none => tm

theorem put_frm (e : Ev) (tm : Tm) (d : Option Tmp) (v : Value) : (frm e tm).put d v = frm e (putT e.F.n d v tm) := by
  cases d with
  | none => rfl
  | some d =>
    simp only [Fm.put, putT, frm]
    cases Nat.blt d e.F.n <;> rfl

theorem dstT (n : Nat) (d : Option Tmp) (v : Value) (tm : Tm) (k : Tm → Ans) : (dstC n d).run v tm k = k (putT n d v tm) := by
  cases d with
  | none => rfl
  | some d =>
    simp only [dstC, putT]
    cases Nat.blt d n
    · rfl
    · simp only [putC_eq, setB_path]

structure GuardC where
  run : Tm → Ans → Ans → Ans

def guardC (ops : Array Oper) (g : Option (Nat × Bool)) : GuardC :=
  match g with
  | none => ⟨fun _ y _ => y⟩
  | some (j, want) => match ops[j]? with
    | some o => match o.dst, want with
      | some d, true => ⟨fun tm y n => (getC (path d)).run tm fun v => boolK v n fun b => bite b y n⟩
      | some d, false => ⟨fun tm y n => (getC (path d)).run tm fun v => boolK v n fun b => bite b n y⟩
      | none, _ => ⟨fun _ _ n => n⟩
    | none => ⟨fun _ _ n => n⟩

theorem guardC_eq (ops : Array Oper) (F : Fm) (o : Oper) (y n : Ans) : (guardC ops o.guard).run F.tm y n = bite (wantedT ops F o) y n := by
  unfold guardC wantedT yieldedT
  cases o.guard with
  | none => rfl
  | some g =>
    obtain ⟨j, want⟩ := g
    simp only []
    cases ops[j]? with
    | none => rfl
    | some q =>
      simp only []
      cases q.dst with
      | none => rfl
      | some d =>
        simp only []
        cases want <;> simp only [getC_eq, getB_path] <;> cases F.tm.get d with
        | none => rfl
        | some v => cases v with
          | bool b => cases b <;> rfl
          | _ => rfl

/-- An operation that leaves its own value as a need. -/
def needK (r : Option (Value × Hp)) (k : KH) : Ans :=
  Option.rec (motive := fun _ => Ans) .no (fun p => Prod.rec (motive := fun _ => Ans) (fun v h => .need v fun v => k v h) p) r

theorem needK_ok {r : Option (Value × Hp)} {k : KH} (h : Yes (needK r k)) : Says r k := by
  cases r with
  | none => cases h
  | some p =>
    obtain ⟨v, h'⟩ := p
    have h2 : Yes (.need v fun v => k v h') := h
    cases h2 with
    | need h3 => exact ⟨v, h', rfl, h3⟩

def symC (P : Program) (o : Oper) : OpC := ⟨fun e tm h k => needK (evOp e.ef P o { e.F with tm := tm } h) k⟩

theorem symC_ok (P : Program) (o : Oper) : OpCOK P o (symC P o) := fun e F h k _ hr => by
  obtain ⟨v, h', e1, e2⟩ := needK_ok hr
  exact ⟨v, h', (evOp_tm h rfl).trans e1, e2⟩

def opX (P : Program) (sy : List Nat) (o : Oper) : OpC :=
  match o.dst with
  | some d => match sy.any (Nat.beq d) with
    | true => symC P o
    | false => opC P o
  | none => opC P o

theorem opX_ok (P : Program) (sy : List Nat) (o : Oper) : OpCOK P o (opX P sy o) := by
  unfold opX
  split
  · split
    · exact symC_ok P o
    · exact opC_ok P o
  · exact opC_ok P o

structure RegC where
  run : Ev → Tm → Hp → KE → Ans

/-- An operation that only stands where the order is fixed. -/
def lateK (r : Option (Value × Fm × Hp)) (k : Value → Fm → Hp → Ans) : Ans :=
  Option.rec (motive := fun _ => Ans) .no (fun p => Prod.rec (motive := fun _ => Ans) (fun v q => Prod.rec (motive := fun _ => Ans) (fun F h => Hp.rec (motive := fun _ => Ans) (fun a n => forceN n fun n => k v F ⟨a, n⟩) h) q) p) r

theorem lateK_ok {r : Option (Value × Fm × Hp)} {k : Value → Fm → Hp → Ans} (h : Yes (lateK r k)) : ∃ v F h', r = some (v, F, h') ∧ Yes (k v F h') := by
  cases r with
  | none => cases h
  | some p =>
    obtain ⟨v, F, ⟨a, n⟩⟩ := p
    have h' : Yes ((forceN n fun n => k v F ⟨a, n⟩)) := h
    rw [forceN_eq] at h'
    exact ⟨v, F, _, rfl, h'⟩

theorem evLate_tm {P : Program} {o : Oper} {F F' : Fm} {h h' : Hp} {v : Value} (hr : evLate P o F h = some (v, F', h')) : F'.tm = F.tm ∧ F'.n = F.n := by
  unfold evLate at hr
  (repeat' split at hr) <;> first | (cases hr; exact ⟨rfl, rfl⟩) | cases hr

def lateC (P : Program) (n : Nat) (o : Oper) : RegC :=
  ⟨fun e tm h k => lateK (evLate P o (frm e tm) h) fun v F h => (dstC n o.dst).run v tm fun tm => k ⟨e.cf, e.ef, F⟩ tm h⟩

def normC (P : Program) (n : Nat) (sy : List Nat) (o : Oper) : RegC :=
  ⟨fun e tm h k => (opX P sy o).run e tm h fun v h => (dstC n o.dst).run v tm fun tm => k e tm h⟩

def stepC (P : Program) (n : Nat) (sy : List Nat) (o : Oper) : RegC :=
  match isLate P o.op with
  | true => lateC P n o
  | false => normC P n sy o

def opsC (P : Program) (n : Nat) (sy : List Nat) (ops : Array Oper) : List Oper → RegC
  | [] => ⟨fun e tm h k => k e tm h⟩
  | o :: r => match o.guard with
    | none => ⟨fun e tm h k => (stepC P n sy o).run e tm h fun e tm h => (opsC P n sy ops r).run e tm h k⟩
    | some g => ⟨fun e tm h k => (guardC ops (some g)).run tm ((stepC P n sy o).run e tm h fun e tm h => (opsC P n sy ops r).run e tm h k)
        ((dstC n o.dst).run undef tm fun tm => (opsC P n sy ops r).run e tm h k)⟩

theorem EvOK.of {e e' : Ev} (h : EvOK e) (h1 : e'.cf = e.cf) (h2 : e'.ef = e.ef) : EvOK e' := by
  intro i h0 k hr
  rw [h1] at hr
  rw [h2]
  exact h i h0 k hr

theorem opsC_ok (P : Program) (n : Nat) (sy : List Nat) (ops : Array Oper) : ∀ (l : List Oper) (e : Ev) (tm : Tm) (h : Hp) (k : KE), EvOK e → e.F.n = n → Yes ((opsC P n sy ops l).run e tm h k) →
    ∃ e' tm' h', evOps e.ef P ops l (frm e tm) h = some (frm e' tm', h') ∧ e'.cf = e.cf ∧ e'.ef = e.ef ∧ e'.F.n = e.F.n ∧ Yes (k e' tm' h')
  | [], e, tm, h, k, _, _, hr => ⟨e, tm, h, rfl, rfl, rfl, rfl, hr⟩
  | o :: r, e, tm, h, k, he, hn, hr => by
    have key1 : wantedT ops (frm e tm) o = true → Yes (((stepC P n sy o).run e tm h fun e tm h => (opsC P n sy ops r).run e tm h k)) →
        ∃ e' tm' h', evOps e.ef P ops (o :: r) (frm e tm) h = some (frm e' tm', h') ∧ e'.cf = e.cf ∧ e'.ef = e.ef ∧ e'.F.n = e.F.n ∧ Yes (k e' tm' h') := fun hw hr => by
      unfold stepC at hr
      split at hr
      · rename_i hl
        unfold lateC at hr
        simp only [dstT] at hr
        obtain ⟨v, F, h1, h2, hr2⟩ := lateK_ok hr
        obtain ⟨t1, t2⟩ := evLate_tm h2
        obtain ⟨e', tm', h', h3, h4, h5, h6, h7⟩ := opsC_ok P n sy ops r ⟨e.cf, e.ef, F⟩ _ h1 k (he.of rfl rfl) (t2.trans hn) hr2
        have hF : F.put o.dst v = frm ⟨e.cf, e.ef, F⟩ (putT n o.dst v tm) := by
          have e1 : F = frm ⟨e.cf, e.ef, F⟩ tm := by
            have : F.tm = tm := t1
            subst this
            rfl
          have := put_frm ⟨e.cf, e.ef, F⟩ tm o.dst v
          rw [← e1] at this
          rw [this]
          have : F.n = n := t2.trans hn
          rw [← this]
        refine ⟨e', tm', h', ?_, h4, h5, h6.trans t2, h7⟩
        simp only [evOps, hw, hl, h2, hF]
        exact h3
      · rename_i hl
        unfold normC at hr
        obtain ⟨v, h1, h2, hr⟩ := opX_ok P sy o e (frm e tm) h _ he hr
        simp only [dstT] at hr
        obtain ⟨e', tm', h', h3, h4, h5, h6, h7⟩ := opsC_ok P n sy ops r e _ h1 k he hn hr
        exact ⟨e', tm', h', by simp only [evOps, hw, hl, h2, put_frm, hn]; exact h3, h4, h5, h6, h7⟩
    have key2 : wantedT ops (frm e tm) o = false → Yes (((dstC n o.dst).run undef tm fun tm => (opsC P n sy ops r).run e tm h k)) →
        ∃ e' tm' h', evOps e.ef P ops (o :: r) (frm e tm) h = some (frm e' tm', h') ∧ e'.cf = e.cf ∧ e'.ef = e.ef ∧ e'.F.n = e.F.n ∧ Yes (k e' tm' h') := fun hw hr => by
      rw [dstT] at hr
      obtain ⟨e', tm', h', h3, h4⟩ := opsC_ok P n sy ops r e _ h k he hn hr
      exact ⟨e', tm', h', by simp only [evOps, hw, put_frm, hn]; exact h3, h4⟩
    simp only [opsC] at hr
    split at hr
    · rename_i hg
      exact key1 (by simp only [wantedT, hg]) hr
    · rename_i g hg
      rw [← hg] at hr
      have hr2 : Yes (bite (wantedT ops (frm e tm) o) ((stepC P n sy o).run e tm h fun e tm h => (opsC P n sy ops r).run e tm h k)
        ((dstC n o.dst).run undef tm fun tm => (opsC P n sy ops r).run e tm h k)) := by
        rw [← guardC_eq]
        exact hr
      rcases bite_ok hr2 with ⟨h1, h2⟩ | ⟨h1, h2⟩
      · exact key1 h1 h2
      · exact key2 h1 h2

/-- Regions that draw. -/
def slowDraw (P : Program) (ops : Array Oper) : RegC :=
  ⟨fun e tm h k => Option.rec (motive := fun _ => Ans) .no
    (fun p => Prod.rec (motive := fun _ => Ans) (fun F h => Fm.rec (motive := fun _ => Ans) (fun a n tm ds r => bite (Nat.beq n e.F.n) (Hp.rec (motive := fun _ => Ans) (fun o m => forceN m fun m => k ⟨e.cf, e.ef, ⟨a, n, tm, ds, r⟩⟩ tm ⟨o, m⟩) h) .no) F) p) (drawRun e.ef P ops (frm e tm) h)⟩

def varK (P : Program) (t : TypeId) (h : Hp) (d : Ans) (k : KH) : Ans :=
  match zeroOf P t with
  | some z => match z.cells.toList.all scalar with
    | true => newK (.cells z.cells.toList t false) h k
    | false => d
  | none => d

structure BrC where
  run : Ev → Tm → Tm → Hp → (Tm → Hp → Ans) → Ans

/-- What comes with an operation. -/
def brC (P : Program) (n : Nat) (sy : List Nat) : List (Oper × Tmp) → BrC
  | [] => ⟨fun _ _ tm1 h k => k tm1 h⟩
  | (q, t) :: r => ⟨fun e tm tm1 h k => (opX P sy q).run e tm h fun v h => (dstC n (some t)).run v tm1 fun tm1 => (brC P n sy r).run e tm tm1 h k⟩

theorem brC_ok (P : Program) (n : Nat) (sy : List Nat) : ∀ (l : List (Oper × Tmp)) (e : Ev) (tm tm1 : Tm) (h : Hp) (k : Tm → Hp → Ans), EvOK e → e.F.n = n → Yes ((brC P n sy l).run e tm tm1 h k) →
    ∃ ws tm' h', evBring e.ef P l (frm e tm) h = some (ws, h') ∧ (frm e tm1).putL ws = frm e tm' ∧ Yes (k tm' h')
  | [], e, tm, tm1, h, k, _, _, hr => ⟨[], tm1, h, rfl, rfl, hr⟩
  | (q, t) :: r, e, tm, tm1, h, k, he, hn, hr => by
    simp only [brC] at hr
    obtain ⟨v, h1, h2, hr⟩ := opX_ok P sy q e (frm e tm) h _ he hr
    simp only [dstT] at hr
    obtain ⟨ws, tm', h', h3, h4, h5⟩ := brC_ok P n sy r e tm _ h1 k he hn hr
    exact ⟨(t, v) :: ws, tm', h', by simp only [evBring, h2, h3], by simp only [Fm.putL, put_frm, hn, h4], h5⟩

structure UnC where
  run : Tm → (Tm → Ans) → Ans

def unC (n : Nat) : List (Oper × Tmp) → UnC
  | [] => ⟨fun tm k => k tm⟩
  | (_, t) :: r => ⟨fun tm k => (dstC n (some t)).run undef tm fun tm => (unC n r).run tm k⟩

theorem unC_ok (n : Nat) (e : Ev) (hn : e.F.n = n) : ∀ (l : List (Oper × Tmp)) (tm : Tm) (k : Tm → Ans), Yes ((unC n l).run tm k) → ∃ tm', (frm e tm).putL (unds l) = frm e tm' ∧ Yes (k tm')
  | [], tm, k, hr => ⟨tm, rfl, hr⟩
  | (q, t) :: r, tm, k, hr => by
    simp only [unC, dstT] at hr
    obtain ⟨tm', h1, h2⟩ := unC_ok n e hn r _ k hr
    refine ⟨tm', ?_, h2⟩
    rw [← h1]
    simp only [unds, List.map_cons, Fm.putL, put_frm, hn]

def trC (P : Program) (n : Nat) (sy : List Nat) (ops : Array Oper) (ms : List Nat) : List Oper → Nat → RegC
  | [], _ => ⟨fun e tm h k => k e tm h⟩
  | o :: r, i => match kindOf ops ms o i with
    | .soft => trC P n sy ops ms r (i + 1)
    | .withVars l => ⟨fun e tm h k => (guardC ops o.guard).run tm ((brC P n sy l).run e tm tm h fun tm1 h => (opX P sy o).run e tm1 h fun v h => (dstC n o.dst).run v tm1 fun tm2 => (trC P n sy ops ms r (i + 1)).run e tm2 h k)
        ((unC n l).run tm fun tm1 => (dstC n o.dst).run undef tm1 fun tm2 => (trC P n sy ops ms r (i + 1)).run e tm2 h k)⟩
    | .norm => match o.guard with
      | none => ⟨fun e tm h k => (opX P sy o).run e tm h fun v h => (dstC n o.dst).run v tm fun tm => (trC P n sy ops ms r (i + 1)).run e tm h k⟩
      | some g => ⟨fun e tm h k => (guardC ops (some g)).run tm ((opX P sy o).run e tm h fun v h => (dstC n o.dst).run v tm fun tm => (trC P n sy ops ms r (i + 1)).run e tm h k)
        ((dstC n o.dst).run undef tm fun tm => (trC P n sy ops ms r (i + 1)).run e tm h k)⟩

theorem trC_ok (P : Program) (n : Nat) (sy : List Nat) (ops : Array Oper) (ms : List Nat) : ∀ (l : List Oper) (i : Nat) (e : Ev) (tm : Tm) (h : Hp) (k : KE), EvOK e → e.F.n = n → Yes ((trC P n sy ops ms l i).run e tm h k) →
    ∃ rs tm' h', evTr e.ef P ops ms l i (frm e tm) h = some (rs, frm e tm', h') ∧ Yes (k e tm' h')
  | [], i, e, tm, h, k, _, _, hr => ⟨[], tm, h, rfl, hr⟩
  | o :: r, i, e, tm, h, k, he, hn, hr => by
    simp only [trC] at hr
    split at hr
    · rename_i hk
      obtain ⟨rs, tm', h', h3, h4⟩ := trC_ok P n sy ops ms r (i + 1) e tm h k he hn hr
      exact ⟨⟨frm e tm, undef, h, false, []⟩ :: rs, tm', h', by simp only [evTr, hk, h3], h4⟩
    · rename_i l hk
      have hr2 : Yes (bite (wantedT ops (frm e tm) o) ((brC P n sy l).run e tm tm h fun tm1 h => (opX P sy o).run e tm1 h fun v h => (dstC n o.dst).run v tm1 fun tm2 => (trC P n sy ops ms r (i + 1)).run e tm2 h k)
        ((unC n l).run tm fun tm1 => (dstC n o.dst).run undef tm1 fun tm2 => (trC P n sy ops ms r (i + 1)).run e tm2 h k)) := by
        rw [← guardC_eq]
        exact hr
      rcases bite_ok hr2 with ⟨hw, hr⟩ | ⟨hw, hr⟩
      · obtain ⟨ws, tm1, h1, hb, hp, hr⟩ := brC_ok P n sy l e tm tm h _ he hn hr
        obtain ⟨v, h2, hv, hr⟩ := opX_ok P sy o e (frm e tm1) h1 _ he hr
        simp only [dstT] at hr
        obtain ⟨rs, tm', h', h3, h4⟩ := trC_ok P n sy ops ms r (i + 1) e _ h2 k he hn hr
        exact ⟨⟨frm e tm1, v, h2, true, ws⟩ :: rs, tm', h', by simp only [evTr, hk, hw, hb, hp, hv, put_frm, hn, h3], h4⟩
      · obtain ⟨tm1, hp, hr⟩ := unC_ok n e hn l tm _ hr
        rw [dstT] at hr
        obtain ⟨rs, tm', h', h3, h4⟩ := trC_ok P n sy ops ms r (i + 1) e _ h k he hn hr
        exact ⟨⟨frm e tm, undef, h, false, unds l⟩ :: rs, tm', h', by simp only [evTr, hk, hw, hp, put_frm, hn, h3], h4⟩
    · rename_i hk
      have key1 : wantedT ops (frm e tm) o = true → Yes (((opX P sy o).run e tm h fun v h => (dstC n o.dst).run v tm fun tm => (trC P n sy ops ms r (i + 1)).run e tm h k)) →
          ∃ rs tm' h', evTr e.ef P ops ms (o :: r) i (frm e tm) h = some (rs, frm e tm', h') ∧ Yes (k e tm' h') := fun hw hr => by
        obtain ⟨v, h1, h2, hr⟩ := opX_ok P sy o e (frm e tm) h _ he hr
        simp only [dstT] at hr
        obtain ⟨rs, tm', h', h3, h4⟩ := trC_ok P n sy ops ms r (i + 1) e _ h1 k he hn hr
        exact ⟨⟨frm e tm, v, h1, true, []⟩ :: rs, tm', h', by simp only [evTr, hk, hw, h2, put_frm, hn, h3], h4⟩
      have key2 : wantedT ops (frm e tm) o = false → Yes (((dstC n o.dst).run undef tm fun tm => (trC P n sy ops ms r (i + 1)).run e tm h k)) →
          ∃ rs tm' h', evTr e.ef P ops ms (o :: r) i (frm e tm) h = some (rs, frm e tm', h') ∧ Yes (k e tm' h') := fun hw hr => by
        rw [dstT] at hr
        obtain ⟨rs, tm', h', h3, h4⟩ := trC_ok P n sy ops ms r (i + 1) e _ h k he hn hr
        exact ⟨⟨frm e tm, undef, h, false, []⟩ :: rs, tm', h', by simp only [evTr, hk, hw, put_frm, hn, h3], h4⟩
      split at hr
      · rename_i hg
        exact key1 (by simp only [wantedT, hg]) hr
      · rename_i g hg
        rw [← hg] at hr
        have hr2 : Yes (bite (wantedT ops (frm e tm) o) ((opX P sy o).run e tm h fun v h => (dstC n o.dst).run v tm fun tm => (trC P n sy ops ms r (i + 1)).run e tm h k)
          ((dstC n o.dst).run undef tm fun tm => (trC P n sy ops ms r (i + 1)).run e tm h k)) := by
          rw [← guardC_eq]
          exact hr
        rcases bite_ok hr2 with ⟨h1, h2⟩ | ⟨h1, h2⟩
        · exact key1 h1 h2
        · exact key2 h1 h2

/-- Values alike. -/
def veq0 (v w : Value) (y : Ans) : Ans :=
  intK v (boolK v (ptrK v (bite (veq v w) y .no) fun i o => ptrK w .no fun j p => bite (Nat.beq i j) (bite (Nat.beq o p) y .no) .no) fun b => boolK w .no fun c => bite b (bite c y .no) (bite c .no y))
    fun j a => intK w .no fun k b => bite (Nat.beq (tagK j) (tagK k)) (bite (eqI a b) y .no) .no

theorem no_yes {p : Prop} (h : Yes .no) : p := by cases h

theorem veq0_ok {v w : Value} {y : Ans} (h : Yes (veq0 v w y)) : veq v w = true ∧ Yes y := by
  unfold veq0 at h
  rcases intK_ok h with ⟨j, a, e1, h1⟩ | h1
  · rcases intK_ok h1 with ⟨k, b, e2, h2⟩ | h2
    · rcases bite_ok h2 with ⟨h3, h4⟩ | ⟨_, h4⟩
      · rcases bite_ok h4 with ⟨h5, h6⟩ | ⟨_, h6⟩
        · have := tagK_inj h3
          subst this
          rw [eqI_eq] at h5
          subst e1
          subst e2
          simp only [veq, decide_true, Bool.true_and]
          exact ⟨h5, h6⟩
        · exact no_yes h6
      · exact no_yes h4
    · exact no_yes h2
  · rcases boolK_ok h1 with ⟨b, e1, h2⟩ | h2
    · rcases boolK_ok h2 with ⟨c, e2, h3⟩ | h3
      · subst e1
        subst e2
        cases b <;> cases c <;> first | exact ⟨rfl, h3⟩ | exact no_yes h3
      · exact no_yes h3
    · rcases ptrK_ok h2 with ⟨i, o, e1, h3⟩ | h3
      · rcases ptrK_ok h3 with ⟨j, p, e2, h4⟩ | h4
        · rcases bite_ok h4 with ⟨h5, h6⟩ | ⟨_, h6⟩
          · rcases bite_ok h6 with ⟨h7, h8⟩ | ⟨_, h8⟩
            · have := Nat.eq_of_beq_eq_true h5
              subst this
              have := Nat.eq_of_beq_eq_true h7
              subst this
              subst e1
              subst e2
              exact ⟨by simp [veq], h8⟩
            · exact no_yes h8
          · exact no_yes h6
        · exact no_yes h4
      · rcases bite_ok h3 with ⟨h4, h5⟩ | ⟨_, h5⟩
        · exact ⟨h4, h5⟩
        · exact no_yes h5

def veqSL (l m : List Value) (y : Ans) : Ans :=
  List.rec (motive := fun _ => List Value → Ans) (fun m => List.rec (motive := fun _ => Ans) y (fun _ _ _ => .no) m)
    (fun v _ ih m => List.rec (motive := fun _ => Ans) .no (fun w r _ => veq0 v w (ih r)) m) l m

theorem veqSL_ok {y : Ans} : ∀ {l m : List Value}, Yes (veqSL l m y) → veqL l m = true ∧ Yes y
  | [], [], h => ⟨rfl, h⟩
  | [], _ :: _, h => no_yes h
  | _ :: _, [], h => no_yes h
  | v :: l, w :: m, h => by
    obtain ⟨h1, h2⟩ := veq0_ok (v := v) (w := w) (y := veqSL l m y) h
    obtain ⟨h3, h4⟩ := veqSL_ok h2
    exact ⟨by simp only [veqL, h1, h3, Bool.and_self], h4⟩

def veqS (v w : Value) (y : Ans) : Ans := aggK v (veq0 v w y) fun l => aggK w .no fun m => veqSL l m y

theorem veqS_ok {v w : Value} {y : Ans} (h : Yes (veqS v w y)) : veq v w = true ∧ Yes y := by
  rcases aggK_ok h with ⟨l, e1, h1⟩ | h1
  · rcases aggK_ok h1 with ⟨m, e2, h2⟩ | h2
    · subst e1
      subst e2
      simp only [veq, veqA]
      exact veqSL_ok h2
    · exact no_yes h2
  · exact veq0_ok h1

/-- What a region that draws has looked at. -/
structure Rd where
  i : Nat
  o : Oper
  tm : Tm
  v : Value

structure NoteC where
  run : Tm → Value → Hp → List Rd → List (Nat × Hp) → (List Rd → List (Nat × Hp) → Ans) → Ans

def noteC (o : Oper) (i : Nat) : NoteC :=
  match isEff o.op, isRead o.op with
  | true, _ => ⟨fun _ _ h rs es k => k rs ((i, h) :: es)⟩
  | false, true => ⟨fun tm v _ rs es k => k (⟨i, o, tm, v⟩ :: rs) es⟩
  | false, false => ⟨fun _ _ _ rs es k => k rs es⟩

structure TrC where
  run : Ev → Tm → Hp → (Tm → Hp → List Rd → List (Nat × Hp) → Ans) → Ans

def trD (P : Program) (n : Nat) (sy : List Nat) (ops : Array Oper) (ms : List Nat) : List Oper → Nat → TrC
  | [], _ => ⟨fun _ tm h k => k tm h [] []⟩
  | o :: r, i => match kindOf ops ms o i with
    | .soft => trD P n sy ops ms r (i + 1)
    | .withVars l => ⟨fun e tm h k => (guardC ops o.guard).run tm ((brC P n sy l).run e tm tm h fun tm1 h => (opX P sy o).run e tm1 h fun v h1 => (dstC n o.dst).run v tm1 fun tm2 => (trD P n sy ops ms r (i + 1)).run e tm2 h1 fun tm3 h2 rs es => k tm3 h2 rs ((i, h1) :: es))
        ((unC n l).run tm fun tm1 => (dstC n o.dst).run undef tm1 fun tm2 => (trD P n sy ops ms r (i + 1)).run e tm2 h k)⟩
    | .norm => match o.guard with
      | none => ⟨fun e tm h k => (opX P sy o).run e tm h fun v h1 => (dstC n o.dst).run v tm fun tm1 => (trD P n sy ops ms r (i + 1)).run e tm1 h1 fun tm2 h2 rs es => (noteC o i).run tm v h1 rs es fun rs es => k tm2 h2 rs es⟩
      | some g => ⟨fun e tm h k => (guardC ops (some g)).run tm ((opX P sy o).run e tm h fun v h1 => (dstC n o.dst).run v tm fun tm1 => (trD P n sy ops ms r (i + 1)).run e tm1 h1 fun tm2 h2 rs es => (noteC o i).run tm v h1 rs es fun rs es => k tm2 h2 rs es)
          ((dstC n o.dst).run undef tm fun tm => (trD P n sy ops ms r (i + 1)).run e tm h k)⟩

def RdOK (e : Ev) (P : Program) (ms : List Nat) (E : List (Nat × Hp)) (h0 : Hp) (d : Rd) : Prop :=
  readOK e.ef P ms E d.i d.o ⟨frm e d.tm, d.v, h0, true, []⟩ (0, h0) = true ∧ ∀ x ∈ E, readOK e.ef P ms E d.i d.o ⟨frm e d.tm, d.v, h0, true, []⟩ (x.1 + 1, x.2) = true

def TrOK (P : Program) (ops : Array Oper) (ms : List Nat) (l : List Oper) (i : Nat) (e : Ev) (tm : Tm) (h : Hp) (k : Tm → Hp → List Rd → List (Nat × Hp) → Ans) : Prop :=
  ∃ rs tm' h' rds, evTr e.ef P ops ms l i (frm e tm) h = some (rs, frm e tm', h') ∧ (∀ E h0, (∀ d ∈ rds, RdOK e P ms E h0 d) → readsOK e.ef P ms E h0 l rs i = true) ∧ Yes (k tm' h' rds (effsOf ops ms l rs i))

theorem note_ok {P : Program} {ops : Array Oper} {ms : List Nat} {l : List Oper} {i : Nat} {e : Ev} {tm tm1 : Tm} {h h1 : Hp} {v : Value} {o : Oper} {k : Tm → Hp → List Rd → List (Nat × Hp) → Ans} {tm0 : Tm}
    (T : TrOK P ops ms l (i + 1) e tm1 h1 fun tm2 h2 rs es => (noteC o i).run tm0 v h1 rs es fun rs es => k tm2 h2 rs es)
    (hK : effK ops ms o i = isEff o.op) (hev : ∀ rs r, evTr e.ef P ops ms l (i + 1) (frm e tm1) h1 = some (rs, r) → evTr e.ef P ops ms (o :: l) i (frm e tm) h = some (⟨frm e tm0, v, h1, true, []⟩ :: rs, r)) :
    TrOK P ops ms (o :: l) i e tm h k := by
  obtain ⟨rs, tm', h', rds, a1, a2, a3⟩ := T
  have a1' := hev _ _ a1
  unfold noteC at a3
  cases hef : isEff o.op with
  | true =>
    simp only [hef] at a3
    refine ⟨_, tm', h', rds, a1', fun E h0 hE => ?_, ?_⟩
    · simp only [readsOK, hef, Bool.true_and, Bool.not_true, Bool.and_false, a2 E h0 hE]
    · simp only [effsOf, hK, hef, Bool.true_and]
      exact a3
  | false =>
    cases hrd : isRead o.op with
    | true =>
      simp only [hef, hrd] at a3
      refine ⟨_, tm', h', ⟨i, o, tm0, v⟩ :: rds, a1', fun E h0 hE => ?_, ?_⟩
      · have b1 := hE _ (List.mem_cons_self ..)
        have b2 := a2 E h0 fun d hd => hE d (List.mem_cons_of_mem _ hd)
        have b3 : (E.all fun x => readOK e.ef P ms E i o ⟨frm e tm0, v, h1, true, []⟩ (x.1 + 1, x.2)) = true := by
          rw [List.all_eq_true]
          exact fun x hx => b1.2 x hx
        have b4 : readOK e.ef P ms E i o ⟨frm e tm0, v, h1, true, []⟩ (0, h0) = true := b1.1
        simp only [readsOK, hef, hrd, Bool.not_false, Bool.and_true, b2, b3, b4]
      · simp only [effsOf, hK, hef, Bool.and_false]
        exact a3
    | false =>
      simp only [hef, hrd] at a3
      refine ⟨_, tm', h', rds, a1', fun E h0 hE => ?_, ?_⟩
      · simp only [readsOK, hrd, Bool.and_false, Bool.false_and, a2 E h0 hE, Bool.and_true]
      · simp only [effsOf, hK, hef, Bool.and_false]
        exact a3

theorem trD_ok (P : Program) (n : Nat) (sy : List Nat) (ops : Array Oper) (ms : List Nat) : ∀ (l : List Oper) (i : Nat) (e : Ev) (tm : Tm) (h : Hp) (k : Tm → Hp → List Rd → List (Nat × Hp) → Ans), EvOK e → e.F.n = n → Yes ((trD P n sy ops ms l i).run e tm h k) →
    TrOK P ops ms l i e tm h k
  | [], i, e, tm, h, k, _, _, hr => ⟨[], tm, h, [], rfl, fun _ _ _ => rfl, hr⟩
  | o :: r, i, e, tm, h, k, he, hn, hr => by
    simp only [trD] at hr
    split at hr
    · rename_i hk
      obtain ⟨rs, tm', h', rds, h3, h4, h5⟩ := trD_ok P n sy ops ms r (i + 1) e tm h k he hn hr
      refine ⟨⟨frm e tm, undef, h, false, []⟩ :: rs, tm', h', rds, by simp only [evTr, hk, h3], fun E h0 hE => ?_, ?_⟩
      · simp only [readsOK, Bool.false_and, h4 E h0 hE, Bool.and_true]
      · simp only [effsOf, Bool.false_and]
        exact h5
    · rename_i l hk
      have hr2 : Yes (bite (wantedT ops (frm e tm) o) ((brC P n sy l).run e tm tm h fun tm1 h => (opX P sy o).run e tm1 h fun v h1 => (dstC n o.dst).run v tm1 fun tm2 => (trD P n sy ops ms r (i + 1)).run e tm2 h1 fun tm3 h2 rs es => k tm3 h2 rs ((i, h1) :: es))
        ((unC n l).run tm fun tm1 => (dstC n o.dst).run undef tm1 fun tm2 => (trD P n sy ops ms r (i + 1)).run e tm2 h k)) := by
        rw [← guardC_eq]
        exact hr
      rcases bite_ok hr2 with ⟨hw, hr⟩ | ⟨hw, hr⟩
      · obtain ⟨ws, tm1, h1, hb, hp, hr⟩ := brC_ok P n sy l e tm tm h _ he hn hr
        obtain ⟨v, h2, hv, hr⟩ := opX_ok P sy o e (frm e tm1) h1 _ he hr
        simp only [dstT] at hr
        obtain ⟨rs, tm', h', rds, h3, h4, h5⟩ := trD_ok P n sy ops ms r (i + 1) e _ h2 _ he hn hr
        refine ⟨⟨frm e tm1, v, h2, true, ws⟩ :: rs, tm', h', rds, by simp only [evTr, hk, hw, hb, hp, hv, put_frm, hn, h3], fun E h0 hE => ?_, ?_⟩
        · have : (isRead o.op && !isEff o.op) = false := by
            cases h6 : isRead o.op with
            | false => rfl
            | true =>
              cases h7 : isEff o.op with
              | true => rfl
              | false => exact absurd hk (read_norm h6 h7 l)
          simp only [readsOK, Bool.true_and, this, h4 E h0 hE, Bool.and_true]
        · simp only [effsOf, effK_with hk, Bool.and_self]
          exact h5
      · obtain ⟨tm1, hp, hr⟩ := unC_ok n e hn l tm _ hr
        rw [dstT] at hr
        obtain ⟨rs, tm', h', rds, h3, h4, h5⟩ := trD_ok P n sy ops ms r (i + 1) e _ h k he hn hr
        refine ⟨⟨frm e tm, undef, h, false, unds l⟩ :: rs, tm', h', rds, by simp only [evTr, hk, hw, hp, put_frm, hn, h3], fun E h0 hE => ?_, ?_⟩
        · simp only [readsOK, Bool.false_and, h4 E h0 hE, Bool.and_true]
        · simp only [effsOf, Bool.false_and]
          exact h5
    · rename_i hk
      have key1 : wantedT ops (frm e tm) o = true → Yes (((opX P sy o).run e tm h fun v h1 => (dstC n o.dst).run v tm fun tm1 => (trD P n sy ops ms r (i + 1)).run e tm1 h1 fun tm2 h2 rs es => (noteC o i).run tm v h1 rs es fun rs es => k tm2 h2 rs es)) →
          TrOK P ops ms (o :: r) i e tm h k := fun hw hr => by
        obtain ⟨v, h1, h2, hr2⟩ := opX_ok P sy o e (frm e tm) h _ he hr
        simp only [dstT] at hr2
        exact note_ok (trD_ok P n sy ops ms r (i + 1) e _ h1 _ he hn hr2) (effK_norm hk) fun rs q hq => by
          simp only [evTr, hk, hw, h2, put_frm, hn, hq]
      have key2 : wantedT ops (frm e tm) o = false → Yes (((dstC n o.dst).run undef tm fun tm => (trD P n sy ops ms r (i + 1)).run e tm h k)) →
          TrOK P ops ms (o :: r) i e tm h k := fun hw hr => by
        rw [dstT] at hr
        obtain ⟨rs, tm', h', rds, h3, h4, h5⟩ := trD_ok P n sy ops ms r (i + 1) e _ h k he hn hr
        refine ⟨⟨frm e tm, undef, h, false, []⟩ :: rs, tm', h', rds, by simp only [evTr, hk, hw, put_frm, hn, h3], fun E h0 hE => ?_, ?_⟩
        · simp only [readsOK, Bool.false_and, h4 E h0 hE, Bool.and_true]
        · simp only [effsOf, Bool.false_and]
          exact h5
      split at hr
      · rename_i hg
        exact key1 (by simp only [wantedT, hg]) hr
      · rename_i g hg
        rw [← hg] at hr
        have hr2 : Yes (bite (wantedT ops (frm e tm) o) ((opX P sy o).run e tm h fun v h1 => (dstC n o.dst).run v tm fun tm1 => (trD P n sy ops ms r (i + 1)).run e tm1 h1 fun tm2 h2 rs es => (noteC o i).run tm v h1 rs es fun rs es => k tm2 h2 rs es)
          ((dstC n o.dst).run undef tm fun tm => (trD P n sy ops ms r (i + 1)).run e tm h k)) := by
          rw [← guardC_eq]
          exact hr
        rcases bite_ok hr2 with ⟨h1, h2⟩ | ⟨h1, h2⟩
        · exact key1 h1 h2
        · exact key2 h1 h2

def compatB (ms es : List Nat) (i c : Nat) : Bool := es.all fun x => (!anc ms i x || Nat.blt x c) && (!Nat.blt x c || !anc ms x i)

def chainB (ms : List Nat) : List Nat → Bool
  | [] => true
  | e :: r => (r.all fun e' => anc ms e' e) && chainB ms r

theorem chainB_ok (ms : List Nat) : ∀ (l : List (Nat × Hp)), chainB ms (l.map (·.1)) = chainOK ms l
  | [] => rfl
  | e :: r => by simp only [List.map_cons, chainB, chainOK, chainB_ok ms r, List.all_map]; rfl

def chkAt (P : Program) (e : Ev) (ms es : List Nat) (d : Rd) (c : Nat) (h : Hp) (k : Ans) : Ans :=
  Rd.rec (motive := fun _ => Ans) (fun i o tm v => bite (compatB ms es i c) ((opC P o).run e tm h fun w _ => veqS v w k) k) d

theorem chkAt_ok {P : Program} {e : Ev} {ms : List Nat} {E : List (Nat × Hp)} {h0 : Hp} {d : Rd} {c : Nat} {h : Hp} {k : Ans} (he : EvOK e) (hr : Yes (chkAt P e ms (E.map (·.1)) d c h k)) :
    readOK e.ef P ms E d.i d.o ⟨frm e d.tm, d.v, h0, true, []⟩ (c, h) = true ∧ Yes (k) := by
  have hcb : compatB ms (E.map (·.1)) d.i c = E.all fun x => (!anc ms d.i x.1 || Nat.blt x.1 c) && (!Nat.blt x.1 c || !anc ms x.1 d.i) := by
    unfold compatB
    rw [List.all_map]
    rfl
  have hr' : Yes (bite (compatB ms (E.map (·.1)) d.i c) ((opC P d.o).run e d.tm h fun w _ => veqS d.v w k) k) := by
    obtain ⟨i, o, tm, v⟩ := d
    exact hr
  rcases bite_ok hr' with ⟨h1, h2⟩ | ⟨h1, h2⟩
  · obtain ⟨w, h', g1, g2⟩ := opC_ok P d.o e (frm e d.tm) h _ he h2
    obtain ⟨g3, g4⟩ := veqS_ok g2
    rw [hcb] at h1
    exact ⟨by simp only [readOK, h1, g1]; exact g3, g4⟩
  · rw [hcb] at h1
    exact ⟨by simp only [readOK, h1], h2⟩

def chkEffs (P : Program) (e : Ev) (ms es : List Nat) (d : Rd) (E : List (Nat × Hp)) (k : Ans) : Ans :=
  List.rec (motive := fun _ => Ans) k (fun x _ ih => Prod.rec (motive := fun _ => Ans) (fun i h => chkAt P e ms es d (i + 1) h ih) x) E

theorem chkEffs_ok {P : Program} {e : Ev} {ms : List Nat} {E : List (Nat × Hp)} {h0 : Hp} {d : Rd} {k : Ans} (he : EvOK e) : ∀ (E' : List (Nat × Hp)), Yes (chkEffs P e ms (E.map (·.1)) d E' k) →
    (∀ x ∈ E', readOK e.ef P ms E d.i d.o ⟨frm e d.tm, d.v, h0, true, []⟩ (x.1 + 1, x.2) = true) ∧ Yes (k)
  | [], hr => ⟨by simp, hr⟩
  | x :: r, hr => by
    have hr' : Yes (chkAt P e ms (E.map (·.1)) d (x.1 + 1) x.2 (chkEffs P e ms (E.map (·.1)) d r k)) := by
      obtain ⟨i, h⟩ := x
      exact hr
    obtain ⟨h1, h2⟩ := chkAt_ok (h0 := h0) he hr'
    obtain ⟨h3, h4⟩ := chkEffs_ok he r h2
    refine ⟨fun y hy => ?_, h4⟩
    rcases List.mem_cons.1 hy with rfl | hy
    · exact h1
    · exact h3 y hy

def chkAll (P : Program) (e : Ev) (ms es : List Nat) (h0 : Hp) (E : List (Nat × Hp)) (rds : List Rd) (k : Ans) : Ans :=
  List.rec (motive := fun _ => Ans) k (fun d _ ih => chkAt P e ms es d 0 h0 (chkEffs P e ms es d E ih)) rds

theorem chkAll_ok {P : Program} {e : Ev} {ms : List Nat} {E : List (Nat × Hp)} {h0 : Hp} {k : Ans} (he : EvOK e) : ∀ (rds : List Rd), Yes (chkAll P e ms (E.map (·.1)) h0 E rds k) → (∀ d ∈ rds, RdOK e P ms E h0 d) ∧ Yes k
  | [], hr => ⟨by simp, hr⟩
  | d :: r, hr => by
    have hr' : Yes (chkAt P e ms (E.map (·.1)) d 0 h0 (chkEffs P e ms (E.map (·.1)) d E (chkAll P e ms (E.map (·.1)) h0 E r k))) := hr
    obtain ⟨h1, h2⟩ := chkAt_ok (h0 := h0) he hr'
    obtain ⟨h3, h4⟩ := chkEffs_ok (h0 := h0) he E h2
    obtain ⟨h5, h6⟩ := chkAll_ok he r h4
    refine ⟨fun y hy => ?_, h6⟩
    rcases List.mem_cons.1 hy with rfl | hy
    · exact ⟨h1, h3⟩
    · exact h5 y hy

/-- The places of the effects. -/
def idxK (E : List (Nat × Hp)) (k : List Nat → Ans) : Ans :=
  List.rec (motive := fun _ => (List Nat → Ans) → Ans) (fun k => k []) (fun x _ ih k => Prod.rec (motive := fun _ => Ans) (fun i _ => ih fun l => k (i :: l)) x) E k

theorem idxK_eq : ∀ (E : List (Nat × Hp)) (k : List Nat → Ans), idxK E k = k (E.map (·.1))
  | [], _k => rfl
  | x :: r, k => idxK_eq r fun l => k (x.1 :: l)

def dynDraw (P : Program) (n : Nat) (sy : List Nat) (ops : Array Oper) (ms : List Nat) : RegC :=
  let c := trD P n sy ops ms ops.toList 0
  ⟨fun e tm h k => c.run e tm h fun tm' h' rds E => idxK E fun es => bite (chainB ms es) (chkAll P e ms es h E rds (k e tm' h')) .no⟩

def drawC (P : Program) (n : Nat) (sy : List Nat) (ops : Array Oper) : RegC :=
  match P.follows .mixedOrders, masks ops.toList [] with
  | true, some ms => match tempsOK ops ms, staticOK ops ms with
    | true, true => trC P n sy ops ms ops.toList 0
    | true, false => dynDraw P n sy ops ms
    | _, _ => slowDraw P ops
  | _, _ => slowDraw P ops

theorem slowDraw_ok (P : Program) (ops : Array Oper) (e : Ev) (tm : Tm) (h : Hp) (k : KE) (hr : Yes ((slowDraw P ops).run e tm h k)) :
    ∃ e' tm' h', drawRun e.ef P ops (frm e tm) h = some (frm e' tm', h') ∧ e'.cf = e.cf ∧ e'.ef = e.ef ∧ e'.F.n = e.F.n ∧ Yes (k e' tm' h') := by
  unfold slowDraw at hr
  simp only [] at hr
  cases hd : drawRun e.ef P ops (frm e tm) h with
  | none => rw [hd] at hr; cases hr
  | some p =>
    rw [hd] at hr
    obtain ⟨⟨a, n, tm', ds, r⟩, ⟨o, m⟩⟩ := p
    have hr' : Yes (bite (Nat.beq n e.F.n) (forceN m fun m => k ⟨e.cf, e.ef, ⟨a, n, tm', ds, r⟩⟩ tm' ⟨o, m⟩) .no) := hr
    rcases bite_ok hr' with ⟨h1, h2⟩ | ⟨_, h2⟩
    · rw [forceN_eq] at h2
      exact ⟨⟨e.cf, e.ef, ⟨a, n, tm', ds, r⟩⟩, tm', ⟨o, m⟩, rfl, rfl, rfl, Nat.eq_of_beq_eq_true h1, h2⟩
    · cases h2

theorem drawC_ok (P : Program) (n : Nat) (sy : List Nat) (ops : Array Oper) (e : Ev) (tm : Tm) (h : Hp) (k : KE) (he : EvOK e) (hn : e.F.n = n) (hr : Yes ((drawC P n sy ops).run e tm h k)) :
    ∃ e' tm' h', drawRun e.ef P ops (frm e tm) h = some (frm e' tm', h') ∧ e'.cf = e.cf ∧ e'.ef = e.ef ∧ e'.F.n = e.F.n ∧ Yes (k e' tm' h') := by
  unfold drawC at hr
  split at hr
  · rename_i ms h1 h2
    split at hr
    · rename_i h3 h4
      obtain ⟨rs, tm', h', h5, h6⟩ := trC_ok P n sy ops ms _ _ _ _ _ _ he hn hr
      exact ⟨e, tm', h', by simp only [drawRun, h1, h2, h3, h5, h4], rfl, rfl, rfl, h6⟩
    · rename_i h3 h4
      obtain ⟨rs, tm', h', rds, h5, h6, h7⟩ := trD_ok P n sy ops ms ops.toList 0 e tm h _ he hn hr
      simp only [idxK_eq] at h7
      rcases bite_ok h7 with ⟨g1, g2⟩ | ⟨_, g2⟩
      · obtain ⟨g3, g4⟩ := chkAll_ok he _ g2
        rw [chainB_ok] at g1
        have g5 := h6 _ h g3
        refine ⟨e, tm', h', ?_, rfl, rfl, rfl, g4⟩
        simp only [drawRun, h1, h2, h3, h5, h4]
        cases hE : effsOf ops ms ops.toList rs 0 with
        | nil => rfl
        | cons x q =>
          rw [hE] at g1 g5
          simp only [g1, g5, Bool.and_self]
      · cases g2
    · exact slowDraw_ok P ops e tm h k hr
  · exact slowDraw_ok P ops e tm h k hr

structure CodeC where
  run : Ev → Tm → Hp → KE → (Ex → KE) → Ans

def slowCode (P : Program) (lf : Nat) (c : Code) : CodeC :=
  ⟨fun e tm h k x => Option.rec (motive := fun _ => Ans) .no
    (fun p => Prod.rec (motive := fun _ => Ans) (fun ex p => Prod.rec (motive := fun _ => Ans) (fun F h => Fm.rec (motive := fun _ => Ans) (fun a n tm ds r => bite (Nat.beq n e.F.n) (Hp.rec (motive := fun _ => Ans) (fun o m => forceN m fun m =>
      Ex.rec (motive := fun _ => Ans) (k ⟨e.cf, e.ef, ⟨a, n, tm, ds, r⟩⟩ tm ⟨o, m⟩) (fun i => x (.exit i) ⟨e.cf, e.ef, ⟨a, n, tm, ds, r⟩⟩ tm ⟨o, m⟩) (x .ret ⟨e.cf, e.ef, ⟨a, n, tm, ds, r⟩⟩ tm ⟨o, m⟩) ex) h) .no) F) p) p)
    (evC e.ef P lf c (frm e tm) h)⟩

def loopK (b : CodeC) (lf : Nat) (x : Ex → KE) : KE :=
  Nat.rec (motive := fun _ => KE) (fun _ _ _ => .no) (fun _ ih e tm h => b.run e tm h ih x) lf

/-- A loop's object. -/
def loopObjK (o : AObj) (k : LoopState → Option Code → Fm → Array Tmp → Code → Code → Nat → Ans) : Ans :=
  AObj.rec (motive := fun _ => Ans) (fun _ _ _ => .no) (fun _ _ _ => .no) (fun _ _ => .no) (fun _ _ => .no) (fun _ _ => .no) (fun _ _ _ _ => .no) k (fun _ => .no) o

theorem loopObjK_ok {o : AObj} {k : LoopState → Option Code → Fm → Array Tmp → Code → Code → Nat → Ans} (h : Yes (loopObjK o k)) :
    ∃ st pd fm ps a b d, o = .loop st pd fm ps a b d ∧ Yes (k st pd fm ps a b d) := by
  cases o <;> first | exact ⟨_, _, _, _, _, _, _, rfl, h⟩ | cases h

def endPK (pd : Option Code) (k : Ans) (x : Ex → Ans) : Ans :=
  match pd with
  | none => k
  | some .ret => x .ret
  | some (.exit id) => x (.exit id)
  | _ => .no

def finB (k : Ans) (x : Ex → Ans) : Ex → Ans
  | .normal => k
  | ex => x ex

theorem endPK_ok {pd : Option Code} {k : Ans} {x : Ex → Ans} (h : Yes (endPK pd k x)) : ∃ ex, endPending pd = some ex ∧ Yes (finB k x ex) := by
  unfold endPK at h
  split at h
  · exact ⟨.normal, rfl, h⟩
  · exact ⟨.ret, rfl, h⟩
  · exact ⟨.exit _, rfl, h⟩
  · cases h

def notBusy (st : LoopState) (k : Ans) : Ans := LoopState.rec (motive := fun _ => Ans) k .no k k st

theorem notBusy_ok {st : LoopState} {k : Ans} (h : Yes (notBusy st k)) : st ≠ .busy ∧ Yes (k) := by
  cases st <;> first | exact ⟨by simp, h⟩ | cases h

def isReady (st : LoopState) (k : Ans) : Ans := LoopState.rec (motive := fun _ => Ans) k .no .no .no st

theorem isReady_ok {st : LoopState} {k : Ans} (h : Yes (isReady st k)) : st = .ready ∧ Yes (k) := by
  cases st <;> first | exact ⟨rfl, h⟩ | cases h

/-- The loop over a function, once what defers it is known. -/
def rangeGo (f : Operand) (ps : Array Tmp) (as body : Code) (e : Ev) (tm : Tm) (d : Nat) (h1 : Hp) (ds : List Deferred) (k : KE) (x : Ex → KE) : Ans :=
  Hp.rec (motive := fun _ => Ans) (fun a l => newK (.loop .ready none (frm e tm) ps as body d) ⟨a, l⟩ fun _ h2 =>
    (opdC f).run tm fun v => tgtK (target v [.func (.yield l) #[] #[]]) fun i => Inv.rec (motive := fun _ => Ans) (fun g args =>
      e.cf (.fn g args) h2 fun _ h3 => getK h3 l fun o => loopObjK o fun st pd fm ps as body d => notBusy st (putK h3 l (.loop .exhausted pd fm ps as body d) fun h4 =>
        endPK pd (k ⟨e.cf, e.ef, ⟨e.F.fn, e.F.n, e.F.tm, ds, e.F.round⟩⟩ tm h4) (fun ex => x ex ⟨e.cf, e.ef, ⟨e.F.fn, e.F.n, e.F.tm, ds, e.F.round⟩⟩ tm h4))) (fun _ _ => .no) i) h1

def rangeC (P : Program) (f : Operand) (ps : Array Tmp) (as body : Code) : CodeC :=
  match okOpd P f with
  | false => ⟨fun _ _ _ _ _ => .no⟩
  | true => ⟨fun e tm h k x => Option.rec (motive := fun _ => Ans)
      (Hp.rec (motive := fun _ => Ans) (fun a m => newK (.defd false) ⟨a, m⟩ fun _ h1 => rangeGo f ps as body e tm m h1 ({ target := .collected m, args := #[] } :: e.F.defers) k x) h)
      (fun l => getK h l fun o => loopObjK o fun _ _ _ _ _ _ d => rangeGo f ps as body e tm d h e.F.defers k x) e.F.round⟩

def codeC (P : Program) (lf n : Nat) (sy : List Nat) : Code → CodeC
  | .skip => ⟨fun e tm h k _ => k e tm h⟩
  | .label _ => ⟨fun e tm h k _ => k e tm h⟩
  | .region _ ops false => ⟨fun e tm h k _ => (opsC P n sy ops ops.toList).run e tm h k⟩
  | .region _ ops true => ⟨fun e tm h k _ => (drawC P n sy ops).run e tm h k⟩
  | .seq a b => ⟨fun e tm h k x => (codeC P lf n sy a).run e tm h (fun e tm h => (codeC P lf n sy b).run e tm h k x) x⟩
  | .cond c a b => match okOpd P c with
    | true => ⟨fun e tm h k x => (opdC c).run tm fun v => boolK v .no fun t => bite t ((codeC P lf n sy a).run e tm h k x) ((codeC P lf n sy b).run e tm h k x)⟩
    | false => ⟨fun _ _ _ _ _ => .no⟩
  | .block id b => ⟨fun e tm h k x => (codeC P lf n sy b).run e tm h k fun ex e tm h => Ex.rec (motive := fun _ => Ans) .no (fun i => bite (Nat.beq i id) (k e tm h) (x (.exit i) e tm h)) (x .ret e tm h) ex⟩
  | .loop b => ⟨fun e tm h _ x => loopK (codeC P lf n sy b) lf x e tm h⟩
  | .exit id => ⟨fun e tm h _ x => x (.exit id) e tm h⟩
  | .ret => ⟨fun e tm h _ x => x .ret e tm h⟩
  | .scope b => codeC P lf n sy b
  | .rangeFunc f ps a b => rangeC P f ps a b
  | c => slowCode P lf c

def fin (k : KE) (x : Ex → KE) : Ex → KE
  | .normal => k
  | ex => x ex

def CodeSays (P : Program) (lf n : Nat) (c : Code) (cc : CodeC) : Prop := ∀ (e : Ev) (tm : Tm) (h : Hp) (k : KE) (x : Ex → KE), EvOK e → e.F.n = n → Yes (cc.run e tm h k x) →
  ∃ ex e' tm' h', evC e.ef P lf c (frm e tm) h = some (ex, frm e' tm', h') ∧ e'.cf = e.cf ∧ e'.ef = e.ef ∧ e'.F.n = e.F.n ∧ Yes (fin k x ex e' tm' h')

theorem slowCode_ok (P : Program) (lf n : Nat) (c : Code) : CodeSays P lf n c (slowCode P lf c) := by
  intro e tm h k x he hn hr
  unfold slowCode at hr
  simp only [] at hr
  cases hd : evC e.ef P lf c (frm e tm) h with
  | none => rw [hd] at hr; cases hr
  | some p =>
    rw [hd] at hr
    obtain ⟨ex, ⟨a, n', tm', ds, r⟩, ⟨o, m⟩⟩ := p
    have hr' : Yes (bite (Nat.beq n' e.F.n) (forceN m fun m => Ex.rec (motive := fun _ => Ans) (k ⟨e.cf, e.ef, ⟨a, n', tm', ds, r⟩⟩ tm' ⟨o, m⟩) (fun i => x (.exit i) ⟨e.cf, e.ef, ⟨a, n', tm', ds, r⟩⟩ tm' ⟨o, m⟩) (x .ret ⟨e.cf, e.ef, ⟨a, n', tm', ds, r⟩⟩ tm' ⟨o, m⟩) ex) .no) := hr
    rcases bite_ok hr' with ⟨h1, h2⟩ | ⟨_, h2⟩
    · rw [forceN_eq] at h2
      exact ⟨ex, ⟨e.cf, e.ef, ⟨a, n', tm', ds, r⟩⟩, tm', ⟨o, m⟩, rfl, rfl, rfl, Nat.eq_of_beq_eq_true h1, by cases ex <;> exact h2⟩
    · cases h2

theorem loopK_ok {P : Program} {lf n : Nat} {b : Code} {cc : CodeC} (hc : CodeSays P lf n b cc) (x : Ex → KE) : ∀ (m : Nat) (e : Ev) (tm : Tm) (h : Hp), EvOK e → e.F.n = n → Yes (loopK cc m x e tm h) →
    ∃ ex e' tm' h', loopN (evC e.ef P lf b) m (frm e tm) h = some (ex, frm e' tm', h') ∧ e'.cf = e.cf ∧ e'.ef = e.ef ∧ e'.F.n = e.F.n ∧ ex ≠ .normal ∧ Yes (x ex e' tm' h')
  | 0, e, tm, h, he, hn, hr => by cases hr
  | m + 1, e, tm, h, he, hn, hr => by
    have hr' : Yes (cc.run e tm h (loopK cc m x) x) := hr
    obtain ⟨ex, e', tm', h', h1, h2, h3, h4, h5⟩ := hc e tm h _ x he hn hr'
    cases ex with
    | normal =>
      obtain ⟨ex, e2, tm2, h2', g1, g2, g3, g4, g5, g6⟩ := loopK_ok hc x m e' tm' h' (he.of h2 h3) (by rw [h4, hn]) h5
      exact ⟨ex, e2, tm2, h2', by simp only [loopN, h1]; rw [← h3]; exact g1, by rw [g2, h2], by rw [g3, h3], by rw [g4, h4], g5, g6⟩
    | exit i => exact ⟨.exit i, e', tm', h', by simp only [loopN, h1], h2, h3, h4, by simp, h5⟩
    | ret => exact ⟨.ret, e', tm', h', by simp only [loopN, h1], h2, h3, h4, by simp, h5⟩

theorem rangeGo_ok {P : Program} {lf : Nat} {f : Operand} {ps : Array Tmp} {as body : Code} {e : Ev} {tm : Tm} {h : Hp} {k : KE} {x : Ex → KE} (he : EvOK e) (hf : okOpd P f = true)
    {d : Nat} {h1 : Hp} {mark : List Deferred} {ds : List Deferred} (hds : mark ++ e.F.defers = ds)
    (hm : ((frm e tm).round = none ∧ d = h.next ∧ h1 = h.new (.defd false) ∧ mark = [{ target := .collected h.next, args := #[] }]) ∨
      (∃ l st pd fm ps' as' body', (frm e tm).round = some l ∧ h.get l = some (.loop st pd fm ps' as' body' d) ∧ h1 = h ∧ mark = []))
    (hr : Yes (rangeGo f ps as body e tm d h1 ds k x)) :
    ∃ ex e' tm' h', evC e.ef P lf (.rangeFunc f ps as body) (frm e tm) h = some (ex, frm e' tm', h') ∧ e'.cf = e.cf ∧ e'.ef = e.ef ∧ e'.F.n = e.F.n ∧ Yes (fin k x ex e' tm' h') := by
  have hr1 : Yes ((newK (.loop .ready none (frm e tm) ps as body d) h1 fun _ h2 =>
    (opdC f).run (frm e tm).tm fun v => tgtK (target v [.func (.yield h1.next) #[] #[]]) fun i => Inv.rec (motive := fun _ => Ans) (fun g args =>
      e.cf (.fn g args) h2 fun _ h3 => getK h3 h1.next fun o => loopObjK o fun st pd fm ps as body d => notBusy st (putK h3 h1.next (.loop .exhausted pd fm ps as body d) fun h4 =>
        endPK pd (k ⟨e.cf, e.ef, ⟨e.F.fn, e.F.n, e.F.tm, ds, e.F.round⟩⟩ tm h4) (fun ex => x ex ⟨e.cf, e.ef, ⟨e.F.fn, e.F.n, e.F.tm, ds, e.F.round⟩⟩ tm h4))) (fun _ _ => .no) i)) := by
    obtain ⟨a, l⟩ := h1
    exact hr
  rw [newK_eq, opdC_eq] at hr1
  obtain ⟨i, g1, hr2⟩ := tgtK_ok hr1
  cases i with
  | yield _ _ => cases hr2
  | fn g args =>
    obtain ⟨v, h3, g2, hr3⟩ := he _ _ _ hr2
    obtain ⟨o, g3, hr4⟩ := getK_ok hr3
    obtain ⟨st, pd, fm, ps', as', body', d', rfl, hr5⟩ := loopObjK_ok hr4
    obtain ⟨g4, hr6⟩ := notBusy_ok hr5
    rw [putK_eq] at hr6
    obtain ⟨ex, g5, hr7⟩ := endPK_ok hr6
    refine ⟨ex, ⟨e.cf, e.ef, ⟨e.F.fn, e.F.n, e.F.tm, ds, e.F.round⟩⟩, tm, _, ?_, rfl, rfl, rfl, by cases ex <;> exact hr7⟩
    have hlast : ({ frm e tm with defers := mark ++ (frm e tm).defers } : Fm) = frm ⟨e.cf, e.ef, ⟨e.F.fn, e.F.n, e.F.tm, ds, e.F.round⟩⟩ tm := by
      subst hds
      rfl
    rcases hm with ⟨m1, rfl, rfl, rfl⟩ | ⟨l0, st0, pd0, fm0, ps0, as0, body0, m1, m2, rfl, rfl⟩
    · simp only [evC, hf, m1, g1, g2, g3, g5]
      cases st <;> first | exact absurd rfl g4 | (rw [← hlast]; simp only [m1])
    · simp only [evC, hf, m1, m2, g1, g2, g3, g5]
      cases st <;> first | exact absurd rfl g4 | (rw [← hlast]; simp only [m1])

theorem rangeC_ok (P : Program) (lf n : Nat) (f : Operand) (ps : Array Tmp) (as body : Code) : CodeSays P lf n (.rangeFunc f ps as body) (rangeC P f ps as body) := by
  intro e tm h k x he hn hr
  unfold rangeC at hr
  split at hr
  · cases hr
  · rename_i hf
    simp only [] at hr
    have hrd : (frm e tm).round = e.F.round := rfl
    cases hround : e.F.round with
    | none =>
      rw [hround] at hr
      obtain ⟨a, m⟩ := h
      have hr1 : Yes ((newK (.defd false) ⟨a, m⟩ fun _ h1 => rangeGo f ps as body e tm m h1 ({ target := .collected m, args := #[] } :: e.F.defers) k x)) := hr
      rw [newK_eq] at hr1
      exact rangeGo_ok he hf (mark := [{ target := .collected m, args := #[] }]) rfl (.inl ⟨by rw [hrd, hround], rfl, rfl, rfl⟩) hr1
    | some l =>
      rw [hround] at hr
      have hr1 : Yes ((getK h l fun o => loopObjK o fun _ _ _ _ _ _ d => rangeGo f ps as body e tm d h e.F.defers k x)) := hr
      obtain ⟨o, g3, hr4⟩ := getK_ok hr1
      obtain ⟨st, pd, fm, ps', as', body', d', rfl, hr5⟩ := loopObjK_ok hr4
      exact rangeGo_ok he hf (mark := []) rfl (.inr ⟨l, _, _, _, _, _, _, by rw [hrd, hround], g3, rfl, rfl⟩) hr5

theorem codeC_ok (P : Program) (lf n : Nat) (sy : List Nat) : ∀ (c : Code), CodeSays P lf n c (codeC P lf n sy c)
  | .skip => fun e tm h k x he hn hr => ⟨.normal, e, tm, h, rfl, rfl, rfl, rfl, hr⟩
  | .label _ => fun e tm h k x he hn hr => ⟨.normal, e, tm, h, rfl, rfl, rfl, rfl, hr⟩
  | .region _ ops false => fun e tm h k x he hn hr => by
    obtain ⟨e', tm', h', h1, h2, h3, h4, h5⟩ := opsC_ok P n sy ops _ e tm h k he hn hr
    exact ⟨.normal, e', tm', h', by simp only [evC, h1], h2, h3, h4, h5⟩
  | .region _ ops true => fun e tm h k x he hn hr => by
    obtain ⟨e', tm', h', h1, h2, h3, h4, h5⟩ := drawC_ok P n sy ops e tm h k he hn hr
    exact ⟨.normal, e', tm', h', by simp only [evC, drawAny_of h1], h2, h3, h4, h5⟩
  | .seq a b => fun e tm h k x he hn hr => by
    obtain ⟨ex, e', tm', h', h1, h2, h3, h4, h5⟩ := codeC_ok P lf n sy a e tm h _ x he hn hr
    cases ex with
    | normal =>
      obtain ⟨ex, e2, tm2, h2', g1, g2, g3, g4, g5⟩ := codeC_ok P lf n sy b e' tm' h' k x (he.of h2 h3) (by rw [h4, hn]) h5
      exact ⟨ex, e2, tm2, h2', by simp only [evC, h1]; rw [← h3]; exact g1, by rw [g2, h2], by rw [g3, h3], by rw [g4, h4], g5⟩
    | exit i => exact ⟨.exit i, e', tm', h', by simp only [evC, h1], h2, h3, h4, h5⟩
    | ret => exact ⟨.ret, e', tm', h', by simp only [evC, h1], h2, h3, h4, h5⟩
  | .cond c a b => fun e tm h k x he hn hr => by
    simp only [codeC] at hr
    split at hr
    · rename_i hok
      have hr2 : Yes (boolK ((frm e tm).eval c) .no (fun t => bite t ((codeC P lf n sy a).run e tm h k x) ((codeC P lf n sy b).run e tm h k x))) := by
        rw [← opdC_eq c (frm e tm) (fun v => boolK v .no fun t => bite t ((codeC P lf n sy a).run e tm h k x) ((codeC P lf n sy b).run e tm h k x))]
        exact hr
      rcases boolK_ok hr2 with ⟨t, h1, hr3⟩ | hr3
      · cases t with
        | true =>
          obtain ⟨ex, e', tm', h', g1, g2⟩ := codeC_ok P lf n sy a e tm h k x he hn hr3
          exact ⟨ex, e', tm', h', by simp only [evC, hok, h1]; exact g1, g2⟩
        | false =>
          obtain ⟨ex, e', tm', h', g1, g2⟩ := codeC_ok P lf n sy b e tm h k x he hn hr3
          exact ⟨ex, e', tm', h', by simp only [evC, hok, h1]; exact g1, g2⟩
      · cases hr3
    · cases hr
  | .block id b => fun e tm h k x he hn hr => by
    obtain ⟨ex, e', tm', h', h1, h2, h3, h4, h5⟩ := codeC_ok P lf n sy b e tm h _ _ he hn hr
    cases ex with
    | normal => exact ⟨.normal, e', tm', h', by simp only [evC, h1], h2, h3, h4, h5⟩
    | ret => exact ⟨.ret, e', tm', h', by simp only [evC, h1], h2, h3, h4, h5⟩
    | exit i =>
      have h6 : Yes (bite (Nat.beq i id) (k e' tm' h') (x (.exit i) e' tm' h')) := h5
      rcases bite_ok h6 with ⟨g1, g2⟩ | ⟨g1, g2⟩
      · exact ⟨.normal, e', tm', h', by simp only [evC, h1, g1], h2, h3, h4, g2⟩
      · exact ⟨.exit i, e', tm', h', by simp only [evC, h1, g1], h2, h3, h4, g2⟩
  | .loop b => fun e tm h k x he hn hr => by
    obtain ⟨ex, e', tm', h', h1, h2, h3, h4, h5, h6⟩ := loopK_ok (codeC_ok P lf n sy b) x lf e tm h he hn hr
    exact ⟨ex, e', tm', h', by simp only [evC, h1], h2, h3, h4, by cases ex <;> first | exact absurd rfl h5 | exact h6⟩
  | .exit id => fun e tm h k x he hn hr => ⟨.exit id, e, tm, h, rfl, rfl, rfl, rfl, hr⟩
  | .ret => fun e tm h k x he hn hr => ⟨.ret, e, tm, h, rfl, rfl, rfl, rfl, hr⟩
  | .scope b => fun e tm h k x he hn hr => by
    obtain ⟨ex, e', tm', h', h1, h2⟩ := codeC_ok P lf n sy b e tm h k x he hn hr
    exact ⟨ex, e', tm', h', by simp only [evC, h1], h2⟩
  | .rangeFunc f ps a b => rangeC_ok P lf n f ps a b
  | .goto l => slowCode_ok P lf n _
  | .refuse w => slowCode_ok P lf n _

end
end Go.Eng
