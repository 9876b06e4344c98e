/- A run with open places: what the code asks, one thing after the other; its meaning; that it is so. -/
import Derived.Test.YtkfbfgcflnkllaaGreatDoorEngR
namespace Go.Eng

/-- A frame: what each slot holds. -/
abbrev Fr := Nat → Value

/-- What must hold for a region to come to one end: the run of an operation and what it comes to. -/
structure OB where
  r : Option (Value × Hp)
  v : Value
  h : Hp

def AllOB : List OB → Prop
  | [] => True
  | x :: l => x.r = some (x.v, x.h) ∧ AllOB l

theorem AllOB.mem : ∀ {l : List OB}, AllOB l → ∀ x ∈ l, x.r = some (x.v, x.h)
  | [], _, x, hx => by cases hx
  | y :: l, h, x, hx => by
    rcases List.mem_cons.1 hx with rfl | hx
    · exact h.1
    · exact AllOB.mem h.2 x hx

/-- The slot that holds the marks of the ranges; no code writes it. -/
def slotD : Nat := 1000000007

/-- The marks that stand in a value. -/
def dsOf : Value → List Nat
  | .agg a => a.toList.map fun v => match v with
    | .int _ i => i.toNat
    | _ => 0
  | _ => []

/-- One more mark. -/
def consD (d : Nat) (v : Value) : Value := .agg (.int .u64 d :: (dsOf v).map fun (n : Nat) => Value.int .u64 n).toArray

theorem dsOf_cons (d : Nat) (v : Value) : dsOf (consD d v) = d :: dsOf v := by
  unfold consD
  generalize dsOf v = l
  simp only [dsOf, List.map_cons, List.map_map]
  have h1 : ((d : Int)).toNat = d := Int.toNat_natCast d
  have h2 : ∀ l : List Nat, l.map ((fun v => match v with | .int _ i => i.toNat | _ => 0) ∘ fun (n : Nat) => Value.int .u64 n) = l := fun l => by
    induction l with
    | nil => rfl
    | cons a l ih => rw [List.map_cons, ih]; exact congrArg (· :: l) (Int.toNat_natCast a)
  rw [h1]
  exact congrArg (d :: ·) (h2 l)

def markOf (d : Nat) : Deferred := { target := .collected d, args := #[] }

/-- Where code stands: in the round of a range, or not; whether its function has ranges. -/
structure Cx where
  rd : Option Nat
  rg : Bool

/-- What is put off there. -/
def dfr (κ : Cx) (f : Fr) : List Deferred :=
  match κ.rd, κ.rg with
  | none, true => (dsOf (f slotD)).map markOf
  | _, _ => []

/-- The frame and the evaluator's. -/
structure Rel (κ : Cx) (n : Nat) (F : Fm) (f : Fr) : Prop where
  le : n ≤ slotD
  n : F.n = n
  round : F.round = κ.rd
  defers : F.defers = dfr κ f
  top : F.tm.get slotD = none
  nob : ∀ b, f slotD ≠ .bool b
  val : ∀ t, t ≠ slotD → (F.tm.get t).getD undef = f t

inductive SA where
  | bad
  | done (v : Value) (h : Hp)
  | test (b : Bool) (y n : SA)
  | ask (r : Option (Value × Hp)) (k : Value → Hp → SA)
  | cut (n : Nat) (fam : Nat → Fr → Hp → SA) (f : Fr) (h : Hp)
  | back (L : Fr → Hp → SA) (f : Fr) (h : Hp)
  | need (obs : List Nat → Option (List OB)) (k : SA)
  | rng (κ : Cx) (n : Nat) (f : Fr) (R : Fm → Option (Ex × Hp)) (k : Ex → Hp → SA)
  | any (G : Prop) (S : Value → Hp → Prop) (k : Value → Hp → SA)

def Ok (Q : Value → Hp → Prop) : SA → Prop
  | .bad => False
  | .done v h => Q v h
  | .test b y n => (b = true → Ok Q y) ∧ (b = false → Ok Q n)
  | .ask r k => ∃ v h', r = some (v, h') ∧ Ok Q (k v h')
  | .cut n fam f h => Ok Q (fam n f h)
  | .back L f h => Ok Q (L f h)
  | .need obs k => (∃ Z l, obs Z = some l ∧ AllOB l) ∧ Ok Q k
  | .rng κ n f R k => ∀ F, Rel κ n F f → ∃ ex h', R F = some (ex, h') ∧ Ok Q (k ex h')
  | .any G S k => G ∧ ∀ v h', S v h' → Ok Q (k v h')

noncomputable section

def upd (f : Fr) (t : Nat) (v : Value) : Fr := fun i => Bool.rec (motive := fun _ => Value) (f i) v (Nat.beq i t)

theorem upd_eq (f : Fr) (t : Nat) (v : Value) (i : Nat) : upd f t v i = if i = t then v else f i := by
  unfold upd
  cases h : Nat.beq i t with
  | true => rw [if_pos (Nat.eq_of_beq_eq_true h)]
  | false => rw [if_neg (fun hh => by rw [hh] at h; simp at h)]

/-- What a slot holds, for the code. -/
def slot (f : Fr) (t : Nat) : Value := Bool.rec (motive := fun _ => Value) (f t) undef (Nat.beq t slotD)

theorem slot_ne {f : Fr} {t : Nat} (h : t ≠ slotD) : slot f t = f t := by
  unfold slot
  cases hb : Nat.beq t slotD with
  | true => exact absurd (Nat.eq_of_beq_eq_true hb) h
  | false => rfl

theorem slot_d {f : Fr} : slot f slotD = undef := rfl

theorem Rel.slot {κ : Cx} {n : Nat} {F : Fm} {f : Fr} (h : Rel κ n F f) (t : Nat) : (F.tm.get t).getD undef = slot f t := by
  by_cases ht : t = slotD
  · subst ht
    rw [h.top, slot_d]
    rfl
  · rw [slot_ne ht]
    exact h.val t ht

/-- What an operand holds. -/
def oev (f : Fr) : Operand → Value
  | .tmp t => slot f t
  | .const v => v
  | .global g => .pointer (some ⟨g, 0, none⟩)
  | .func g => .func (.func g) #[] #[]

theorem Rel.oev {κ : Cx} {n : Nat} {F : Fm} {f : Fr} (h : Rel κ n F f) (x : Operand) : F.eval x = oev f x := by
  cases x with
  | tmp t => exact h.slot t
  | _ => rfl

def putS (n : Nat) (d : Option Tmp) (v : Value) (f : Fr) : Fr :=
  match d with
  | some d => match Nat.blt d n with
    | true => upd f d v
    | false => f
  | none => f

theorem Rel.put {κ : Cx} {n : Nat} {F : Fm} {f : Fr} (h : Rel κ n F f) (d : Option Tmp) (v : Value) : Rel κ n (F.put d v) (putS n d v f) := by
  cases d with
  | none => exact h
  | some d =>
    obtain ⟨fn, m, tm, ds, rd⟩ := F
    have hn : m = n := h.n
    subst hn
    unfold Fm.put putS
    simp only
    cases hb : Nat.blt d m with
    | false => exact h
    | true =>
      have hlt : d < m := Nat.le_of_ble_eq_true hb
      have hd : d ≠ slotD := Nat.ne_of_lt (Nat.lt_of_lt_of_le hlt h.le)
      have hu : upd f d v slotD = f slotD := by rw [upd_eq, if_neg (fun e => hd e.symm)]
      refine ⟨h.le, rfl, h.round, ?_, ?_, ?_, fun t ht => ?_⟩
      · have := h.defers
        unfold dfr at this ⊢
        show ds = match κ.rd, κ.rg with
          | none, true => (dsOf (upd f d v slotD)).map markOf
          | _, _ => []
        rw [hu]
        exact this
      · rw [Tr.get_set, if_neg (fun e => hd e.symm)]
        exact h.top
      · show ∀ b, upd f d v slotD ≠ .bool b
        rw [hu]
        exact h.nob
      · simp only [Tr.get_set, upd_eq]
        split
        · rfl
        · exact h.val t ht

/-- A small frame with what an operation looks at. -/
def smallTm (f : Fr) : List Operand → Tr Value
  | [] => .nil
  | .tmp t :: r => (smallTm f r).set t (some (slot f t))
  | _ :: r => smallTm f r

theorem smallTm_get (f : Fr) : ∀ (l : List Operand) (t : Nat), Operand.tmp t ∈ l → ((smallTm f l).get t) = some (slot f t)
  | [], t, h => by cases h
  | .tmp u :: r, t, h => by
    simp only [smallTm, Tr.get_set]
    split
    · rename_i e; subst e; rfl
    · rename_i hne
      rcases List.mem_cons.1 h with h | h
      · cases h; exact absurd rfl hne
      · exact smallTm_get f r t h
  | .const _ :: r, t, h => by
    rcases List.mem_cons.1 h with h | h
    · cases h
    · exact smallTm_get f r t h
  | .global _ :: r, t, h => by
    rcases List.mem_cons.1 h with h | h
    · cases h
    · exact smallTm_get f r t h
  | .func _ :: r, t, h => by
    rcases List.mem_cons.1 h with h | h
    · cases h
    · exact smallTm_get f r t h

def smallFm (f : Fr) (o : Oper) : Fm := ⟨0, 0, smallTm f o.op.operands.toList, [], none⟩

theorem evOp_small {callF : CallF} {P : Program} {o : Oper} {κ : Cx} {n : Nat} {F : Fm} {f : Fr} (hr : Rel κ n F f) (h : Hp) : evOp callF P o (smallFm f o) h = evOp callF P o F h := by
  refine evOp_congr fun x hx => ?_
  cases x with
  | tmp t =>
    simp only [Fm.eval, smallFm]
    rw [smallTm_get f _ t (by simpa using hx), Option.getD_some, hr.slot t]
  | _ => rfl

theorem upd_same {f : Fr} {d : Nat} {v : Value} (h : f d = v) : upd f d v = f := by
  funext i
  rw [upd_eq]
  split
  · rename_i e; subst e; exact h.symm
  · rfl

/-- Which way a truth value goes: what is known is written into its place. -/
def boolS (v : Value) (k : Bool → SA) : SA :=
  Value.rec (motive_1 := fun _ => SA) (motive_2 := fun _ => Unit) (motive_3 := fun _ => Unit)
    k (fun _ _ => .bad) (fun _ _ => .bad) (fun _ _ _ => .bad) (fun _ => .bad) (fun _ => .bad) (fun _ _ _ => .bad) (fun _ => .bad) (fun _ => .bad) (fun _ _ _ _ _ => .bad) .bad (fun _ _ _ => .bad) .bad (fun _ _ => .bad) (fun _ _ => .bad)
    (fun _ _ => ()) () (fun _ _ _ _ => ()) v

/-- The same; what is no truth value goes its own way. -/
def boolE (v : Value) (e : SA) (k : Bool → SA) : SA :=
  Value.rec (motive_1 := fun _ => SA) (motive_2 := fun _ => Unit) (motive_3 := fun _ => Unit)
    k (fun _ _ => e) (fun _ _ => e) (fun _ _ _ => e) (fun _ => e) (fun _ => e) (fun _ _ _ => e) (fun _ => e) (fun _ => e) (fun _ _ _ _ _ => e) e (fun _ _ _ => e) e (fun _ _ => e) (fun _ _ => e)
    (fun _ _ => ()) () (fun _ _ _ _ => ()) v

theorem boolE_ok {v : Value} {e : SA} {k : Bool → SA} {Q : Value → Hp → Prop} (h : Ok Q (boolE v e k)) : (∃ b, v = .bool b ∧ Ok Q (k b)) ∨ ((∀ b, v ≠ .bool b) ∧ Ok Q e) := by
  cases v with
  | bool b => exact .inl ⟨b, rfl, h⟩
  | _ => exact .inr ⟨fun b hb => (by cases hb), h⟩

def branchS (f : Fr) (d : Nat) (y n : Fr → SA) : SA :=
  boolS (f d) fun b => .test b (y (upd f d (.bool true))) (n (upd f d (.bool false)))

theorem boolS_ok {v : Value} {k : Bool → SA} {Q : Value → Hp → Prop} (h : Ok Q (boolS v k)) : ∃ b, v = .bool b ∧ Ok Q (k b) := by
  cases v with
  | bool b => exact ⟨b, rfl, h⟩
  | _ => exact False.elim h

theorem branchS_ok {f : Fr} {d : Nat} {y n : Fr → SA} {Q : Value → Hp → Prop} (h : Ok Q (branchS f d y n)) : (f d = .bool true ∧ Ok Q (y f)) ∨ (f d = .bool false ∧ Ok Q (n f)) := by
  obtain ⟨b, hb, hk⟩ := boolS_ok h
  cases b with
  | true =>
    have := hk.1 rfl
    rw [upd_same hb] at this
    exact .inl ⟨hb, this⟩
  | false =>
    have := hk.2 rfl
    rw [upd_same hb] at this
    exact .inr ⟨hb, this⟩

def guardS (f : Fr) (d : Nat) (y n e : Fr → SA) : SA :=
  boolE (f d) (e f) fun b => .test b (y (upd f d (.bool true))) (n (upd f d (.bool false)))

theorem guardS_ok {f : Fr} {d : Nat} {y n e : Fr → SA} {Q : Value → Hp → Prop} (h : Ok Q (guardS f d y n e)) : (f d = .bool true ∧ Ok Q (y f)) ∨ (f d = .bool false ∧ Ok Q (n f)) ∨ ((∀ b, f d ≠ .bool b) ∧ Ok Q (e f)) := by
  rcases boolE_ok h with ⟨b, hb, hk⟩ | ⟨hn, hk⟩
  · cases b with
    | true =>
      have := hk.1 rfl
      rw [upd_same hb] at this
      exact .inl ⟨hb, this⟩
    | false =>
      have := hk.2 rfl
      rw [upd_same hb] at this
      exact .inr (.inl ⟨hb, this⟩)
  · exact .inr (.inr ⟨hn, hk⟩)

structure OpS where
  run : Fr → Hp → (Value → Hp → SA) → SA

/-- One operation: what moves a value is done, all else is asked. -/
def opS (callF : CallF) (P : Program) (o : Oper) : OpS :=
  match o.op.operands.all (okOpd P) with
  | false => ⟨fun _ _ _ => .bad⟩
  | true => match o.op with
    | .move x => ⟨fun f h k => k (oev f x) h⟩
    | .assign x => ⟨fun f h k => k (oev f x) h⟩
    | .pick c a b => ⟨fun f h k => boolS (oev f c) fun t => .test t (k (oev f a) h) (k (oev f b) h)⟩
    | _ => ⟨fun f h k => .ask (evOp callF P o (smallFm f o) h) k⟩

theorem opS_ok {callF : CallF} {P : Program} {o : Oper} {κ : Cx} {n : Nat} {F : Fm} {f : Fr} {h : Hp} {Q : Value → Hp → Prop} {k : Value → Hp → SA} (hr : Rel κ n F f) (hk : Ok Q ((opS callF P o).run f h k)) :
    ∃ v h', evOp callF P o F h = some (v, h') ∧ Ok Q (k v h') := by
  unfold opS at hk
  split at hk
  · exact hk.elim
  · rename_i hall
    split at hk
    · rename_i x ho
      refine ⟨_, _, ?_, hk⟩
      unfold evOp
      rw [hall]
      simp only [ho, hr.oev]
    · rename_i x ho
      refine ⟨_, _, ?_, hk⟩
      unfold evOp
      rw [hall]
      simp only [ho, hr.oev]
    · rename_i c a b ho
      obtain ⟨t, ht, hk⟩ := boolS_ok hk
      cases t with
      | true =>
        refine ⟨_, _, ?_, hk.1 rfl⟩
        unfold evOp
        rw [hall]
        simp only [ho, hr.oev, ht, if_true]
      | false =>
        refine ⟨_, _, ?_, hk.2 rfl⟩
        unfold evOp
        rw [hall]
        simp [ho, hr.oev, ht]
    · obtain ⟨v, h', h1, h2⟩ := hk
      rw [evOp_small hr] at h1
      exact ⟨v, h', h1, h2⟩

/-- Whether an operation is wanted. -/
def wantS (ops : Array Oper) (f : Fr) (g : Option (Nat × Bool)) (y n : Fr → SA) : SA :=
  match g with
  | none => y f
  | some (j, want) => match ops[j]? with
    | some o => match o.dst with
      | some d => match want with
        | true => guardS f d y n n
        | false => guardS f d n y n
      | none => n f
    | none => n f

theorem wantS_ok {ops : Array Oper} {κ : Cx} {n : Nat} {F : Fm} {f : Fr} {o : Oper} {y m : Fr → SA} {Q : Value → Hp → Prop} (hr : Rel κ n F f) (hk : Ok Q (wantS ops f o.guard y m)) :
    (wantedT ops F o = true ∧ Ok Q (y f)) ∨ (wantedT ops F o = false ∧ Ok Q (m f)) := by
  unfold wantS at hk
  unfold wantedT yieldedT
  split at hk
  · rename_i hg
    rw [hg]
    exact .inl ⟨rfl, hk⟩
  · rename_i j want hg
    rw [hg]
    simp only
    split at hk
    · rename_i q hq
      rw [hq]
      simp only
      split at hk
      · rename_i d hd
        rw [hd]
        simp only
        have hget : ∀ b, f d = .bool b → F.tm.get d = some (.bool b) := fun b hfd => by
          have hv := hr.val d (fun hd => hr.nob b (hd ▸ hfd))
          rw [hfd] at hv
          cases hg2 : F.tm.get d with
          | none => rw [hg2] at hv; cases hv
          | some u => rw [hg2] at hv; exact congrArg some hv
        cases want with
        | true =>
          rcases guardS_ok hk with ⟨h1, h2⟩ | ⟨h1, h2⟩ | ⟨h1, h2⟩
          · rw [hget _ h1]; exact .inl ⟨rfl, h2⟩
          · rw [hget _ h1]; exact .inr ⟨rfl, h2⟩
          · refine .inr ⟨?_, h2⟩
            cases hg2 : F.tm.get d with
            | none => rfl
            | some u =>
              have hne : d ≠ slotD := fun hd => by rw [hd, hr.top] at hg2; cases hg2
              have hv := hr.val d hne
              rw [hg2] at hv
              cases u with
              | bool b => exact absurd hv.symm (h1 b)
              | _ => rfl
        | false =>
          rcases guardS_ok hk with ⟨h1, h2⟩ | ⟨h1, h2⟩ | ⟨h1, h2⟩
          · rw [hget _ h1]; exact .inr ⟨rfl, h2⟩
          · rw [hget _ h1]; exact .inl ⟨rfl, h2⟩
          · refine .inr ⟨?_, h2⟩
            cases hg2 : F.tm.get d with
            | none => rfl
            | some u =>
              have hne : d ≠ slotD := fun hd => by rw [hd, hr.top] at hg2; cases hg2
              have hv := hr.val d hne
              rw [hg2] at hv
              cases u with
              | bool b => exact absurd hv.symm (h1 b)
              | _ => rfl
      · rename_i hd
        rw [hd]
        exact .inr ⟨rfl, hk⟩
    · rename_i hq
      rw [hq]
      exact .inr ⟨rfl, hk⟩

/-- A conversion that stands where the order is fixed. -/
def lateV (P : Program) (o : Oper) (F : Fm) (h : Hp) : Option (Value × Hp) :=
  match o.op.operands.all (okOpd P) with
  | false => none
  | true => match o.op with
    | .convert s d x => match P.underlying s with
      | some .string => strBytes P h d (F.eval x)
      | some (.slice _) => (bytesStr P h s d (F.eval x)).map (·, h)
      | _ => (convPtr P h s d (F.eval x)).map (·, h)
    | _ => none

theorem lateV_ok {P : Program} {o : Oper} {κ : Cx} {n : Nat} {F : Fm} {f : Fr} {h h' : Hp} {v : Value} (hr : Rel κ n F f) (hl : lateV P o (smallFm f o) h = some (v, h')) : evLate P o F h = some (v, F, h') := by
  unfold lateV at hl
  split at hl
  · cases hl
  · rename_i hall
    split at hl
    · rename_i s d x ho
      have hx : (smallFm f o).eval x = F.eval x := by
        cases x with
        | tmp t =>
          simp only [Fm.eval, smallFm]
          rw [smallTm_get f _ t (by rw [ho]; simp [Op.operands]), Option.getD_some, hr.slot t]
        | _ => rfl
      rw [hx] at hl
      unfold evLate
      rw [hall]
      simp only [ho]
      split at hl
      · rename_i hs
        simp only [hs, hl]
      · rename_i e hs
        simp only [hs]
        obtain ⟨v1, h1, h2⟩ := Option.map_eq_some_iff.1 hl
        cases h2
        rw [h1]
      · rename_i h1 h2
        obtain ⟨v1, h3, h4⟩ := Option.map_eq_some_iff.1 hl
        cases h4
        split
        · rename_i hs; exact absurd hs h1
        · rename_i e hs; exact absurd hs (h2 e)
        · rw [h3]
    · cases hl

structure RegS where
  run : Fr → Hp → (Fr → Hp → SA) → SA

def opsS (callF : CallF) (P : Program) (n : Nat) (ops : Array Oper) : List Oper → RegS
  | [] => ⟨fun f h k => k f h⟩
  | o :: r => match isLate P o.op with
    | true => ⟨fun f h k => wantS ops f o.guard (fun f => .ask (lateV P o (smallFm f o) h) fun v h => (opsS callF P n ops r).run (putS n o.dst v f) h k)
        (fun f => (opsS callF P n ops r).run (putS n o.dst undef f) h k)⟩
    | false => ⟨fun f h k => wantS ops f o.guard (fun f => (opS callF P o).run f h fun v h => (opsS callF P n ops r).run (putS n o.dst v f) h k)
        (fun f => (opsS callF P n ops r).run (putS n o.dst undef f) h k)⟩

theorem opsS_ok {callF : CallF} {P : Program} {κ : Cx} {n : Nat} {ops : Array Oper} {Q : Value → Hp → Prop} : ∀ (l : List Oper) {F : Fm} {f : Fr} {h : Hp} {k : Fr → Hp → SA}, Rel κ n F f → Ok Q ((opsS callF P n ops l).run f h k) →
    ∃ F' f' h', evOps callF P ops l F h = some (F', h') ∧ Rel κ n F' f' ∧ Ok Q (k f' h')
  | [], F, f, h, k, hr, hk => ⟨F, f, h, rfl, hr, hk⟩
  | o :: r, F, f, h, k, hr, hk => by
    simp only [opsS] at hk
    split at hk
    · rename_i hl
      dsimp only at hk
      rcases wantS_ok (o := o) (n := n) hr hk with ⟨hw, hk⟩ | ⟨hw, hk⟩
      · obtain ⟨v, h1, e0, hk⟩ := hk
        have e1 := lateV_ok hr e0
        obtain ⟨F', f', h', e2, hr', hk'⟩ := opsS_ok r (hr.put o.dst v) hk
        exact ⟨F', f', h', by simp only [evOps, hw, hl, e1]; exact e2, hr', hk'⟩
      · obtain ⟨F', f', h', e2, hr', hk'⟩ := opsS_ok r (hr.put o.dst undef) hk
        exact ⟨F', f', h', by simp only [evOps, hw]; exact e2, hr', hk'⟩
    · rename_i hl
      dsimp only at hk
      rcases wantS_ok (o := o) (n := n) hr hk with ⟨hw, hk⟩ | ⟨hw, hk⟩
      · obtain ⟨v, h1, e1, hk⟩ := opS_ok hr hk
        obtain ⟨F', f', h', e2, hr', hk'⟩ := opsS_ok r (hr.put o.dst v) hk
        exact ⟨F', f', h', by simp only [evOps, hw, hl, e1]; exact e2, hr', hk'⟩
      · obtain ⟨F', f', h', e2, hr', hk'⟩ := opsS_ok r (hr.put o.dst undef) hk
        exact ⟨F', f', h', by simp only [evOps, hw]; exact e2, hr', hk'⟩

/-- What comes with an operation. -/
structure BrS where
  run : Fr → Fr → Hp → (Fr → Hp → SA) → SA

def brS (callF : CallF) (P : Program) (n : Nat) : List (Oper × Tmp) → BrS
  | [] => ⟨fun _ f1 h k => k f1 h⟩
  | (q, t) :: r => ⟨fun f f1 h k => (opS callF P q).run f h fun v h1 => (brS callF P n r).run f (putS n (some t) v f1) h1 k⟩

theorem brS_ok {callF : CallF} {P : Program} {κ : Cx} {n : Nat} {Q : Value → Hp → Prop} {F : Fm} {f : Fr} (hr : Rel κ n F f) : ∀ (l : List (Oper × Tmp)) {F1 : Fm} {f1 : Fr} {h : Hp} {k : Fr → Hp → SA}, Rel κ n F1 f1 → Ok Q ((brS callF P n l).run f f1 h k) →
    ∃ ws h' f', evBring callF P l F h = some (ws, h') ∧ Rel κ n (F1.putL ws) f' ∧ Ok Q (k f' h')
  | [], F1, f1, h, k, h1, hk => ⟨[], h, f1, rfl, h1, hk⟩
  | (q, t) :: r, F1, f1, h, k, h1, hk => by
    simp only [brS] at hk
    obtain ⟨v, h2, e1, hk⟩ := opS_ok hr hk
    obtain ⟨ws, h', f', e2, g1, g2⟩ := brS_ok hr r (h1.put (some t) v) hk
    exact ⟨(t, v) :: ws, h', f', by simp only [evBring, e1, e2], g1, g2⟩

def undS (n : Nat) : List (Oper × Tmp) → Fr → Fr
  | [], f => f
  | (_, t) :: r, f => undS n r (putS n (some t) undef f)

theorem undS_ok {κ : Cx} {n : Nat} : ∀ (l : List (Oper × Tmp)) {F : Fm} {f : Fr}, Rel κ n F f → Rel κ n (F.putL (unds l)) (undS n l f)
  | [], _, _, h => h
  | (_, t) :: r, _, _, h => undS_ok r (h.put (some t) undef)

def newZ (P : Program) (e : TypeId) : Option (List Value) := match zeroOf P e with
  | some z => match z.cells.toList.all scalar with
    | true => some z.cells.toList
    | false => none
  | none => none

theorem asVar_spec {o : Oper} {l : List (Oper × Tmp)} {e : TypeId} {t : Tmp} (h : asVar o l = some (e, t)) : ∃ q, l = [(q, t)] ∧ q.op = .alloc e ∧ o.guard = none ∧ o.dst = none := by
  unfold asVar at h
  split at h
  · rename_i q t'
    split at h
    · rename_i e' h1 h2 h3
      simp only [Option.some.injEq, Prod.mk.injEq] at h
      obtain ⟨rfl, rfl⟩ := h
      exact ⟨q, rfl, h1, h2, h3⟩
    · cases h
  · cases h

/-- A variable with its first store, as evTr has it. -/
theorem asVar_run {callF : CallF} {P : Program} {ops : Array Oper} {o : Oper} {l : List (Oper × Tmp)} {e : TypeId} {t : Tmp} (h : asVar o l = some (e, t)) {cs : List Value} (hz : newZ P e = some cs) (F : Fm) (hp : Hp) :
    wantedT ops F o = true ∧ evBring callF P l F hp = some ([(t, .pointer (some ⟨hp.next, 0, none⟩))], hp.new (.cells cs e false)) ∧ ∀ (G : Fm) v, G.put o.dst v = G := by
  obtain ⟨q, rfl, h1, h2, h3⟩ := asVar_spec h
  refine ⟨by simp [wantedT, h2], ?_, fun G v => by simp [h3, Fm.put]⟩
  unfold newZ at hz
  split at hz
  · rename_i z hz1
    split at hz
    · rename_i hz2
      cases hz
      simp [evBring, evOp, h1, Op.operands, hz1, hz2]
    · cases hz
  · cases hz

/-- A region that draws, where every effect has its place. -/
def trS (callF : CallF) (P : Program) (n : Nat) (ops : Array Oper) (ms : List Nat) : List Oper → Nat → RegS
  | [], _ => ⟨fun f h k => k f h⟩
  | o :: r, i => match kindOf ops ms o i with
    | .soft => trS callF P n ops ms r (i + 1)
    | .withVars l => match asVar o l with
      | some (e, t) => match newZ P e with
        | some cs => ⟨fun f h k => (opS callF P o).run (putS n (some t) (.pointer (some ⟨h.next, 0, none⟩)) f) (h.new (.cells cs e false)) fun _ h2 => (trS callF P n ops ms r (i + 1)).run (putS n (some t) (.pointer (some ⟨h.next, 0, none⟩)) f) h2 k⟩
        | none => ⟨fun _ _ _ => .bad⟩
      | none => ⟨fun f h k => wantS ops f o.guard (fun f => (brS callF P n l).run f f h fun f1 h1 => (opS callF P o).run f1 h1 fun v h2 => (trS callF P n ops ms r (i + 1)).run (putS n o.dst v f1) h2 k)
        (fun f => (trS callF P n ops ms r (i + 1)).run (putS n o.dst undef (undS n l f)) h k)⟩
    | .norm => ⟨fun f h k => wantS ops f o.guard (fun f => (opS callF P o).run f h fun v h => (trS callF P n ops ms r (i + 1)).run (putS n o.dst v f) h k)
        (fun f => (trS callF P n ops ms r (i + 1)).run (putS n o.dst undef f) h k)⟩

theorem trS_ok {callF : CallF} {P : Program} {κ : Cx} {n : Nat} {ops : Array Oper} {ms : List Nat} {Q : Value → Hp → Prop} : ∀ (l : List Oper) (i : Nat) {F : Fm} {f : Fr} {h : Hp} {k : Fr → Hp → SA}, Rel κ n F f → Ok Q ((trS callF P n ops ms l i).run f h k) →
    ∃ rs F' f' h', evTr callF P ops ms l i F h = some (rs, F', h') ∧ Rel κ n F' f' ∧ Ok Q (k f' h')
  | [], i, F, f, h, k, hr, hk => ⟨[], F, f, h, rfl, hr, hk⟩
  | o :: r, i, F, f, h, k, hr, hk => by
    simp only [trS] at hk
    split at hk
    · rename_i hkd
      obtain ⟨rs, F', f', h', e1, hr', hk'⟩ := trS_ok r (i + 1) hr hk
      exact ⟨⟨F, undef, h, false, []⟩ :: rs, F', f', h', by simp only [evTr, hkd, e1], hr', hk'⟩
    · rename_i l hkd
      split at hk
      · rename_i e t has
        split at hk
        · rename_i cs hz
          obtain ⟨hw, hb, hp⟩ := asVar_run (callF := callF) (ops := ops) has hz F h
          have hr1 := hr.put (some t) (.pointer (some ⟨h.next, 0, none⟩))
          obtain ⟨v, h2, e1, hk⟩ := opS_ok hr1 hk
          obtain ⟨rs, F', f', h', e2, hr', hk'⟩ := trS_ok r (i + 1) hr1 hk
          exact ⟨⟨F.put (some t) (.pointer (some ⟨h.next, 0, none⟩)), v, h2, true, [(t, .pointer (some ⟨h.next, 0, none⟩))]⟩ :: rs, F', f', h', by simp only [evTr, hkd, hw, hb, Fm.putL, e1, hp, e2], hr', hk'⟩
        · exact hk.elim
      · dsimp only at hk
        rcases wantS_ok (o := o) (n := n) hr hk with ⟨hw, hk⟩ | ⟨hw, hk⟩
        · obtain ⟨ws, h1, f1, hb, hr1, hk⟩ := brS_ok hr l hr hk
          obtain ⟨v, h2, e1, hk⟩ := opS_ok hr1 hk
          obtain ⟨rs, F', f', h', e2, hr', hk'⟩ := trS_ok r (i + 1) (hr1.put o.dst v) hk
          exact ⟨⟨F.putL ws, v, h2, true, ws⟩ :: rs, F', f', h', by simp only [evTr, hkd, hw, hb, e1, e2], hr', hk'⟩
        · obtain ⟨rs, F', f', h', e2, hr', hk'⟩ := trS_ok r (i + 1) ((undS_ok l hr).put o.dst undef) hk
          exact ⟨⟨F, undef, h, false, unds l⟩ :: rs, F', f', h', by simp only [evTr, hkd, hw, e2], hr', hk'⟩
    · rename_i hkd
      dsimp only at hk
      rcases wantS_ok (o := o) (n := n) hr hk with ⟨hw, hk⟩ | ⟨hw, hk⟩
      · obtain ⟨v, h1, e1, hk⟩ := opS_ok hr hk
        obtain ⟨rs, F', f', h', e2, hr', hk'⟩ := trS_ok r (i + 1) (hr.put o.dst v) hk
        exact ⟨⟨F, v, h1, true, []⟩ :: rs, F', f', h', by simp only [evTr, hkd, hw, e1, e2], hr', hk'⟩
      · obtain ⟨rs, F', f', h', e2, hr', hk'⟩ := trS_ok r (i + 1) (hr.put o.dst undef) hk
        exact ⟨⟨F, undef, h, false, []⟩ :: rs, F', f', h', by simp only [evTr, hkd, hw, e2], hr', hk'⟩

/-- An operation's record. -/
structure RecS where
  f : Fr
  v : Value
  h : Hp
  wt : Bool

def RecsOK (κ : Cx) (n : Nat) : List Rec → List RecS → Prop
  | [], [] => True
  | r :: rs, s :: ss => (Rel κ n r.F s.f ∧ r.v = s.v ∧ r.h = s.h ∧ r.wt = s.wt) ∧ RecsOK κ n rs ss
  | _, _ => False

theorem RecsOK.at_ {κ : Cx} {n : Nat} : ∀ {rs : List Rec} {ss : List RecS}, RecsOK κ n rs ss → ∀ (i : Nat) (r : Rec), rs[i]? = some r → ∃ s : RecS, ss[i]? = some s ∧ Rel κ n r.F s.f ∧ r.v = s.v ∧ r.h = s.h ∧ r.wt = s.wt
  | [], [], _, i, r, hr => by simp at hr
  | a :: rs, b :: ss, h, i, r, hr => by
    cases i with
    | zero =>
      simp only [List.getElem?_cons_zero, Option.some.injEq] at hr
      subst hr
      exact ⟨b, rfl, h.1⟩
    | succ i =>
      simp only [List.getElem?_cons_succ] at hr ⊢
      exact RecsOK.at_ h.2 i r hr
  | [], _ :: _, h, _, _, _ => h.elim
  | _ :: _, [], h, _, _, _ => h.elim

structure RegR where
  run : Fr → Hp → (Fr → Hp → List RecS → SA) → SA

/-- The same as trS, with the records. -/
def trR (callF : CallF) (P : Program) (n : Nat) (ops : Array Oper) (ms : List Nat) : List Oper → Nat → RegR
  | [], _ => ⟨fun f h k => k f h []⟩
  | o :: r, i => match kindOf ops ms o i with
    | .soft => ⟨fun f h k => (trR callF P n ops ms r (i + 1)).run f h fun f' h' q => k f' h' (⟨f, undef, h, false⟩ :: q)⟩
    | .withVars l => match asVar o l with
      | some (e, t) => match newZ P e with
        | some cs => ⟨fun f h k => (opS callF P o).run (putS n (some t) (.pointer (some ⟨h.next, 0, none⟩)) f) (h.new (.cells cs e false)) fun v h2 => (trR callF P n ops ms r (i + 1)).run (putS n (some t) (.pointer (some ⟨h.next, 0, none⟩)) f) h2 fun f' h' q => k f' h' (⟨putS n (some t) (.pointer (some ⟨h.next, 0, none⟩)) f, v, h2, true⟩ :: q)⟩
        | none => ⟨fun _ _ _ => .bad⟩
      | none => ⟨fun f h k => wantS ops f o.guard (fun f => (brS callF P n l).run f f h fun f1 h1 => (opS callF P o).run f1 h1 fun v h2 => (trR callF P n ops ms r (i + 1)).run (putS n o.dst v f1) h2 fun f' h' q => k f' h' (⟨f1, v, h2, true⟩ :: q))
        (fun f => (trR callF P n ops ms r (i + 1)).run (putS n o.dst undef (undS n l f)) h fun f' h' q => k f' h' (⟨f, undef, h, false⟩ :: q))⟩
    | .norm => ⟨fun f h k => wantS ops f o.guard (fun f => (opS callF P o).run f h fun v h2 => (trR callF P n ops ms r (i + 1)).run (putS n o.dst v f) h2 fun f' h' q => k f' h' (⟨f, v, h2, true⟩ :: q))
        (fun f => (trR callF P n ops ms r (i + 1)).run (putS n o.dst undef f) h fun f' h' q => k f' h' (⟨f, undef, h, false⟩ :: q))⟩

theorem trR_ok {callF : CallF} {P : Program} {κ : Cx} {n : Nat} {ops : Array Oper} {ms : List Nat} {Q : Value → Hp → Prop} : ∀ (l : List Oper) (i : Nat) {F : Fm} {f : Fr} {h : Hp} {k : Fr → Hp → List RecS → SA}, Rel κ n F f → Ok Q ((trR callF P n ops ms l i).run f h k) →
    ∃ rs F' f' h' ss, evTr callF P ops ms l i F h = some (rs, F', h') ∧ Rel κ n F' f' ∧ RecsOK κ n rs ss ∧ Ok Q (k f' h' ss)
  | [], i, F, f, h, k, hr, hk => ⟨[], F, f, h, [], rfl, hr, trivial, hk⟩
  | o :: r, i, F, f, h, k, hr, hk => by
    simp only [trR] at hk
    split at hk
    · rename_i hkd
      obtain ⟨rs, F', f', h', ss, e1, hr', hq, hk'⟩ := trR_ok r (i + 1) hr hk
      exact ⟨⟨F, undef, h, false, []⟩ :: rs, F', f', h', ⟨f, undef, h, false⟩ :: ss, by simp only [evTr, hkd, e1], hr', ⟨⟨hr, rfl, rfl, rfl⟩, hq⟩, hk'⟩
    · rename_i l hkd
      split at hk
      · rename_i e t has
        split at hk
        · rename_i cs hz
          obtain ⟨hw, hb, hp⟩ := asVar_run (callF := callF) (ops := ops) has hz F h
          have hr1 := hr.put (some t) (.pointer (some ⟨h.next, 0, none⟩))
          obtain ⟨v, h2, e1, hk⟩ := opS_ok hr1 hk
          obtain ⟨rs, F', f', h', ss, e2, hr', hq, hk'⟩ := trR_ok r (i + 1) hr1 hk
          exact ⟨⟨F.put (some t) (.pointer (some ⟨h.next, 0, none⟩)), v, h2, true, [(t, .pointer (some ⟨h.next, 0, none⟩))]⟩ :: rs, F', f', h', ⟨_, v, h2, true⟩ :: ss, by simp only [evTr, hkd, hw, hb, Fm.putL, e1, hp, e2], hr', ⟨⟨hr1, rfl, rfl, rfl⟩, hq⟩, hk'⟩
        · exact hk.elim
      · dsimp only at hk
        rcases wantS_ok (o := o) (n := n) hr hk with ⟨hw, hk⟩ | ⟨hw, hk⟩
        · obtain ⟨ws, h1, f1, hb, hr1, hk⟩ := brS_ok hr l hr hk
          obtain ⟨v, h2, e1, hk⟩ := opS_ok hr1 hk
          obtain ⟨rs, F', f', h', ss, e2, hr', hq, hk'⟩ := trR_ok r (i + 1) (hr1.put o.dst v) hk
          exact ⟨⟨F.putL ws, v, h2, true, ws⟩ :: rs, F', f', h', ⟨f1, v, h2, true⟩ :: ss, by simp only [evTr, hkd, hw, hb, e1, e2], hr', ⟨⟨hr1, rfl, rfl, rfl⟩, hq⟩, hk'⟩
        · obtain ⟨rs, F', f', h', ss, e2, hr', hq, hk'⟩ := trR_ok r (i + 1) ((undS_ok l hr).put o.dst undef) hk
          exact ⟨⟨F, undef, h, false, unds l⟩ :: rs, F', f', h', ⟨f, undef, h, false⟩ :: ss, by simp only [evTr, hkd, hw, e2], hr', ⟨⟨hr, rfl, rfl, rfl⟩, hq⟩, hk'⟩
    · rename_i hkd
      dsimp only at hk
      rcases wantS_ok (o := o) (n := n) hr hk with ⟨hw, hk⟩ | ⟨hw, hk⟩
      · obtain ⟨v, h1, e1, hk⟩ := opS_ok hr hk
        obtain ⟨rs, F', f', h', ss, e2, hr', hq, hk'⟩ := trR_ok r (i + 1) (hr.put o.dst v) hk
        exact ⟨⟨F, v, h1, true, []⟩ :: rs, F', f', h', ⟨f, v, h1, true⟩ :: ss, by simp only [evTr, hkd, hw, e1, e2], hr', ⟨⟨hr, rfl, rfl, rfl⟩, hq⟩, hk'⟩
      · obtain ⟨rs, F', f', h', ss, e2, hr', hq, hk'⟩ := trR_ok r (i + 1) (hr.put o.dst undef) hk
        exact ⟨⟨F, undef, h, false, []⟩ :: rs, F', f', h', ⟨f, undef, h, false⟩ :: ss, by simp only [evTr, hkd, hw, e2], hr', ⟨⟨hr, rfl, rfl, rfl⟩, hq⟩, hk'⟩

def effsOfS (ops : Array Oper) (ms : List Nat) : List Oper → List RecS → Nat → List (Nat × Hp)
  | o :: r, x :: q, i => match x.wt && effK ops ms o i with
    | true => (i, x.h) :: effsOfS ops ms r q (i + 1)
    | false => effsOfS ops ms r q (i + 1)
  | _, _, _ => []

theorem effsOfS_eq {κ : Cx} {n : Nat} {ops : Array Oper} {ms : List Nat} : ∀ (l : List Oper) {rs : List Rec} {ss : List RecS} (i : Nat), RecsOK κ n rs ss → effsOf ops ms l rs i = effsOfS ops ms l ss i
  | [], rs, ss, i, h => by cases rs <;> cases ss <;> simp_all [effsOf, effsOfS]
  | o :: l, [], [], i, _ => rfl
  | o :: l, r :: rs, s :: ss, i, h => by
    obtain ⟨⟨_, _, h3, h4⟩, h5⟩ := h
    simp only [effsOf, effsOfS, h4, h3, effsOfS_eq l (i + 1) h5]
    rfl
  | _ :: _, [], _ :: _, _, h => h.elim
  | _ :: _, _ :: _, [], _, h => h.elim

/-- What is asked of one operation. -/
def obsAt (callF : CallF) (P : Program) (ms : List Nat) (es : List (Nat × Hp)) (i : Nat) (o : Oper) (s : RecS) : List (Nat × Hp) → List OB → List OB
  | [], l => l
  | c :: r, l => match mayAt ms es i c.1, textAt es i c.1 with
    | true, false => ⟨evOp callF P o (smallFm s.f o) c.2, s.v, c.2⟩ :: obsAt callF P ms es i o s r l
    | _, _ => obsAt callF P ms es i o s r l

theorem obsAt_ok {callF : CallF} {P : Program} {ms : List Nat} {es : List (Nat × Hp)} {i : Nat} {o : Oper} {s : RecS} : ∀ (cs : List (Nat × Hp)) {l : List OB}, AllOB (obsAt callF P ms es i o s cs l) →
    AllOB l ∧ ∀ c ∈ cs, mayAt ms es i c.1 = true → textAt es i c.1 = false → evOp callF P o (smallFm s.f o) c.2 = some (s.v, c.2)
  | [], l, h => ⟨h, fun c hc => by cases hc⟩
  | c :: cs, l, h => by
    simp only [obsAt] at h
    split at h
    · rename_i h1 h2
      obtain ⟨h3, h4⟩ := obsAt_ok cs h.2
      refine ⟨h3, fun d hd => ?_⟩
      rcases List.mem_cons.1 hd with rfl | hd
      · exact fun _ _ => h.1
      · exact h4 d hd
    · rename_i hno
      obtain ⟨h3, h4⟩ := obsAt_ok cs h
      refine ⟨h3, fun d hd => ?_⟩
      rcases List.mem_cons.1 hd with rfl | hd
      · intro h5 h6
        exact absurd h6 (by first | exact fun h7 => hno h5 h7 | exact fun _ => hno _ _ h5 h6)
      · exact h4 d hd

def obsL (callF : CallF) (P : Program) (ms Z : List Nat) (es : List (Nat × Hp)) (h0 : Hp) : List Oper → List RecS → Nat → Hp → List OB
  | o :: r, s :: q, i, hp => match s.wt, Z.contains i, isRead o.op && !isEff o.op with
    | true, true, _ => ⟨some (undef, s.h), undef, hp⟩ :: obsAt callF P ms es i o s ((0, h0) :: es.map fun e => (e.1 + 1, e.2)) (obsL callF P ms Z es h0 r q (i + 1) s.h)
    | true, false, true => obsAt callF P ms es i o s ((0, h0) :: es.map fun e => (e.1 + 1, e.2)) (obsL callF P ms Z es h0 r q (i + 1) s.h)
    | _, _, _ => obsL callF P ms Z es h0 r q (i + 1) s.h
  | _, _, _, _ => []

theorem obsL_ok {callF : CallF} {P : Program} {ms Z : List Nat} {es : List (Nat × Hp)} {h0 : Hp} : ∀ (l : List Oper) (ss : List RecS) (i : Nat) (hp : Hp), AllOB (obsL callF P ms Z es h0 l ss i hp) →
    ∀ (j : Nat) (o : Oper) (s : RecS), l[j]? = some o → ss[j]? = some s → s.wt = true → (Z.contains (i + j) = true → s.h = (match j with | 0 => hp | k + 1 => match ss[k]? with | some r => r.h | none => hp)) ∧
      ((Z.contains (i + j) = true ∨ (isRead o.op = true ∧ isEff o.op = false)) → ∀ c ∈ (0, h0) :: es.map (fun e => (e.1 + 1, e.2)), mayAt ms es (i + j) c.1 = true → textAt es (i + j) c.1 = false → evOp callF P o (smallFm s.f o) c.2 = some (s.v, c.2))
  | [], ss, i, hp, _, j, o, s, ho, _, _ => by simp at ho
  | o :: l, [], i, hp, _, j, o', s, _, hs, _ => by simp at hs
  | o :: l, s :: ss, i, hp, h, j, o', s', ho, hs, hwt => by
    have key : AllOB (obsL callF P ms Z es h0 l ss (i + 1) s.h) ∧ (s.wt = true → (Z.contains i = true → s.h = hp) ∧ ((Z.contains i = true ∨ (isRead o.op = true ∧ isEff o.op = false)) → ∀ c ∈ (0, h0) :: es.map (fun e => (e.1 + 1, e.2)), mayAt ms es i c.1 = true → textAt es i c.1 = false → evOp callF P o (smallFm s.f o) c.2 = some (s.v, c.2))) := by
      simp only [obsL] at h
      cases hw : s.wt <;> cases hz : Z.contains i <;> cases hr : (isRead o.op && !isEff o.op) <;> simp only [hw, hz, hr] at h
      · exact ⟨h, fun hh => by cases hh⟩
      · exact ⟨h, fun hh => by cases hh⟩
      · exact ⟨h, fun hh => by cases hh⟩
      · exact ⟨h, fun hh => by cases hh⟩
      · refine ⟨h, fun _ => ⟨fun hh => (by cases hh), fun hh => ?_⟩⟩
        rcases hh with hh | ⟨h1, h2⟩
        · cases hh
        · rw [h1, h2] at hr; cases hr
      · obtain ⟨h3, h4⟩ := obsAt_ok _ h
        exact ⟨h3, fun _ => ⟨fun hh => (by cases hh), fun _ => h4⟩⟩
      · obtain ⟨h2, h5⟩ := h
        obtain ⟨h3, h4⟩ := obsAt_ok _ h5
        refine ⟨h3, fun _ => ⟨fun _ => ?_, fun _ => h4⟩⟩
        simp only [Option.some.injEq, Prod.mk.injEq, true_and] at h2
        exact h2
      · obtain ⟨h2, h5⟩ := h
        obtain ⟨h3, h4⟩ := obsAt_ok _ h5
        refine ⟨h3, fun _ => ⟨fun _ => ?_, fun _ => h4⟩⟩
        simp only [Option.some.injEq, Prod.mk.injEq, true_and] at h2
        exact h2
    cases j with
    | zero =>
      simp only [List.getElem?_cons_zero, Option.some.injEq] at ho hs
      subst ho
      subst hs
      exact key.2 hwt
    | succ j =>
      simp only [List.getElem?_cons_succ] at ho hs
      obtain ⟨a1, a2⟩ := obsL_ok l ss (i + 1) s.h key.1 j o' s' ho hs hwt
      rw [show i + 1 + j = i + (j + 1) by omega] at a1 a2
      refine ⟨fun hz => ?_, a2⟩
      rw [a1 hz]
      cases j with
      | zero => rfl
      | succ k =>
        have hk : k < ss.length := by have := (List.getElem?_eq_some_iff.1 hs).1; omega
        simp [List.getElem?_eq_getElem hk]

def zOK (ops : Array Oper) (ms Z : List Nat) : Bool := ops.toList.zipIdx.all fun p => !Z.contains p.2 || (match kindOf ops ms p.1 p.2 with | .norm => true | _ => false)

def obsS (callF : CallF) (P : Program) (ops : Array Oper) (ms : List Nat) (h0 : Hp) (ss : List RecS) (Z : List Nat) : Option (List OB) :=
  match zOK ops ms Z && chainOK ms ((effsOfS ops ms ops.toList ss 0).filter fun e => !Z.contains e.1) with
  | true => some (obsL callF P ms Z ((effsOfS ops ms ops.toList ss 0).filter fun e => !Z.contains e.1) h0 ops.toList ss 0 h0)
  | false => none

theorem obsS_ok {callF : CallF} {P : Program} {κ : Cx} {n : Nat} {ops : Array Oper} {ms : List Nat} {h0 : Hp} {rs : List Rec} {ss : List RecS} (hq : RecsOK κ n rs ss) {Z : List Nat} {l : List OB} (ho : obsS callF P ops ms h0 ss Z = some l) (hl : AllOB l) : DrawOK callF P ops ms h0 rs Z := by
  unfold obsS at ho
  split at ho
  · rename_i hc
    cases ho
    simp only [Bool.and_eq_true] at hc
    have he : effsZ ops ms rs Z = (effsOfS ops ms ops.toList ss 0).filter fun e => !Z.contains e.1 := by
      unfold effsZ
      rw [effsOfS_eq ops.toList 0 hq]
    rw [← he] at hl hc
    have K := obsL_ok _ _ _ _ hl
    refine ⟨fun i o hi hz => ?_, fun i o r hi hr hz hw => ?_, hc.2, fun i o r hi hr hw hcase c hcm h1 h2 => ?_⟩
    · have := hc.1
      unfold zOK at this
      rw [List.all_eq_true] at this
      have h3 := this (o, i) (by rw [List.mem_zipIdx_iff_getElem?]; simpa using hi)
      simp only [hz, Bool.not_true, Bool.false_or] at h3
      exact h3
    · obtain ⟨s, hs, _, _, h5, h6⟩ := hq.at_ i r hr
      have h7 := (K i o s (by simpa using hi) hs (by rw [← h6]; exact hw)).1
      rw [Nat.zero_add] at h7
      rw [h5, h7 hz]
      cases i with
      | zero => rfl
      | succ k =>
        simp only [ahead]
        have hk : k < rs.length := by have := (List.getElem?_eq_some_iff.1 hr).1; omega
        obtain ⟨s', hs', _, _, h8, _⟩ := hq.at_ k rs[k] (List.getElem?_eq_getElem hk)
        simp only [hs', List.getElem?_eq_getElem hk, h8]
    · obtain ⟨s, hs, h3, h4, h5, h6⟩ := hq.at_ i r hr
      have h7 := (K i o s (by simpa using hi) hs (by rw [← h6]; exact hw)).2
      rw [Nat.zero_add] at h7
      rw [← evOp_small h3, h4]
      exact h7 hcase c hcm h1 h2
  · cases ho

def drawS (callF : CallF) (P : Program) (n : Nat) (ops : Array Oper) : RegS :=
  match P.follows .mixedOrders, masks ops.toList [] with
  | true, some ms => match tempsOK ops ms, staticOK ops ms with
    | true, true => trS callF P n ops ms ops.toList 0
    | true, false => ⟨fun f h k => (trR callF P n ops ms ops.toList 0).run f h fun f' h' ss => .need (obsS callF P ops ms h ss) (k f' h')⟩
    | _, _ => ⟨fun _ _ _ => .bad⟩
  | _, _ => ⟨fun _ _ _ => .bad⟩

theorem drawS_ok {callF : CallF} {P : Program} {κ : Cx} {n : Nat} {ops : Array Oper} {Q : Value → Hp → Prop} {F : Fm} {f : Fr} {h : Hp} {k : Fr → Hp → SA} (hr : Rel κ n F f) (hk : Ok Q ((drawS callF P n ops).run f h k)) :
    ∃ F' f' h', drawAny callF P ops F h = some (F', h') ∧ Rel κ n F' f' ∧ Ok Q (k f' h') := by
  unfold drawS at hk
  split at hk
  · rename_i ms h1 h2
    split at hk
    · rename_i h3 h4
      obtain ⟨rs, F', f', h', e1, hr', hk'⟩ := trS_ok _ _ hr hk
      exact ⟨F', f', h', drawAny_of (by simp only [drawRun, h1, h2, h3, e1, h4]), hr', hk'⟩
    · rename_i h3 h4
      obtain ⟨rs, F', f', h', ss, e1, hr', hq, ⟨⟨Z, l, ho, hl⟩, hk'⟩⟩ := trR_ok _ _ hr hk
      refine ⟨F', f', h', ?_, hr', hk'⟩
      have hZ : ∃ Z, DrawOK callF P ops ms h rs Z := ⟨Z, obsS_ok hq ho hl⟩
      cases hd : drawRun callF P ops F h with
      | some x =>
        rw [drawAny_of hd]
        simp only [drawRun, h1, h2, h3, e1, h4] at hd
        split at hd
        · cases hd; rfl
        · split at hd
          · cases hd; rfl
          · cases hd
      | none =>
        unfold drawAny
        rw [hd]
        simp only [h1, h2, h3, e1]
        rw [if_pos hZ]
    · exact hk.elim
  · exact hk.elim

structure CodeS where
  run : Fr → Hp → (Fr → Hp → SA) → (Ex → Fr → Hp → SA) → SA

def bodyS (b : CodeS) (x : Ex → Fr → Hp → SA) (n : Nat) : Fr → Hp → SA :=
  Nat.rec (motive := fun _ => Fr → Hp → SA) (fun _ _ => .bad) (fun _ ih f h => b.run f h (fun f h => .back ih f h) x) n

/-- Which way a branch goes. -/
def condS (f : Fr) (c : Operand) (y n : Fr → SA) : SA :=
  match c with
  | .tmp d => branchS f d y n
  | c => boolS (oev f c) fun b => .test b (y f) (n f)

theorem condS_ok {κ : Cx} {n : Nat} {F : Fm} {f : Fr} {c : Operand} {y m : Fr → SA} {Q : Value → Hp → Prop} (hr : Rel κ n F f) (h : Ok Q (condS f c y m)) : (oev f c = .bool true ∧ Ok Q (y f)) ∨ (oev f c = .bool false ∧ Ok Q (m f)) := by
  unfold condS at h
  split at h
  · rename_i d
    have key : ∀ b, f d = .bool b → oev f (.tmp d) = .bool b := fun b hb => (slot_ne (fun hd => hr.nob b (hd ▸ hb))).trans hb
    rcases branchS_ok h with ⟨h1, h2⟩ | ⟨h1, h2⟩
    · exact .inl ⟨key _ h1, h2⟩
    · exact .inr ⟨key _ h1, h2⟩
  · obtain ⟨b, hb, hk⟩ := boolS_ok h
    cases b with
    | true => exact .inl ⟨hb, hk.1 rfl⟩
    | false => exact .inr ⟨hb, hk.2 rfl⟩

/-- What is seen of a piece of code that ran. -/
def exR : R3 → Option (Ex × Hp)
  | some (e, _, h) => some (e, h)
  | none => none

/-- The frame behind a range. -/
def afterS (κ : Cx) (h : Hp) (f : Fr) : Fr :=
  match κ.rd with
  | none => upd f slotD (consD h.next (f slotD))
  | some _ => f

theorem range_frame {callF : CallF} {P : Program} {lf n : Nat} {κ : Cx} {g : Operand} {ps : Array Tmp} {as body : Code} {F : Fm} {f : Fr} {h : Hp} {e : Ex} {h' : Hp} (hg : κ.rg = true) (hr : Rel κ n F f)
    (he : exR (evC callF P lf (.rangeFunc g ps as body) F h) = some (e, h')) : ∃ F', evC callF P lf (.rangeFunc g ps as body) F h = some (e, F', h') ∧ Rel κ n F' (afterS κ h f) := by
  cases hc : evC callF P lf (.rangeFunc g ps as body) F h with
  | none => rw [hc] at he; cases he
  | some x =>
    obtain ⟨e1, F1, h1⟩ := x
    rw [hc] at he
    cases he
    refine ⟨F1, rfl, ?_⟩
    obtain ⟨rd, rg⟩ := κ
    cases hg
    have hrd := hr.round
    have hdf := hr.defers
    simp only [evC] at hc
    split at hc
    · rename_i d hp mark hok hd
      split at hc
      · split at hc
        · split at hc
          · cases hc
          · split at hc
            · cases hc
              cases rd with
              | none =>
                simp only at hrd
                rw [hrd] at hd
                cases hd
                refine ⟨hr.le, hr.n, hr.round, ?_, hr.top, ?_, fun t ht => ?_⟩
                · simp only [dfr, afterS, upd_eq, if_true, dsOf_cons, List.map_cons]
                  rw [hdf]
                  rfl
                · simp only [afterS, upd_eq, if_true]
                  exact fun b hb => by cases hb
                · simp only [afterS, upd_eq, if_neg ht]
                  exact hr.val t ht
              | some l =>
                simp only at hrd
                rw [hrd] at hd
                have hm : mark = [] := by
                  simp only at hd
                  split at hd
                  · cases hd; rfl
                  · cases hd
                subst hm
                exact ⟨hr.le, hr.n, hr.round, hr.defers, hr.top, hr.nob, hr.val⟩
            · cases hc
          · cases hc
        · cases hc
      · cases hc
    · cases hc

/-- Whether code has ranges over functions. -/
def hasRng : Code → Bool
  | .seq a b => hasRng a || hasRng b
  | .cond _ a b => hasRng a || hasRng b
  | .block _ b => hasRng b
  | .loop b => hasRng b
  | .scope b => hasRng b
  | .rangeFunc _ _ _ _ => true
  | _ => false

def finS (k : Fr → Hp → SA) (x : Ex → Fr → Hp → SA) : Ex → Fr → Hp → SA
  | .normal => k
  | ex => x ex

def codeS (κ : Cx) (callF : CallF) (P : Program) (lf n : Nat) : Code → CodeS
  | .skip => ⟨fun f h k _ => k f h⟩
  | .label _ => ⟨fun f h k _ => k f h⟩
  | .region _ ops false => ⟨fun f h k _ => (opsS callF P n ops ops.toList).run f h k⟩
  | .region _ ops true => ⟨fun f h k _ => (drawS callF P n ops).run f h k⟩
  | .seq a b => ⟨fun f h k x => (codeS κ callF P lf n a).run f h (fun f h => (codeS κ callF P lf n b).run f h k x) x⟩
  | .cond c a b => match okOpd P c with
    | true => ⟨fun f h k x => condS f c (fun f => (codeS κ callF P lf n a).run f h k x) (fun f => (codeS κ callF P lf n b).run f h k x)⟩
    | false => ⟨fun _ _ _ _ => .bad⟩
  | .block id b => ⟨fun f h k x => (codeS κ callF P lf n b).run f h k fun ex f h => Ex.rec (motive := fun _ => SA) .bad (fun i => Bool.rec (motive := fun _ => SA) (x (.exit i) f h) (k f h) (Nat.beq i id)) (x .ret f h) ex⟩
  | .loop b => ⟨fun f h _ x => .cut lf (bodyS (codeS κ callF P lf n b) x) f h⟩
  | .exit id => ⟨fun f h _ x => x (.exit id) f h⟩
  | .ret => ⟨fun f h _ x => x .ret f h⟩
  | .scope b => codeS κ callF P lf n b
  | .rangeFunc g ps as body => match κ.rg with
    | true => ⟨fun f h k x => .rng κ n f (fun F => exR (evC callF P lf (.rangeFunc g ps as body) F h)) fun ex h' => finS k x ex (afterS κ h f) h'⟩
    | false => ⟨fun _ _ _ _ => .bad⟩
  | _ => ⟨fun _ _ _ _ => .bad⟩

def CodeSOK (κ : Cx) (callF : CallF) (P : Program) (lf n : Nat) (Q : Value → Hp → Prop) (c : Code) (cs : CodeS) : Prop := ∀ (F : Fm) (f : Fr) (h : Hp) (k : Fr → Hp → SA) (x : Ex → Fr → Hp → SA), Rel κ n F f → Ok Q (cs.run f h k x) →
  ∃ ex F' f' h', evC callF P lf c F h = some (ex, F', h') ∧ Rel κ n F' f' ∧ Ok Q (finS k x ex f' h')

theorem bodyS_ok {callF : CallF} {P : Program} {κ : Cx} {lf n : Nat} {Q : Value → Hp → Prop} {b : Code} {cs : CodeS} (hc : CodeSOK κ callF P lf n Q b cs) (x : Ex → Fr → Hp → SA) : ∀ (m : Nat) (F : Fm) (f : Fr) (h : Hp), Rel κ n F f → Ok Q (bodyS cs x m f h) →
    ∃ ex F' f' h', loopN (evC callF P lf b) m F h = some (ex, F', h') ∧ ex ≠ .normal ∧ Rel κ n F' f' ∧ Ok Q (x ex f' h')
  | 0, F, f, h, hr, hk => hk.elim
  | m + 1, F, f, h, hr, hk => by
    have hk' : Ok Q (cs.run f h (fun f h => .back (bodyS cs x m) f h) x) := hk
    obtain ⟨ex, F1, f1, h1, e1, hr1, hk1⟩ := hc F f h _ x hr hk'
    cases ex with
    | normal =>
      have hk2 : Ok Q (bodyS cs x m f1 h1) := hk1
      obtain ⟨ex, F2, f2, h2, e2, hne, hr2, hk3⟩ := bodyS_ok hc x m F1 f1 h1 hr1 hk2
      exact ⟨ex, F2, f2, h2, by simp only [loopN, e1]; exact e2, hne, hr2, hk3⟩
    | exit i => exact ⟨.exit i, F1, f1, h1, by simp only [loopN, e1], by simp, hr1, hk1⟩
    | ret => exact ⟨.ret, F1, f1, h1, by simp only [loopN, e1], by simp, hr1, hk1⟩

theorem codeS_ok (κ : Cx) (callF : CallF) (P : Program) (lf n : Nat) (Q : Value → Hp → Prop) : ∀ c : Code, CodeSOK κ callF P lf n Q c (codeS κ callF P lf n c)
  | .skip => fun F f h k x hr hk => ⟨.normal, F, f, h, rfl, hr, hk⟩
  | .label _ => fun F f h k x hr hk => ⟨.normal, F, f, h, rfl, hr, hk⟩
  | .region _ ops false => fun F f h k x hr hk => by
    obtain ⟨F', f', h', e1, hr', hk'⟩ := opsS_ok _ hr hk
    exact ⟨.normal, F', f', h', by simp only [evC, e1], hr', hk'⟩
  | .region _ ops true => fun F f h k x hr hk => by
    obtain ⟨F', f', h', e1, hr', hk'⟩ := drawS_ok hr hk
    exact ⟨.normal, F', f', h', by simp only [evC, e1], hr', hk'⟩
  | .seq a b => fun F f h k x hr hk => by
    obtain ⟨ex, F1, f1, h1, e1, hr1, hk1⟩ := codeS_ok κ callF P lf n Q a F f h _ x hr hk
    cases ex with
    | normal =>
      obtain ⟨ex, F2, f2, h2, e2, hr2, hk2⟩ := codeS_ok κ callF P lf n Q b F1 f1 h1 k x hr1 hk1
      exact ⟨ex, F2, f2, h2, by simp only [evC, e1]; exact e2, hr2, hk2⟩
    | exit i => exact ⟨.exit i, F1, f1, h1, by simp only [evC, e1], hr1, hk1⟩
    | ret => exact ⟨.ret, F1, f1, h1, by simp only [evC, e1], hr1, hk1⟩
  | .cond c a b => fun F f h k x hr hk => by
    simp only [codeS] at hk
    split at hk
    · rename_i hok
      have hev := hr.oev c
      rcases condS_ok hr hk with ⟨hv, hk'⟩ | ⟨hv, hk'⟩
      · rw [hv] at hev
        obtain ⟨ex, F1, f1, h1, e1, g⟩ := codeS_ok κ callF P lf n Q a F f h k x hr hk'
        exact ⟨ex, F1, f1, h1, by simp only [evC, hok, hev]; exact e1, g⟩
      · rw [hv] at hev
        obtain ⟨ex, F1, f1, h1, e1, g⟩ := codeS_ok κ callF P lf n Q b F f h k x hr hk'
        exact ⟨ex, F1, f1, h1, by simp only [evC, hok, hev]; exact e1, g⟩
    · exact hk.elim
  | .block id b => fun F f h k x hr hk => by
    obtain ⟨ex, F1, f1, h1, e1, hr1, hk1⟩ := codeS_ok κ callF P lf n Q b F f h _ _ hr hk
    cases ex with
    | normal => exact ⟨.normal, F1, f1, h1, by simp only [evC, e1], hr1, hk1⟩
    | ret => exact ⟨.ret, F1, f1, h1, by simp only [evC, e1], hr1, hk1⟩
    | exit i =>
      have h6 : Ok Q (Bool.rec (motive := fun _ => SA) (x (.exit i) f1 h1) (k f1 h1) (Nat.beq i id)) := hk1
      cases hb : Nat.beq i id with
      | true => rw [hb] at h6; exact ⟨.normal, F1, f1, h1, by simp only [evC, e1, hb], hr1, h6⟩
      | false => rw [hb] at h6; exact ⟨.exit i, F1, f1, h1, by simp only [evC, e1, hb], hr1, h6⟩
  | .loop b => fun F f h k x hr hk => by
    obtain ⟨ex, F', f', h', e1, hne, hr', hk'⟩ := bodyS_ok (codeS_ok κ callF P lf n Q b) x lf F f h hr hk
    exact ⟨ex, F', f', h', by simp only [evC, e1], hr', by cases ex <;> first | exact absurd rfl hne | exact hk'⟩
  | .exit id => fun F f h k x hr hk => ⟨.exit id, F, f, h, rfl, hr, hk⟩
  | .ret => fun F f h k x hr hk => ⟨.ret, F, f, h, rfl, hr, hk⟩
  | .scope b => fun F f h k x hr hk => by
    obtain ⟨ex, F', f', h', e1, g⟩ := codeS_ok κ callF P lf n Q b F f h k x hr hk
    exact ⟨ex, F', f', h', by simp only [evC, e1], g⟩
  | .rangeFunc g ps as body => fun F f h k x hr hk => by
    simp only [codeS] at hk
    split at hk
    · rename_i hg
      obtain ⟨e, h', e1, hk'⟩ := hk F hr
      obtain ⟨F', e2, hr'⟩ := range_frame hg hr e1
      exact ⟨e, F', _, h', e2, hr', hk'⟩
    · exact hk.elim
  | .goto _ => fun F f h k x hr hk => hk.elim
  | .refuse _ => fun F f h k x hr hk => hk.elim

/-- The results. -/
def resS (P : Program) : List ResultVar → Fr → Hp → (List Value → SA) → SA
  | [], _, _, k => k []
  | .tmp t :: r, f, h, k => resS P r f h fun l => k (slot f t :: l)
  | .cell a t :: r, f, h, k => .ask ((loadT P h t (slot f a)).map (·, h)) fun v _ => resS P r f h fun l => k (v :: l)

theorem resS_ok {P : Program} {κ : Cx} {n : Nat} {F : Fm} {f : Fr} {h : Hp} {Q : Value → Hp → Prop} (hr : Rel κ n F f) : ∀ (l : List ResultVar) (k : List Value → SA), Ok Q (resS P l f h k) → ∃ r, resultsOf P F h l = some r ∧ Ok Q (k r)
  | [], k, hk => ⟨[], rfl, hk⟩
  | .tmp t :: r, k, hk => by
    obtain ⟨l, h1, h2⟩ := resS_ok hr r _ hk
    refine ⟨_, ?_, h2⟩
    simp only [resultsOf, h1, hr.slot]
  | .cell a t :: r, k, hk => by
    obtain ⟨v, h', e1, hk⟩ := hk
    obtain ⟨l, h1, h2⟩ := resS_ok hr r _ hk
    refine ⟨_, ?_, h2⟩
    simp only [resultsOf, h1, hr.slot]
    cases hl : loadT P h t (slot f a) with
    | none => rw [hl] at e1; cases e1
    | some u => rw [hl] at e1; cases e1; rfl

def argFr : List Value → Fr
  | [], _ => undef
  | v :: _, 0 => v
  | _ :: r, n + 1 => argFr r n

theorem argFr_eq : ∀ (l : List Value) (t : Nat), argFr l t = (l[t]?).getD undef
  | [], t => by simp [argFr]
  | v :: r, 0 => rfl
  | v :: r, n + 1 => by simp [argFr, argFr_eq r n]

/-- The marks of the ranges, when the function returns. -/
def collectL : List Nat → Hp → Option Hp
  | [], h => some h
  | d :: r, h => match h.get d with
    | some (.defd false) => collectL r (h.put d (.defd true))
    | _ => none

theorem collect_col {callF : CallF} : ∀ (l : List Nat) (h : Hp), collect callF (l.map markOf) h = collectL l h
  | [], h => rfl
  | d :: r, h => by
    simp only [List.map_cons, collect, collectL, markOf]
    split
    · rename_i e
      rw [e]
      exact collect_col r _
    · rename_i hne
      split
      · rename_i e; exact absurd e (by first | exact hne | exact hne _)
      · rfl

def endS (P : Program) (rg : Bool) (res : List ResultVar) (f : Fr) (h : Hp) : SA :=
  match rg with
  | true => .ask ((collectL (dsOf (f slotD)) h).map (undef, ·)) fun _ h => resS P res f h fun l => .done (oneOf l) h
  | false => resS P res f h fun l => .done (oneOf l) h

theorem endS_ok {P : Program} {callF : CallF} {rg : Bool} {n : Nat} {F : Fm} {f : Fr} {h : Hp} {Q : Value → Hp → Prop} {res : List ResultVar} (hr : Rel ⟨none, rg⟩ n F f) (hk : Ok Q (endS P rg res f h)) :
    ∃ v h', (match collect callF F.defers h with
            | none => none
            | some h2 => match resultsOf P F h2 res with
              | some l => some (oneOf l, h2)
              | none => none) = some (v, h') ∧ Q v h' := by
  have hd := hr.defers
  cases rg with
  | false =>
    simp only [dfr] at hd
    rw [hd]
    obtain ⟨l, h1, h2⟩ := resS_ok hr _ _ hk
    refine ⟨oneOf l, h, ?_, h2⟩
    simp only [collect]
    rw [h1]
  | true =>
    simp only [dfr] at hd
    rw [hd, collect_col]
    obtain ⟨v, h2, e1, hk⟩ := hk
    cases hc : collectL (dsOf (f slotD)) h with
    | none => rw [hc] at e1; cases e1
    | some h3 =>
      rw [hc] at e1
      simp only [Option.map_some, Option.some.injEq, Prod.mk.injEq] at e1
      obtain ⟨_, e2⟩ := e1
      subst e2
      obtain ⟨l, h1, h2⟩ := resS_ok hr _ _ hk
      refine ⟨oneOf l, h3, ?_, h2⟩
      simp only
      rw [h1]

def fnS (P : Program) (O : Orc) (lf n : Nat) (f : FuncId) (args : List Value) (h : Hp) : SA :=
  match O f with
  | some _ => .bad
  | none => match P.funcs[f]? with
    | none => .bad
    | some fn => match fn.body, fn.name == "runtime.NumGoroutine", Nat.ble args.length fn.ntmps && Nat.ble fn.ntmps slotD with
      | some body, false, true => (codeS ⟨none, hasRng body⟩ (evInv P O lf n) P lf fn.ntmps body).run (argFr args) h (fun f h => endS P (hasRng body) fn.results.toList f h)
          fun ex f h => Ex.rec (motive := fun _ => SA) (endS P (hasRng body) fn.results.toList f h) (fun _ => .bad) (endS P (hasRng body) fn.results.toList f h) ex
      | _, _, _ => .bad

theorem argFr_out {l : List Value} {t : Nat} (h : l.length ≤ t) : argFr l t = undef := by
  rw [argFr_eq]
  have : l[t]? = none := by simp; omega
  rw [this]
  rfl

/-- A function whose run, with all that it asks answered, comes to Q. -/
theorem fnS_ok {P : Program} {O : Orc} {lf n : Nat} {f : FuncId} {args : List Value} {h : Hp} {Q : Value → Hp → Prop} (hk : Ok Q (fnS P O lf n f args h)) : ∃ v h', evInv P O lf (n + 1) (.fn f args) h = some (v, h') ∧ Q v h' := by
  unfold fnS at hk
  split at hk
  · exact hk.elim
  · rename_i hO
    split at hk
    · exact hk.elim
    · rename_i fn hf
      split at hk
      · rename_i body hb hnm hle2
        simp only [Bool.and_eq_true] at hle2
        obtain ⟨hle, hle3⟩ := hle2
        have hl1 := Nat.le_of_ble_eq_true hle
        have hl2 := Nat.le_of_ble_eq_true hle3
        have hr : Rel ⟨none, hasRng body⟩ fn.ntmps { fn := f, n := fn.ntmps, tm := putAll .nil 0 args, defers := [], round := none } (argFr args) := by
          refine ⟨hl2, rfl, rfl, ?_, ?_, ?_, fun t _ => ?_⟩
          · unfold dfr
            rw [argFr_out (by omega)]
            cases hasRng body <;> rfl
          · show (putAll .nil 0 args).get slotD = none
            rw [putAll_get]
            by_cases ht : slotD < args.length
            · omega
            · rw [if_neg (by omega)]
              rfl
          · rw [argFr_out (by omega)]
            exact fun b hb => by cases hb
          · rw [argFr_eq, putAll_get]
            by_cases ht : t < args.length
            · rw [if_pos (by omega)]; simp
            · rw [if_neg (by omega)]
              have : args[t]? = none := by simp; omega
              rw [this]
              rfl
        obtain ⟨ex, F', f', h', e1, hr', hk'⟩ := codeS_ok _ _ P lf fn.ntmps Q body _ _ h _ _ hr hk
        cases ex with
        | normal =>
          have hk' : Ok Q (endS P (hasRng body) fn.results.toList f' h') := hk'
          obtain ⟨v, h2, h3, h4⟩ := endS_ok (callF := plainC O (evInv P O lf n)) hr' hk'
          refine ⟨v, h2, ?_, h4⟩
          simp only [evInv, hO, hf, hb, hnm, hle, e1]
          exact h3
        | exit i => exact hk'.elim
        | ret =>
          have hk' : Ok Q (endS P (hasRng body) fn.results.toList f' h') := hk'
          obtain ⟨v, h2, h3, h4⟩ := endS_ok (callF := plainC O (evInv P O lf n)) hr' hk'
          refine ⟨v, h2, ?_, h4⟩
          simp only [evInv, hO, hf, hb, hnm, hle, e1]
          exact h3
      · exact hk.elim

/-! A round of a range. -/

def busyR (l : Nat) (h : Hp) : Option (Value × Hp) :=
  match h.get l with
  | some (.loop .ready pd fm ps as b d) => some (undef, h.put l (.loop .busy pd fm ps as b d))
  | _ => none

def roundR (l : Nat) (e : Ex) (h : Hp) : Option (Value × Hp) :=
  match h.get l with
  | some (.loop _ _ fm ps as b d) => match e with
    | .normal => some (.bool true, h.put l (.loop .ready none fm ps as b d))
    | e => some (.bool false, h.put l (.loop .done e.code fm ps as b d))
  | _ => none

/-- The code of a range. -/
structure RC where
  g : Operand
  ps : Array Tmp
  as : Code
  body : Code

def RC.code (c : RC) : Code := .rangeFunc c.g c.ps c.as c.body

def zipS (n : Nat) : List (Tmp × Value) → Fr → Fr
  | [], f => f
  | (t, v) :: r, f => zipS n r (putS n (some t) v f)

theorem Rel.zip {κ : Cx} {n : Nat} : ∀ (l : List (Tmp × Value)) {F : Fm} {f : Fr}, Rel κ n F f → Rel κ n (putZip F l) (zipS n l f)
  | [], _, _, h => h
  | (t, v) :: r, _, _, h => Rel.zip r (h.put (some t) v)

def yldS (P : Program) (O : Orc) (lf m n l : Nat) (c : RC) (args : List Value) (f : Fr) (h : Hp) : SA :=
  (codeS ⟨some l, true⟩ (evInv P O lf m) P lf n c.as).run (zipS n (c.ps.toList.zip args) f) h
    (fun f1 h1 => .ask (busyR l h1) fun _ h2 => (codeS ⟨some l, true⟩ (evInv P O lf m) P lf n c.body).run f1 h2 (fun _ h3 => .ask (roundR l .normal h3) .done) fun ex _ h3 => .ask (roundR l ex h3) .done)
    fun _ _ _ => .bad

theorem yld_ok {P : Program} {O : Orc} {lf m n l : Nat} {c : RC} {args : List Value} {κ : Cx} {F : Fm} {f : Fr} {h : Hp} {pd : Option Code} {d : Nat} {Q : Value → Hp → Prop} (hr : Rel κ n F f)
    (hg : h.get l = some (.loop .ready pd F c.ps c.as c.body d)) (hn : Nat.beq args.length c.ps.size = true) (hk : Ok Q (yldS P O lf m n l c args f h)) : ∃ v h', evInv P O lf (m + 1) (.yield l args) h = some (v, h') ∧ Q v h' := by
  have hz := hr.zip (c.ps.toList.zip args)
  have hr0 : Rel ⟨some l, true⟩ n { putZip F (c.ps.toList.zip args) with defers := [], round := some l } (zipS n (c.ps.toList.zip args) f) :=
    ⟨hz.le, hz.n, rfl, rfl, hz.top, hz.nob, hz.val⟩
  obtain ⟨ex, F1, f1, h1, e1, hr1, hk1⟩ := codeS_ok _ _ P lf n Q c.as _ _ h _ _ hr0 hk
  cases ex with
  | exit i => exact hk1.elim
  | ret => exact hk1.elim
  | normal =>
    obtain ⟨v, h2, e2, hk2⟩ := hk1
    unfold busyR at e2
    split at e2
    · rename_i pd1 fm1 ps1 as1 b1 d1 hl1
      cases e2
      obtain ⟨ex, F2, f2, h3, e3, hr2, hk3⟩ := codeS_ok _ _ P lf n Q c.body _ _ _ _ _ hr1 hk2
      have hk4 : ∃ v h', roundR l ex h3 = some (v, h') ∧ Q v h' := by
        cases ex <;> exact hk3
      obtain ⟨v, h4, e4, hq⟩ := hk4
      have hd2 : F2.defers = [] := hr2.defers
      refine ⟨v, h4, ?_, hq⟩
      unfold roundR at e4
      simp only [evInv, hg, hn, e1, hl1, e3, hd2]
      split at e4
      · rename_i x1 x2 fm ps as b d hl
        simp only [hl]
        cases ex <;> exact e4
      · cases e4
    · cases e2

end
end Go.Eng
