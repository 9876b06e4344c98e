/- A quicker evaluator in passing style: keys of maps. -/
import Derived.Test.YtkfbfgcflnkllaaGreatDoorFxB
namespace Go.Eng

theorem pureRun_bnd {α β : Type} (P : Program) (s : Sem α) (f : α → Sem β) : pureRun P (s.bind f) = (pureRun P s).bind fun a => pureRun P (f a) := by
  induction s with
  | pure a => rfl
  | program k ih => exact ih P
  | _ => rfl

/-- Keys of whole numbers, in order. -/
def simpleF (P : Program) : List Field → Nat → Bool
  | [], _ => true
  | f :: r, i => f.name != "_" && Nat.beq f.offset i && (match isAggT P f.type with | some false => true | _ => false) && (match P.underlying f.type with | some (.int _) => true | _ => false) && simpleF P r (i + 1)

inductive KeyD where
  | int
  | agg (n : Nat)

def keyD (P : Program) (t : TypeId) : Option KeyD :=
  match P.underlying t with
  | some (.int _) => some .int
  | some (.struct fs) => match P.stoodInHeld t, simpleF P fs.toList 0 with
    | false, true => some (.agg fs.size)
    | _, _ => none
  | _ => none

def eqRes : List Value → List Value → Option Bool
  | [], [] => some true
  | .int j a :: l, .int k b :: m => if j = k then (if a = b then eqRes l m else some false) else none
  | _, _ => none

theorem run_part {P : Program} {t : TypeId} {xs : Array Value} {off : Nat} {v : Value} (ha : isAggT P t = some false) (hv : xs[off]? = some v) : pureRun P (part t xs off) = some v := by
  unfold isAggT at ha
  cases hu : P.underlying t with
  | none => rw [hu] at ha; cases ha
  | some d =>
    rw [hu] at ha
    simp only [part, isAgg, underlying, program, bind, Sem.bind, pureRun, hu, pure]
    cases d <;> first | (simp at ha; done) | (simp only [Sem.bind, Bool.false_eq_true, if_false, hv]; rfl)

theorem run_equal_int {P : Program} {d : Nat} {t : TypeId} {kd : IntKind} {k : IntKind} {a b : Int} (hu : P.underlying t = some (.int kd)) : pureRun P (Op.equalIn (d + 1) t (.int k a) (.int k b)) = some (decide (a = b)) := by
  unfold Op.equalIn
  simp only [underlying, program, bind, Sem.bind, pureRun, hu, pure, if_true]
  rfl

theorem loop_eq {P : Program} {d : Nat} {xs ys : Array Value} : ∀ (fl : List Field) (j : Nat) (l m : List Value) (b : Bool), (∀ i, i < l.length → xs[j + i]? = l[i]?) → (∀ i, i < m.length → ys[j + i]? = m[i]?) → simpleF P fl j = true → l.length = fl.length → eqRes l m = some b →
    pureRun P (forIn fl ((none : Option Bool), ()) fun f __s =>
        if f.name ≠ "_" then
          (part f.type xs f.offset).bind fun __do_lift =>
            (part f.type ys f.offset).bind fun __do_lift_1 =>
              (Op.equalIn (d + 1) f.type __do_lift __do_lift_1).bind fun __do_lift =>
                if (!__do_lift) = true then Sem.pure (ForInStep.done (some false, ()))
                else Sem.pure (ForInStep.yield (none, ()))
        else Sem.pure (ForInStep.yield (none, ()))) = some (if b then (none, ()) else (some false, ()))
  | [], j, l, m, b, _, _, _, hl, he => by
    cases l with
    | cons _ _ => simp at hl
    | nil =>
      cases m with
      | cons _ _ => simp [eqRes] at he
      | nil =>
        simp only [eqRes, Option.some.injEq] at he
        subst he
        rfl
  | f :: fl, j, l, m, b, hx, hy, hs, hl, he => by
    cases l with
    | nil => simp at hl
    | cons v l =>
      cases m with
      | nil => cases v <;> simp [eqRes] at he
      | cons w m =>
        simp only [simpleF, Bool.and_eq_true] at hs
        obtain ⟨⟨⟨⟨h1, h2⟩, h3⟩, h4⟩, h5⟩ := hs
        have hoff : f.offset = j := Nat.eq_of_beq_eq_true h2
        have hagg : isAggT P f.type = some false := by
          split at h3
          · assumption
          · cases h3
        have hv : xs[f.offset]? = some v := by rw [hoff]; simpa using hx 0 (by simp)
        have hw : ys[f.offset]? = some w := by rw [hoff]; simpa using hy 0 (by simp)
        cases v with
        | int k1 a =>
          cases w with
          | int k2 c =>
            simp only [eqRes] at he
            split at he
            · rename_i hk
              subst hk
              split at h4
              · rename_i kd hu
                have hn : f.name ≠ "_" := by simpa using h1
                rw [List.forIn_cons]
                simp only [bind, hn, ne_eq, not_false_eq_true, if_true]
                simp only [pureRun_bnd, run_part hagg hv, run_part hagg hw, run_equal_int hu, Option.bind_some]
                by_cases hac : a = c
                · rw [if_pos hac] at he
                  simp only [hac, decide_true, Bool.not_true, Bool.false_eq_true, if_false, pureRun, Option.bind_some]
                  refine loop_eq fl (j + 1) l m b (fun i hi => ?_) (fun i hi => ?_) h5 (by simpa using hl) he
                  · have := hx (i + 1) (by simpa using hi)
                    rw [← Nat.add_assoc, Nat.add_right_comm] at this
                    simpa using this
                  · have := hy (i + 1) (by simpa using hi)
                    rw [← Nat.add_assoc, Nat.add_right_comm] at this
                    simpa using this
                · rw [if_neg hac] at he
                  simp only [Option.some.injEq] at he
                  subst he
                  simp only [hac, decide_false, Bool.not_false, if_true, pureRun, Option.bind_some]
                  rfl
              · cases h4
            · cases he
          | _ => simp [eqRes] at he
        | _ => simp [eqRes] at he

theorem run_equal_agg {P : Program} {t : TypeId} {fs : Array Field} {l m : List Value} {b : Bool} (hu : P.underlying t = some (.struct fs)) (hs : P.stoodInHeld t = false) (hf : simpleF P fs.toList 0 = true) (hl : l.length = fs.size) (he : eqRes l m = some b) :
    pureRun P (Op.equal t (.agg ⟨l⟩) (.agg ⟨m⟩)) = some b := by
  unfold Op.equal
  change pureRun P (Op.equalIn (9998 + 1 + 1) t (.agg ⟨l⟩) (.agg ⟨m⟩)) = some b
  unfold Op.equalIn
  simp only [underlying, program, bind, Sem.bind, pureRun, hu, pure, hs, Bool.false_eq_true, if_false]
  rw [pureRun_bnd]
  have := loop_eq (P := P) (d := 9998) (xs := ⟨l⟩) (ys := ⟨m⟩) fs.toList 0 l m b (fun i _ => by simp) (fun i _ => by simp) hf (by simpa using hl) he
  rw [← Array.forIn_toList, this]
  cases b <;> rfl

theorem run_checkKey {P : Program} {e : Bool} {d : Nat} {cs : Array Value} : ∀ (fl : List Field) (j : Nat), simpleF P fl j = true → j + fl.length ≤ cs.size →
    pureRun P (forIn fl PUnit.unit fun f __s =>
      if f.name ≠ "_" then
        (part f.type cs f.offset).bind fun __do_lift =>
          (Instr.checkKey e (d + 1) f.type __do_lift).bind fun _r => Sem.pure (ForInStep.yield PUnit.unit)
      else Sem.pure (ForInStep.yield PUnit.unit)) = some PUnit.unit
  | [], j, _, _ => rfl
  | f :: fl, j, hs, hl => by
    simp only [simpleF, Bool.and_eq_true] at hs
    obtain ⟨⟨⟨⟨h1, h2⟩, h3⟩, h4⟩, h5⟩ := hs
    have hoff : f.offset = j := Nat.eq_of_beq_eq_true h2
    have hagg : isAggT P f.type = some false := by
      split at h3
      · assumption
      · cases h3
    have hj : j < cs.size := by simp only [List.length_cons] at hl; omega
    have hv : cs[f.offset]? = some cs[j] := by rw [hoff]; exact Array.getElem?_eq_getElem hj
    split at h4
    · rename_i kd hu
      have hn : f.name ≠ "_" := by simpa using h1
      have hck : pureRun P (Instr.checkKey e (d + 1) f.type cs[j]) = some () := by
        unfold Instr.checkKey
        simp only [underlying, program, bind, Sem.bind, pureRun, hu, pure]
      rw [List.forIn_cons]
      simp only [bind, hn, ne_eq, not_false_eq_true, if_true]
      simp only [pureRun_bnd, run_part hagg hv, hck, Option.bind_some, pureRun]
      exact run_checkKey fl (j + 1) h5 (by simp only [List.length_cons] at hl; omega)
    · cases h4

/-- How a key of a map is compared. -/
def keyRes : KeyD → Value → Value → Option Bool
  | .int, .int j a, .int k b => if j = k then some (decide (a = b)) else none
  | .agg n, .agg ⟨l⟩, .agg ⟨m⟩ => match Nat.beq l.length n with
    | true => eqRes l m
    | false => none
  | _, _, _ => none

def findR (d : KeyD) (k : Value) : List MapEntry → Nat → Option (Option (Nat × Value))
  | [], _ => some none
  | e :: r, i => match keyRes d k e.key with
    | some true => some (some (i, e.val))
    | some false => findR d k r (i + 1)
    | none => none

theorem keyD_agg {P : Program} {t : TypeId} {n : Nat} (h : keyD P t = some (.agg n)) : ∃ fs, P.underlying t = some (.struct fs) ∧ P.stoodInHeld t = false ∧ simpleF P fs.toList 0 = true ∧ fs.size = n := by
  unfold keyD at h
  split at h
  · cases h
  · rename_i fs hu
    split at h
    · rename_i h1 h2
      cases h
      exact ⟨fs, hu, h1, h2, rfl⟩
    · cases h
  · cases h

theorem keyD_int {P : Program} {t : TypeId} (h : keyD P t = some .int) : ∃ kd, P.underlying t = some (.int kd) := by
  unfold keyD at h
  split at h
  · rename_i kd hu
    exact ⟨kd, hu⟩
  · split at h <;> cases h
  · cases h

theorem keyRes_agg {n : Nat} {k w : Value} {b : Bool} (h : keyRes (.agg n) k w = some b) : ∃ l m, k = .agg ⟨l⟩ ∧ w = .agg ⟨m⟩ ∧ l.length = n ∧ eqRes l m = some b := by
  cases k with
  | agg a =>
    cases w with
    | agg c =>
      obtain ⟨l⟩ := a
      obtain ⟨m⟩ := c
      simp only [keyRes] at h
      split at h
      · rename_i hl
        exact ⟨l, m, rfl, rfl, Nat.eq_of_beq_eq_true hl, h⟩
      · cases h
    | _ => simp [keyRes] at h
  | _ => simp [keyRes] at h

theorem keyRes_int {k w : Value} {b : Bool} (h : keyRes .int k w = some b) : ∃ j x y, k = .int j x ∧ w = .int j y ∧ b = decide (x = y) := by
  cases k with
  | int j x =>
    cases w with
    | int j' y =>
      simp only [keyRes] at h
      split at h
      · rename_i hj
        subst hj
        exact ⟨j, x, y, rfl, rfl, by simpa using h.symm⟩
      · cases h
    | _ => simp [keyRes] at h
  | _ => simp [keyRes] at h

theorem findAsking_ok {P : Program} {t : TypeId} {n : Nat} (hd : keyD P t = some (.agg n)) {k : Value} : ∀ (es : List MapEntry) (i : Nat) (r : Option (Nat × Value)), findR (.agg n) k es i = some r → pureRun P (Instr.findAsking t k es i) = some r
  | [], i, r, h => by
    simp only [findR, Option.some.injEq] at h
    subst h
    rfl
  | e :: es, i, r, h => by
    obtain ⟨fs, hu, hs, hf, hn⟩ := keyD_agg hd
    have key : ∀ b, keyRes (.agg n) k e.key = some b → pureRun P (Op.equal t k e.key) = some b := fun b hb => by
      obtain ⟨l, m, h1, h2, h3, h4⟩ := keyRes_agg hb
      rw [h1, h2]
      exact run_equal_agg hu hs hf (by rw [h3, hn]) h4
    simp only [findR] at h
    unfold Instr.findAsking
    simp only [bind, pureRun_bnd]
    split at h
    · rename_i hk
      rw [key _ hk]
      simp only [Option.some.injEq] at h
      subst h
      rfl
    · rename_i hk
      rw [key _ hk]
      exact findAsking_ok hd es (i + 1) r h
    · cases h

theorem findNow_int {kd : IntKind} {k : Value} : ∀ (es : List MapEntry) (i : Nat) (r : Option (Nat × Value)), findR .int k es i = some r → Instr.findNow (.int kd) k es i = some r
  | [], i, r, h => by simpa [findR, Instr.findNow] using h
  | e :: es, i, r, h => by
    have key : ∀ b, keyRes .int k e.key = some b → Instr.sameNow (.int kd) k e.key = some b := fun b hb => by
      obtain ⟨j, x, y, h1, h2, rfl⟩ := keyRes_int hb
      rw [h1, h2]
      simp only [Instr.sameNow, if_true]
      rfl
    simp only [findR] at h
    unfold Instr.findNow
    split at h
    · rename_i hk
      rw [key _ hk]
      exact h
    · rename_i hk
      rw [key _ hk]
      exact findNow_int es (i + 1) r h
    · cases h

theorem findKey_ok {P : Program} {t : TypeId} {d : KeyD} (hd : keyD P t = some d) {k : Value} {es : List MapEntry} {r : Option (Nat × Value)} (h : findR d k es 0 = some r) : pureRun P (Instr.findKey t k es) = some r := by
  cases d with
  | int =>
    obtain ⟨kd, hu⟩ := keyD_int hd
    simp only [Instr.findKey, underlying, program, bind, Sem.bind, pureRun, hu, pure, findNow_int (kd := kd) es 0 r h]
  | agg n =>
    obtain ⟨fs, hu, hs, hf, hn⟩ := keyD_agg hd
    simp only [Instr.findKey, underlying, program, bind, Sem.bind, pureRun, hu, pure]
    cases es with
    | nil =>
      simp only [findR, Option.some.injEq] at h
      subst h
      rfl
    | cons e es =>
      have : Instr.findNow (.struct fs) k (e :: es) 0 = none := by
        unfold Instr.findNow
        have h2 : Instr.sameNow (.struct fs) k e.key = none := by
          first | rfl | (cases k <;> rfl) | simp [Instr.sameNow]
        rw [h2]
      rw [this]
      exact findAsking_ok hd (e :: es) 0 r h

/-- The value is such a key. -/
def isKey : KeyD → Value → Bool
  | .int, .int _ _ => true
  | .agg n, .agg ⟨l⟩ => Nat.beq l.length n
  | _, _ => false

theorem checkKey_ok {P : Program} {t : TypeId} {d : KeyD} (hd : keyD P t = some d) {e : Bool} {k : Value} (hk : isKey d k = true) : pureRun P (Instr.checkKey e 10000 t k) = some () := by
  change pureRun P (Instr.checkKey e (9998 + 1 + 1) t k) = some ()
  unfold isKey at hk
  split at hk
  · obtain ⟨kd, hu⟩ := keyD_int hd
    unfold Instr.checkKey
    simp only [underlying, program, bind, Sem.bind, pureRun, hu, pure]
  · rename_i n l
    obtain ⟨fs, hu, hs, hf, hn⟩ := keyD_agg hd
    unfold Instr.checkKey
    simp only [underlying, program, bind, Sem.bind, pureRun, hu, pure]
    rw [pureRun_bnd, ← Array.forIn_toList, run_checkKey fs.toList 0 hf (by
      have := Nat.eq_of_beq_eq_true hk
      simp only [Nat.zero_add, Array.length_toList, List.size_toArray]
      omega)]
    rfl
  · cases hk

theorem findIn_ok {P : Program} {t : TypeId} {d : KeyD} (hd : keyD P t = some d) {k : Value} {es : List MapEntry} {r : Option (Nat × Value)} (hk : isKey d k = true) (hfl : (es.all fun e => flat e.key) = true) (h : findR d k es 0 = some r) {e : Bool} :
    (match es.all fun e => flat e.key with
      | false => none
      | true => pureRun P (do Instr.checkKey e 10000 t k; Instr.findKey t k es)) = some r := by
  rw [hfl]
  simp only [bind, pureRun_bnd, checkKey_ok hd hk, Option.bind_some]
  exact findKey_ok hd h

noncomputable section

def intsK (l : List Value) (d k : Ans) : Ans := List.rec (motive := fun _ => Ans) k (fun v _ ih => intK v d fun _ _ => ih) l

theorem intsK_ok {d k : Ans} : ∀ {l : List Value}, Yes (intsK l d k) → (flatL l = true ∧ Yes (k)) ∨ Yes (d)
  | [], h => .inl ⟨rfl, h⟩
  | v :: r, h => by
    rcases intK_ok (v := v) (d := d) (k := fun _ _ => intsK r d k) h with ⟨kd, n, e1, h1⟩ | h1
    · rcases intsK_ok h1 with ⟨h2, h3⟩ | h3
      · subst e1
        exact .inl ⟨by simp only [flatL, flat, h2, Bool.and_self], h3⟩
      · exact .inr h3
    · exact .inr h1

def aggK (v : Value) (d : Ans) (k : List Value → Ans) : Ans :=
  Value.rec (motive_1 := fun _ => Ans) (motive_2 := fun _ => Unit) (motive_3 := fun _ => Unit)
    (fun _ => d) (fun _ _ => d) (fun _ _ => d) (fun _ _ _ => d) (fun _ => d) (fun _ => d) (fun _ _ _ => d)
    (fun _ => d) (fun _ => d) (fun _ _ _ _ _ => d) d (fun _ _ _ => d) d (fun a _ => Array.rec (motive := fun _ => Ans) k a) (fun _ _ => d)
    (fun _ _ => ()) () (fun _ _ _ _ => ()) v

theorem aggK_ok {v : Value} {d : Ans} {k : List Value → Ans} (h : Yes (aggK v d k)) : (∃ l, v = .agg ⟨l⟩ ∧ Yes (k l)) ∨ Yes (d) := by
  cases v with
  | agg a => exact .inl ⟨a.toList, by cases a; rfl, by cases a; exact h⟩
  | _ => exact .inr h

def mapK (v : Value) (d : Ans) (k : Nat → Ans) : Ans :=
  Value.rec (motive_1 := fun _ => Ans) (motive_2 := fun _ => Unit) (motive_3 := fun _ => Unit)
    (fun _ => d) (fun _ _ => d) (fun _ _ => d) (fun _ _ _ => d) (fun _ => d) (fun _ => d) (fun _ _ _ => d)
    (fun r => Option.rec (motive := fun _ => Ans) d k r) (fun _ => d) (fun _ _ _ _ _ => d) d (fun _ _ _ => d) d (fun _ _ => d) (fun _ _ => d)
    (fun _ _ => ()) () (fun _ _ _ _ => ()) v

theorem mapK_ok {v : Value} {d : Ans} {k : Nat → Ans} (h : Yes (mapK v d k)) : (∃ r, v = .map (some r) ∧ Yes (k r)) ∨ Yes (d) := by
  cases v with
  | map r =>
    cases r with
    | none => exact .inr h
    | some r => exact .inl ⟨r, rfl, h⟩
  | _ => exact .inr h

def mapObjK (o : AObj) (d : Ans) (k : List MapEntry → Nat → Ans) : Ans :=
  AObj.rec (motive := fun _ => Ans) (fun _ _ _ => d) (fun _ _ _ => d) (fun _ _ => d) k (fun _ _ => d) (fun _ _ _ _ => d) (fun _ _ _ _ _ _ _ => d) (fun _ => d) o

theorem mapObjK_ok {o : AObj} {d : Ans} {k : List MapEntry → Nat → Ans} (h : Yes (mapObjK o d k)) : (∃ es c, o = .map es c ∧ Yes (k es c)) ∨ Yes (d) := by
  cases o <;> first | exact .inl ⟨_, _, rfl, h⟩ | exact .inr h

def eqLK (l m : List Value) (d t f : Ans) : Ans :=
  List.rec (motive := fun _ => List Value → Ans) (fun m => List.rec (motive := fun _ => Ans) t (fun _ _ _ => d) m)
    (fun v _ ih m => List.rec (motive := fun _ => Ans) d (fun w q _ => intK v d fun j a => intK w d fun k b => same j k d (bite (eqI a b) (ih q) f)) m) l m

theorem eqLK_ok {d t f : Ans} : ∀ {l m : List Value}, Yes (eqLK l m d t f) → (eqRes l m = some true ∧ Yes (t)) ∨ (eqRes l m = some false ∧ Yes (f)) ∨ Yes (d)
  | [], [], h => .inl ⟨rfl, h⟩
  | [], _ :: _, h => .inr (.inr h)
  | _ :: _, [], h => .inr (.inr h)
  | v :: l, w :: m, h => by
    have h0 : Yes ((intK v d fun j a => intK w d fun k b => same j k d (bite (eqI a b) (eqLK l m d t f) f))) := h
    rcases intK_ok h0 with ⟨j, a, e1, h1⟩ | h1
    · rcases intK_ok h1 with ⟨k, b, e2, h2⟩ | h2
      · rcases same_ok h2 with ⟨e3, h3⟩ | h3
        · subst e1
          subst e2
          subst e3
          rw [eqI_eq] at h3
          rcases bite_ok h3 with ⟨h4, h5⟩ | ⟨h4, h5⟩
          · simp only [eqRes, if_true, of_decide_eq_true h4]
            exact eqLK_ok h5
          · refine .inr (.inl ⟨?_, h5⟩)
            have := of_decide_eq_false h4
            simp only [eqRes, if_true, this, if_false]
        · exact .inr (.inr h3)
      · exact .inr (.inr h2)
    · exact .inr (.inr h1)

/-- The question for a key. -/
structure AskC where
  run : Value → Ans → ((Value → Ans → Ans → Ans → Ans) → Ans) → Ans

def askC (d : KeyD) : AskC :=
  match d with
  | .int => ⟨fun v x c => intK v x fun ka a => c fun key d t f => intK key d fun kb b => same ka kb d (bite (eqI a b) t f)⟩
  | .agg n => ⟨fun v x c => aggK v x fun l => bite (Nat.beq l.length n) (intsK l x (c fun key d t f => aggK key d fun m => eqLK l m d t f)) x⟩

def AskOK (d : KeyD) (k : Value) (q : Value → Ans → Ans → Ans → Ans) : Prop :=
  ∀ key x t f, Yes (q key x t f) → (keyRes d k key = some true ∧ Yes (t)) ∨ (keyRes d k key = some false ∧ Yes (f)) ∨ Yes (x)

theorem askC_ok {d : KeyD} {v : Value} {x : Ans} {c : (Value → Ans → Ans → Ans → Ans) → Ans} (h : Yes ((askC d).run v x c)) :
    (∃ q, AskOK d v q ∧ isKey d v = true ∧ flat v = true ∧ Yes (c q)) ∨ Yes (x) := by
  cases d with
  | int =>
    rcases intK_ok h with ⟨ka, a, e1, h1⟩ | h1
    · refine .inl ⟨_, ?_, by rw [e1]; rfl, by rw [e1]; rfl, h1⟩
      intro key x t f hq
      rcases intK_ok hq with ⟨kb, b, e2, h2⟩ | h2
      · rcases same_ok h2 with ⟨e3, h3⟩ | h3
        · subst e1
          subst e2
          subst e3
          rw [eqI_eq] at h3
          rcases bite_ok h3 with ⟨h4, h5⟩ | ⟨h4, h5⟩
          · exact .inl ⟨by simp only [keyRes, if_true, h4], h5⟩
          · exact .inr (.inl ⟨by simp only [keyRes, if_true, h4], h5⟩)
        · exact .inr (.inr h3)
      · exact .inr (.inr h2)
    · exact .inr h1
  | agg n =>
    have h0 : Yes ((aggK v x fun l => bite (Nat.beq l.length n) (intsK l x (c fun key d t f => aggK key d fun m => eqLK l m d t f)) x)) := h
    rcases aggK_ok h0 with ⟨l, e1, h1⟩ | h1
    · rcases bite_ok h1 with ⟨h2, h3⟩ | ⟨_, h3⟩
      · rcases intsK_ok h3 with ⟨h4, h5⟩ | h5
        · refine .inl ⟨_, ?_, by rw [e1]; exact h2, by rw [e1]; exact h4, h5⟩
          intro key x t f hq
          rcases aggK_ok hq with ⟨m, e2, h6⟩ | h6
          · subst e1
            subst e2
            rcases eqLK_ok h6 with ⟨h7, h8⟩ | ⟨h7, h8⟩ | h8
            · exact .inl ⟨by simp only [keyRes, h2, h7], h8⟩
            · exact .inr (.inl ⟨by simp only [keyRes, h2, h7], h8⟩)
            · exact .inr (.inr h8)
          · exact .inr (.inr h6)
        · exact .inr h5
      · exact .inr h3
    · exact .inr h1

structure FlatC where
  run : Value → Ans → Ans → Ans

def flatC (d : KeyD) : FlatC :=
  match d with
  | .int => ⟨fun v x k => intK v x fun _ _ => k⟩
  | .agg _ => ⟨fun v x k => aggK v x fun l => intsK l x k⟩

theorem flatC_ok {d : KeyD} {v : Value} {x k : Ans} (h : Yes ((flatC d).run v x k)) : (flat v = true ∧ Yes (k)) ∨ Yes (x) := by
  cases d with
  | int =>
    rcases intK_ok h with ⟨kd, n, e1, h1⟩ | h1
    · exact .inl ⟨by rw [e1]; rfl, h1⟩
    · exact .inr h1
  | agg n =>
    rcases aggK_ok h with ⟨l, e1, h1⟩ | h1
    · rcases intsK_ok h1 with ⟨h2, h3⟩ | h3
      · exact .inl ⟨by rw [e1]; exact h2, h3⟩
      · exact .inr h3
    · exact .inr h1

def flatsK (c : FlatC) (es : List MapEntry) (x k : Ans) : Ans :=
  List.rec (motive := fun _ => Ans) k (fun e _ ih => MapEntry.rec (motive := fun _ => Ans) (fun key _ _ => c.run key x ih) e) es

theorem flatsK_ok {d : KeyD} {x k : Ans} : ∀ {es : List MapEntry}, Yes (flatsK (flatC d) es x k) → ((es.all fun e => flat e.key) = true ∧ Yes (k)) ∨ Yes (x)
  | [], h => .inl ⟨rfl, h⟩
  | ⟨key, val, born⟩ :: r, h => by
    rcases flatC_ok (d := d) (v := key) (x := x) (k := flatsK (flatC d) r x k) h with ⟨h1, h2⟩ | h2
    · rcases flatsK_ok h2 with ⟨h3, h4⟩ | h4
      · exact .inl ⟨by simp only [List.all_cons, h1, h3, Bool.and_self], h4⟩
      · exact .inr h4
    · exact .inr h2

def findK (q : Value → Ans → Ans → Ans → Ans) (es : List MapEntry) (x : Ans) (s : KV) (n : Ans) : Ans :=
  List.rec (motive := fun _ => Ans) n (fun e _ ih => MapEntry.rec (motive := fun _ => Ans) (fun key val _ => q key x (s val) ih) e) es

theorem findK_ok {d : KeyD} {k : Value} {q : Value → Ans → Ans → Ans → Ans} (hq : AskOK d k q) {x : Ans} {s : KV} {n : Ans} : ∀ {es : List MapEntry} (i0 : Nat), Yes (findK q es x s n) →
    (∃ i v, findR d k es i0 = some (some (i, v)) ∧ Yes (s v)) ∨ (findR d k es i0 = some none ∧ Yes (n)) ∨ Yes (x)
  | [], i0, h => .inr (.inl ⟨rfl, h⟩)
  | ⟨key, val, born⟩ :: r, i0, h => by
    rcases hq key x (s val) (findK q r x s n) h with ⟨h1, h2⟩ | ⟨h1, h2⟩ | h2
    · exact .inl ⟨i0, val, by simp only [findR, h1], h2⟩
    · rcases findK_ok hq (i0 + 1) h2 with ⟨i, v, h3, h4⟩ | ⟨h3, h4⟩ | h4
      · exact .inl ⟨i, v, by simp only [findR, h1, h3], h4⟩
      · exact .inr (.inl ⟨by simp only [findR, h1, h3], h4⟩)
      · exact .inr (.inr h4)
    · exact .inr (.inr h2)

def snocK (es : List MapEntry) (x : MapEntry) (k : List MapEntry → Ans) : Ans :=
  List.rec (motive := fun _ => (List MapEntry → Ans) → Ans) (fun k => k [x]) (fun e _ ih k => ih fun l => k (e :: l)) es k

theorem snocK_eq (x : MapEntry) : ∀ (es : List MapEntry) (k : List MapEntry → Ans), snocK es x k = k (es ++ [x])
  | [], _k => rfl
  | e :: r, k => snocK_eq x r fun l => k (e :: l)

end
end Go.Eng
