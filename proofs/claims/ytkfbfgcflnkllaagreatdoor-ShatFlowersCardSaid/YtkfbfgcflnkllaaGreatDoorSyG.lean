/- Code that may come to more than one end: ranges over maps. What is so at every end is so of the model's run. -/
import Derived.Test.YtkfbfgcflnkllaaGreatDoorSyF
namespace Go.Eng
open Go.RowKit

/-- The range over a map has a next entry, or none. -/
def NextG (h : Hp) (x : Value) : Prop := ∃ r m since seen last es clock, x = ptr r 0 ∧ h.get r = some (.miter m since seen last) ∧ h.get m = some (.map es clock) ∧ (∀ e ∈ es, e.born < since) ∧ since ≤ last

/-- What the next entry may be. -/
def NextR (h : Hp) (x v : Value) (h' : Hp) : Prop := ∃ r m since seen last es clock, x = ptr r 0 ∧ h.get r = some (.miter m since seen last) ∧ h.get m = some (.map es clock) ∧
  (((∀ e ∈ es, e.born ∈ seen) ∧ v = .tuple #[.bool false] ∧ h' = h) ∨ ∃ e ∈ es, e.born ∉ seen ∧ v = .tuple #[.bool true, e.key, e.val] ∧ h' = h.put r (.miter m since (seen ++ [e.born]) clock))

def rangeMapOp (P : Program) (h : Hp) (t : TypeId) (x : Value) : Option (Value × Hp) :=
  match P.underlying t, x with
  | some (.map _ _), .map (some m) => match h.get m with
    | some (.map _ clock) => some (ptr h.next 0, h.new (.miter m clock [] clock))
    | _ => none
  | _, _ => none

def entryOp (h : Hp) (x : Value) : Option (Value × Hp) :=
  match x with
  | .pointer (some ⟨r, 0, none⟩) => match h.get r with
    | some (.miter m _ seen last) => match seen.getLast?, h.get m with
      | some st, some (.map es clock) => match Nat.beq clock last, es.find? fun e => Nat.beq e.born st with
        | true, some e => some (.tuple #[e.key, e.val], h)
        | _, _ => none
      | _, _ => none
    | _ => none
  | _ => none

section
variable {P : Program} {B : Prot} {w0 : World} {E : Env} {h : Hp} {w : World}

theorem HpOK.rangeMap {t : TypeId} {x v : Value} {h' : Hp} (H : HpOK P B w0 E h w) (ha : rangeMapOp P h t x = some (v, h')) :
    ∃ E' w', (Instr.range t (con E x)).run P w = .ok (con E' v) w' ∧ HpOK P B w0 E' h' w' ∧ Agree h.next E E' ∧ h.next ≤ h'.next ∧ sc h'.next v = true := by
  unfold rangeMapOp at ha
  split at ha
  · rename_i kt et m hu
    split at ha
    · rename_i es clock hg
      cases ha
      obtain ⟨h1, h2, O, h3, h4, h5⟩ := H.obj m _ hg
      subst h4
      have hgo : (getObj (E.μ m)).run P w = .ok (.map (es.map (conE E)).toArray clock) w := by simp [getObj, Sem.run, h3]
      have a1 := Env.ext_agree E h.next w.heap.size 0
      refine ⟨_, _, ?_, H.new 0 (New.alloc w (.mapIter (some (E.μ m)) clock #[] clock)) (o := .miter m clock [] clock) ⟨Nat.lt_succ_of_lt h1, by rw [← (a1 m h1).1]⟩, a1, by simp, by simp [sc]⟩
      simp [Instr.range, con, run_underlying hu, hgo, Env.ext]
    · cases ha
  · cases ha

theorem beq_nat (a b : Nat) : (a == b) = Nat.beq a b := by
  cases h : Nat.beq a b with
  | true => rw [Nat.eq_of_beq_eq_true h]; exact beq_self_eq_true b
  | false => exact beq_eq_false_iff_ne.2 (Nat.ne_of_beq_eq_false h)

theorem HpOK.entry {x v : Value} {h' : Hp} (H : HpOK P B w0 E h w) (ha : entryOp h x = some (v, h')) :
    (Instr.entry (con E x)).run P w = .ok (con E v) w ∧ h' = h ∧ sc h.next v = true := by
  unfold entryOp at ha
  split at ha
  · rename_i r
    split at ha
    · rename_i m since seen last hg
      split at ha
      · rename_i st es clock hs hgm
        split at ha
        · rename_i e hb hf
          cases ha
          obtain ⟨h1, h2, O, h3, h4, h5⟩ := H.obj m _ hgm
          subst h4
          obtain ⟨q1, q2, O', q3, q4, q5⟩ := H.obj r _ hg
          subst q5
          have hb := Nat.eq_of_beq_eq_true hb
          subst hb
          have hgo : (getObj (E.μ m)).run P w = .ok (.map (es.map (conE E)).toArray clock) w := by simp [getObj, Sem.run, h3]
          have hgr : (getObj (E.μ r)).run P w = .ok (.mapIter (some (E.μ m)) since seen.toArray clock) w := by simp [getObj, Sem.run, q3]
          have hfd : (es.map (conE E)).toArray.find? (fun x => x.born == st) = some (conE E e) := by
            rw [List.find?_toArray, List.find?_map, show ((fun x : MapEntry => x.born == st) ∘ conE E) = fun e => Nat.beq e.born st from funext fun e => beq_nat _ _, hf]
            rfl
          have hbk : seen.toArray.back? = some st := by rw [List.back?_toArray]; exact hs
          refine ⟨?_, rfl, ?_⟩
          · simp [Instr.entry, con, hgr, hbk, hgo, hfd, conE, conA, conL]
          · have := h5 e (List.mem_of_find?_eq_some hf)
            simp [sc, scA, scL, this]
        · cases ha
      · cases ha
    · cases ha
  · cases ha

theorem choose_one (w : World) : (choose (.mapNext 1)).run P w = .ok 0 w := by
  simp [choose, Sem.run, Question.forced]

theorem choose_any (n : Nat) (hn : 0 < n) (w : World) : ∃ k w', k < n ∧ (w' = w ∨ w' = w.drew) ∧ (choose (.mapNext n)).run P w = .ok k w' := by
  by_cases h1 : n ≤ 1
  · have : n = 1 := by omega
    subst this
    exact ⟨0, w, hn, .inl rfl, choose_one w⟩
  · refine ⟨_, w.drew, ?_, .inr rfl, choose_run (by simp [Question.forced]; omega) w⟩
    simp only [Question.cut]
    exact Nat.mod_lt _ hn

theorem HpOK.nextMap {x : Value} (t : TypeId) (H : HpOK P B w0 E h w) (hG : NextG h x) :
    ∃ v h' w', NextR h x v h' ∧ (Instr.next (con E x) false t).run P w = .ok (con E v) w' ∧ HpOK P B w0 E h' w' ∧ h'.next = h.next ∧ sc h'.next v = true := by
  obtain ⟨r, m, since, seen, last, es, clock, rfl, hg, hgm, hb, hle⟩ := hG
  obtain ⟨h1, h2, O, h3, h4, h5⟩ := H.obj m _ hgm
  subst h4
  obtain ⟨q1, q2, O', q3, q4, q5⟩ := H.obj r _ hg
  subst q5
  have hgo : ∀ w', (w' = w ∨ w' = w.drew) → (getObj (E.μ m)).run P w' = .ok (.map (es.map (conE E)).toArray clock) w' := by
    intro w' hw
    have : w'.heap = w.heap := by rcases hw with rfl | rfl <;> rfl
    simp [getObj, Sem.run, this, h3]
  have hgr : (getObj (E.μ r)).run P w = .ok (.mapIter (some (E.μ m)) since seen.toArray last) w := by simp [getObj, Sem.run, q3]
  have hno : (!seen.toArray.isEmpty && !(es.map (conE E)).toArray.isEmpty && (es.map (conE E)).toArray.all fun e => decide (e.born ≥ last)) = false := by
    cases es with
    | nil => simp
    | cons e es =>
      have := hb e List.mem_cons_self
      have h6 : ¬ last ≤ e.born := by omega
      simp [conE, h6]
  have hleft : (es.map (conE E)).toArray.filter (fun e => !seen.toArray.contains e.born) = ((es.filter fun e => !seen.contains e.born).map (conE E)).toArray := by
    rw [List.filter_toArray, List.filter_map]
    congr 2
    apply List.filter_congr
    intro e _
    simp only [Function.comp, conE, List.contains_toArray]
  have hold : ∀ l : List MapEntry, (∀ e ∈ l, e ∈ es) → ((l.map (conE E)).toArray.filter fun e => decide (e.born < since)) = (l.map (conE E)).toArray := fun l hl => by
    rw [List.filter_toArray, List.filter_eq_self.2]
    intro e he
    obtain ⟨e', h6, rfl⟩ := List.mem_map.1 he
    exact decide_eq_true (hb e' (hl e' h6))
  have hnew : ∀ l : List MapEntry, (∀ e ∈ l, e ∈ es) → ((l.map (conE E)).toArray.filter fun e => decide (e.born ≥ since)) = #[] := fun l hl => by
    rw [List.filter_toArray, List.filter_eq_nil_iff.2]
    intro e he
    obtain ⟨e', h6, rfl⟩ := List.mem_map.1 he
    have := hb e' (hl e' h6)
    simp [conE]
    exact this
  have hsub : ∀ e ∈ es.filter (fun e => !seen.contains e.born), e ∈ es := fun e he => (List.mem_filter.1 he).1
  have hon := hold _ hsub
  have hnn := hnew _ hsub
  cases hl : es.filter (fun e => !seen.contains e.born) with
  | nil =>
    refine ⟨.tuple #[.bool false], h, w, ⟨r, m, since, seen, last, es, clock, rfl, hg, hgm, .inl ⟨fun e he => ?_, rfl, rfl⟩⟩, ?_, H, rfl, by simp [sc, scA, scL]⟩
    · by_cases hs : e.born ∈ seen
      · exact hs
      · have : e ∈ es.filter (fun e => !seen.contains e.born) := List.mem_filter.2 ⟨he, by simpa using hs⟩
        rw [hl] at this
        cases this
    · rw [hl] at hleft hon hnn
      simp only [Instr.next, con, Sem.run_bind, hgr, Result.andThen_ok, hgo w (.inl rfl)]
      rw [if_neg (by rw [hno]; simp)]
      simp only [hleft, hon, hnn]
      simp [choose, Sem.run, Question.forced, Result.andThen, con, conA, conL]
  | cons e0 l0 =>
    obtain ⟨k, w1, hk, hw1, hc⟩ := choose_any (P := P) (e0 :: l0).length (by simp) w
    rw [hl] at hleft hon hnn hsub
    have hget := List.getElem_mem hk
    have hin := List.mem_filter.1 (show (e0 :: l0)[k] ∈ es.filter (fun e => !seen.contains e.born) by rw [hl]; exact hget)
    have hns : (e0 :: l0)[k].born ∉ seen := by simpa using hin.2
    have hgr1 : w1.heap = w.heap := by rcases hw1 with rfl | rfl <;> rfl
    have hso : ∀ o : Obj, (setObj (E.μ r) o).run P w1 = .ok () { w1 with heap := w1.heap.setIfInBounds (E.μ r) o } := by intro o; simp [setObj, Sem.run, hgr1, q3]
    have H1 : HpOK P B w0 E h w1 := by rcases hw1 with rfl | rfl; exact H; exact H.drew
    refine ⟨.tuple #[.bool true, (e0 :: l0)[k].key, (e0 :: l0)[k].val], h.put r (.miter m since (seen ++ [(e0 :: l0)[k].born]) clock), _, ⟨r, m, since, seen, last, es, clock, rfl, hg, hgm, .inr ⟨_, hin.1, hns, rfl, rfl⟩⟩, ?_,
      H1.upd hg rfl rfl (Upd.setObj (H1.lt hg)) (O := .mapIter (some (E.μ m)) since (seen.toArray.push (e0 :: l0)[k].born) clock) ⟨h1, by simp⟩, rfl, ?_⟩
    · simp only [Instr.next, con, Sem.run_bind, hgr, Result.andThen_ok, hgo w (.inl rfl)]
      rw [if_neg (by rw [hno]; simp)]
      simp only [hleft, hon, hnn]
      have hc' : (choose (.mapNext (((if (List.map (conE E) (e0 :: l0)).toArray.isEmpty = true then #[none] else #[]) ++ Array.map some ((List.map (conE E) (e0 :: l0)).toArray ++ #[])) : Array (Option MapEntry)).size)).run P w = .ok k w1 := by
        simpa using hc
      rw [Sem.run_bind, hc']
      simp only [Result.andThen_ok]
      have hidx : (((if (List.map (conE E) (e0 :: l0)).toArray.isEmpty = true then #[none] else #[]) ++ Array.map some ((List.map (conE E) (e0 :: l0)).toArray ++ #[])) : Array (Option MapEntry))[k]? = some (some (conE E (e0 :: l0)[k])) := by
        rw [if_neg (by simp)]
        simp only [Array.empty_append, Array.append_empty, List.map_toArray, List.getElem?_toArray, List.map_map]
        rw [List.getElem?_map, List.getElem?_eq_getElem hk]
        rfl
      simp only [hidx]
      simp [hso, con, conA, conL, conE]
    · have := h5 _ hin.1
      simp [sc, scA, scL, this]
end

noncomputable section

/-- The operations of a range over a map. -/
def isAnyOp (P : Program) (o : Oper) : Bool :=
  match o.guard with
  | some _ => false
  | none => match o.op with
    | .next _ false => true
    | .entry _ => true
    | .range t _ => match P.underlying t with
      | some (.map _ _) => true
      | _ => false
    | _ => false

def opT (P : Program) (o : Oper) : OpS :=
  match o.op.operands.all (okOpd P) with
  | false => ⟨fun _ _ _ => .bad⟩
  | true => match o.op with
    | .next x false => ⟨fun f h k => .any (NextG h (oev f x)) (NextR h (oev f x)) k⟩
    | .entry x => ⟨fun f h k => .ask (entryOp h (oev f x)) k⟩
    | .range t x => ⟨fun f h k => .ask (rangeMapOp P h t (oev f x)) k⟩
    | _ => ⟨fun _ _ _ => .bad⟩

def opsT (callF : CallF) (P : Program) (n : Nat) (ops : Array Oper) : List Oper → RegS
  | [] => ⟨fun f h k => k f h⟩
  | o :: r => match isAnyOp P o with
    | true => ⟨fun f h k => (opT P o).run f h fun v h => (opsT callF P n ops r).run (putS n o.dst v f) h k⟩
    | false => match isLate P o.op with
      | true => ⟨fun f h k => wantS ops f o.guard (fun f => .ask (lateV P o (smallFm f o) h) fun v h => (opsT callF P n ops r).run (putS n o.dst v f) h k)
          (fun f => (opsT callF P n ops r).run (putS n o.dst undef f) h k)⟩
      | false => ⟨fun f h k => wantS ops f o.guard (fun f => (opS callF P o).run f h fun v h => (opsT callF P n ops r).run (putS n o.dst v f) h k)
          (fun f => (opsT callF P n ops r).run (putS n o.dst undef f) h k)⟩

def codeT (κ : Cx) (callF : CallF) (P : Program) (lf n : Nat) : Code → CodeS
  | .region _ ops false => ⟨fun f h k _ => (opsT callF P n ops ops.toList).run f h k⟩
  | .seq a b => ⟨fun f h k x => (codeT κ callF P lf n a).run f h (fun f h => (codeT κ callF P lf n b).run f h k x) x⟩
  | .cond c a b => match okOpd P c with
    | true => ⟨fun f h k x => condS f c (fun f => (codeT κ callF P lf n a).run f h k x) (fun f => (codeT κ callF P lf n b).run f h k x)⟩
    | false => ⟨fun _ _ _ _ => .bad⟩
  | .block id b => ⟨fun f h k x => (codeT κ callF P lf n b).run f h k fun ex f h => Ex.rec (motive := fun _ => SA) .bad (fun i => Bool.rec (motive := fun _ => SA) (x (.exit i) f h) (k f h) (Nat.beq i id)) (x .ret f h) ex⟩
  | .loop b => ⟨fun f h _ x => .cut lf (bodyS (codeT κ callF P lf n b) x) f h⟩
  | .scope b => codeT κ callF P lf n b
  | c => codeS κ callF P lf n c

def fnT (P : Program) (O : Orc) (lf n : Nat) (f : FuncId) (args : List Value) (h : Hp) : SA :=
  match P.funcs[f]? with
  | none => .bad
  | some fn => match fn.body, fn.name == "runtime.NumGoroutine", Nat.ble args.length fn.ntmps && Nat.ble fn.ntmps slotD with
    | some body, false, true => (codeT ⟨none, hasRng body⟩ (evInv P O lf n) P lf fn.ntmps body).run (argFr args) h (fun f h => endS P (hasRng body) fn.results.toList f h)
        fun ex f h => Ex.rec (motive := fun _ => SA) (endS P (hasRng body) fn.results.toList f h) (fun _ => .bad) (endS P (hasRng body) fn.results.toList f h) ex
    | _, _, _ => .bad

section
variable {P : Program} {Q : Value → Hp → Prop}

/-- One of these operations, as the model runs it. -/
theorem opT_ok {B : Prot} {w0 : World} {E : Env} {o : Oper} {κ : Cx} {n : Nat} {F : Fm} {f : Fr} {h : Hp} {w : World} {k : Value → Hp → SA} {ρ : Operand → Value} (hr : Rel κ n F f) (H : HpOK P B w0 E h w)
    (hρ : ∀ x ∈ o.op.operands, okOpd P x = true → ρ x = con E (F.eval x) ∧ sc h.next (F.eval x) = true) (hk : Ok Q ((opT P o).run f h k)) :
    ∃ v h' E' w', Ok Q (k v h') ∧ (execOp ρ o).run P w = .ok (.value (con E' v)) w' ∧ HpOK P B w0 E' h' w' ∧ Agree h.next E E' ∧ h.next ≤ h'.next ∧ sc h'.next v = true := by
  unfold opT at hk
  split at hk
  · exact hk.elim
  · rename_i hok
    rw [Array.all_eq_true_iff_forall_mem] at hok
    obtain ⟨dst, op, type, pos, after, guard⟩ := o
    dsimp only at hk hρ hok
    split at hk
    · rename_i x
      obtain ⟨hG, hk⟩ := hk
      have hx := (hρ x (by simp [Op.operands]) (hok x (by simp [Op.operands]))).1
      obtain ⟨v, h', w', h1, h2, h3, h4, h5⟩ := H.nextMap type hG
      refine ⟨v, h', E, w', hk v h' h1, ?_, h3, Agree.refl _ _, by rw [h4]; exact Nat.le_refl _, h5⟩
      rw [← hr.oev, ← hx] at h2
      exact runV h2
    · rename_i x
      obtain ⟨v, h', h1, hk⟩ := hk
      have hx := (hρ x (by simp [Op.operands]) (hok x (by simp [Op.operands]))).1
      obtain ⟨h2, rfl, h3⟩ := H.entry h1
      refine ⟨v, h', E, w, hk, ?_, H, Agree.refl _ _, Nat.le_refl _, h3⟩
      rw [← hr.oev, ← hx] at h2
      exact runV h2
    · rename_i t x
      obtain ⟨v, h', h1, hk⟩ := hk
      have hx := (hρ x (by simp [Op.operands]) (hok x (by simp [Op.operands]))).1
      obtain ⟨E', w', h2, h3, h4, h5, h6⟩ := H.rangeMap h1
      refine ⟨v, h', E', w', hk, ?_, h3, h4, h5, h6⟩
      rw [← hr.oev, ← hx] at h2
      exact runV h2
    · exact hk.elim

theorem anyOp_spec {o : Oper} (h : isAnyOp P o = true) : o.guard = none ∧ ∀ c, o.op ≠ .defer c := by
  unfold isAnyOp at h
  split at h
  · cases h
  · rename_i hg
    refine ⟨hg, fun c hc => ?_⟩
    rw [hc] at h
    cases h

theorem opsT_ok {B : Prot} {w0 : World} {callF : CallF} (hC : CallOK P B w0 callF) {κ : Cx} {n : Nat} {ops : Array Oper} {b : Frame} {kk : List Item} (cs : List Frame) (hq : tryRecover b cs = none) : ∀ (l : List Oper) (i : Nat) {E : Env} {h : Hp} {w : World} {F : Fm} {T : Array Value} {ds : List Deferred} {f : Fr} {k : Fr → Hp → SA},
    (∀ j, l[j]? = ops[i + j]?) → HpOK P B w0 E h w → FrOK E h.next b F T ds → Rel κ n F f → Ok Q ((opsT callF P n ops l).run f h k) →
    ∃ F' f' h', Rel κ n F' f' ∧ Ok Q (k f' h') ∧ ∃ E' T' ds' w', Kept P B w0 E E' h h' b F' T' ds' w' ∧ Steps P (lone (at_ b T ds (.inRegion ops (List.range' i l.length) :: kk)) cs w) (lone (at_ b T' ds' kk) cs w') := by
  intro l
  induction l with
  | nil =>
    intro i E h w F T ds f k _ H hF hr hk
    exact ⟨F, f, h, hr, hk, E, T, ds, w, ⟨H, hF, Agree.refl _ _, Nat.le_refl _⟩, .one (step_lone_go (by simp [stepG, stepG.exec, at_]))⟩
  | cons o l ih =>
    intro i E h w F T ds f k hl H hF hr hk
    have ho : ops[i]? = some o := by simpa using (hl 0).symm
    have hl' : ∀ j, l[j]? = ops[i + 1 + j]? := fun j => by have := hl (j + 1); simpa [Nat.add_assoc, Nat.add_comm 1 j] using this
    simp only [List.length_cons, List.range'_succ]
    have go : ∀ {v : Value} {h1 : Hp} {E1 : Env} {w1 : World} {ds1 : List Deferred} {F1 : Fm}, HpOK P B w0 E1 h1 w1 → FrOK E1 h1.next b F1 T ds1 → Rel κ n F1 f → Agree h.next E E1 → h.next ≤ h1.next → sc h1.next v = true →
        Ok Q ((opsT callF P n ops l).run (putS n o.dst v f) h1 k) → Steps P (lone (at_ b T ds (.inRegion ops (i :: List.range' (i + 1) l.length) :: kk)) cs w) (lone (at_ b (match o.dst with | some d => T.setIfInBounds d (con E1 v) | none => T) ds1 (.inRegion ops (List.range' (i + 1) l.length) :: kk)) cs w1) →
        ∃ F' f' h', Rel κ n F' f' ∧ Ok Q (k f' h') ∧ ∃ E' T' ds' w', Kept P B w0 E E' h h' b F' T' ds' w' ∧ Steps P (lone (at_ b T ds (.inRegion ops (i :: List.range' (i + 1) l.length) :: kk)) cs w) (lone (at_ b T' ds' kk) cs w') := by
      intro v h1 E1 w1 ds1 F1 H1 hF1 hr1 g2 g3 g4 hk1 g5
      obtain ⟨F', f', h', hr2, hk2, E2, T2, ds2, w2, k2, s2⟩ := ih (i + 1) hl' H1 (hF1.put o.dst g4) (hr1.put o.dst v) hk1
      exact ⟨F', f', h', hr2, hk2, E2, T2, ds2, w2, ⟨k2.hp, k2.fr, g2.trans k2.agree g3, Nat.le_trans g3 k2.le⟩, g5.trans s2⟩
    have skip : wantedT ops F o = false → Ok Q ((opsT callF P n ops l).run (putS n o.dst undef f) h k) → ∃ F' f' h', Rel κ n F' f' ∧ Ok Q (k f' h') ∧ ∃ E' T' ds' w', Kept P B w0 E E' h h' b F' T' ds' w' ∧ Steps P (lone (at_ b T ds (.inRegion ops (i :: List.range' (i + 1) l.length) :: kk)) cs w) (lone (at_ b T' ds' kk) cs w') := by
      intro hw hk1
      rw [wantedT_eq hF.tm] at hw
      have hF2 := hF.put o.dst (v := Eng.undef) (by simp [Eng.undef, sc, scA, scL])
      have hst := step_op_skip' (P := P) (fr := at_ b T ds (.inRegion ops (i :: List.range' (i + 1) l.length) :: kk)) (cs := cs) (w := w) rfl rfl ho hw
      rw [finish_at ho] at hst
      have e : con E Eng.undef = Go.undef := by simp [Eng.undef, Go.undef, con, conA, conL]
      rw [e] at hF2
      obtain ⟨F', f', h', hr2, hk2, E2, T2, ds2, w2, k2, s2⟩ := ih (i + 1) hl' H hF2 (hr.put o.dst undef) hk1
      exact ⟨F', f', h', hr2, hk2, E2, T2, ds2, w2, k2, .head hst s2⟩
    simp only [opsT] at hk
    split at hk
    · rename_i ha
      obtain ⟨hg, hnd⟩ := anyOp_spec ha
      have hw : Region.wanted o (yielded ops T) = true := by simp [Region.wanted, hg]
      obtain ⟨v, h1, E1, w1, hk1, e1, H1, g2, g3, g4⟩ := opT_ok (ρ := (at_ b T ds (.inRegion ops (i :: List.range' (i + 1) l.length) :: kk)).eval) hr H (fun x _ hx => hF.eval (P := P) H.glob H.gnext _ x hx) hk
      have hst := step_op_value (P := P) (fr := at_ b T ds (.inRegion ops (i :: List.range' (i + 1) l.length) :: kk)) (cs := cs) (w := w) rfl rfl ho hw hnd e1 (.inl rfl)
      rw [finish_at ho] at hst
      exact go H1 (hF.mono g2 g3) hr g2 g3 g4 hk1 (.one hst)
    · split at hk
      · rename_i hlt
        dsimp only at hk
        rcases wantS_ok (o := o) (n := n) hr hk with ⟨hw, hk⟩ | ⟨hw, hk⟩
        · obtain ⟨v, h1, e0, hk⟩ := hk
          rw [wantedT_eq hF.tm] at hw
          obtain ⟨E1, ds1, w1, g1, g1', g2, g3, g4, g5⟩ := late_sound (rest := List.range' (i + 1) l.length) (k := kk) H hF ho hw (lateV_ok hr e0) hq
          exact go g1 g1' hr g2 g3 g4 hk g5
        · exact skip hw hk
      · dsimp only at hk
        rcases wantS_ok (o := o) (n := n) hr hk with ⟨hw, hk⟩ | ⟨hw, hk⟩
        · obtain ⟨v, h1, e1, hk⟩ := opS_ok hr hk
          rw [wantedT_eq hF.tm] at hw
          obtain ⟨E1, w1, g1, g2, g3, g4, g5⟩ := op_sound (rest := List.range' (i + 1) l.length) (k := kk) hC H hF ho hw e1 cs
          exact go g1 (hF.mono g2 g3) hr g2 g3 g4 hk g5
        · exact skip hw hk

/-- Whatever the run of a piece of code, it comes to an end of which R is so. -/
def RunsTo (P : Program) (B : Prot) (w0 : World) (c : Code) (F : Fm) (h : Hp) (R : Ex → Fm → Hp → Prop) : Prop :=
  ∀ (E : Env) (w : World) (b : Frame) (T : Array Value) (ds : List Deferred), HpOK P B w0 E h w → FrOK E h.next b F T ds → ∀ k cs, tryRecover b cs = none →
    ∃ e F' h', R e F' h' ∧ ∃ E' T' ds' w', Kept P B w0 E E' h h' b F' T' ds' w' ∧ After P b k cs (lone (at_ b T ds (.code c :: k)) cs w) T' ds' w' e

def CodeTOK (P : Program) (B : Prot) (w0 : World) (κ : Cx) (n : Nat) (Q : Value → Hp → Prop) (c : Code) (cs : CodeS) : Prop := ∀ (F : Fm) (f : Fr) (h : Hp) (k : Fr → Hp → SA) (x : Ex → Fr → Hp → SA), Rel κ n F f → Ok Q (cs.run f h k x) →
  RunsTo P B w0 c F h fun ex F' h' => ∃ f', Rel κ n F' f' ∧ Ok Q (finS k x ex f' h')

theorem bodyT_ok {B : Prot} {w0 : World} {κ : Cx} {n : Nat} {c : Code} {cc : CodeS} (hc : CodeTOK P B w0 κ n Q c cc) (x : Ex → Fr → Hp → SA) : ∀ (m : Nat) (F : Fm) (f : Fr) (h : Hp), Rel κ n F f → Ok Q (bodyS cc x m f h) →
    ∀ (E : Env) (w : World) (b : Frame) (T : Array Value) (ds : List Deferred), HpOK P B w0 E h w → FrOK E h.next b F T ds → ∀ k cs, tryRecover b cs = none →
    ∃ e F' h', (e ≠ .normal ∧ ∃ f', Rel κ n F' f' ∧ Ok Q (x e f' h')) ∧ ∃ E' T' ds' w', Kept P B w0 E E' h h' b F' T' ds' w' ∧ After P b k cs (lone (at_ b T ds (.code c :: .inLoop c :: k)) cs w) T' ds' w' e
  | 0, F, f, h, hr, hk => hk.elim
  | m + 1, F, f, h, hr, hk => by
    intro E w b T ds H hF k cs hq
    have hk' : Ok Q (cc.run f h (fun f h => .back (bodyS cc x m) f h) x) := hk
    obtain ⟨e, F1, h1, ⟨f1, hr1, hk1⟩, E1, T1, ds1, w1, k1, s1⟩ := hc F f h _ x hr hk' E w b T ds H hF (.inLoop c :: k) cs hq
    cases e with
    | normal =>
      have hk2 : Ok Q (bodyS cc x m f1 h1) := hk1
      obtain ⟨e, F2, h2, hR, E2, T2, ds2, w2, k2, s2⟩ := bodyT_ok hc x m F1 f1 h1 hr1 hk2 E1 w1 b T1 ds1 k1.hp k1.fr k cs hq
      refine ⟨e, F2, h2, hR, E2, T2, ds2, w2, k1.trans k2, .of_steps (Steps.trans s1 (.one ?_)) s2⟩
      exact step_lone_go (by simp [stepG, stepG.exec, at_])
    | exit i => exact ⟨.exit i, F1, h1, ⟨by simp, f1, hr1, hk1⟩, E1, T1, ds1, w1, k1, s1.drop (fun id => by simp [exitTo]) (by simp)⟩
    | ret => exact ⟨.ret, F1, h1, ⟨by simp, f1, hr1, hk1⟩, E1, T1, ds1, w1, k1, s1.drop (fun id => by simp [exitTo]) (by simp)⟩

theorem codeT_det {B : Prot} {w0 : World} {callF : CallF} (hC : ∀ B w0, CallOK P B w0 callF) {κ : Cx} {lf n : Nat} (c : Code) : CodeTOK P B w0 κ n Q c (codeS κ callF P lf n c) := by
  intro F f h k x hr hk E w b T ds H hF kk cs hq
  obtain ⟨ex, F', f', h', e1, hr', hk'⟩ := codeS_ok κ callF P lf n Q c F f h k x hr hk
  obtain ⟨E', T', ds', w', k1, s1⟩ := code_sound hC lf c F h ex F' h' e1 E w b T ds H hF kk cs hq
  exact ⟨ex, F', h', ⟨f', hr', hk'⟩, E', T', ds', w', k1, s1⟩

theorem codeT_ok {B : Prot} {w0 : World} {callF : CallF} (hC : ∀ B w0, CallOK P B w0 callF) {κ : Cx} {lf n : Nat} : ∀ c : Code, CodeTOK P B w0 κ n Q c (codeT κ callF P lf n c)
  | .skip => codeT_det hC _
  | .label _ => codeT_det hC _
  | .region _ _ true => codeT_det hC _
  | .exit _ => codeT_det hC _
  | .ret => codeT_det hC _
  | .goto _ => codeT_det hC _
  | .refuse _ => codeT_det hC _
  | .rangeFunc _ _ _ _ => codeT_det hC _
  | .region id ops false => by
    intro F f h k x hr hk E w b T ds H hF kk cs hq
    obtain ⟨F', f', h', hr', hk', E', T', ds', w', k1, s1⟩ := opsT_ok (kk := kk) (hC B w0) cs hq ops.toList 0 (by simp) H hF hr hk
    have hst : step P (lone (at_ b T ds (.code (.region id ops false) :: kk)) cs w) = .next (lone (at_ b T ds (.inRegion ops (List.range ops.size) :: kk)) cs w) := step_lone_go (by simp [stepG, stepG.exec, at_])
    rw [← List.range_eq_range', Array.length_toList] at s1
    exact ⟨.normal, F', h', ⟨f', hr', hk'⟩, E', T', ds', w', k1, .head hst s1⟩
  | .seq a c => by
    intro F f h k x hr hk E w b T ds H hF kk cs hq
    have hst : step P (lone (at_ b T ds (.code (.seq a c) :: kk)) cs w) = .next (lone (at_ b T ds (.code a :: .code c :: kk)) cs w) := step_lone_go (by simp [stepG, stepG.exec, at_])
    obtain ⟨ex, F1, h1, ⟨f1, hr1, hk1⟩, E1, T1, ds1, w1, k1, s1⟩ := codeT_ok hC a F f h _ x hr hk E w b T ds H hF (.code c :: kk) cs hq
    cases ex with
    | normal =>
      obtain ⟨ex, F2, h2, hR, E2, T2, ds2, w2, k2, s2⟩ := codeT_ok hC c F1 f1 h1 k x hr1 hk1 E1 w1 b T1 ds1 k1.hp k1.fr kk cs hq
      exact ⟨ex, F2, h2, hR, E2, T2, ds2, w2, k1.trans k2, .of_steps (.head hst s1) s2⟩
    | exit i => exact ⟨.exit i, F1, h1, ⟨f1, hr1, hk1⟩, E1, T1, ds1, w1, k1, .of_steps (.one hst) (s1.drop (fun id => by simp [exitTo]) (by simp))⟩
    | ret => exact ⟨.ret, F1, h1, ⟨f1, hr1, hk1⟩, E1, T1, ds1, w1, k1, .of_steps (.one hst) (s1.drop (fun id => by simp [exitTo]) (by simp))⟩
  | .cond g a c => by
    intro F f h k x hr hk E w b T ds H hF kk cs hq
    simp only [codeT] at hk
    split at hk
    · rename_i hok
      have hev := (hF.eval (P := P) H.glob H.gnext (.code (.cond g a c) :: kk) g hok).1
      rcases condS_ok hr hk with ⟨hv, hk'⟩ | ⟨hv, hk'⟩
      · rw [hr.oev, hv] at hev
        have hst : step P (lone (at_ b T ds (.code (.cond g a c) :: kk)) cs w) = .next (lone (at_ b T ds (.code a :: kk)) cs w) :=
          step_lone_go (by simp only [at_] at hev; simp [stepG, stepG.exec, at_, hev, con])
        obtain ⟨ex, F1, h1, hR, E1, T1, ds1, w1, k1, s1⟩ := codeT_ok hC a F f h k x hr hk' E w b T ds H hF kk cs hq
        exact ⟨ex, F1, h1, hR, E1, T1, ds1, w1, k1, .of_steps (.one hst) s1⟩
      · rw [hr.oev, hv] at hev
        have hst : step P (lone (at_ b T ds (.code (.cond g a c) :: kk)) cs w) = .next (lone (at_ b T ds (.code c :: kk)) cs w) :=
          step_lone_go (by simp only [at_] at hev; simp [stepG, stepG.exec, at_, hev, con])
        obtain ⟨ex, F1, h1, hR, E1, T1, ds1, w1, k1, s1⟩ := codeT_ok hC c F f h k x hr hk' E w b T ds H hF kk cs hq
        exact ⟨ex, F1, h1, hR, E1, T1, ds1, w1, k1, .of_steps (.one hst) s1⟩
    · exact hk.elim
  | .block id a => by
    intro F f h k x hr hk E w b T ds H hF kk cs hq
    have hst : step P (lone (at_ b T ds (.code (.block id a) :: kk)) cs w) = .next (lone (at_ b T ds (.code a :: .inBlock id :: kk)) cs w) := step_lone_go (by simp [stepG, stepG.exec, at_])
    obtain ⟨ex, F1, h1, ⟨f1, hr1, hk1⟩, E1, T1, ds1, w1, k1, s1⟩ := codeT_ok hC a F f h _ _ hr hk E w b T ds H hF (.inBlock id :: kk) cs hq
    cases ex with
    | normal =>
      refine ⟨.normal, F1, h1, ⟨f1, hr1, hk1⟩, E1, T1, ds1, w1, k1, .head hst (Steps.trans s1 (.one ?_))⟩
      exact step_lone_go (by simp [stepG, stepG.exec, at_])
    | ret =>
      obtain ⟨k0, s1⟩ := s1
      exact ⟨.ret, F1, h1, ⟨f1, hr1, hk1⟩, E1, T1, ds1, w1, k1, k0, .head hst s1⟩
    | exit i =>
      obtain ⟨k0, s0, s1⟩ := s1
      have h6 : Ok Q (Bool.rec (motive := fun _ => SA) (x (.exit i) f1 h1) (k f1 h1) (Nat.beq i id)) := hk1
      cases hb : Nat.beq i id with
      | true =>
        rw [hb] at h6
        have hid := Tr.beq_true hb
        subst hid
        refine ⟨.normal, F1, h1, ⟨f1, hr1, h6⟩, E1, T1, ds1, w1, k1, .head hst (s1.trans (.one ?_))⟩
        have s0' : exitTo i k0 = some kk := by rw [s0]; simp [exitTo]
        exact step_lone_go (by simp [stepG, stepG.exec, at_, s0'])
      | false =>
        rw [hb] at h6
        have hid := Tr.beq_false hb
        refine ⟨.exit i, F1, h1, ⟨f1, hr1, h6⟩, E1, T1, ds1, w1, k1, k0, ?_, .head hst s1⟩
        rw [s0]
        have : (id == i) = false := by simp; exact fun hh => hid hh.symm
        simp [exitTo, this]
  | .loop a => by
    intro F f h k x hr hk E w b T ds H hF kk cs hq
    have hst : step P (lone (at_ b T ds (.code (.loop a) :: kk)) cs w) = .next (lone (at_ b T ds (.code a :: .inLoop a :: kk)) cs w) := step_lone_go (by simp [stepG, stepG.exec, at_])
    obtain ⟨ex, F1, h1, ⟨hne, f1, hr1, hk1⟩, E1, T1, ds1, w1, k1, s1⟩ := bodyT_ok (codeT_ok hC a) x lf F f h hr hk E w b T ds H hF kk cs hq
    exact ⟨ex, F1, h1, ⟨f1, hr1, by cases ex <;> first | exact absurd rfl hne | exact hk1⟩, E1, T1, ds1, w1, k1, .of_steps (.one hst) s1⟩
  | .scope a => by
    intro F f h k x hr hk E w b T ds H hF kk cs hq
    have hst : step P (lone (at_ b T ds (.code (.scope a) :: kk)) cs w) = .next (lone (at_ b T ds (.code a :: .inScope a :: kk)) cs w) := step_lone_go (by simp [stepG, stepG.exec, at_])
    obtain ⟨ex, F1, h1, ⟨f1, hr1, hk1⟩, E1, T1, ds1, w1, k1, s1⟩ := codeT_ok hC a F f h k x hr hk E w b T ds H hF (.inScope a :: kk) cs hq
    cases ex with
    | normal =>
      refine ⟨.normal, F1, h1, ⟨f1, hr1, hk1⟩, E1, T1, ds1, w1, k1, .head hst (Steps.trans s1 (.one ?_))⟩
      exact step_lone_go (by simp [stepG, stepG.exec, at_])
    | exit i => exact ⟨.exit i, F1, h1, ⟨f1, hr1, hk1⟩, E1, T1, ds1, w1, k1, .of_steps (.one hst) (s1.drop (fun id => by simp [exitTo]) (by simp))⟩
    | ret => exact ⟨.ret, F1, h1, ⟨f1, hr1, hk1⟩, E1, T1, ds1, w1, k1, .of_steps (.one hst) (s1.drop (fun id => by simp [exitTo]) (by simp))⟩

/-- A function whose run, whatever it meets, comes to Q. -/
theorem fnT_calls {O : Orc} (hO : OrcOK P O) {lf n : Nat} {f : FuncId} {args : List Value} {h : Hp} (hk : Ok Q (fnT P O lf n f args h)) {B : Prot} {w0 : World} {E : Env} {w : World} (H : HpOK P B w0 E h w) (hsc : scL h.next args = true) :
    (∃ fn, P.funcs[f]? = some fn ∧ fn.body.isNone = false ∧ (fn.name == "runtime.NumGoroutine") = false) ∧
    ∀ c cs, ∃ v h', Q v h' ∧ ∃ E' w', HpOK P B w0 E' h' w' ∧ Agree h.next E E' ∧ h.next ≤ h'.next ∧ sc h'.next v = true ∧ Steps P (lone (Frame.enter P f (conL E args).toArray .normal) (c :: cs) w) (lone (c.finish (con E' v)) cs w') := by
  have ih := (inv_sound hO lf n).1
  have ihD := (inv_sound hO lf n).2 B w0
  unfold fnT at hk
  split at hk
  · exact hk.elim
  · rename_i fn hfn
    split at hk
    · rename_i body hb hname hle2
      simp only [Bool.and_eq_true] at hle2
      obtain ⟨hle, hle3⟩ := hle2
      have hle' := Nat.le_of_ble_eq_true hle
      have hl2 := Nat.le_of_ble_eq_true hle3
      refine ⟨⟨fn, hfn, by simp [hb], hname⟩, fun c cs => ?_⟩
      have htm := enter_tm (E := E) (f := f) hsc hle'
      have hent : Frame.enter P f (conL E args).toArray .normal = at_ (Frame.enter P f (conL E args).toArray .normal) ((conL E args).toArray ++ Array.replicate (fn.ntmps - (conL E args).toArray.size) Go.undef) [] [.code body] := by
        simp [Frame.enter, at_, hfn, hb]
      have hF : FrOK E h.next (Frame.enter P f (conL E args).toArray .normal) { fn := f, n := fn.ntmps, tm := putAll .nil 0 args, defers := [], round := none } ((conL E args).toArray ++ Array.replicate (fn.ntmps - (conL E args).toArray.size) Go.undef) [] :=
        ⟨htm, rfl, rfl, (fun l hl => by cases hl), rfl, (fun d hd => by cases hd)⟩
      have hr : Rel ⟨none, hasRng body⟩ fn.ntmps { fn := f, n := fn.ntmps, tm := putAll .nil 0 args, defers := [], round := none } (argFr args) := by
        refine ⟨hl2, rfl, rfl, ?_, ?_, ?_, fun t _ => ?_⟩
        · unfold dfr
          rw [argFr_out (by omega)]
          cases hasRng body <;> rfl
        · show (putAll .nil 0 args).get slotD = none
          rw [putAll_get]
          by_cases ht : slotD < args.length
          · omega
          · rw [if_neg (by omega)]
            rfl
        · rw [argFr_out (by omega)]
          exact fun b hb => by cases hb
        · rw [argFr_eq, putAll_get]
          by_cases ht : t < args.length
          · rw [if_pos (by omega)]; simp
          · rw [if_neg (by omega)]
            have : args[t]? = none := by simp; omega
            rw [this]
            rfl
      obtain ⟨e, F1, h1, ⟨f1, hr1, hk1⟩, E1, T1, ds1, w1, k1, s1⟩ := codeT_ok (B := B) (w0 := w0) ih body _ _ h _ _ hr hk E w _ _ _ H hF [] (c :: cs) (by unfold tryRecover; rfl)
      rw [← hent] at s1
      have hend : (∀ id, e ≠ .exit id) ∧ Ok Q (endS P (hasRng body) fn.results.toList f1 h1) := by
        cases e with
        | normal => exact ⟨fun id hh => (by cases hh), hk1⟩
        | ret => exact ⟨fun id hh => (by cases hh), hk1⟩
        | exit id => exact hk1.elim
      obtain ⟨hne, hk2⟩ := hend
      obtain ⟨v, h', hfin, hQ⟩ := endS_ok (callF := plainC O (evInv P O lf n)) hr1 hk2
      have ret : ∃ todo, Steps P (lone (Frame.enter P f (conL E args).toArray .normal) (c :: cs) w) (lone { at_ (Frame.enter P f (conL E args).toArray .normal) T1 ds1 todo with mode := .returning } (c :: cs) w1) := by
        cases e with
        | normal => exact ⟨[], Steps.trans s1 (.one (step_lone_go (by simp [stepG, stepG.exec, at_, Frame.enter])))⟩
        | ret =>
          obtain ⟨k0, s1⟩ := s1
          exact ⟨_, Steps.trans s1 (.one (step_lone_go (by simp [stepG, stepG.exec, at_, Frame.enter]; rfl)))⟩
        | exit id => exact absurd rfl (hne id)
      obtain ⟨todo, s2⟩ := ret
      split at hfin
      · cases hfin
      · rename_i h2 hcol
        split at hfin
        · rename_i l hres
          cases hfin
          obtain ⟨E2, w2, H2, a2, le2, s3⟩ := collect_sound ihD (b := Frame.enter P f (conL E args).toArray .normal) (T := T1) (todo := todo) (cs := c :: cs) F1.defers k1.fr.defersc hcol k1.hp
          rw [← k1.fr.defers] at s3
          have ht2 : TmOK E2 h'.next F1 T1 := k1.fr.tm.mono a2 le2
          obtain ⟨r1, r2⟩ := results_all (fn := fn) H2 ht2 hres
          refine ⟨_, _, hQ, E2, w2, H2, k1.agree.trans a2 k1.le, Nat.le_trans k1.le le2, r2, Steps.trans (Steps.trans s2 s3) (.one ?_)⟩
          exact step_leave (f := f) rfl rfl rfl rfl ⟨fn, hfn, r1⟩
        · cases hfin
    · exact hk.elim

/-- What a run has come to may be told as another heap and value. -/
def Weak (P : Program) (h : Hp) (v1 : Value) (h1 : Hp) (v : Value) (h' : Hp) : Prop := ∀ (B : Prot) (w0 : World) (E0 E : Env) (w1 w : World), HpOK P B w0 E0 h w1 → HpOK P B w0 E h1 w → Agree h.next E0 E → h.next ≤ h1.next → sc h1.next v1 = true →
  ∃ E', HpOK P B w0 E' h' w ∧ Agree h.next E0 E' ∧ h.next ≤ h'.next ∧ sc h'.next v = true ∧ con E' v = con E v1

/-- One more function is known ahead. -/
def addOrc (O : Orc) (f : FuncId) (g : List Value → Hp → Option (Value × Hp)) : Orc := fun i => match Nat.beq i f with
  | true => some g
  | false => O i

theorem addOrc_ok {O : Orc} (hO : OrcOK P O) {f : FuncId} {g : List Value → Hp → Option (Value × Hp)} (hg : ∀ args h v h', g args h = some (v, h') → ∃ lf n Q, Ok Q (fnT P O lf n f args h) ∧ ∀ v1 h1, Q v1 h1 → Weak P h v1 h1 v h') : OrcOK P (addOrc O f g) := by
  intro i g' hi B w0
  unfold addOrc at hi
  split at hi
  · rename_i hb
    have := Nat.eq_of_beq_eq_true hb
    subst this
    cases hi
    intro inv h v h' he E w H hsc
    cases inv with
    | yield l args => cases he
    | fn f' args =>
      simp only at he
      split at he
      · rename_i e
        subst e
        obtain ⟨lf, n, Q, hk, hw⟩ := hg args h v h' he
        obtain ⟨h1, h2⟩ := fnT_calls hO hk H hsc
        refine ⟨_, ⟨h1, rfl⟩, fun c cs => ?_⟩
        obtain ⟨v1, h3, hQ, E1, w1, g1, g2, g3, g4, g5⟩ := h2 c cs
        obtain ⟨E', k1, k2, k3, k4, k5⟩ := hw v1 h3 hQ B w0 E E1 w w1 H g1 g2 g3 g4
        exact ⟨E', w1, k1, k2, k3, k4, by rw [k5]; exact g5⟩
      · cases he
  · exact hO i g' hi B w0

/-- A step that may come to more than one end. -/
def anyG : SA → Prop
  | .any G _ _ => G
  | _ => False
def anyS : SA → Value → Hp → Prop
  | .any _ S _ => S
  | _ => fun _ _ => False
def anyK : SA → Value → Hp → SA
  | .any _ _ k => k
  | _ => fun _ _ => .bad

theorem sy_ends (n : Nat) {t : SA} {G : Prop} {S : Value → Hp → Prop} (hG : anyG (goS n t) = G) (hS : anyS (goS n t) = S) (hg : G) (hk : ∀ v h', S v h' → Ok Q (anyK (goS n t) v h')) : Ok Q t := by
  refine ok_go n ?_
  revert hG hS hk
  generalize goS n t = u
  intro hG hS hk
  cases u with
  | any G' S' k => cases hG; cases hS; exact ⟨hg, hk⟩
  | _ => cases hG; exact hg.elim

/-- The next entry of a map: none, if all have been; else any of the others. -/
theorem sy_nextMap (n : Nat) {t : SA} {h : Hp} {r m since : Nat} {seen : List Nat} {last clock : Nat} {es : List MapEntry} (hG : anyG (goS n t) = NextG h (ptr r 0)) (hS : anyS (goS n t) = NextR h (ptr r 0))
    (hr : h.get r = some (.miter m since seen last)) (hm : h.get m = some (.map es clock)) (hb : ∀ e ∈ es, e.born < since) (hl : since ≤ last)
    (h0 : (∀ e ∈ es, e.born ∈ seen) → Ok Q (anyK (goS n t) (.tuple #[.bool false]) h))
    (h1 : ∀ e ∈ es, e.born ∉ seen → Ok Q (anyK (goS n t) (.tuple #[.bool true, e.key, e.val]) (h.put r (.miter m since (seen ++ [e.born]) clock)))) : Ok Q t := by
  refine sy_ends n hG hS ⟨r, m, since, seen, last, es, clock, rfl, hr, hm, hb, hl⟩ fun v h' hs => ?_
  obtain ⟨r', m', since', seen', last', es', clock', e1, e2, e3, e4⟩ := hs
  cases e1
  rw [hr] at e2
  cases e2
  rw [hm] at e3
  cases e3
  rcases e4 with ⟨e5, rfl, rfl⟩ | ⟨e, e5, e6, rfl, rfl⟩
  · exact h0 e5
  · exact h1 e e5 e6

/-! What a run has made, told with numbers of its own. -/

def Hp.news (h : Hp) : List AObj → Hp
  | [] => h
  | o :: l => (h.new o).news l

theorem Hp.news_next : ∀ (l : List AObj) (h : Hp), (h.news l).next = h.next + l.length
  | [], h => rfl
  | o :: l, h => by
    rw [Hp.news, Hp.news_next l, Hp.next_new, List.length_cons]
    omega

theorem Hp.news_get : ∀ (l : List AObj) (h : Hp) (j : Nat), (h.news l).get j = if h.next ≤ j ∧ j < h.next + l.length then l[j - h.next]? else h.get j
  | [], h, j => by rw [if_neg (by simp)]; rfl
  | o :: l, h, j => by
    rw [Hp.news, Hp.news_get l, Hp.next_new, List.length_cons, Hp.get_new]
    by_cases h1 : j = h.next
    · subst h1
      rw [if_neg (by omega), if_pos rfl, if_pos (by omega), Nat.sub_self]
      rfl
    · rw [if_neg h1]
      by_cases h2 : h.next + 1 ≤ j ∧ j < h.next + 1 + l.length
      · rw [if_pos h2, if_pos (by omega), show j - h.next = (j - (h.next + 1)) + 1 by omega]
        rfl
      · rw [if_neg h2, if_neg (by omega)]

/-- The numbers behind h.next stand for these. -/
def renE (E : Env) (n : Nat) (ids : List Nat) : Env :=
  ⟨fun j => if j < n then E.μ j else E.μ ((ids[j - n]?).getD 0), fun j => if j < n then E.ε j else E.ε ((ids[j - n]?).getD 0)⟩

theorem renE_lt (E : Env) (n : Nat) (ids : List Nat) : Agree n E (renE E n ids) := fun j hj => by
  simp only [renE, if_pos hj, and_self]

theorem renE_at {E : Env} {n : Nat} {ids : List Nat} {i k : Nat} (hi : ids[i]? = some k) : (renE E n ids).μ (n + i) = E.μ k ∧ (renE E n ids).ε (n + i) = E.ε k := by
  have h1 : ¬ n + i < n := by omega
  have h2 : n + i - n = i := by omega
  simp only [renE, if_neg h1, h2, hi, Option.getD_some, and_self]

theorem HpOK.renum {B : Prot} {w0 w w1 : World} {E E0 : Env} {h h1 : Hp} (H0 : HpOK P B w0 E0 h w1) (H : HpOK P B w0 E h1 w) (X : h.Ext h1) (ids : List Nat) (os : List AObj) (hlen : ids.length = os.length) (hnd : ids.Nodup) (hge : ∀ i ∈ ids, h.next ≤ i)
    (hob : ∀ i k o, ids[i]? = some k → os[i]? = some o → isRo o = false ∧ ∃ o1, h1.get k = some o1 ∧ isRo o1 = false ∧ ∀ O, ObjAt P E h1.next k o1 O → ObjAt P (renE E h.next ids) (h.next + os.length) (h.next + i) o O) : HpOK P B w0 (renE E h.next ids) (h.news os) w := by
  have hA := renE_lt E h.next ids
  have hnn := Hp.news_next os h
  have hcase : ∀ j o, (h.news os).get j = some o → (j < h.next ∧ h.get j = some o) ∨ ∃ i, j = h.next + i ∧ i < os.length ∧ os[i]? = some o := fun j o hj => by
    rw [Hp.news_get] at hj
    split at hj
    · rename_i hc
      exact .inr ⟨j - h.next, by omega, by omega, hj⟩
    · exact .inl ⟨(H0.obj j o hj).1, hj⟩
  have hk : ∀ i, i < os.length → ∃ k, ids[i]? = some k ∧ k ∈ ids := fun i hi => ⟨ids[i]'(by omega), List.getElem?_eq_getElem (by omega), List.getElem_mem _⟩
  refine ⟨H.bnd, H.below, fun j o hj => ?_, fun i j o o' hi hj q q' hm => ?_, fun g hg => ?_, by rw [hnn]; have := H0.gnext; omega⟩
  · rcases hcase j o hj with ⟨h2, h3⟩ | ⟨i, rfl, h2, h3⟩
    · obtain ⟨k1, k2, O, k3, k4⟩ := H.obj j o ((X.get j h2).trans h3)
      rw [← (hA j h2).1]
      obtain ⟨_, _, O', _, k5⟩ := H0.obj j o h3
      exact ⟨by omega, k2, O, k3, (k5.down k4).mono hA h2 (by omega)⟩
    · obtain ⟨k, h4, h5⟩ := hk i h2
      obtain ⟨r1, o1, r2, r3, r4⟩ := hob i k o h4 h3
      obtain ⟨k1, k2, O, k3, k4⟩ := H.obj k o1 r2
      rw [(renE_at h4).1]
      exact ⟨by omega, ⟨fun _ => k2.1 r3, fun hh => by rw [r1] at hh; cases hh⟩, O, k3, by rw [hnn]; exact r4 O k4⟩
  · rcases hcase i o hi with ⟨a1, a2⟩ | ⟨a, rfl, a1, a2⟩
    · rw [← (hA i a1).1] at hm
      rcases hcase j o' hj with ⟨b1, b2⟩ | ⟨b, rfl, b1, b2⟩
      · rw [← (hA j b1).1] at hm
        exact H.inj i j o o' ((X.get i a1).trans a2) ((X.get j b1).trans b2) q q' hm
      · obtain ⟨k, h4, h5⟩ := hk b b1
        obtain ⟨_, o1, r2, r3, _⟩ := hob b k o' h4 b2
        rw [(renE_at h4).1] at hm
        have := H.inj i k o o1 ((X.get i a1).trans a2) r2 q r3 hm
        have := hge k h5
        omega
    · obtain ⟨k, h4, h5⟩ := hk a a1
      obtain ⟨_, o1, r2, r3, _⟩ := hob a k o h4 a2
      rw [(renE_at h4).1] at hm
      rcases hcase j o' hj with ⟨b1, b2⟩ | ⟨b, rfl, b1, b2⟩
      · rw [← (hA j b1).1] at hm
        have := H.inj k j o1 o' r2 ((X.get j b1).trans b2) r3 q' hm
        have := hge k h5
        omega
      · obtain ⟨k', g4, g5⟩ := hk b b1
        obtain ⟨_, o2, s2, s3, _⟩ := hob b k' o' g4 b2
        rw [(renE_at g4).1] at hm
        have hkk := H.inj k k' o1 o2 r2 s2 r3 s3 hm
        subst hkk
        have : a = b := by
          obtain ⟨p1, p2⟩ := List.getElem?_eq_some_iff.1 h4
          obtain ⟨p3, p4⟩ := List.getElem?_eq_some_iff.1 g4
          exact (List.getElem_inj hnd).1 (p2.trans p4.symm)
        rw [this]
  · have := H0.gnext
    rw [← (hA g (by omega)).1]
    exact H.glob g hg

end
end
end Go.Eng
