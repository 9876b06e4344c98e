/- A region that draws its order: who writes and who looks at a slot. -/
import Derived.Test.YtkfbfgcflnkllaaGreatDoorEngK1
namespace Go.Eng
open Go.RowKit

section
variable {callF : CallF} {P : Program} {ops : Array Oper} {ms : List Nat}

theorem zip_mem {o : Oper} {i : Nat} : (o, i) ∈ ops.toList.zipIdx ↔ ops[i]? = some o := by
  rw [List.mem_zipIdx_iff_getElem?]
  simp

theorem tempsOK_spec (h : tempsOK ops ms = true) : ∀ i j oi oj d, ops[i]? = some oi → ops[j]? = some oj → oj.dst = some d → (oi.dst = some d ∨ looks ops oi d = true) → i = j ∨ anc ms i j = true ∨ anc ms j i = true := by
  intro i j oi oj d hi hj hd hl
  unfold tempsOK at h
  rw [List.all_eq_true] at h
  have h1 := h (oi, i) (zip_mem.2 hi)
  rw [List.all_eq_true] at h1
  have h2 := h1 (oj, j) (zip_mem.2 hj)
  simp only [hd, Bool.or_eq_true] at h2
  rcases h2 with ((h2 | h2) | h2) | h2
  · exact .inl (Tr.beq_true h2)
  · exact .inr (.inl h2)
  · exact .inr (.inr h2)
  · exfalso
    rcases hl with hl | hl
    · simp [hl] at h2
    · simp [hl] at h2

structure Soft (ops : Array Oper) (ms : List Nat) (i t s : Nat) (q c : Oper) : Prop where
  fr : isFresh q.op = true
  dst : q.dst = some t
  op : ops[s]? = some c
  nf : isFresh c.op = false
  can : canTake c.op = true
  cd : c.dst ≠ some t
  gd : q.guard = c.guard
  an : anc ms s i = true
  ne : s ≠ i
  only : ∀ k o, ops[k]? = some o → k ≠ i → (o.dst = some t ∨ looks ops o t = true) → k = s
  here : ∀ j oj d, ops[j]? = some oj → oj.dst = some d → looks ops q d = true → anc ms i j = true

theorem takes_spec {q c : Oper} {t : Tmp} (h : takes q c t = true) : isFresh c.op = false ∧ canTake c.op = true ∧ c.dst ≠ some t ∧ q.guard = c.guard := by
  have gen : (!isFresh c.op && canTake c.op && (match c.dst with | some d => !Nat.beq d t | none => true) &&
      (match q.guard, c.guard with
        | none, none => true
        | some (i, b), some (j, c) => Nat.beq i j && (b == c)
        | _, _ => false)) = true → isFresh c.op = false ∧ canTake c.op = true ∧ c.dst ≠ some t ∧ q.guard = c.guard := fun h => by
    simp only [Bool.and_eq_true, Bool.not_eq_true'] at h
    obtain ⟨⟨⟨h1, h2⟩, h3⟩, h4⟩ := h
    refine ⟨h1, h2, fun hd => ?_, ?_⟩
    · rw [hd] at h3
      simp at h3
    · split at h4
      · rename_i e1 e2; rw [e1, e2]
      · rename_i i b j c e1 e2
        simp only [Bool.and_eq_true, beq_iff_eq] at h4
        rw [e1, e2, Tr.beq_true h4.1, h4.2]
      · cases h4
  unfold takes at h
  split at h
  · split at h
    · rename_i ty u x h1 h2 h3 h4
      refine ⟨by rw [h1]; rfl, by rw [h1]; rfl, by rw [h2]; simp, by rw [h3, h4]⟩
    · cases h
  · exact gen h

theorem softOf_spec {i s : Nat} {q : Oper} (h : softOf ops ms i q = some s) : ∃ t c, Soft ops ms i t s q c := by
  unfold softOf at h
  split at h
  · rename_i t hfr hd
    split at h
    · rename_i c s' hf
      have hmem : (c, s') ∈ [(c, s')] := by simp
      rw [← hf, List.mem_filter, zip_mem] at hmem
      split at h
      · rename_i hc
        cases h
        simp only [Bool.and_eq_true] at hc
        obtain ⟨⟨h1, h2⟩, h3⟩ := hc
        obtain ⟨t1, t2, t3, t4⟩ := takes_spec h2
        have hne : s ≠ i := by
          have := hmem.2
          simp only [Bool.and_eq_true, Bool.not_eq_true'] at this
          exact Tr.beq_false this.1
        refine ⟨t, c, hfr, hd, hmem.1, t1, t2, t3, t4, h1, hne, fun k o ho hk hl => ?_, fun j oj d hj hjd hl => ?_⟩
        · have : (o, k) ∈ [(c, s)] := by
            rw [← hf, List.mem_filter, zip_mem]
            refine ⟨ho, ?_⟩
            simp only [Bool.and_eq_true, Bool.not_eq_true', Bool.or_eq_true]
            refine ⟨?_, ?_⟩
            · cases hb : Nat.beq k i
              · rfl
              · exact absurd (Tr.beq_true hb) hk
            · rcases hl with hl | hl
              · left; simp [hl]
              · exact .inr hl
          simp at this
          exact this.2
        · unfold ahead0 at h3
          rw [List.all_eq_true] at h3
          have := h3 (oj, j) (zip_mem.2 hj)
          simp only [hjd, hl, Bool.not_true, Bool.false_or] at this
          exact this
      · cases h
    · cases h
  · cases h

theorem bring_spec {s : Nat} {q : Oper} {t : Tmp} : ∀ (l : List (Oper × Nat)), (q, t) ∈ bring ops ms s l ↔ ∃ i, (q, i) ∈ l ∧ softOf ops ms i q = some s ∧ q.dst = some t
  | [] => by simp [bring]
  | (q', i') :: r => by
    have ih := bring_spec (s := s) (q := q) (t := t) r
    simp only [bring]
    split
    · rename_i s' t' h1 h2
      split
      · rename_i hb
        have := Tr.beq_true hb
        subst this
        rw [List.mem_cons, ih]
        constructor
        · rintro (h | ⟨i, a1, a2⟩)
          · cases h
            exact ⟨i', List.mem_cons_self .., h1, h2⟩
          · exact ⟨i, List.mem_cons_of_mem _ a1, a2⟩
        · rintro ⟨i, a1, a2, a3⟩
          rcases List.mem_cons.1 a1 with h | h
          · cases h
            rw [h2] at a3
            cases a3
            exact .inl rfl
          · exact .inr ⟨i, h, a2, a3⟩
      · rename_i hb
        rw [ih]
        constructor
        · rintro ⟨i, a1, a2⟩
          exact ⟨i, List.mem_cons_of_mem _ a1, a2⟩
        · rintro ⟨i, a1, a2, a3⟩
          rcases List.mem_cons.1 a1 with h | h
          · cases h
            rw [h1] at a2
            cases a2
            simp at hb
          · exact ⟨i, h, a2, a3⟩
    · rename_i hno
      rw [ih]
      constructor
      · rintro ⟨i, a1, a2⟩
        exact ⟨i, List.mem_cons_of_mem _ a1, a2⟩
      · rintro ⟨i, a1, a2, a3⟩
        rcases List.mem_cons.1 a1 with h | h
        · cases h
          exact absurd a3 (by first | exact hno _ _ a2 | exact fun h => hno _ _ a2 h)
        · exact ⟨i, h, a2, a3⟩

theorem kind_soft {o : Oper} {i : Nat} (h : kindOf ops ms o i = .soft) : ∃ s, softOf ops ms i o = some s := by
  unfold kindOf at h
  split at h
  · split at h
    · rename_i s hs
      exact ⟨s, hs⟩
    · cases h
  · split at h
    · cases h
    · split at h <;> cases h

theorem kind_withVars {o : Oper} {i : Nat} {l : List (Oper × Tmp)} (h : kindOf ops ms o i = .withVars l) : l = bring ops ms i ops.toList.zipIdx ∧ l ≠ [] ∧ isFresh o.op = false ∧ canTake o.op = true := by
  unfold kindOf at h
  split at h
  · split at h <;> cases h
  · rename_i hf
    split at h
    · cases h
    · rename_i hc
      split at h
      · cases h
      · rename_i x l' hb
        cases h
        exact ⟨hb.symm, by simp, hf, hc⟩

/-- What comes with an operation. -/
theorem with_mem {o : Oper} {i : Nat} {l : List (Oper × Tmp)} (h : kindOf ops ms o i = .withVars l) {q : Oper} {t : Tmp} : (q, t) ∈ l ↔ ∃ j, ops[j]? = some q ∧ softOf ops ms j q = some i ∧ q.dst = some t := by
  rw [(kind_withVars h).1, bring_spec]
  constructor
  · rintro ⟨j, a1, a2⟩
    exact ⟨j, zip_mem.1 a1, a2⟩
  · rintro ⟨j, a1, a2⟩
    exact ⟨j, zip_mem.2 a1, a2⟩

theorem soft_kind {q : Oper} {i s : Nat} (h : softOf ops ms i q = some s) : kindOf ops ms q i = .soft := by
  obtain ⟨t, c, S⟩ := softOf_spec h
  unfold kindOf
  simp [S.fr, h]

/-- Who brings it is of the other kind. -/
theorem store_kind {q : Oper} {i s : Nat} (hq : ops[i]? = some q) (h : softOf ops ms i q = some s) : ∃ o l, ops[s]? = some o ∧ kindOf ops ms o s = .withVars l := by
  obtain ⟨t, c, S⟩ := softOf_spec h
  have hm : (q, t) ∈ bring ops ms s ops.toList.zipIdx := (bring_spec _).2 ⟨i, zip_mem.2 hq, h, S.dst⟩
  cases hb : bring ops ms s ops.toList.zipIdx with
  | nil => rw [hb] at hm; cases hm
  | cons x l =>
    refine ⟨c, x :: l, S.op, ?_⟩
    unfold kindOf
    simp [S.nf, S.can, hb]

/-- One owner to a slot that waits. -/
theorem owner_only {q q' : Oper} {i i' t s : Nat} (h : softOf ops ms i q = some s) (hd : q.dst = some t) (hq' : ops[i']? = some q') (h1' : q'.dst = some t) : i' = i := by
  obtain ⟨t', c, S⟩ := softOf_spec h
  have e := S.dst
  rw [hd] at e
  cases e
  by_cases hii : i' = i
  · exact hii
  · have := S.only i' q' hq' hii (.inl h1')
    subst this
    have e2 := S.op
    rw [hq'] at e2
    cases e2
    exact absurd h1' S.cd

theorem effK_soft {o : Oper} {i : Nat} (h : kindOf ops ms o i = .soft) : effK ops ms o i = false := by
  obtain ⟨s, hs⟩ := kind_soft h
  obtain ⟨t, c, S⟩ := softOf_spec hs
  unfold effK
  simp [S.fr, hs]

theorem effK_with {o : Oper} {i : Nat} {l : List (Oper × Tmp)} (h : kindOf ops ms o i = .withVars l) : effK ops ms o i = true := by
  obtain ⟨h1, h2, h3, h4⟩ := kind_withVars h
  unfold effK
  simp only [h3, h4]
  split
  · rfl
  · cases hb : bring ops ms i ops.toList.zipIdx with
    | nil => rw [hb] at h1; exact absurd h1 h2
    | cons x r => rfl

theorem isFresh_eff {o : Op} (h : isFresh o = true) : isEff o = true := by
  cases o <;> first | rfl | cases h

theorem effK_norm {o : Oper} {i : Nat} (h : kindOf ops ms o i = .norm) : effK ops ms o i = isEff o.op := by
  cases hf : isFresh o.op with
  | true =>
    cases hs : softOf ops ms i o with
    | some s => rw [soft_kind hs] at h; cases h
    | none => simp [effK, hf, hs, isFresh_eff hf]
  | false =>
    cases he : isEff o.op with
    | true => simp [effK, hf, he]
    | false =>
      cases hc : canTake o.op with
      | false => simp [effK, hf, he, hc]
      | true =>
        cases hb : bring ops ms i ops.toList.zipIdx with
        | nil => simp [effK, hf, he, hc, hb]
        | cons x r => simp [kindOf, hf, hc, hb] at h

/-! Several slots written at once. -/

/-- What is written into a slot, the last one. -/
def lk (t : Tmp) : List (Tmp × Value) → Option Value
  | [] => none
  | (u, v) :: r => match lk t r with
    | some x => some x
    | none => if u = t then some v else none

theorem lk_app (t : Tmp) : ∀ (l r : List (Tmp × Value)), lk t (l ++ r) = match lk t r with | some x => some x | none => lk t l
  | [], r => by cases h : lk t r <;> simp [lk, h]
  | (u, v) :: l, r => by
    simp only [List.cons_append, lk, lk_app t l r]
    cases h : lk t r with
    | some x => rfl
    | none => rfl

theorem lk_dst (t : Tmp) (o : Oper) (v : Value) : lk t (dstW o v) = if o.dst = some t then some v else none := by
  unfold dstW
  cases o.dst with
  | none => rfl
  | some d => simp [lk]

theorem lk_mem {t : Tmp} {v : Value} : ∀ {l : List (Tmp × Value)}, lk t l = some v → (t, v) ∈ l
  | (u, x) :: r, h => by
    simp only [lk] at h
    split at h
    · rename_i y hy
      cases h
      exact List.mem_cons_of_mem _ (lk_mem hy)
    · split at h
      · rename_i e
        cases h
        subst e
        exact List.mem_cons_self ..
      · cases h

theorem lk_none {t : Tmp} : ∀ {l : List (Tmp × Value)}, (∀ v, (t, v) ∉ l) → lk t l = none
  | [], _ => rfl
  | (u, x) :: r, h => by
    simp only [lk, lk_none (fun v hv => h v (List.mem_cons_of_mem _ hv))]
    rw [if_neg]
    rintro rfl
    exact h x (List.mem_cons_self ..)

/-- What a slot holds by the operations A, where each has written what it writes. -/
def VA (W : Nat → List (Tmp × Value)) (A : Nat → Prop) (t : Tmp) (v0 v : Value) : Prop :=
  (∃ j, A j ∧ lk t (W j) = some v ∧ ∀ j', A j' → lk t (W j') ≠ none → j' ≤ j) ∨ ((∀ j, A j → lk t (W j) = none) ∧ v = v0)

theorem VA.fun {W : Nat → List (Tmp × Value)} {A A' : Nat → Prop} {t : Tmp} {v0 v v' : Value} (hA : ∀ j, lk t (W j) ≠ none → (A j ↔ A' j)) (h : VA W A t v0 v) (h' : VA W A' t v0 v') : v = v' := by
  rcases h with ⟨j, a1, a2, a3⟩ | ⟨a1, rfl⟩ <;> rcases h' with ⟨k, b1, b2, b3⟩ | ⟨b1, rfl⟩
  · have hj : lk t (W j) ≠ none := by rw [a2]; simp
    have hk : lk t (W k) ≠ none := by rw [b2]; simp
    have h1 := a3 k ((hA k hk).2 b1) hk
    have h2 := b3 j ((hA j hj).1 a1) hj
    have : j = k := by omega
    rw [this, b2] at a2
    cases a2; rfl
  · have := b1 j ((hA j (by rw [a2]; simp)).1 a1)
    rw [a2] at this; cases this
  · have := a1 k ((hA k (by rw [b2]; simp)).2 b1)
    rw [b2] at this; cases this
  · rfl

theorem VA.more {W : Nat → List (Tmp × Value)} {A : Nat → Prop} {t : Tmp} {v0 v : Value} {i : Nat} (hi : lk t (W i) = none) (h : VA W A t v0 v) : VA W (fun j => A j ∨ j = i) t v0 v := by
  rcases h with ⟨j, a1, a2, a3⟩ | ⟨a1, rfl⟩
  · refine .inl ⟨j, .inl a1, a2, fun j' hj' hw => ?_⟩
    rcases hj' with hj' | rfl
    · exact a3 j' hj' hw
    · exact absurd hi hw
  · refine .inr ⟨fun j hj => ?_, rfl⟩
    rcases hj with hj | rfl
    · exact a1 j hj
    · exact hi

theorem VA.last {W : Nat → List (Tmp × Value)} {A : Nat → Prop} {t : Tmp} {v0 v : Value} {i : Nat} (hi : lk t (W i) = some v) (hA : ∀ j, A j → lk t (W j) ≠ none → j < i) : VA W (fun j => A j ∨ j = i) t v0 v := by
  refine .inl ⟨i, .inr rfl, hi, fun j' hj' hw => ?_⟩
  rcases hj' with hj' | rfl
  · exact Nat.le_of_lt (hA j' hj' hw)
  · exact Nat.le_refl _

theorem Fm.get_put (F : Fm) (dst : Option Tmp) (v : Value) (t : Tmp) : (F.put dst v).tm.get t = if dst = some t ∧ t < F.n then some v else F.tm.get t := by
  cases dst with
  | none => simp [Fm.put]
  | some d =>
    simp only [Fm.put]
    split
    · rename_i hb
      have hlt : d < F.n := by simpa [Nat.blt_eq] using hb
      simp only [Tr.get_set, Option.some.injEq]
      by_cases h : t = d
      · subst h; simp [hlt]
      · simp [h, Ne.symm h]
    · rename_i hb
      have hge : ¬ d < F.n := by intro hh; rw [← Nat.blt_eq] at hh; rw [hh] at hb; cases hb
      by_cases h : d = t
      · subst h; simp [hge]
      · simp [h]

theorem Fm.put_same (F : Fm) (dst : Option Tmp) (v : Value) : (F.put dst v).n = F.n ∧ (F.put dst v).fn = F.fn ∧ (F.put dst v).round = F.round ∧ (F.put dst v).defers = F.defers := by
  cases dst with
  | none => simp [Fm.put]
  | some d => simp only [Fm.put]; split <;> simp

theorem get_putL : ∀ (l : List (Tmp × Value)) (F : Fm) (t : Tmp), (F.putL l).tm.get t = match lk t l with | some v => if t < F.n then some v else F.tm.get t | none => F.tm.get t
  | [], F, t => rfl
  | (u, v) :: r, F, t => by
    have e : (F.put (some u) v).n = F.n := (Fm.put_same F (some u) v).1
    simp only [Fm.putL, get_putL r, lk, e]
    cases h : lk t r with
    | some x =>
      simp only
      split
      · rfl
      · rename_i hn
        rw [Fm.get_put, if_neg (fun hh => hn hh.2)]
    | none =>
      simp only [Fm.get_put, Option.some.injEq]
      by_cases hu : u = t
      · simp only [hu, true_and, if_true]
      · simp [hu]

theorem putL_same : ∀ (l : List (Tmp × Value)) (F : Fm), (F.putL l).n = F.n ∧ (F.putL l).fn = F.fn ∧ (F.putL l).round = F.round ∧ (F.putL l).defers = F.defers
  | [], F => ⟨rfl, rfl, rfl, rfl⟩
  | (u, v) :: r, F => by
    obtain ⟨a1, a2, a3, a4⟩ := putL_same r (F.put (some u) v)
    obtain ⟨b1, b2, b3, b4⟩ := Fm.put_same F (some u) v
    exact ⟨a1.trans b1, a2.trans b2, a3.trans b3, a4.trans b4⟩

theorem va_text {W : Nat → List (Tmp × Value)} {FF : Nat → Fm} {N : Nat} (hs : ∀ j, j < N → FF (j + 1) = (FF j).putL (W j)) : ∀ m, m ≤ N →
    ((FF m).n = (FF 0).n ∧ (FF m).fn = (FF 0).fn ∧ (FF m).round = (FF 0).round ∧ (FF m).defers = (FF 0).defers) ∧
    (∀ t, t < (FF 0).n → VA W (· < m) t (((FF 0).tm.get t).getD Eng.undef) (((FF m).tm.get t).getD Eng.undef)) ∧ ∀ t, (FF 0).n ≤ t → (FF m).tm.get t = (FF 0).tm.get t := by
  intro m
  induction m with
  | zero => intro _; exact ⟨⟨rfl, rfl, rfl, rfl⟩, fun t _ => .inr ⟨fun j hj => by omega, rfl⟩, fun t _ => rfl⟩
  | succ m ih =>
    intro hm
    obtain ⟨⟨a1, a2, a3, a4⟩, b, c⟩ := ih (by omega)
    have e := hs m (by omega)
    obtain ⟨p1, p2, p3, p4⟩ := putL_same (W m) (FF m)
    rw [← e] at p1 p2 p3 p4
    refine ⟨⟨p1.trans a1, p2.trans a2, p3.trans a3, p4.trans a4⟩, fun t ht => ?_, fun t ht => ?_⟩
    · have hset : (fun j => j < m + 1) = (fun j => j < m ∨ j = m) := by funext j; apply propext; omega
      rw [hset]
      cases hw : lk t (W m) with
      | some v =>
        have : ((FF (m + 1)).tm.get t).getD Eng.undef = v := by
          rw [e, get_putL, hw]
          simp only [if_pos (show t < (FF m).n by rw [a1]; exact ht)]
          rfl
        rw [this]
        exact VA.last hw (fun j hj _ => hj)
      | none =>
        have : (FF (m + 1)).tm.get t = (FF m).tm.get t := by
          rw [e, get_putL, hw]
        rw [this]
        exact (b t ht).more hw
    · rw [e, get_putL]
      cases hw : lk t (W m) with
      | some v => simp only [if_neg (show ¬ t < (FF m).n by rw [a1]; omega)]; exact c t ht
      | none => exact c t ht

end
end Go.Eng
