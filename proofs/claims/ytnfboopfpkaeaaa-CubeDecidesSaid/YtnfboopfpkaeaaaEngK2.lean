/- A region that draws its order: who writes and who looks at a slot. -/
import Derived.Test.YtnfboopfpkaeaaaEngK1
namespace Go.Eng
open Go.RowKit

section
variable {callF : CallF} {P : Program} {ops : Array Oper} {ms : List Nat}

theorem zip_mem {o : Oper} {i : Nat} : (o, i) ∈ ops.toList.zipIdx ↔ ops[i]? = some o := by
  rw [List.mem_zipIdx_iff_getElem?]
  simp

theorem tempsOK_spec (h : tempsOK ops ms = true) : ∀ i j oi oj d, ops[i]? = some oi → ops[j]? = some oj → oj.dst = some d → (oi.dst = some d ∨ looks ops oi d = true) → i = j ∨ anc ms i j = true ∨ anc ms j i = true := by
  intro i j oi oj d hi hj hd hl
  unfold tempsOK at h
  rw [List.all_eq_true] at h
  have h1 := h (oi, i) (zip_mem.2 hi)
  rw [List.all_eq_true] at h1
  have h2 := h1 (oj, j) (zip_mem.2 hj)
  simp only [hd, Bool.or_eq_true] at h2
  rcases h2 with ((h2 | h2) | h2) | h2
  · exact .inl (Tr.beq_true h2)
  · exact .inr (.inl h2)
  · exact .inr (.inr h2)
  · exfalso
    rcases hl with hl | hl
    · simp [hl] at h2
    · simp [hl] at h2

structure Soft (ops : Array Oper) (ms : List Nat) (i t s : Nat) : Prop where
  op : ∃ q ty x, ops[s]? = some q ∧ q.op = .store ty (.tmp t) x ∧ q.guard = none ∧ q.dst = none ∧ x ≠ .tmp t
  anc : anc ms s i = true
  ne : s ≠ i
  only : ∀ k o, ops[k]? = some o → k ≠ i → (o.dst = some t ∨ looks ops o t = true) → k = s

theorem softOf_spec {i t s : Nat} (h : softOf ops ms i t = some s) : Soft ops ms i t s := by
  unfold softOf at h
  split at h
  · rename_i q s' hf
    have hmem : (q, s') ∈ [(q, s')] := by simp
    rw [← hf, List.mem_filter, zip_mem] at hmem
    split at h
    · rename_i ty u x hop hg hd
      split at h
      · rename_i hc
        cases h
        simp only [Bool.and_eq_true] at hc
        have hu := Tr.beq_true hc.1.1
        subst hu
        have hne : s ≠ i := by
          have := hmem.2
          simp only [Bool.and_eq_true, Bool.not_eq_true'] at this
          exact Tr.beq_false this.1
        refine ⟨⟨q, ty, x, hmem.1, hop, hg, hd, ?_⟩, hc.1.2, hne, fun k o ho hk hl => ?_⟩
        · intro hx
          subst hx
          simp at hc
        · have : (o, k) ∈ [(q, s)] := by
            rw [← hf, List.mem_filter, zip_mem]
            refine ⟨ho, ?_⟩
            simp only [Bool.and_eq_true, Bool.not_eq_true', Bool.or_eq_true]
            refine ⟨?_, ?_⟩
            · cases hb : Nat.beq k i
              · rfl
              · exact absurd (Tr.beq_true hb) hk
            · rcases hl with hl | hl
              · left; simp [hl]
              · exact .inr hl
          simp at this
          exact this.2
      · cases h
    · cases h
  · cases h

theorem partner_spec {s t : Nat} : ∀ (l : List (Oper × Nat)) {e : TypeId}, partner ops ms s t l = some e → ∃ q i, (q, i) ∈ l ∧ q.op = .alloc e ∧ q.dst = some t ∧ q.guard = none ∧ softOf ops ms i t = some s
  | [], e, h => by simp [partner] at h
  | (q, i) :: r, e, h => by
    have rec_ : partner ops ms s t r = some e → ∃ q' i', (q', i') ∈ (q, i) :: r ∧ q'.op = .alloc e ∧ q'.dst = some t ∧ q'.guard = none ∧ softOf ops ms i' t = some s := fun hr => by
      obtain ⟨q', i', h1, h2⟩ := partner_spec r hr
      exact ⟨q', i', by simp [h1], h2⟩
    simp only [partner] at h
    split at h
    · rename_i e' d hop hd hg
      split at h
      · rename_i s' hb hs
        split at h
        · rename_i hb2
          cases h
          have := Tr.beq_true hb
          subst this
          have := Tr.beq_true hb2
          subst this
          exact ⟨q, i, by simp, hop, hd, hg, hs⟩
        · exact rec_ h
      · exact rec_ h
    · exact rec_ h

theorem partner_some {s t i : Nat} {q : Oper} {e : TypeId} : ∀ (l : List (Oper × Nat)), (q, i) ∈ l → q.op = .alloc e → q.dst = some t → q.guard = none → softOf ops ms i t = some s → ∃ e', partner ops ms s t l = some e'
  | [], h, _, _, _, _ => by cases h
  | (q', i') :: r, h, h1, h2, h3, h4 => by
    have bb : ∀ n : Nat, Nat.beq n n = true := fun n => Nat.beq_refl n
    rcases List.mem_cons.1 h with h | h
    · cases h
      refine ⟨e, ?_⟩
      simp [partner, h1, h2, h3, h4]
    · obtain ⟨e', he⟩ := partner_some r h h1 h2 h3 h4
      simp only [partner]
      split
      · split
        · split
          · exact ⟨_, rfl⟩
          · exact ⟨e', he⟩
        · exact ⟨e', he⟩
      · exact ⟨e', he⟩

theorem kind_soft {o : Oper} {i : Nat} (h : kindOf ops ms o i = .soft) : ∃ e d s, o.op = .alloc e ∧ o.dst = some d ∧ o.guard = none ∧ softOf ops ms i d = some s := by
  unfold kindOf at h
  split at h
  · rename_i e d hop hd hg
    split at h
    · rename_i s hs
      exact ⟨e, d, s, hop, hd, hg, hs⟩
    · cases h
  · split at h <;> cases h
  · cases h

theorem kind_withVar {o : Oper} {i t : Nat} {e : TypeId} (h : kindOf ops ms o i = .withVar e t) : ∃ ty x q i0, o.op = .store ty (.tmp t) x ∧ o.guard = none ∧ o.dst = none ∧ ops[i0]? = some q ∧ q.op = .alloc e ∧ q.dst = some t ∧ q.guard = none ∧ softOf ops ms i0 t = some i := by
  unfold kindOf at h
  split at h
  · split at h <;> cases h
  · rename_i ty t' x hop hd hg
    split at h
    · rename_i e' hp
      cases h
      obtain ⟨q, i0, h1, h2, h3, h4, h5⟩ := partner_spec _ hp
      exact ⟨ty, x, q, i0, hop, hg, hd, zip_mem.1 h1, h2, h3, h4, h5⟩
    · cases h
  · cases h

theorem soft_kind {q : Oper} {i t s : Nat} {e : TypeId} (h1 : q.op = .alloc e) (h2 : q.dst = some t) (h3 : q.guard = none) (h4 : softOf ops ms i t = some s) : kindOf ops ms q i = .soft := by
  unfold kindOf
  simp [h1, h2, h3, h4]

/-- The store of a variable that waits is of the other kind. -/
theorem store_kind {q : Oper} {i t s : Nat} {e : TypeId} (hq : ops[i]? = some q) (h1 : q.op = .alloc e) (h2 : q.dst = some t) (h3 : q.guard = none) (h4 : softOf ops ms i t = some s) :
    ∃ o, ops[s]? = some o ∧ kindOf ops ms o s = .withVar e t := by
  obtain ⟨⟨o, ty, x, a1, a2, a3, a4, a5⟩, b1, b2, b3⟩ := softOf_spec h4
  obtain ⟨e', he⟩ := partner_some (ops := ops) (ms := ms) _ (zip_mem.2 hq) h1 h2 h3 h4
  have hee : e' = e := by
    obtain ⟨q', i', c1, c2, c3, c4, c5⟩ := partner_spec _ he
    by_cases hii : i' = i
    · subst hii
      rw [zip_mem.1 c1] at hq
      cases hq
      rw [h1] at c2
      cases c2
      rfl
    · have := b3 i' q' (zip_mem.1 c1) hii (.inl c3)
      subst this
      rw [zip_mem.1 c1] at a1
      cases a1
      rw [a2] at c2
      cases c2
  subst hee
  refine ⟨o, a1, ?_⟩
  unfold kindOf
  simp [a2, a3, a4, he]

/-- One owner to a slot that waits. -/
theorem owner_only {q q' : Oper} {i i' t s : Nat} {e : TypeId} (_hq : ops[i]? = some q) (_hd : q.dst = some t) (_h1 : q.op = .alloc e) (h4 : softOf ops ms i t = some s) (hq' : ops[i']? = some q') (h1' : q'.dst = some t) (_h2' : ∃ e, q'.op = .alloc e) : i' = i := by
  obtain ⟨⟨o, ty, x, a1, a2, a3, a4, a5⟩, b1, b2, b3⟩ := softOf_spec h4
  by_cases hii : i' = i
  · exact hii
  · have := b3 i' q' hq' hii (.inl h1')
    subst this
    rw [hq'] at a1
    cases a1
    rw [a4] at h1'
    cases h1'

/-- What a slot holds by the operations A, where each has written what it writes. -/
def VA (W : Nat → Option Tmp × Value) (A : Nat → Prop) (t : Tmp) (v0 v : Value) : Prop :=
  (∃ j, A j ∧ (W j).1 = some t ∧ (∀ j', A j' → (W j').1 = some t → j' ≤ j) ∧ v = (W j).2) ∨ ((∀ j, A j → (W j).1 ≠ some t) ∧ v = v0)

theorem VA.fun {W : Nat → Option Tmp × Value} {A A' : Nat → Prop} {t : Tmp} {v0 v v' : Value} (hA : ∀ j, (W j).1 = some t → (A j ↔ A' j)) (h : VA W A t v0 v) (h' : VA W A' t v0 v') : v = v' := by
  rcases h with ⟨j, a1, a2, a3, rfl⟩ | ⟨a1, rfl⟩ <;> rcases h' with ⟨k, b1, b2, b3, rfl⟩ | ⟨b1, rfl⟩
  · have h1 := a3 k ((hA k b2).2 b1) b2
    have h2 := b3 j ((hA j a2).1 a1) a2
    have : j = k := by omega
    rw [this]
  · exact absurd a2 (b1 j ((hA j a2).1 a1))
  · exact absurd b2 (a1 k ((hA k b2).2 b1))
  · rfl

theorem VA.more {W : Nat → Option Tmp × Value} {A : Nat → Prop} {t : Tmp} {v0 v : Value} {i : Nat} (hi : (W i).1 ≠ some t) (h : VA W A t v0 v) : VA W (fun j => A j ∨ j = i) t v0 v := by
  rcases h with ⟨j, a1, a2, a3, rfl⟩ | ⟨a1, rfl⟩
  · refine .inl ⟨j, .inl a1, a2, fun j' hj' hw => ?_, rfl⟩
    rcases hj' with hj' | rfl
    · exact a3 j' hj' hw
    · exact absurd hw hi
  · refine .inr ⟨fun j hj => ?_, rfl⟩
    rcases hj with hj | rfl
    · exact a1 j hj
    · exact hi

theorem VA.last {W : Nat → Option Tmp × Value} {A : Nat → Prop} {t : Tmp} {v0 : Value} {i : Nat} (hi : (W i).1 = some t) (hA : ∀ j, A j → (W j).1 = some t → j < i) : VA W (fun j => A j ∨ j = i) t v0 (W i).2 := by
  refine .inl ⟨i, .inr rfl, hi, fun j' hj' hw => ?_, rfl⟩
  rcases hj' with hj' | rfl
  · exact Nat.le_of_lt (hA j' hj' hw)
  · exact Nat.le_refl _

theorem Fm.get_put (F : Fm) (dst : Option Tmp) (v : Value) (t : Tmp) : (F.put dst v).tm.get t = if dst = some t ∧ t < F.n then some v else F.tm.get t := by
  cases dst with
  | none => simp [Fm.put]
  | some d =>
    simp only [Fm.put]
    split
    · rename_i hb
      have hlt : d < F.n := by simpa [Nat.blt_eq] using hb
      simp only [Tr.get_set, Option.some.injEq]
      by_cases h : t = d
      · subst h; simp [hlt]
      · simp [h, Ne.symm h]
    · rename_i hb
      have hge : ¬ d < F.n := by intro hh; rw [← Nat.blt_eq] at hh; rw [hh] at hb; cases hb
      by_cases h : d = t
      · subst h; simp [hge]
      · simp [h]

theorem Fm.put_same (F : Fm) (dst : Option Tmp) (v : Value) : (F.put dst v).n = F.n ∧ (F.put dst v).fn = F.fn ∧ (F.put dst v).round = F.round ∧ (F.put dst v).defers = F.defers := by
  cases dst with
  | none => simp [Fm.put]
  | some d => simp only [Fm.put]; split <;> simp

theorem va_text {W : Nat → Option Tmp × Value} {FF : Nat → Fm} {N : Nat} (hs : ∀ j, j < N → FF (j + 1) = (FF j).put (W j).1 (W j).2) : ∀ m, m ≤ N →
    ((FF m).n = (FF 0).n ∧ (FF m).fn = (FF 0).fn ∧ (FF m).round = (FF 0).round ∧ (FF m).defers = (FF 0).defers) ∧
    (∀ t, t < (FF 0).n → VA W (· < m) t (((FF 0).tm.get t).getD Eng.undef) (((FF m).tm.get t).getD Eng.undef)) ∧ ∀ t, (FF 0).n ≤ t → (FF m).tm.get t = (FF 0).tm.get t := by
  intro m
  induction m with
  | zero => intro _; exact ⟨⟨rfl, rfl, rfl, rfl⟩, fun t _ => .inr ⟨fun j hj => by omega, rfl⟩, fun t _ => rfl⟩
  | succ m ih =>
    intro hm
    obtain ⟨⟨a1, a2, a3, a4⟩, b, c⟩ := ih (by omega)
    have e := hs m (by omega)
    obtain ⟨p1, p2, p3, p4⟩ := Fm.put_same (FF m) (W m).1 (W m).2
    rw [← e] at p1 p2 p3 p4
    refine ⟨⟨p1.trans a1, p2.trans a2, p3.trans a3, p4.trans a4⟩, fun t ht => ?_, fun t ht => ?_⟩
    · have hset : (fun j => j < m + 1) = (fun j => j < m ∨ j = m) := by funext j; apply propext; omega
      rw [hset]
      by_cases hw : (W m).1 = some t
      · have : ((FF (m + 1)).tm.get t).getD Eng.undef = (W m).2 := by
          rw [e, Fm.get_put, if_pos ⟨hw, by rw [a1]; exact ht⟩]
          rfl
        rw [this]
        exact VA.last hw (fun j hj _ => hj)
      · have : (FF (m + 1)).tm.get t = (FF m).tm.get t := by
          rw [e, Fm.get_put, if_neg (fun hh => hw hh.1)]
        rw [this]
        exact (b t ht).more hw
    · rw [e, Fm.get_put, if_neg (fun hh => by have := hh.2; rw [a1] at this; exact absurd this (Nat.not_lt.2 ht))]
      exact c t ht

end
end Go.Eng
