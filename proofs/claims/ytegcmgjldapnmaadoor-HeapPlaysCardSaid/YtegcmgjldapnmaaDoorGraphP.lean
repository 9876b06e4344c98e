/- Outcomes of graphs: two ways to find them come to the same; what they are like. -/
namespace Go.Proofs.YtegcmgjldapnmaaDoor.Nim
abbrev St := Nat → Nat × Int
section
variable (G : List (List Nat))
def grow (v : Nat) : List Nat := G.getD v []
def won0 (S : St) (r : List Nat) : Bool := r.any fun t => (S t).1 == 0
def all1 (S : St) (r : List Nat) : Bool := r.all fun t => (S t).1 == 1
def refAt (S : St) (d : Int) (v : Nat) : Nat × Int :=
  if (S v).1 ≠ 2 then S v else if won0 S (grow G v) = true then (1, d) else if all1 S (grow G v) = true then (0, d) else S v
def wonP (S : St) (d : Int) (r : List Nat) : Bool := r.any fun t => (S t).1 == 0 && (S t).2 == d - 1
def lastP (S : St) (r : List Nat) : Int := r.foldl (fun m t => max m (S t).2) (-1)
def foundP (S : St) (d : Int) (v : Nat) : Bool := (S v).1 == 2 && (wonP S d (grow G v) || (all1 S (grow G v) && lastP S (grow G v) == d - 1))
def progAt (S : St) (d : Int) (v : Nat) : Nat × Int :=
  if foundP G S d v = true then (if wonP S d (grow G v) = true then (1, d) else (0, d)) else S v
def refS : Nat → St
  | 0 => fun _ => (2, 0)
  | d + 1 => refAt G (refS d) d

theorem max_le {S : St} {m : Int} : ∀ {r : List Nat} {a : Int}, a ≤ m → (∀ t ∈ r, (S t).2 ≤ m) → r.foldl (fun m t => max m (S t).2) a ≤ m
  | [], _, ha, _ => ha
  | t :: r, a, ha, h => max_le (r := r) (by have := h t (by simp); simp only [Int.max_def]; split <;> omega) (fun x hx => h x (by simp [hx]))
theorem le_max {S : St} : ∀ {r : List Nat} {a : Int}, a ≤ r.foldl (fun m t => max m (S t).2) a ∧ ∀ t ∈ r, (S t).2 ≤ r.foldl (fun m t => max m (S t).2) a
  | [], a => ⟨Int.le_refl _, fun t ht => by cases ht⟩
  | t :: r, a => by
    obtain ⟨h1, h2⟩ := le_max (S := S) (r := r) (a := max a (S t).2)
    simp only [List.foldl_cons]
    have : a ≤ max a (S t).2 ∧ (S t).2 ≤ max a (S t).2 := by simp only [Int.max_def]; split <;> omega
    refine ⟨by omega, fun x hx => ?_⟩
    rcases List.mem_cons.1 hx with rfl | hx
    · omega
    · exact h2 x hx
theorem max_at {S : St} : ∀ {r : List Nat} {a : Int}, r.foldl (fun m t => max m (S t).2) a = a ∨ ∃ t ∈ r, (S t).2 = r.foldl (fun m t => max m (S t).2) a
  | [], a => .inl rfl
  | t :: r, a => by
    simp only [List.foldl_cons]
    rcases max_at (S := S) (r := r) (a := max a (S t).2) with h | ⟨x, hx, h⟩
    · rw [h]
      by_cases hc : a ≤ (S t).2
      · exact .inr ⟨t, by simp, by simp only [Int.max_def]; split <;> omega⟩
      · exact .inl (by simp only [Int.max_def]; split <;> omega)
    · exact .inr ⟨x, by simp [hx], h⟩

/-- What holds before round d. -/
structure InvS (d : Nat) (S : St) : Prop where
  k : ∀ v, (S v).1 ≤ 2
  dr : ∀ v, (S v).1 = 2 → S v = (2, 0)
  di : ∀ v, (S v).1 ≠ 2 → 0 ≤ (S v).2 ∧ (S v).2 < d
  lo : ∀ v, (S v).1 = 2 → ∀ t ∈ grow G v, (S t).1 = 0 → (S t).2 = (d : Int) - 1
  al : ∀ v, (S v).1 = 2 → all1 S (grow G v) = true → lastP S (grow G v) = (d : Int) - 1

theorem all1_iff {S : St} {r : List Nat} : all1 S r = true ↔ ∀ t ∈ r, (S t).1 = 1 := by simp [all1]
theorem won0_iff {S : St} {r : List Nat} : won0 S r = true ↔ ∃ t ∈ r, (S t).1 = 0 := by simp [won0]
theorem wonP_iff {S : St} {d : Int} {r : List Nat} : wonP S d r = true ↔ ∃ t ∈ r, S t = (0, d - 1) := by
  simp only [wonP, List.any_eq_true, Bool.and_eq_true, beq_iff_eq, Prod.ext_iff]

variable {G}
theorem refAt_old {S : St} {d : Int} {v : Nat} (h : (S v).1 ≠ 2) : refAt G S d v = S v := if_pos h
theorem refAt_new {S : St} {d : Int} {v : Nat} (h : (S v).1 = 2) : refAt G S d v = (if won0 S (grow G v) = true then (1, d) else if all1 S (grow G v) = true then (0, d) else S v) := by
  unfold refAt
  rw [if_neg (fun hc => hc h)]
theorem refAt_cases {S : St} {d : Int} {v : Nat} (h : (S v).1 = 2) : (refAt G S d v = (1, d) ∧ won0 S (grow G v) = true) ∨ (refAt G S d v = (0, d) ∧ won0 S (grow G v) = false ∧ all1 S (grow G v) = true) ∨ (refAt G S d v = S v ∧ won0 S (grow G v) = false ∧ all1 S (grow G v) = false) := by
  rw [refAt_new h]
  cases h1 : won0 S (grow G v) <;> cases h2 : all1 S (grow G v) <;> simp
theorem inv_step {d : Nat} {S : St} (I : InvS G d S) : InvS G (d + 1) (refAt G S d) := by
  have old : ∀ t, (S t).1 ≠ 2 → refAt G S d t = S t := fun t => refAt_old
  have drawn : ∀ v, (refAt G S d v).1 = 2 → (S v).1 = 2 ∧ refAt G S d v = S v ∧ won0 S (grow G v) = false ∧ all1 S (grow G v) = false := by
    intro v hv
    by_cases h : (S v).1 = 2
    · rcases refAt_cases (G := G) (d := d) h with ⟨e, _⟩ | ⟨e, _⟩ | ⟨e, h1, h2⟩
      · rw [e] at hv; cases hv
      · rw [e] at hv; cases hv
      · exact ⟨h, e, h1, h2⟩
    · rw [old v h] at hv; exact absurd hv h
  have le : ∀ t, (refAt G S d t).2 ≤ d ∧ ((refAt G S d t).1 ≠ 2 → 0 ≤ (refAt G S d t).2) := by
    intro t
    by_cases h : (S t).1 = 2
    · rcases refAt_cases (G := G) (d := d) h with ⟨e, _⟩ | ⟨e, _⟩ | ⟨e, h1, h2⟩
      · rw [e]; exact ⟨Int.le_refl _, fun _ => by simp⟩
      · rw [e]; exact ⟨Int.le_refl _, fun _ => by simp⟩
      · rw [e, I.dr t h]; exact ⟨by simp, fun _ => by simp⟩
    · rw [old t h]; have := I.di t h; exact ⟨by omega, fun _ => this.1⟩
  refine ⟨fun v => ?_, fun v hv => ?_, fun v hv => ?_, fun v hv t ht h0 => ?_, fun v hv ha => ?_⟩
  · by_cases h : (S v).1 = 2
    · rcases refAt_cases (G := G) (d := d) h with ⟨e, _⟩ | ⟨e, _⟩ | ⟨e, h1, h2⟩
      · rw [e]; simp
      · rw [e]; simp
      · rw [e]; exact I.k v
    · rw [old v h]; exact I.k v
  · obtain ⟨h, e, _⟩ := drawn v hv
    rw [e]; exact I.dr v h
  · have := le v
    exact ⟨this.2 hv, by omega⟩
  · obtain ⟨h, e, h1, h2⟩ := drawn v hv
    by_cases ht2 : (S t).1 = 2
    · rcases refAt_cases (G := G) (d := d) ht2 with ⟨e, _⟩ | ⟨e, _⟩ | ⟨e, _, _⟩
      · rw [e] at h0; cases h0
      · rw [e]; show (d : Int) = _; omega
      · rw [e, ht2] at h0; cases h0
    · rw [old t ht2] at h0
      have : won0 S (grow G v) = true := won0_iff.2 ⟨t, ht, h0⟩
      rw [h1] at this; cases this
  · obtain ⟨h, e, h1, h2⟩ := drawn v hv
    have ha' := all1_iff.1 ha
    have : ¬ ∀ t ∈ grow G v, (S t).1 = 1 := fun hc => by rw [all1_iff.2 hc] at h2; cases h2
    have : ∃ t ∈ grow G v, (S t).1 ≠ 1 := Classical.byContradiction fun hc => this fun t ht => Classical.byContradiction fun h => hc ⟨t, ht, h⟩
    obtain ⟨t, ht, htn⟩ := this
    have ht1 := ha' t ht
    have et : (refAt G S d t).2 = d := by
      by_cases ht2 : (S t).1 = 2
      · rcases refAt_cases (G := G) (d := d) ht2 with ⟨e, _⟩ | ⟨e, _⟩ | ⟨e, _, _⟩
        · rw [e]
        · rw [e]
        · rw [e, ht2] at ht1; cases ht1
      · rw [old t ht2] at ht1; exact absurd ht1 htn
    have g1 := max_le (S := refAt G S d) (m := d) (r := grow G v) (a := -1) (by omega) (fun t _ => (le t).1)
    have g2 := (le_max (S := refAt G S d) (r := grow G v) (a := -1)).2 t ht
    unfold lastP
    omega
theorem inv_refS : ∀ d, InvS G d (refS G d)
  | 0 => by
    refine ⟨fun v => Nat.le_refl _, fun v _ => rfl, fun v hv => absurd rfl hv, fun v _ t _ h => (by cases h), fun v _ h => ?_⟩
    have : grow G v = [] := by
      cases hg : grow G v with
      | nil => rfl
      | cons t r => have := all1_iff.1 h t (by rw [hg]; simp); cases this
    rw [this]; rfl
  | d + 1 => inv_step (inv_refS d)
/-- Both ways. -/
theorem prog_ref {d : Nat} {S : St} (I : InvS G d S) (v : Nat) : progAt G S d v = refAt G S d v := by
  unfold progAt foundP
  by_cases h : (S v).1 = 2
  · have hw : wonP S d (grow G v) = won0 S (grow G v) := by
      rw [Bool.eq_iff_iff, wonP_iff, won0_iff]
      constructor
      · rintro ⟨t, ht, e⟩; exact ⟨t, ht, by rw [e]⟩
      · rintro ⟨t, ht, e⟩; exact ⟨t, ht, Prod.ext e (I.lo v h t ht e)⟩
    rw [refAt_new h, hw, h]
    cases h1 : won0 S (grow G v) with
    | true => simp
    | false =>
      cases h2 : all1 S (grow G v) with
      | true => simp [I.al v h h2]
      | false => simp
  · rw [refAt_old h]
    have : ((S v).1 == 2) = false := by simpa using h
    rw [this]
    simp

/-- What the outcomes are like. -/
structure FinS (G : List (List Nat)) (S : St) : Prop where
  w1 : ∀ v, (S v).1 = 1 → ∃ t ∈ grow G v, S t = (0, (S v).2 - 1)
  w2 : ∀ v, (S v).1 = 1 → ∀ t ∈ grow G v, (S t).1 = 0 → (S v).2 - 1 ≤ (S t).2
  l1 : ∀ v, (S v).1 = 0 → ∀ t ∈ grow G v, (S t).1 = 1 ∧ (S t).2 ≤ (S v).2 - 1
  l2 : ∀ v, (S v).1 = 0 → grow G v ≠ [] → ∃ t ∈ grow G v, S t = (1, (S v).2 - 1)
  l3 : ∀ v, (S v).1 = 0 → grow G v = [] → (S v).2 = 0
theorem fin_step {d : Nat} {S : St} (I : InvS G d S) (F : FinS G S) : FinS G (refAt G S d) := by
  have old : ∀ t, (S t).1 ≠ 2 → refAt G S d t = S t := fun t => refAt_old
  have new : ∀ t, (S t).1 = 2 → (refAt G S d t).1 ≠ 2 → (refAt G S d t).2 = d := by
    intro t ht h
    rcases refAt_cases (G := G) (d := d) ht with ⟨e, _⟩ | ⟨e, _⟩ | ⟨e, _, _⟩
    · rw [e]
    · rw [e]
    · rw [e] at h; exact absurd ht h
  have zero : ∀ t, (refAt G S d t).1 = 0 → (S t).1 ≠ 2 → (S t).1 = 0 := fun t h h2 => by rw [old t h2] at h; exact h
  refine ⟨fun v hv => ?_, fun v hv t ht h0 => ?_, fun v hv t ht => ?_, fun v hv hn => ?_, fun v hv hn => ?_⟩
  · by_cases h : (S v).1 = 2
    · rcases refAt_cases (G := G) (d := d) h with ⟨e, hw⟩ | ⟨e, _⟩ | ⟨e, _, _⟩
      · obtain ⟨t, ht, h0⟩ := won0_iff.1 hw
        refine ⟨t, ht, ?_⟩
        rw [old t (by rw [h0]; decide), e]
        exact Prod.ext h0 (I.lo v h t ht h0)
      · rw [e] at hv; cases hv
      · rw [e, h] at hv; cases hv
    · rw [old v h] at hv ⊢
      obtain ⟨t, ht, e⟩ := F.w1 v hv
      exact ⟨t, ht, by rw [old t (by rw [e]; simp)]; exact e⟩
  · have hlt : (refAt G S d v).2 ≤ d := by
      by_cases h : (S v).1 = 2
      · rw [new v h (by rw [hv]; decide)]; exact Int.le_refl _
      · rw [old v h]; have := (I.di v h).2; omega
    by_cases ht2 : (S t).1 = 2
    · rw [new t ht2 (by rw [h0]; decide)]; omega
    · have h00 := zero t h0 ht2
      rw [old t ht2]
      by_cases h : (S v).1 = 2
      · have := I.lo v h t ht h00; omega
      · rw [old v h] at hv ⊢
        exact F.w2 v hv t ht h00
  · by_cases h : (S v).1 = 2
    · rcases refAt_cases (G := G) (d := d) h with ⟨e, _⟩ | ⟨e, _, ha⟩ | ⟨e, _, _⟩
      · rw [e] at hv; cases hv
      · have h1 := all1_iff.1 ha t ht
        rw [old t (by rw [h1]; decide), e]
        have := (I.di t (by rw [h1]; decide)).2
        exact ⟨h1, by show (S t).2 ≤ (d : Int) - 1; omega⟩
      · rw [e, h] at hv; cases hv
    · rw [old v h] at hv ⊢
      have h1 := F.l1 v hv t ht
      rw [old t (by rw [h1.1]; decide)]
      exact h1
  · by_cases h : (S v).1 = 2
    · rcases refAt_cases (G := G) (d := d) h with ⟨e, _⟩ | ⟨e, _, ha⟩ | ⟨e, _, _⟩
      · rw [e] at hv; cases hv
      · have hl := I.al v h ha
        have h1 := all1_iff.1 ha
        rw [e]
        rcases max_at (S := S) (r := grow G v) (a := -1) with hm | ⟨t, ht, hm⟩
        · obtain ⟨t, ht⟩ := List.exists_mem_of_ne_nil _ hn
          have := (I.di t (by rw [h1 t ht]; decide))
          unfold lastP at hl
          omega
        · refine ⟨t, ht, ?_⟩
          rw [old t (by rw [h1 t ht]; decide)]
          unfold lastP at hl
          exact Prod.ext (h1 t ht) (hm.trans hl)
      · rw [e, h] at hv; cases hv
    · rw [old v h] at hv ⊢
      obtain ⟨t, ht, e⟩ := F.l2 v hv hn
      exact ⟨t, ht, by rw [old t (by rw [e]; simp)]; exact e⟩
  · by_cases h : (S v).1 = 2
    · rcases refAt_cases (G := G) (d := d) h with ⟨e, _⟩ | ⟨e, _, ha⟩ | ⟨e, _, _⟩
      · rw [e] at hv; cases hv
      · have hl := I.al v h ha
        rw [hn] at hl
        rw [e]
        have hl : (-1 : Int) = d - 1 := hl
        show (d : Int) = 0
        omega
      · rw [e, h] at hv; cases hv
    · rw [old v h] at hv ⊢
      exact F.l3 v hv hn
theorem fin_refS : ∀ d, FinS G (refS G d)
  | 0 => ⟨fun _ h => (by cases h), fun _ h => (by cases h), fun _ h => (by cases h), fun _ h => (by cases h), fun _ h => (by cases h)⟩
  | d + 1 => fin_step (inv_refS d) (fin_refS d)
end
section
variable {G : List (List Nat)}
theorem refS_empty {v : Nat} (h : grow G v = []) : ∀ d, refS G (d + 1) v = (0, 0)
  | 0 => by
    show refAt G (fun _ => (2, 0)) (0 : Nat) v = (0, 0)
    rw [refAt_new rfl, h]
    rfl
  | d + 1 => by
    show refAt G (refS G (d + 1)) (d + 1 : Nat) v = (0, 0)
    rw [refAt_old (by rw [refS_empty h d]; decide), refS_empty h d]
theorem count_le {p q : Nat → Bool} : ∀ {l : List Nat}, (∀ x ∈ l, p x = true → q x = true) → l.countP p ≤ l.countP q
  | [], _ => Nat.le_refl _
  | x :: l, h => by
    have ih := count_le (l := l) (fun y hy => h y (by simp [hy]))
    rw [List.countP_cons, List.countP_cons]
    have hx := h x (by simp)
    cases hp : p x
    · simp; omega
    · rw [hx hp]; simp; omega
theorem count_lt {p q : Nat → Bool} {v : Nat} (hp : p v = false) (hq : q v = true) : ∀ {l : List Nat}, (∀ x ∈ l, p x = true → q x = true) → v ∈ l → l.countP p < l.countP q
  | [], _, hv => by cases hv
  | x :: l, h, hv => by
    rw [List.countP_cons, List.countP_cons]
    rcases List.mem_cons.1 hv with rfl | hv
    · have ih := count_le (l := l) (fun y hy => h y (by simp [hy]))
      rw [hp, hq]; simp; omega
    · have ih := count_lt hp hq (l := l) (fun y hy => h y (by simp [hy])) hv
      have hx := h x (by simp)
      cases hpx : p x
      · simp; omega
      · rw [hx hpx]; simp; omega
/-- Nothing is found any more. -/
def Still (G : List (List Nat)) (d : Nat) : Prop := ∀ v, v < G.length → (refS G d v).1 = 2 → won0 (refS G d) (grow G v) = false ∧ all1 (refS G d) (grow G v) = false
def told (G : List (List Nat)) (d : Nat) : Nat := (List.range G.length).countP fun v => (refS G d v).1 != 2
theorem still_same {d : Nat} (hs : Still G d) {v : Nat} (hv : v < G.length) : refS G (d + 1) v = refS G d v := by
  show refAt G (refS G d) d v = _
  by_cases h : (refS G d v).1 = 2
  · rcases refAt_cases (G := G) (d := (d : Int)) h with ⟨_, e⟩ | ⟨_, _, e⟩ | ⟨e, _⟩
    · rw [(hs v hv h).1] at e; cases e
    · rw [(hs v hv h).2] at e; cases e
    · exact e
  · exact refAt_old h
theorem still_succ (hG : ∀ i t, t ∈ grow G i → t < G.length) {d : Nat} (hs : Still G d) : Still G (d + 1) := by
  intro v hv h2
  rw [still_same hs hv] at h2
  have h1 := hs v hv h2
  have e : ∀ f : Nat × Int → Bool, ((grow G v).any fun t => f (refS G (d + 1) t)) = ((grow G v).any fun t => f (refS G d t)) := by
    intro f
    rw [Bool.eq_iff_iff, List.any_eq_true, List.any_eq_true]
    constructor
    · rintro ⟨t, ht, hf⟩; exact ⟨t, ht, by rwa [still_same hs (hG v t ht)] at hf⟩
    · rintro ⟨t, ht, hf⟩; exact ⟨t, ht, by rwa [still_same hs (hG v t ht)]⟩
  have e2 : ((grow G v).all fun t => (refS G (d + 1) t).1 == 1) = ((grow G v).all fun t => (refS G d t).1 == 1) := by
    rw [Bool.eq_iff_iff, List.all_eq_true, List.all_eq_true]
    constructor
    · intro h t ht; have := h t ht; rwa [still_same hs (hG v t ht)] at this
    · intro h t ht; rw [still_same hs (hG v t ht)]; exact h t ht
  exact ⟨(e (fun x => x.1 == 0)).trans h1.1, e2.trans h1.2⟩
theorem told_succ {d : Nat} (hs : ¬ Still G d) : told G d < told G (d + 1) := by
  have hs : ∃ v, v < G.length ∧ (refS G d v).1 = 2 ∧ ¬ (won0 (refS G d) (grow G v) = false ∧ all1 (refS G d) (grow G v) = false) := by
    refine Classical.byContradiction fun hc => hs fun v hv h2 => Classical.byContradiction fun h => hc ⟨v, hv, h2, h⟩
  obtain ⟨v, hv, h2, h3⟩ := hs
  refine count_lt (v := v) (by simp [h2]) ?_ (fun x _ hx => ?_) (List.mem_range.2 hv)
  · show ((refAt G (refS G d) d v).1 != 2) = true
    rcases refAt_cases (G := G) (d := (d : Int)) h2 with ⟨e, _⟩ | ⟨e, _⟩ | ⟨_, e⟩
    · rw [e]; rfl
    · rw [e]; rfl
    · exact absurd e h3
  · show ((refAt G (refS G d) d x).1 != 2) = true
    rw [refAt_old (by simpa using hx)]
    exact hx
theorem still_end (hG : ∀ i t, t ∈ grow G i → t < G.length) : Still G (G.length + 1) := by
  have key : ∀ d, Still G d ∨ d ≤ told G d := by
    intro d
    induction d with
    | zero => exact .inr (Nat.zero_le _)
    | succ d ih =>
      by_cases hs : Still G d
      · exact .inl (still_succ hG hs)
      · have := told_succ hs
        rcases ih with h | h
        · exact absurd h hs
        · exact .inr (by omega)
  rcases key (G.length + 1) with h | h
  · exact h
  · have : told G (G.length + 1) ≤ G.length := by
      have := List.countP_le_length (p := fun v => (refS G (G.length + 1) v).1 != 2) (l := List.range G.length)
      rwa [List.length_range] at this
    omega
end
end Go.Proofs.YtegcmgjldapnmaaDoor.Nim
