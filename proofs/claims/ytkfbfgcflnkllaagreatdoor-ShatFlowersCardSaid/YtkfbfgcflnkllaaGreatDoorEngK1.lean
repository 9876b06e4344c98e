/- A region that draws its order: what the evaluator has looked at. -/
import Derived.Test.YtkfbfgcflnkllaaGreatDoorEngJ2
namespace Go.Eng
open Go.RowKit

/-! ### Which operation comes ahead of which -/

theorem testBit_or_pow {s e m j : Nat} (h : (s ||| 2 ^ e ||| m).testBit j = true) : s.testBit j = true ∨ e = j ∨ m.testBit j = true := by
  simp only [Nat.testBit_or, Bool.or_eq_true, Nat.testBit_two_pow, decide_eq_true_eq] at h
  rcases h with (h | h) | h
  · exact .inl h
  · exact .inr (.inl h)
  · exact .inr (.inr h)

theorem maskOf_spec (acc : List Nat) : ∀ (l : List Edge) (s j : Nat), (maskOf acc l s).testBit j = true → s.testBit j = true ∨ ∃ e ∈ l, Region.binds .any e = true ∧ (e.on = j ∨ (acc.getD e.on 0).testBit j = true)
  | [], s, j, h => .inl h
  | e :: r, s, j, h => by
    simp only [maskOf] at h
    split at h
    · rename_i hb
      rcases maskOf_spec acc r _ j h with h | ⟨e', h1, h2⟩
      · rcases testBit_or_pow h with h | h | h
        · exact .inl h
        · exact .inr ⟨e, by simp, hb, .inl h⟩
        · exact .inr ⟨e, by simp, hb, .inr h⟩
      · exact .inr ⟨e', by simp [h1], h2⟩
    · rcases maskOf_spec acc r _ j h with h | ⟨e', h1, h2⟩
      · exact .inl h
      · exact .inr ⟨e', by simp [h1], h2⟩

theorem masks_spec : ∀ (l : List Oper) (acc ms : List Nat), masks l acc = some ms → (∃ tl, ms = acc ++ tl) ∧ ms.length = acc.length + l.length ∧
    ∀ i o, l[i]? = some o → (∀ e ∈ o.after.toList, Region.binds .any e = true → e.on < acc.length + i) ∧
      ∀ j, anc ms (acc.length + i) j = true → ∃ e ∈ o.after.toList, Region.binds .any e = true ∧ (e.on = j ∨ anc ms e.on j = true)
  | [], acc, ms, h => by
    simp [masks] at h
    subst h
    exact ⟨⟨[], by simp⟩, by simp, by simp⟩
  | o :: r, acc, ms, h => by
    simp only [masks] at h
    split at h
    · rename_i he
      obtain ⟨⟨tl, h1⟩, h2, h3⟩ := masks_spec r _ ms h
      have hedge : ∀ e ∈ o.after.toList, Region.binds .any e = true → e.on < acc.length := by
        intro e hm hb
        unfold edgesOK at he
        rw [List.all_eq_true] at he
        have := he e hm
        simp only [hb, Bool.not_true, Bool.false_or, Nat.blt_eq] at this
        exact this
      refine ⟨⟨[maskOf acc o.after.toList 0] ++ tl, by rw [h1]; simp⟩, by rw [h2]; simp; omega, fun i q hq => ?_⟩
      cases i with
      | zero =>
        simp at hq
        subst hq
        refine ⟨fun e hm hb => by simpa using hedge e hm hb, fun j hj => ?_⟩
        have hm : ms.getD acc.length 0 = maskOf acc o.after.toList 0 := by rw [h1]; simp [List.getD]
        simp only [anc, Nat.add_zero, hm] at hj
        rcases maskOf_spec acc _ _ j hj with hj | ⟨e, q1, q2, q3⟩
        · simp at hj
        · refine ⟨e, q1, q2, ?_⟩
          rcases q3 with q3 | q3
          · exact .inl q3
          · right
            have hlt := hedge e q1 q2
            have : ms.getD e.on 0 = acc.getD e.on 0 := by rw [h1]; simp [List.getD, List.getElem?_append_left, hlt]
            simp only [anc, this]
            exact q3
      | succ i =>
        have := h3 i q (by simpa using hq)
        simp only [List.length_append, List.length_cons, List.length_nil] at this
        rw [show acc.length + (i + 1) = acc.length + (0 + 1) + i from by omega]
        exact this
    · cases h

section
variable {callF : CallF} {P : Program} {ops : Array Oper} {ms : List Nat}

/-- A set of operations with all that comes ahead of them. -/
def Closed (ops : Array Oper) (A : Nat → Prop) : Prop := ∀ i o, A i → ops[i]? = some o → ∀ e ∈ o.after.toList, Region.binds .any e = true → A e.on

theorem anc_in (hm : masks ops.toList [] = some ms) {A : Nat → Prop} (hA : Closed ops A) : ∀ (i : Nat) (o : Oper), ops[i]? = some o → (∀ e ∈ o.after.toList, Region.binds .any e = true → A e.on) → ∀ j, anc ms i j = true → A j := by
  intro i
  induction i using Nat.strongRecOn with
  | _ i ih =>
    intro o ho hr j hj
    obtain ⟨_, _, h3⟩ := masks_spec ops.toList [] ms hm
    have h4 := h3 i o (by simpa using ho)
    simp only [List.length_nil, Nat.zero_add] at h4
    obtain ⟨e, q1, q2, q3⟩ := h4.2 j hj
    have hon := hr e q1 q2
    rcases q3 with q3 | q3
    · rw [← q3]; exact hon
    · have hlt := h4.1 e q1 q2
      have hex : ∃ o', ops[e.on]? = some o' := by
        have hi : i < ops.size := (Array.getElem?_eq_some_iff.1 ho).1
        exact ⟨ops[e.on]'(by omega), Array.getElem?_eq_getElem (by omega)⟩
      obtain ⟨o', ho'⟩ := hex
      exact ih e.on hlt o' ho' (fun e' h1 h2 => hA e.on o' hon ho' e' h1 h2) j q3

theorem anc_lt (hm : masks ops.toList [] = some ms) : ∀ (i : Nat) (o : Oper), ops[i]? = some o → ∀ j, anc ms i j = true → j < i := by
  intro i
  induction i using Nat.strongRecOn with
  | _ i ih =>
    intro o ho j hj
    obtain ⟨_, _, h3⟩ := masks_spec ops.toList [] ms hm
    have h4 := h3 i o (by simpa using ho)
    simp only [List.length_nil, Nat.zero_add] at h4
    obtain ⟨e, q1, q2, q3⟩ := h4.2 j hj
    have hlt := h4.1 e q1 q2
    rcases q3 with q3 | q3
    · omega
    · have hi : i < ops.size := (Array.getElem?_eq_some_iff.1 ho).1
      have := ih e.on hlt (ops[e.on]'(by omega)) (Array.getElem?_eq_getElem (by omega)) j q3
      omega

/-! ### The run in the order of the text -/

/-- Which slot an operation writes, and what (nothing where it waits for its store). -/
def dstW (o : Oper) (v : Value) : List (Tmp × Value) := match o.dst with
  | some d => [(d, v)]
  | none => []

def wOf (ops : Array Oper) (ms : List Nat) (o : Oper) (i : Nat) (r : Rec) : List (Tmp × Value) :=
  match kindOf ops ms o i with
  | .soft => []
  | .withVars _ => r.ws ++ dstW o (if r.wt then r.v else undef)
  | .norm => dstW o (if r.wt then r.v else undef)

/-- One operation of the run in the order of the text. -/
def StepFact (callF : CallF) (P : Program) (ops : Array Oper) (ms : List Nat) (o : Oper) (i : Nat) (F F' : Fm) (h h' : Hp) (r : Rec) : Prop :=
  F' = F.putL (wOf ops ms o i r) ∧ r.h = h' ∧
  match kindOf ops ms o i with
  | .soft => h' = h ∧ r.wt = false
  | .withVars l => r.wt = wantedT ops F o ∧ (r.wt = true → r.F = F.putL r.ws ∧ ∃ h1, evBring callF P l F h = some (r.ws, h1) ∧ evOp callF P o r.F h1 = some (r.v, h')) ∧ (r.wt = false → h' = h ∧ r.ws = unds l)
  | .norm => r.F = F ∧ r.wt = wantedT ops F o ∧ (r.wt = true → evOp callF P o F h = some (r.v, h')) ∧ (r.wt = false → h' = h)

theorem putL_app (F : Fm) : ∀ (l r : List (Tmp × Value)), F.putL (l ++ r) = (F.putL l).putL r := by
  intro l
  induction l generalizing F with
  | nil => intro r; rfl
  | cons p l ih => intro r; exact ih _ r

theorem putL_dst (F : Fm) (o : Oper) (v : Value) : F.putL (dstW o v) = F.put o.dst v := by
  unfold dstW
  cases o.dst with
  | none => rfl
  | some d => rfl

theorem evTr_facts : ∀ (l : List Oper) (i : Nat) (F : Fm) (h : Hp) (rs : List Rec) (F' : Fm) (h' : Hp), evTr callF P ops ms l i F h = some (rs, F', h') →
    ∃ (FF : Nat → Fm) (HH : Nat → Hp), FF 0 = F ∧ HH 0 = h ∧ FF l.length = F' ∧ HH l.length = h' ∧ rs.length = l.length ∧
      ∀ j o, l[j]? = some o → ∃ r, rs[j]? = some r ∧ StepFact callF P ops ms o (i + j) (FF j) (FF (j + 1)) (HH j) (HH (j + 1)) r
  | [], i, F, h, rs, F', h', ht => by
    simp [evTr] at ht
    obtain ⟨rfl, rfl, rfl⟩ := ht
    exact ⟨fun _ => F, fun _ => h, rfl, rfl, rfl, rfl, rfl, by simp⟩
  | o :: rest, i, F, h, rs, F', h', ht => by
    have cons : ∀ (F1 : Fm) (h1 : Hp) (r : Rec) (q : List Rec), evTr callF P ops ms rest (i + 1) F1 h1 = some (q, F', h') → rs = r :: q → StepFact callF P ops ms o i F F1 h h1 r →
        ∃ (FF : Nat → Fm) (HH : Nat → Hp), FF 0 = F ∧ HH 0 = h ∧ FF (o :: rest).length = F' ∧ HH (o :: rest).length = h' ∧ rs.length = (o :: rest).length ∧
          ∀ j o', (o :: rest)[j]? = some o' → ∃ r, rs[j]? = some r ∧ StepFact callF P ops ms o' (i + j) (FF j) (FF (j + 1)) (HH j) (HH (j + 1)) r := by
      intro F1 h1 r q hq hrs hst
      obtain ⟨FF, HH, a1, a2, a3, a4, a5, a6⟩ := evTr_facts rest (i + 1) F1 h1 q F' h' hq
      refine ⟨fun j => match j with | 0 => F | j + 1 => FF j, fun j => match j with | 0 => h | j + 1 => HH j, rfl, rfl, a3, a4, by rw [hrs]; simp [a5], fun j o' hj => ?_⟩
      cases j with
      | zero =>
        simp at hj
        subst hj
        exact ⟨r, by rw [hrs]; rfl, by simp only [Nat.add_zero, a1, a2]; exact hst⟩
      | succ j =>
        obtain ⟨r', b1, b2⟩ := a6 j o' (by simpa using hj)
        exact ⟨r', by rw [hrs]; simpa using b1, by rw [show i + (j + 1) = i + 1 + j from by omega]; exact b2⟩
    simp only [evTr] at ht
    split at ht
    · rename_i hk
      split at ht
      · rename_i q r hq
        cases ht
        refine cons F h _ q hq rfl ⟨by simp [wOf, hk, Fm.putL], rfl, ?_⟩
        rw [hk]
        exact ⟨rfl, rfl⟩
      · cases ht
    · rename_i l hk
      split at ht
      · rename_i hw
        split at ht
        · rename_i ws h1 hb
          split at ht
          · rename_i v h2 hop
            split at ht
            · rename_i q r hq
              cases ht
              refine cons _ h2 _ q hq rfl ⟨by simp only [wOf, hk]; rw [putL_app, putL_dst]; rfl, rfl, ?_⟩
              rw [hk]
              exact ⟨hw.symm, fun _ => ⟨rfl, h1, hb, hop⟩, fun hh => by cases hh⟩
            · cases ht
          · cases ht
        · cases ht
      · rename_i hw
        split at ht
        · rename_i q r hq
          cases ht
          refine cons _ h _ q hq rfl ⟨by simp only [wOf, hk]; rw [putL_app, putL_dst]; rfl, rfl, ?_⟩
          rw [hk]
          exact ⟨hw.symm, (fun hh => by cases hh), fun _ => ⟨rfl, rfl⟩⟩
        · cases ht
    · rename_i hk
      split at ht
      · rename_i hw
        split at ht
        · rename_i v h2 hop
          split at ht
          · rename_i q r hq
            cases ht
            refine cons _ h2 _ q hq rfl ⟨by simp only [wOf, hk]; rw [putL_dst]; rfl, rfl, ?_⟩
            rw [hk]
            exact ⟨rfl, hw.symm, (fun _ => hop), fun hh => by cases hh⟩
          · cases ht
        · cases ht
      · rename_i hw
        split at ht
        · rename_i q r hq
          cases ht
          refine cons _ h _ q hq rfl ⟨by simp only [wOf, hk]; rw [putL_dst]; rfl, rfl, ?_⟩
          rw [hk]
          exact ⟨rfl, hw.symm, (fun hh => by cases hh), fun _ => rfl⟩
        · cases ht

theorem effsOf_spec : ∀ (l : List Oper) (rs : List Rec) (i : Nat), rs.length = l.length →
    (∀ e, e ∈ effsOf ops ms l rs i ↔ ∃ j o r, l[j]? = some o ∧ rs[j]? = some r ∧ (r.wt && effK ops ms o (i + j)) = true ∧ e = (i + j, r.h)) ∧ (effsOf ops ms l rs i).Pairwise (fun a b => a.1 < b.1)
  | [], rs, i, _ => by cases rs <;> simp [effsOf]
  | o :: l, [], i, h => by simp at h
  | o :: l, r :: rs, i, h => by
    obtain ⟨h1, h2⟩ := effsOf_spec l rs (i + 1) (by simpa using h)
    have key : ∀ e, (∃ j o' r', (o :: l)[j]? = some o' ∧ (r :: rs)[j]? = some r' ∧ (r'.wt && effK ops ms o' (i + j)) = true ∧ e = (i + j, r'.h)) ↔ ((r.wt && effK ops ms o i) = true ∧ e = (i, r.h)) ∨ e ∈ effsOf ops ms l rs (i + 1) := by
      intro e
      rw [h1]
      constructor
      · rintro ⟨j, o', r', a1, a2, a3, a4⟩
        cases j with
        | zero => simp at a1 a2; subst a1; subst a2; exact .inl ⟨by simpa using a3, by simpa using a4⟩
        | succ j => exact .inr ⟨j, o', r', by simpa using a1, by simpa using a2, by rw [show i + 1 + j = i + (j + 1) by omega]; exact a3, by rw [a4]; congr 1; omega⟩
      · rintro (⟨a1, a2⟩ | ⟨j, o', r', a1, a2, a3, a4⟩)
        · exact ⟨0, o, r, rfl, rfl, by simpa using a1, by simpa using a2⟩
        · exact ⟨j + 1, o', r', by simpa using a1, by simpa using a2, by rw [show i + (j + 1) = i + 1 + j by omega]; exact a3, by rw [a4]; congr 1; omega⟩
    simp only [effsOf]
    split
    · rename_i hq
      refine ⟨fun e => ?_, ?_⟩
      · rw [key, List.mem_cons]
        simp [hq]
      · rw [List.pairwise_cons]
        refine ⟨fun e he => ?_, h2⟩
        obtain ⟨j, _, _, _, _, _, rfl⟩ := (h1 e).1 he
        simp
        omega
    · rename_i hq
      refine ⟨fun e => ?_, h2⟩
      rw [key]
      simp [hq]

theorem chainOK_spec : ∀ (l : List (Nat × Hp)), chainOK ms l = true → l.Pairwise (fun a b => anc ms b.1 a.1 = true)
  | [], _ => List.Pairwise.nil
  | e :: r, h => by
    simp only [chainOK, Bool.and_eq_true, List.all_eq_true] at h
    rw [List.pairwise_cons]
    exact ⟨h.1, chainOK_spec r h.2⟩

theorem pair_of_sorted : ∀ (l : List (Nat × Hp)), l.Pairwise (fun a b => a.1 < b.1) → l.Pairwise (fun a b => anc ms b.1 a.1 = true) → ∀ a ∈ l, ∀ b ∈ l, a.1 < b.1 → anc ms b.1 a.1 = true
  | [], _, _, a, ha, _, _, _ => by cases ha
  | x :: r, h1, h2, a, ha, b, hb, hab => by
    rw [List.pairwise_cons] at h1 h2
    rcases List.mem_cons.1 ha with ha' | ha'
    · subst ha'
      rcases List.mem_cons.1 hb with hb' | hb'
      · subst hb'; omega
      · exact h2.1 b hb'
    · rcases List.mem_cons.1 hb with hb' | hb'
      · subst hb'
        have := h1.1 a ha'
        omega
      · exact pair_of_sorted r h1.2 h2.2 a ha' b hb' hab

theorem readsOK_spec {effs : List (Nat × Hp)} {h : Hp} : ∀ (l : List Oper) (rs : List Rec) (i : Nat), readsOK callF P ms effs h l rs i = true → ∀ j o r, l[j]? = some o → rs[j]? = some r → (r.wt && isRead o.op && !isEff o.op) = true →
    readOK callF P ms effs (i + j) o r (0, h) = true ∧ ∀ e ∈ effs, readOK callF P ms effs (i + j) o r (e.1 + 1, e.2) = true
  | [], rs, i, _, j, o, r, ho, _, _ => by simp at ho
  | o :: l, [], i, _, j, o', r, _, hr, _ => by simp at hr
  | o :: l, r :: rs, i, h1, j, o', r', ho, hr, hq => by
    simp only [readsOK, Bool.and_eq_true] at h1
    cases j with
    | zero =>
      simp at ho hr
      subst ho
      subst hr
      have := h1.1
      rw [hq] at this
      simp only [Bool.and_eq_true, List.all_eq_true] at this
      exact this
    | succ j =>
      have := readsOK_spec l rs (i + 1) h1.2 j o' r' (by simpa using ho) (by simpa using hr) hq
      rw [show i + (j + 1) = i + 1 + j from by omega]
      exact this

end
end Go.Eng
