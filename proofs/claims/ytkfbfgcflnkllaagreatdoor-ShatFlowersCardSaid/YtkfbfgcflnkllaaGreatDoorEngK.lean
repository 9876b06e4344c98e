/- A region that draws its order: it comes to one end in every order. -/
import Derived.Test.YtkfbfgcflnkllaaGreatDoorEngK5
namespace Go.Eng
open Go.RowKit

section
variable {callF : CallF} {P : Program} {B : Prot} {w0 : World} {E0 : Env} {ops : Array Oper} {ms Z : List Nat} {FF : Nat → Fm} {HH : Nat → Hp} {rs : List Rec}

theorem DInv.congr {A A' : Nat → Prop} {p : Nat} {pb : Nat → Nat} {E : Env} {T : Array Value} {w : World} (I : DInv P B w0 E0 ops ms Z FF HH rs A p pb E T w) (h : ∀ j, A j ↔ A' j) : DInv P B w0 E0 ops ms Z FF HH rs A' p pb E T w := by
  have : A = A' := funext fun j => propext (h j)
  rw [← this]
  exact I

theorem read_norm {o : Oper} {i : Nat} (h1 : isRead o.op = true) (h2 : isEff o.op = false) (l : List (Oper × Tmp)) : kindOf ops ms o i ≠ .withVars l := fun h => by
  obtain ⟨_, _, _, h4⟩ := kind_withVars h
  have key : canTake o.op = false := by
    cases ho : o.op with
    | call c =>
      rw [ho] at h2
      exact h2
    | _ => rw [ho] at h1 h2 <;> first | rfl | (simp [isRead] at h1; done) | (simp [isEff] at h2; done)
  rw [key] at h4
  cases h4

theorem read_effK {o : Oper} {i : Nat} (h1 : isRead o.op = true) (h2 : isEff o.op = false) : effK ops ms o i = false := by
  cases hk : kindOf ops ms o i with
  | soft => exact effK_soft hk
  | withVars l => exact absurd hk (read_norm h1 h2 l)
  | norm => rw [effK_norm hk]; exact h2

/-- How many are still to come. -/
def unl (ops : Array Oper) (l : Array Bool) : Nat := ((List.range ops.size).filter fun i => !l.getD i true).length

theorem unl_lt {l : Array Bool} (hl : l.size = ops.size) {i : Nat} (hi : i < ops.size) (hn : l.getD i true = false) : unl ops (l.setIfInBounds i true) < unl ops l := by
  have e : ((List.range ops.size).filter fun j => !(l.setIfInBounds i true).getD j true) = ((List.range ops.size).filter fun j => !l.getD j true).filter fun j => !Nat.beq j i := by
    rw [List.filter_filter]
    apply List.filter_congr
    intro j hj
    by_cases h : j = i
    · subst h
      simp [Array.getD_eq_getD_getElem?, hl, hi]
    · have hb : Nat.beq j i = false := by
        cases hb : Nat.beq j i
        · rfl
        · exact absurd (Tr.beq_true hb) h
      simp [Array.getD_eq_getD_getElem?, Array.getElem?_setIfInBounds_ne (Ne.symm h), hb]
  unfold unl
  rw [e, List.length_filter_lt_length_iff_exists]
  refine ⟨i, ?_, by simp⟩
  rw [List.mem_filter]
  exact ⟨List.mem_range.2 hi, by simp [hn]⟩

theorem all_listed (D : Dr callF P ops ms Z FF HH rs) {l : Array Bool} (hl : l.size = ops.size) (hr : Region.ready .any ops l = []) : ∀ i, i < ops.size → l.getD i false = true := by
  intro i
  induction i using Nat.strongRecOn with
  | _ i ih =>
    intro hi
    have ho : ops[i]? = some ops[i] := Array.getElem?_eq_getElem hi
    have hsz : i < l.size := by rw [hl]; exact hi
    cases hli : l[i] with
    | true => simp [Array.getD_eq_getD_getElem?, hsz, hli]
    | false =>
      exfalso
      have hmem : i ∈ Region.ready .any ops l := by
        unfold Region.ready
        rw [List.mem_filter]
        refine ⟨List.mem_range.2 hi, ?_⟩
        simp only [ho, Option.map_some, Option.getD_some, Bool.and_eq_true]
        refine ⟨by simp [Array.getD_eq_getD_getElem?, hsz, hli], ?_⟩
        rw [Array.all_eq_true_iff_forall_mem]
        intro e he
        cases hb : Region.binds .any e with
        | false => simp
        | true =>
          have hlt := ((masks_spec ops.toList [] ms D.hm).2.2 i ops[i] (by simp [hi])).1 e (by simpa using he) hb
          simp only [List.length_nil, Nat.zero_add] at hlt
          simp only [Bool.not_true, Bool.false_or]
          exact ih e.on hlt (by omega)
      rw [hr] at hmem
      cases hmem

theorem draw_go (D : Dr callF P ops ms Z FF HH rs) (hC : ∀ B w0, CallOK P B w0 callF) (hout : ∀ t, (FF 0).n ≤ t → (FF 0).tm.get t = none) {b : Frame} {ds : List Deferred} (k : List Item) (cs : List Frame) :
    ∀ (fuel tt : Nat) (l : Array Bool) (p : Nat) (pb : Nat → Nat) (E : Env) (T : Array Value) (w : World), l.size = ops.size → unl ops l ≤ fuel → DInv P B w0 E0 ops ms Z FF HH rs (fun j => l.getD j false = true) p pb E T w →
    ∃ p' pb' E' T' w', DInv P B w0 E0 ops ms Z FF HH rs (fun j => j < ops.size) p' pb' E' T' w' ∧
      Steps P (lone (at_ b T ds (.inRegion ops (Region.linearise.go .any ops fuel tt l []) :: k)) cs w) (lone (at_ b T' ds (.inRegion ops [] :: k)) cs w') := by
  intro fuel
  induction fuel with
  | zero =>
    intro tt l p pb E T w hl hu I
    have hr : Region.ready .any ops l = [] := by
      cases hr : Region.ready .any ops l with
      | nil => rfl
      | cons i r =>
        exfalso
        have hm : i ∈ Region.ready .any ops l := by rw [hr]; simp
        unfold Region.ready at hm
        rw [List.mem_filter] at hm
        have hm2 : i ∈ (List.range ops.size).filter fun i => !l.getD i true := by
          rw [List.mem_filter]
          exact ⟨hm.1, by have := hm.2; simp only [Bool.and_eq_true] at this; exact this.1⟩
        have := List.length_pos_of_mem hm2
        unfold unl at hu
        omega
    have hall := all_listed D hl hr
    exact ⟨p, pb, E, T, w, I.congr fun j => ⟨I.sub j, hall j⟩, by simp [Region.linearise.go]; exact .refl P _⟩
  | succ fuel ih =>
    intro tt l p pb E T w hl hu I
    simp only [Region.linearise.go]
    change ∃ p' pb' E' T' w', DInv P B w0 E0 ops ms Z FF HH rs (fun j => j < ops.size) p' pb' E' T' w' ∧ Steps P (lone (at_ b T ds (.inRegion ops (match (Region.ready .any ops l)[tt % (Region.ready .any ops l).length]? with
      | some i => Region.linearise.go .any ops fuel (tt / (Region.ready .any ops l).length) (l.setIfInBounds i true) [i]
      | none => [].reverse) :: k)) cs w) (lone (at_ b T' ds (.inRegion ops [] :: k)) cs w')
    cases hi : (Region.ready .any ops l)[tt % (Region.ready .any ops l).length]? with
    | none =>
      have hr : Region.ready .any ops l = [] := by
        cases hr : Region.ready .any ops l with
        | nil => rfl
        | cons x xs =>
          rw [hr] at hi
          have hlt : tt % (x :: xs).length < (x :: xs).length := Nat.mod_lt _ (by simp)
          simp at hi
          simp at hlt
          omega
      have hall := all_listed D hl hr
      exact ⟨p, pb, E, T, w, I.congr fun j => ⟨I.sub j, hall j⟩, by simp; exact .refl P _⟩
    | some i =>
      simp only []
      rw [linearise_go_acc, List.reverse_singleton, List.singleton_append]
      have hm := List.mem_of_getElem? hi
      unfold Region.ready at hm
      rw [List.mem_filter] at hm
      obtain ⟨hm1, hm2⟩ := hm
      have hlt := List.mem_range.1 hm1
      have ho : ops[i]? = some ops[i] := Array.getElem?_eq_getElem hlt
      have hsz : i < l.size := by rw [hl]; exact hlt
      simp only [ho, Option.map_some, Option.getD_some, Bool.and_eq_true, Bool.not_eq_true'] at hm2
      have hget : ∀ d, l.getD i d = l[i] := fun d => by simp [Array.getD_eq_getD_getElem?, hsz]
      have N : Nxt ops (fun j => l.getD j false = true) i ops[i] := ⟨ho, by have := hm2.1; rw [hget] at this ⊢; simp [this], fun e he hb => by
        have h2 := hm2.2
        rw [Array.all_eq_true_iff_forall_mem] at h2
        have := h2 e (by simpa using he)
        rw [hb] at this
        simpa using this⟩
      obtain ⟨p1, pb1, E1, T1, w1, I1, s1⟩ := I.op D N hout hC (b := b) (ds := ds) (rest := Region.linearise.go .any ops fuel (tt / (Region.ready .any ops l).length) (l.setIfInBounds i true) []) (k := k) (cs := cs)
      have hu' := unl_lt hl hlt hm2.1
      obtain ⟨p2, pb2, E2, T2, w2, I2, s2⟩ := ih (tt / (Region.ready .any ops l).length) (l.setIfInBounds i true) p1 pb1 E1 T1 w1 (by simp [hl]) (by omega) (I1.congr fun j => by
        by_cases h : j = i
        · subst h
          simp [Array.getD_eq_getD_getElem?, hsz]
        · simp [Array.getD_eq_getD_getElem?, Array.getElem?_setIfInBounds_ne (Ne.symm h), h])
      exact ⟨p2, pb2, E2, T2, w2, I2, s1.trans s2⟩

end

theorem draw_sound {P : Program} {B : Prot} {w0 : World} {callF : CallF} (hC : ∀ B w0, CallOK P B w0 callF) {ops : Array Oper} {id : Nat} {F F' : Fm} {h h' : Hp} (hd : drawAny callF P ops F h = some (F', h')) {E : Env} {w : World} {b : Frame} {T : Array Value} {ds : List Deferred}
    (H : HpOK P B w0 E h w) (hF : FrOK E h.next b F T ds) (k : List Item) (cs : List Frame) :
    ∃ E' T' ds' w', Kept P B w0 E E' h h' b F' T' ds' w' ∧ Steps P (lone (at_ b T ds (.code (.region id ops true) :: k)) cs w) (lone (at_ b T' ds' k) cs w') := by
  have hx : P.follows .mixedOrders = true ∧ ∃ ms rs, masks ops.toList [] = some ms ∧ tempsOK ops ms = true ∧ evTr callF P ops ms ops.toList 0 F h = some (rs, (F', h')) ∧
      ((staticOK ops ms = true ∨ effsOf ops ms ops.toList rs 0 = [] ∨ (chainOK ms (effsOf ops ms ops.toList rs 0) && readsOK callF P ms (effsOf ops ms ops.toList rs 0) h ops.toList rs 0) = true) ∨ ∃ Z, DrawOK callF P ops ms h rs Z) := by
    unfold drawAny at hd
    split at hd
    · rename_i hd0
      cases hd
      unfold drawRun at hd0
      split at hd0
      · rename_i ms hmix hms
        refine ⟨hmix, ms, ?_⟩
        split at hd0
        · rename_i rs r htmp htr
          refine ⟨rs, hms, htmp, ?_⟩
          split at hd0
          · rename_i hso
            cases hd0
            exact ⟨htr, .inl (.inl hso)⟩
          · split at hd0
            · rename_i hnil
              cases hd0
              exact ⟨htr, .inl (.inr (.inl hnil))⟩
            · rename_i hcons
              split at hd0
              · rename_i hck
                cases hd0
                exact ⟨htr, .inl (.inr (.inr (by rw [hcons]; exact hck)))⟩
              · cases hd0
        · cases hd0
      · cases hd0
    · split at hd
      · rename_i ms hmix hms
        refine ⟨hmix, ms, ?_⟩
        split at hd
        · rename_i rs r htmp htr
          split at hd
          · rename_i hz
            cases hd
            exact ⟨rs, hms, htmp, htr, .inr hz⟩
          · cases hd
        · cases hd
      · cases hd
  obtain ⟨hmix, ms, rs, hms, htmp, htr, hcond⟩ := hx
  obtain ⟨FF, HH, rfl, rfl, e3, e4, hlen, hst⟩ := evTr_facts _ _ _ _ _ _ _ htr
  have hlen' : rs.length = ops.size := by rw [hlen]; simp
  simp only [Array.length_toList] at e3 e4
  have hst' : ∀ j o, ops[j]? = some o → ∃ r, rs[j]? = some r ∧ StepFact callF P ops ms o j (FF j) (FF (j + 1)) (HH j) (HH (j + 1)) r := fun j o ho => by
    have := hst j o (by simpa using ho)
    rw [Nat.zero_add] at this
    exact this
  obtain ⟨hes, hsort⟩ := effsOf_spec ops.toList rs 0 hlen
  have hes' : ∀ e, Ef ops ms [] rs e ↔ (e, HH (e + 1)) ∈ effsOf ops ms ops.toList rs 0 := fun e => by
    rw [hes]
    constructor
    · rintro ⟨o, r, a1, a2, a3⟩
      obtain ⟨r', b1, b2⟩ := hst' e o a1
      rw [a2] at b1
      cases b1
      exact ⟨e, o, r, by simpa using a1, a2, by simpa using a3, by rw [b2.2.1, Nat.zero_add]⟩
    · rintro ⟨j, o, r, a1, a2, a3, a4⟩
      rw [Nat.zero_add] at a4
      obtain ⟨q1, _⟩ := Prod.mk.inj a4
      subst q1
      exact ⟨o, r, by simpa using a1, a2, by simpa using a3⟩
  have hes2 : ∀ x ∈ effsOf ops ms ops.toList rs 0, Ef ops ms [] rs x.1 ∧ x.2 = HH (x.1 + 1) := fun x hx => by
    obtain ⟨j, o, r, a1, a2, a3, a4⟩ := (hes x).1 hx
    rw [Nat.zero_add] at a4
    obtain ⟨r', b1, b2⟩ := hst' j o (by simpa using a1)
    rw [a2] at b1
    cases b1
    subst a4
    exact ⟨⟨o, r, by simpa using a1, a2, by simpa using a3⟩, b2.2.1⟩
  have hD : ∃ Z, Dr callF P ops ms Z FF HH rs := by
    rcases hcond with hcond | ⟨Z, hz⟩
    · refine ⟨[], ?_⟩
      have nn0 : ∀ i o, ops[i]? = some o → ([] : List Nat).contains i = true → (match kindOf ops ms o i with | .norm => true | _ => false) = true := fun i o _ h => by simp at h
      have ne0 : ∀ i r, rs[i]? = some r → ([] : List Nat).contains i = true → r.wt = true → HH (i + 1) = HH i := fun i r _ h => by simp at h
      have D0 : ∀ (hch : ∀ e e', Ef ops ms [] rs e → Ef ops ms [] rs e' → e < e' → anc ms e' e = true) (hrd : ∀ i o r, ops[i]? = some o → rs[i]? = some r → r.wt = true → isRead o.op = true → isEff o.op = false → ∀ p, (p = 0 ∨ ∃ e, Ef ops ms [] rs e ∧ p = e + 1) →
          (∀ e, Ef ops ms [] rs e → anc ms i e = true → e < p) → (∀ e, Ef ops ms [] rs e → e < p → anc ms e i = false) → evOp callF P o r.F (HH p) = some (r.v, HH p)), Dr callF P ops ms [] FF HH rs :=
        fun hch hrd => ⟨hms, tempsOK_spec htmp, hst', hch, fun i o r h1 h2 h3 h4 => (h4.resolve_left (by simp)).elim fun h5 h6 => hrd i o r h1 h2 h3 h5 h6, nn0, ne0⟩
      have hnorm : ∀ i o r, ops[i]? = some o → rs[i]? = some r → r.wt = true → isRead o.op = true → isEff o.op = false → r.F = FF i ∧ evOp callF P o r.F (HH i) = some (r.v, HH (i + 1)) := fun i o r ho hr hwt hrd hef => by
        obtain ⟨r', b1, b2, b3, b4⟩ := hst' i o ho
        rw [hr] at b1
        cases b1
        split at b4
        · rw [b4.2] at hwt
          cases hwt
        · rename_i l hk
          exact absurd hk (read_norm hrd hef l)
        · exact ⟨b4.1, by rw [b4.1]; exact b4.2.2.1 hwt⟩
      rcases hcond with hso | hnil | hck
      · have hp : ∀ i j oi oj, ops[i]? = some oi → ops[j]? = some oj → i < j → ((effAt ops ms (oi, i) && (effAt ops ms (oj, j) || isRead oj.op)) || (isRead oi.op && effAt ops ms (oj, j))) = true → anc ms j i = true := fun i j oi oj h1 h2 hlt hb => by
          unfold staticOK at hso
          rw [List.all_eq_true] at hso
          have g1 := hso (oi, i) (by rw [List.mem_zipIdx_iff_getElem?]; simpa using h1)
          rw [List.all_eq_true] at g1
          have g2 := g1 (oj, j) (by rw [List.mem_zipIdx_iff_getElem?]; simpa using h2)
          have hbl : Nat.blt i j = true := by rw [Nat.blt_eq]; exact hlt
          simp only [hbl, hb] at g2
          exact g2
        have hea : ∀ e, Ef ops ms [] rs e → ∃ o, ops[e]? = some o ∧ effAt ops ms (o, e) = true := fun e he => by
          obtain ⟨o, r, a1, a2, a3⟩ := he
          refine ⟨o, a1, ?_⟩
          obtain ⟨r', b1, _, _, b4⟩ := hst' e o a1
          rw [a2] at b1
          cases b1
          simp only [Bool.and_eq_true] at a3
          simp only [effAt, a3.1.2]
        have hsame : ∀ a m, a + m ≤ ops.size → (∀ e, Ef ops ms [] rs e → a ≤ e → ¬ e < a + m) → HH (a + m) = HH a := fun a m => by
          induction m with
          | zero => intro _ _; rfl
          | succ m ih =>
            intro hm hno
            rw [← Nat.add_assoc, hh_st (Z := []) hst' nn0 ne0 (by omega) (fun he => hno _ he (by omega) (by omega)), ih (by omega) fun e he h1 h2 => hno e he h1 (by omega)]
        refine D0 (fun e e' he he' hlt => ?_) (fun i o r ho hr hwt hrd hef p hp0 hp1 hp2 => ?_)
        · obtain ⟨o1, a1, a2⟩ := hea e he
          obtain ⟨o2, b1, b2⟩ := hea e' he'
          exact hp e e' o1 o2 a1 b1 hlt (by simp [a2, b2])
        · have hi : i < ops.size := (Array.getElem?_eq_some_iff.1 ho).1
          have hni : ¬ Ef ops ms [] rs i := fun he => by
            obtain ⟨o', r', a1, _, a3⟩ := he
            rw [ho] at a1
            cases a1
            simp [read_effK hrd hef] at a3
          have hev := (hnorm i o r ho hr hwt hrd hef).2
          have hii : HH (i + 1) = HH i := hh_st (Z := []) hst' nn0 ne0 hi hni
          have hpi : ∀ e, Ef ops ms [] rs e → (e < p ↔ e < i) := fun e he => by
            obtain ⟨oe, a1, a2⟩ := hea e he
            constructor
            · intro hlt
              rcases Nat.lt_trichotomy e i with h | h | h
              · exact h
              · subst h; exact absurd he hni
              · have := hp i e o oe ho a1 h (by simp [hrd, a2])
                rw [hp2 e he hlt] at this
                cases this
            · intro hlt
              exact hp1 e he (hp e i oe o a1 ho hlt (by simp [hrd, a2]))
          have hple : p ≤ ops.size := by
            rcases hp0 with h | ⟨e, ⟨oe, re, a1, _, _⟩, rfl⟩
            · omega
            · exact (Array.getElem?_eq_some_iff.1 a1).1
          have hHp : HH p = HH i := by
            rcases Nat.le_total p i with hh | hh
            · obtain ⟨m, rfl⟩ := Nat.exists_eq_add_of_le hh
              exact (hsame p m (by omega) fun e he h1 h2 => by have := (hpi e he).2 h2; omega).symm
            · obtain ⟨m, rfl⟩ := Nat.exists_eq_add_of_le hh
              exact hsame i m hple fun e he h1 h2 => by have := (hpi e he).1 h2; omega
          rw [hHp]
          rw [hii] at hev
          exact hev
      · have hno : ∀ e, ¬ Ef ops ms [] rs e := fun e he => by
          have := (hes' e).1 he
          rw [hnil] at this
          cases this
        have hz : ∀ m, m ≤ ops.size → HH m = HH 0 := by
          intro m
          induction m with
          | zero => intro _; rfl
          | succ m ih => intro hm; rw [hh_st (Z := []) hst' nn0 ne0 (by omega) (hno m), ih (by omega)]
        have D := D0 (fun e e' he => absurd he (hno e)) (fun i o r ho hr hwt hrd hef p hp _ _ => by
          have hp0 : p = 0 := hp.elim (fun h => h) fun ⟨e, he, _⟩ => absurd he (hno e)
          subst hp0
          have hi : i < ops.size := (Array.getElem?_eq_some_iff.1 ho).1
          have := (hnorm i o r ho hr hwt hrd hef).2
          rw [hz i (Nat.le_of_lt hi), hz (i + 1) hi] at this
          exact this)
        exact D
      · simp only [Bool.and_eq_true] at hck
        refine D0 (fun e e' he he' hlt => ?_) (fun i o r ho hr hwt hrd hef p hp hp1 hp2 => ?_)
        · exact pair_of_sorted _ hsort (chainOK_spec _ hck.1) _ ((hes' e).1 he) _ ((hes' e').1 he') hlt
        · obtain ⟨c1, c2⟩ := readsOK_spec _ _ _ hck.2 i o r (by simpa using ho) hr (by simp [hwt, hrd, hef])
          rw [Nat.zero_add] at c1 c2
          have hc : readOK callF P ms (effsOf ops ms ops.toList rs 0) i o r (p, HH p) = true := by
            rcases hp with rfl | ⟨e1, he1, rfl⟩
            · exact c1
            · exact c2 _ ((hes' e1).1 he1)
          unfold readOK at hc
          split at hc
          · rename_i hall
            exfalso
            rw [List.all_eq_false] at hall
            obtain ⟨x, hx, hx2⟩ := hall
            obtain ⟨d1, _⟩ := hes2 x hx
            apply hx2
            simp only [Bool.and_eq_true, Bool.or_eq_true, Bool.not_eq_true', Nat.blt_eq]
            refine ⟨?_, ?_⟩
            · cases ha : anc ms i x.1 with
              | false => exact .inl rfl
              | true => exact .inr (hp1 _ d1 ha)
            · cases hl : Nat.blt x.1 p with
              | false => exact .inl rfl
              | true => exact .inr (hp2 _ d1 (by simpa [Nat.blt_eq] using hl))
          · split at hc
            · rename_i v h2 hev
              have e1 := veq_eq _ _ hc
              have e2 := evOp_noeff hef hev
              rw [hev, ← e1, e2]
            · cases hc
    · refine ⟨Z, ?_⟩
      have hlast : ∀ i, i ≤ ops.size → ahead rs (HH 0) i = HH i := by
        intro i hi
        cases i with
        | zero => rfl
        | succ j =>
          have ho : ops[j]? = some ops[j] := Array.getElem?_eq_getElem (by omega)
          obtain ⟨r', b1, b2⟩ := hst' j _ ho
          simp only [ahead, b1]
          exact b2.2.1
      have ne' : ∀ i r, rs[i]? = some r → Z.contains i = true → r.wt = true → HH (i + 1) = HH i := fun i r hr h1 h2 => by
        have hi : i < ops.size := by rw [← hlen']; exact (List.getElem?_eq_some_iff.1 hr).1
        obtain ⟨r', b1, b2⟩ := hst' i _ (Array.getElem?_eq_getElem hi)
        rw [hr] at b1
        cases b1
        rw [← b2.2.1, hz.ne i _ r (Array.getElem?_eq_getElem hi) hr h1 h2, hlast i (Nat.le_of_lt hi)]
      have hesZ : ∀ e, Ef ops ms Z rs e ↔ (e, HH (e + 1)) ∈ effsZ ops ms rs Z := fun e => by
        unfold effsZ
        rw [List.mem_filter, ← hes' e]
        constructor
        · rintro ⟨o, r, a1, a2, a3⟩
          simp only [Bool.and_eq_true] at a3
          exact ⟨⟨o, r, a1, a2, by simp [a3.1.1, a3.1.2]⟩, a3.2⟩
        · rintro ⟨⟨o, r, a1, a2, a3⟩, a4⟩
          simp only [Bool.and_eq_true] at a3
          exact ⟨o, r, a1, a2, by simp only [Bool.and_eq_true]; exact ⟨a3.1, a4⟩⟩
      have hesZ2 : ∀ x ∈ effsZ ops ms rs Z, Ef ops ms Z rs x.1 ∧ x.2 = HH (x.1 + 1) := fun x hx => by
        have h1 := (List.mem_filter.1 hx).1
        obtain ⟨_, h2⟩ := hes2 x h1
        refine ⟨(hesZ x.1).2 ?_, h2⟩
        rw [← h2]
        exact hx
      have hsortZ : (effsZ ops ms rs Z).Pairwise (fun a b => a.1 < b.1) := hsort.filter _
      have hsameZ : ∀ a m, a + m ≤ ops.size → (∀ e, Ef ops ms Z rs e → a ≤ e → ¬ e < a + m) → HH (a + m) = HH a := fun a m => by
        induction m with
        | zero => intro _ _; rfl
        | succ m ih =>
          intro hm hno
          rw [← Nat.add_assoc, hh_st hst' hz.nn ne' (by omega) (fun he => hno _ he (by omega) (by omega)), ih (by omega) fun e he h1 h2 => hno e he h1 (by omega)]
      refine ⟨hms, tempsOK_spec htmp, hst', fun e e' he he' hlt => pair_of_sorted _ hsortZ (chainOK_spec _ hz.chain) _ ((hesZ e).1 he) _ ((hesZ e').1 he') hlt, fun i o r ho hr hwt hcase p hp0 hp1 hp2 => ?_, hz.nn, ne'⟩
      have hi : i < ops.size := (Array.getElem?_eq_some_iff.1 ho).1
      have hple : p ≤ ops.size := by
        rcases hp0 with h | ⟨e, ⟨oe, re, a1, _, _⟩, rfl⟩
        · omega
        · exact (Array.getElem?_eq_some_iff.1 a1).1
      have hmem : (p, HH p) ∈ (0, HH 0) :: (effsZ ops ms rs Z).map (fun e => (e.1 + 1, e.2)) := by
        rcases hp0 with rfl | ⟨e, he, rfl⟩
        · simp
        · exact List.mem_cons_of_mem _ (List.mem_map.2 ⟨(e, HH (e + 1)), (hesZ e).1 he, rfl⟩)
      have hmay : mayAt ms (effsZ ops ms rs Z) i p = true := by
        unfold mayAt
        rw [List.all_eq_true]
        intro x hx
        obtain ⟨d1, _⟩ := hesZ2 x hx
        simp only [Bool.and_eq_true, Bool.or_eq_true, Bool.not_eq_true', Nat.blt_eq]
        refine ⟨?_, ?_⟩
        · cases ha : anc ms i x.1 with
          | false => exact .inl rfl
          | true => exact .inr (hp1 _ d1 ha)
        · cases hl : Nat.blt x.1 p with
          | false => exact .inl rfl
          | true => exact .inr (hp2 _ d1 (by simpa [Nat.blt_eq] using hl))
      cases htx : textAt (effsZ ops ms rs Z) i p with
      | false => exact hz.reads i o r ho hr hwt hcase (p, HH p) hmem hmay htx
      | true =>
        have hpi : ∀ e, Ef ops ms Z rs e → (e < p ↔ e < i) := fun e he => by
          unfold textAt at htx
          rw [List.all_eq_true] at htx
          have := eq_of_beq (htx _ ((hesZ e).1 he))
          simp only at this
          rw [← Nat.blt_eq, ← Nat.blt_eq, this]
        have hHp : HH p = HH i := by
          rcases Nat.le_total p i with hh | hh
          · obtain ⟨m, rfl⟩ := Nat.exists_eq_add_of_le hh
            exact (hsameZ p m (by omega) fun e he h1 h2 => by have := (hpi e he).2 h2; omega).symm
          · obtain ⟨m, rfl⟩ := Nat.exists_eq_add_of_le hh
            exact hsameZ i m hple fun e he h1 h2 => by have := (hpi e he).1 h2; omega
        have hni : ¬ Ef ops ms Z rs i := fun ⟨o', r', a1, a2, a3⟩ => by
          rw [ho] at a1
          cases a1
          rcases hcase with hc | ⟨hc1, hc⟩
          · rw [hc] at a3; simp at a3
          · rw [read_effK hc1 hc] at a3; simp at a3
        have hii : HH (i + 1) = HH i := hh_st hst' hz.nn ne' hi hni
        obtain ⟨r', b1, b2, b3, b4⟩ := hst' i o ho
        rw [hr] at b1
        cases b1
        rw [hHp]
        split at b4
        · rw [b4.2] at hwt
          cases hwt
        · rename_i l hk
          exfalso
          rcases hcase with hc | ⟨hc1, hc⟩
          · have := hz.nn i o ho hc
            rw [hk] at this
            cases this
          · exact absurd hk (read_norm hc1 hc l)
        · rw [b4.1]
          have := b4.2.2.1 hwt
          rw [hii] at this
          exact this
  obtain ⟨Z, D⟩ := hD
  subst e3
  subst e4
  have hA0 : ∀ j, ¬ (Array.replicate ops.size false).getD j false = true := fun j => by
    rcases Nat.lt_or_ge j ops.size with hj | hj <;> simp [Array.getD_eq_getD_getElem?, hj]
  have I0 : DInv P B w0 E ops ms Z FF HH rs (fun j => (Array.replicate ops.size false).getD j false = true) 0 (fun _ => 0) E T w.drew :=
    ⟨fun i o h => absurd h (hA0 i), fun i h => absurd h (hA0 i), .inl rfl, fun e _ => ⟨fun h => absurd h (hA0 e), fun h => by omega⟩, H.drew, Agree.refl _ _, Nat.le_refl _, hF.tm.size,
      fun t ht _ => ⟨_, .inr ⟨fun j h => absurd h (hA0 j), rfl⟩, hF.tm.val t ht, (hF.tm.eval t).2⟩, fun i t h => absurd h.1 (hA0 i), fun i t h => absurd h.1 (hA0 i), fun i i' t t' h => absurd h.1 (hA0 i)⟩
  obtain ⟨p, pb, E', T', w', I, s1⟩ := draw_go D hC (fun t ht => hF.tm.out t ht) (b := b) (ds := ds) k cs ops.size (w.tape w.drawn (.order b.fn id)) (Array.replicate ops.size false) 0 (fun _ => 0) E T w.drew (by simp)
    (by have := List.length_filter_le (fun i => !(Array.replicate ops.size false).getD i true) (List.range ops.size); unfold unl; simpa using this) I0
  have hst0 : step P (lone (at_ b T ds (.code (.region id ops true) :: k)) cs w) = .next (lone (at_ b T ds (.inRegion ops (Region.schedule (P.follows .mixedOrders) ops (w.tape w.drawn (.order b.fn id))) :: k)) cs w.drew) :=
    step_lone_go (by simp [stepG, stepG.exec, at_, choose, Sem.run, Question.forced, Question.cut])
  have hsch : Region.schedule (P.follows .mixedOrders) ops (w.tape w.drawn (.order b.fn id)) = Region.linearise.go .any ops ops.size (w.tape w.drawn (.order b.fn id)) (Array.replicate ops.size false) [] := by
    simp [Region.schedule, hmix, Region.linearise]
  rw [hsch] at hst0
  have hst1 : step P (lone (at_ b T' ds (.inRegion ops [] :: k)) cs w') = .next (lone (at_ b T' ds k) cs w') := step_lone_go (by simp [stepG, stepG.exec, at_])
  have hp : p ≤ ops.size := by
    rcases I.pOK with h | ⟨e, h1, h2⟩
    · omega
    · have := h1.lt; omega
  have hHH : HH p = HH ops.size := D.hh_same hp (Nat.le_refl _) fun e he => (I.eff e he).symm
  obtain ⟨⟨v1, v2, v3, v4⟩, v5, v6⟩ := va_text D.ff ops.size (Nat.le_refl _)
  have hF2 := hF.mono I.agree I.le
  have hslot : ∀ t, t < (FF 0).n → T'[t]? = some (con E' (((FF ops.size).tm.get t).getD Eng.undef)) ∧ sc (HH p).next (((FF ops.size).tm.get t).getD Eng.undef) = true := fun t ht => by
    obtain ⟨v, a1, a2, a3⟩ := I.slot t ht fun i hpd => by
      obtain ⟨_, q, s, _, _, b5, b6⟩ := hpd
      obtain ⟨_, c, S⟩ := softOf_spec b5
      exact b6 (Array.getElem?_eq_some_iff.1 S.op).1
    have := VA.fun (fun j _ => Iff.rfl) a1 (v5 t ht)
    rw [← this]
    exact ⟨a2, a3⟩
  refine ⟨E', T', ds, w', ⟨hHH ▸ I.hp, ⟨⟨by rw [I.size, v1], fun t ht => (hslot t (by rw [← v1]; exact ht)).1, fun t ht => by rw [v6 t (by rw [← v1]; exact ht)]; exact hF.tm.out t (by rw [← v1]; exact ht), fun t v hv => ?_⟩, by rw [v2]; exact hF2.fn, by rw [v3]; exact hF2.round, fun l hl => ?_, by rw [v4]; exact hF2.defers, fun d hd => ?_⟩, I.agree, by rw [← hHH]; exact I.le⟩, .head hst0 (s1.trans (.one hst1))⟩
  · rw [← hHH]
    rcases Nat.lt_or_ge t (FF 0).n with ht | ht
    · have := (hslot t ht).2
      rw [hv] at this
      exact this
    · rw [v6 t ht, hF.tm.out t ht] at hv
      cases hv
  · rw [← hHH]
    exact hF2.roundsc l (by rw [← v3]; exact hl)
  · rw [← hHH]
    exact hF2.defersc d (by rw [← v4]; exact hd)
end Go.Eng
