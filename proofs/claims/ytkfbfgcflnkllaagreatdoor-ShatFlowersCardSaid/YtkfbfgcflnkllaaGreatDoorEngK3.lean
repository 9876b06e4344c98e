/- A region that draws its order: the state on the way. -/
import Derived.Test.YtkfbfgcflnkllaaGreatDoorEngK2
namespace Go.Eng
open Go.RowKit

/-- An operation that turns the heap. -/
def Ef (ops : Array Oper) (ms Z : List Nat) (rs : List Rec) (e : Nat) : Prop := ∃ o r, ops[e]? = some o ∧ rs[e]? = some r ∧ (r.wt && effK ops ms o e && !Z.contains e) = true

structure Dr (callF : CallF) (P : Program) (ops : Array Oper) (ms Z : List Nat) (FF : Nat → Fm) (HH : Nat → Hp) (rs : List Rec) : Prop where
  hm : masks ops.toList [] = some ms
  tk : ∀ i j oi oj d, ops[i]? = some oi → ops[j]? = some oj → oj.dst = some d → (oi.dst = some d ∨ looks ops oi d = true) → i = j ∨ anc ms i j = true ∨ anc ms j i = true
  st : ∀ j o, ops[j]? = some o → ∃ r, rs[j]? = some r ∧ StepFact callF P ops ms o j (FF j) (FF (j + 1)) (HH j) (HH (j + 1)) r
  chain : ∀ e e', Ef ops ms Z rs e → Ef ops ms Z rs e' → e < e' → anc ms e' e = true
  reads : ∀ i o r, ops[i]? = some o → rs[i]? = some r → r.wt = true → (Z.contains i = true ∨ (isRead o.op = true ∧ isEff o.op = false)) → ∀ p, (p = 0 ∨ ∃ e, Ef ops ms Z rs e ∧ p = e + 1) →
    (∀ e, Ef ops ms Z rs e → anc ms i e = true → e < p) → (∀ e, Ef ops ms Z rs e → e < p → anc ms e i = false) → evOp callF P o r.F (HH p) = some (r.v, HH p)
  nn : ∀ i o, ops[i]? = some o → Z.contains i = true → (match kindOf ops ms o i with | .norm => true | _ => false) = true
  ne : ∀ i r, rs[i]? = some r → Z.contains i = true → r.wt = true → HH (i + 1) = HH i

def wr (ops : Array Oper) (ms : List Nat) (rs : List Rec) (j : Nat) : List (Tmp × Value) :=
  match ops[j]?, rs[j]? with
  | some o, some r => wOf ops ms o j r
  | _, _ => []

/-- The shape of what a new block is known by. -/
inductive Sh where
  | ptr
  | sl (len cap : Nat)

def absv : Sh → Nat → Value
  | .ptr, n => .pointer (some ⟨n, 0, none⟩)
  | .sl l c, n => .slice (some ⟨n, 0, none⟩) l (2 * c)

def realv : Sh → Nat → Value
  | .ptr, n => .pointer (some ⟨n, 0, none⟩)
  | .sl l c, n => .slice (some ⟨n, 0, none⟩) l c

theorem con_absv (E : Env) (sh : Sh) (n : Nat) : con E (absv sh n) = realv sh (E.μ n) := by
  cases sh <;> simp [absv, realv, con, conCap]

theorem sc_absv (sh : Sh) {n m : Nat} (h : n < m) : sc m (absv sh n) = true := by
  cases sh <;> simp [absv, sc, h]

/-- What an operation makes that makes one new block. -/
def Fresh (P : Program) (q : Oper) (F : Fm) (cs : List Value) (e : TypeId) (sh : Sh) : Prop :=
  (∀ (callF : CallF) (F' : Fm) (h : Hp), (∀ x ∈ q.op.operands, F'.eval x = F.eval x) → evOp callF P q F' h = some (absv sh h.next, h.new (.cells cs e false))) ∧ (∀ v ∈ cs, scalar v = true) ∧ ∀ n, (∀ x ∈ q.op.operands, okOpd P x = true → sc n (F.eval x) = true) → scL n cs = true

theorem fresh_spec {callF : CallF} {P : Program} {q : Oper} {F : Fm} {h h' : Hp} {v : Value} (hf : isFresh q.op = true) (he : evOp callF P q F h = some (v, h')) :
    ∃ cs e sh, Fresh P q F cs e sh ∧ v = absv sh h.next ∧ h' = h.new (.cells cs e false) := by
  have fin : ∀ cs e sh, (∀ v ∈ cs, scalar v = true) → (∀ n, (∀ x ∈ q.op.operands, okOpd P x = true → sc n (F.eval x) = true) → scL n cs = true) → (∀ (callF : CallF) (h : Hp), evOp callF P q F h = some (absv sh h.next, h.new (.cells cs e false))) → ∃ cs e sh, Fresh P q F cs e sh ∧ v = absv sh h.next ∧ h' = h.new (.cells cs e false) := fun cs e sh h1 h3 h2 => by
    have := h2 callF h
    rw [he] at this
    cases this
    exact ⟨cs, e, sh, ⟨fun callF F' h hF => (evOp_congr hF).trans (h2 callF h), h1, h3⟩, rfl, rfl⟩
  have hall : ∀ cs : List Value, cs.all scalar = true → ∀ v ∈ cs, scalar v = true := fun cs h v hv => List.all_eq_true.1 h v hv
  unfold evOp at he
  split at he
  · cases he
  · rename_i hops
    cases hq : q.op with
    | alloc e =>
      rw [hq] at hops
      simp only [hq] at he
      split at he
      · rename_i z hz
        split at he
        · rename_i hs
          refine fin _ e .ptr (hall _ hs) (fun n _ => scL_flat n _ (flat_cells (zeroOf_info hz).choose_spec.2.2)) fun callF h => ?_
          unfold evOp
          simp only [hops, hq, hz, hs, absv]
        · cases he
      · cases he
    | buildSlice t n ps =>
      rw [hq] at hops
      simp only [hq] at he
      unfold buildSliceOp at he
      split at he
      · rename_i e hu
        split at he
        · rename_i size z hsz hz
          split at he
          · rename_i hb1 hb2
            split at he
            · rename_i cs hcs
              split at he
              · rename_i hs
                refine fin _ e (.sl n n) (hall _ hs) (fun m hm => ?_) fun callF h => ?_
                · have hzf : flatL (zeros z.cells.toList n) = true := zeros_flat _ (flat_cells (zeroOf_info hz).choose_spec.2.2) n
                  have := fill_sc m _ _ _ _ hcs (by simpa [scA] using scL_flat m _ hzf) (fun p hp => by
                    obtain ⟨⟨i, x⟩, hq', rfl⟩ := List.mem_map.1 hp
                    have hx : x ∈ q.op.operands := by rw [hq]; simp only [Op.operands, List.mem_toArray, List.mem_map]; exact ⟨(i, x), hq', rfl⟩
                    refine hm x hx ?_
                    rw [← hq] at hops
                    rw [Array.all_eq_true_iff_forall_mem] at hops
                    exact hops x hx)
                  obtain ⟨l⟩ := cs
                  simpa [scA] using this
                · unfold evOp buildSliceOp
                  simp only [hops, hq, hu, hsz, hz, hb1, hb2, hcs, hs, absv]
              · cases he
            · cases he
          · cases he
        · cases he
      · cases he
    | makeSlice t l c =>
      rw [hq] at hops
      simp only [hq] at he
      unfold makeSliceOp at he
      split at he
      · rename_i e hu
        split at he
        · rename_i len cap z inf h1 h2 h3 h4
          split at he
          · rename_i g1 g2 g3 g4
            split at he
            · rename_i hs
              refine fin (zeros z.cells.toList cap) e (.sl len cap) (fun v hv => ?_) (fun n _ => scL_flat n _ (zeros_flat _ (flat_cells (zeroOf_info h3).choose_spec.2.2) cap)) fun callF h => ?_
              · have key : ∀ (n : Nat), ∀ v ∈ zeros z.cells.toList n, scalar v = true := fun n => by
                  induction n with
                  | zero => intro v hv; cases hv
                  | succ n ih =>
                    intro v hv
                    rcases List.mem_append.1 hv with hv | hv
                    · exact hall _ hs v hv
                    · exact ih v hv
                exact key cap v hv
              · unfold evOp makeSliceOp
                simp only [hops, hq, hu, h1, h2, h3, h4, g1, g2, g3, g4, hs, absv]
            · cases he
          · cases he
        · cases he
      · cases he
    | _ => rw [hq] at hf; cases hf

/-- A new block that waits for who brings it. -/
def Pd (ops : Array Oper) (ms : List Nat) (A : Nat → Prop) (i t : Nat) : Prop :=
  A i ∧ ∃ q s, ops[i]? = some q ∧ q.dst = some t ∧ softOf ops ms i q = some s ∧ ¬ A s

/-- Whether it is made at all. -/
def Wd (ops : Array Oper) (FF : Nat → Fm) (i : Nat) : Prop := ∃ q, ops[i]? = some q ∧ wantedT ops (FF i) q = true

structure DInv (P : Program) (B : Prot) (w0 : World) (E0 : Env) (ops : Array Oper) (ms Z : List Nat) (FF : Nat → Fm) (HH : Nat → Hp) (rs : List Rec) (A : Nat → Prop) (p : Nat) (pb : Nat → Nat) (E : Env) (T : Array Value) (w : World) : Prop where
  closed : Closed ops A
  sub : ∀ i, A i → i < ops.size
  pOK : p = 0 ∨ ∃ e, Ef ops ms Z rs e ∧ p = e + 1
  eff : ∀ e, Ef ops ms Z rs e → (A e ↔ e < p)
  hp : HpOK P B w0 E (HH p) w
  agree : Agree (HH 0).next E0 E
  le : (HH 0).next ≤ (HH p).next
  size : T.size = (FF 0).n
  slot : ∀ t, t < (FF 0).n → (∀ i, ¬ Pd ops ms A i t) → ∃ v, VA (wr ops ms rs) A t (((FF 0).tm.get t).getD Eng.undef) v ∧ T[t]? = some (con E v) ∧ sc (HH p).next v = true
  pblk : ∀ i t, Pd ops ms A i t → Wd ops FF i → ∃ q cs e sh O, ops[i]? = some q ∧ Fresh P q (FF i) cs e sh ∧ (t < (FF 0).n → T[t]? = some (realv sh (pb i))) ∧ w.heap[pb i]? = some O ∧ ObjAt P E (HH p).next 0 (.cells cs e false) O ∧ ¬ B (pb i) ∧ ¬ B.ro (pb i) ∧ ∀ j o', (HH p).get j = some o' → E.μ j ≠ pb i
  pno : ∀ i t, Pd ops ms A i t → ¬ Wd ops FF i → t < (FF 0).n → T[t]? = some Go.undef
  pinj : ∀ i i' t t', Pd ops ms A i t → Pd ops ms A i' t' → Wd ops FF i → Wd ops FF i' → pb i = pb i' → i = i'

section
variable {P : Program} {B : Prot} {w0 : World}

theorem HpOK.protect {E : Env} {h : Hp} {w : World} (H : HpOK P B w0 E h w) {Q : Nat → Prop} (hQ : ∀ k, Q k → k < w.heap.size ∧ ∀ j o, h.get j = some o → E.μ j ≠ k) : HpOK P ⟨fun k => B k ∨ Q k, B.ro⟩ w E h w := by
  refine ⟨fun k => ⟨fun hk => ?_, fun hk => .inl ((H.bnd k).2 hk)⟩, SameOn.refl _ _, fun j o hj => ?_, H.inj, H.glob, H.gnext⟩
  · have := H.below.size
    rcases hk with (hk | hk) | hk
    · have := (H.bnd k).1 (.inl hk); omega
    · exact (hQ k hk).1
    · have := (H.bnd k).1 (.inr hk); omega
  · obtain ⟨h1, h2, h3⟩ := H.obj j o hj
    refine ⟨h1, ⟨fun hr hB => ?_, h2.2⟩, h3⟩
    rcases hB with hB | hB
    · exact h2.1 hr hB
    · exact (hQ _ hB).2 j o hj rfl

theorem HpOK.unprotect {E E' : Env} {h h' : Hp} {w w' : World} (H : HpOK P B w0 E h w) {Q : Nat → Prop} (H' : HpOK P ⟨fun k => B k ∨ Q k, B.ro⟩ w E' h' w') :
    HpOK P B w0 E' h' w' ∧ (∀ k, Q k → w'.heap[k]? = w.heap[k]?) ∧ ∀ k, Q k → ¬ B.ro k → ∀ j o, h'.get j = some o → E'.μ j ≠ k := by
  refine ⟨⟨H.bnd, H.below.trans (H'.below.mono fun k hk => .inl hk), fun j o hj => ?_, H'.inj, H'.glob, H'.gnext⟩, fun k hk => H'.below.block k (.inr hk), fun k hk hr j o hj hh => ?_⟩
  · obtain ⟨h1, h2, h3⟩ := H'.obj j o hj
    exact ⟨h1, ⟨fun hr hB => h2.1 hr (.inl hB), h2.2⟩, h3⟩
  · obtain ⟨h1, h2, h3⟩ := H'.obj j o hj
    cases hro : isRo o with
    | false => exact h2.1 hro (.inr (hh ▸ hk))
    | true => exact hr (hh ▸ h2.2 hro)

theorem eval_slots {E : Env} {n : Nat} {b : Frame} {G : Fm} {T : Array Value} {ds : List Deferred} (hg : ∀ g, g < P.globals.size → E.μ g = g) (hgn : P.globals.size ≤ n) (todo : List Item) (l : Array Operand)
    (hs : ∀ t, Operand.tmp t ∈ l → T.getD t Go.undef = con E ((G.tm.get t).getD Eng.undef) ∧ sc n ((G.tm.get t).getD Eng.undef) = true) : ∀ x ∈ l, okOpd P x = true → (at_ b T ds todo).eval x = con E (G.eval x) ∧ sc n (G.eval x) = true := by
  intro x hm hx
  cases x with
  | tmp t => exact hs t hm
  | const v => simp [okOpd] at hx; exact ⟨(con_flat E v hx).symm, sc_flat n v hx⟩
  | global g =>
    have hlt : g < P.globals.size := by simpa [okOpd, Nat.blt_eq] using hx
    simp [Frame.eval, Fm.eval, con, hg g hlt, sc]
    omega
  | func f => simp [Frame.eval, Fm.eval, con, conFn, conA, conL, sc, scA, scL]

theorem wanted_slots {E : Env} {G : Fm} {T : Array Value} (ops : Array Oper) (o : Oper) (hs : ∀ t, looks ops o t = true → T.getD t Go.undef = con E ((G.tm.get t).getD Eng.undef)) : wantedT ops G o = Region.wanted o (yielded ops T) := by
  have hy : ∀ j want, o.guard = some (j, want) → yieldedT ops G.tm j = yielded ops T j := by
    intro j want hgd
    unfold yieldedT yielded
    cases hj : ops[j]? with
    | none => rfl
    | some q =>
      simp only [Option.bind_some]
      cases hd : q.dst with
      | none => rfl
      | some d =>
        simp only [Option.bind_some]
        have hl := hs d (by unfold looks; simp [hgd, hj, hd])
        cases hT : T[d]? with
        | none =>
          have e1 : T.getD d Go.undef = Go.undef := by simp [Array.getD_eq_getD_getElem?, hT]
          rw [e1] at hl
          cases hg : G.tm.get d with
          | none => rfl
          | some v =>
            rw [hg] at hl
            cases v <;> first | rfl | (simp [con, Go.undef] at hl)
        | some u =>
          have e1 : T.getD d Go.undef = u := by simp [Array.getD_eq_getD_getElem?, hT]
          rw [e1] at hl
          subst hl
          cases hg : G.tm.get d with
          | none => simp [Eng.undef, con]
          | some v =>
            simp only [Option.getD_some]
            cases hv : con E v with
            | bool b => rw [con_bool hv]
            | _ => split <;> simp_all [con]
  unfold wantedT Region.wanted
  cases hgd : o.guard with
  | none => rfl
  | some g =>
    obtain ⟨j, want⟩ := g
    simp only [hy j want hgd]
    cases yielded ops T j with
    | none => simp
    | some b => cases b <;> cases want <;> simp

end

section
variable {callF : CallF} {P : Program} {B : Prot} {w0 : World} {E0 : Env} {ops : Array Oper} {ms Z : List Nat} {FF : Nat → Fm} {HH : Nat → Hp} {rs : List Rec} {A : Nat → Prop} {p : Nat} {pb : Nat → Nat} {E : Env} {T : Array Value} {w : World} {i : Nat} {o : Oper}

theorem bring_slots {P : Program} {callF : CallF} {F : Fm} : ∀ {l : List (Oper × Tmp)} {h h1 : Hp} {ws : List (Tmp × Value)}, evBring callF P l F h = some (ws, h1) → ws.map (·.1) = l.map (·.2)
  | [], h, h1, ws, he => by
    simp only [evBring, Option.some.injEq, Prod.mk.injEq] at he
    rw [← he.1]; rfl
  | (q, t) :: l, h, h1, ws, he => by
    simp only [evBring] at he
    split at he
    · split at he
      · rename_i ws' h2 hb
        cases he
        simp only [List.map_cons, bring_slots hb]
      · cases he
    · cases he

theorem Dr.wr_some (D : Dr callF P ops ms Z FF HH rs) {j t : Nat} (h : lk t (wr ops ms rs j) ≠ none) : ∃ oj, ops[j]? = some oj ∧ (oj.dst = some t ∨ ∃ l q, kindOf ops ms oj j = .withVars l ∧ (q, t) ∈ l) := by
  have h0 := h
  unfold wr at h
  split at h
  · rename_i o r ho hr
    refine ⟨o, ho, ?_⟩
    obtain ⟨r', hr', _, _, h3⟩ := D.st j o ho
    rw [hr] at hr'
    cases hr'
    unfold wOf at h
    cases hk : kindOf ops ms o j with
    | soft => simp only [hk, lk, ne_eq, not_true_eq_false] at h
    | norm =>
      simp only [hk, lk_dst] at h
      by_cases hd : o.dst = some t
      · exact .inl hd
      · rw [if_neg hd] at h; exact absurd rfl h
    | withVars l =>
      simp only [hk, lk_app, lk_dst] at h
      by_cases hd : o.dst = some t
      · exact .inl hd
      · rw [if_neg hd] at h
        simp only at h
        rw [hk] at h3
        have hs : r.ws.map (·.1) = l.map (·.2) := by
          cases hw : r.wt with
          | true =>
            obtain ⟨_, h1, hb, _⟩ := h3.2.1 hw
            exact bring_slots hb
          | false =>
            rw [(h3.2.2 hw).2]
            simp [unds]
        cases hv : lk t r.ws with
        | none => rw [hv] at h; exact absurd rfl h
        | some v =>
          have hm : t ∈ r.ws.map (·.1) := List.mem_map.2 ⟨_, lk_mem hv, rfl⟩
          rw [hs] at hm
          obtain ⟨⟨q, t'⟩, hq, e⟩ := List.mem_map.1 hm
          have e : t' = t := e
          subst e
          exact .inr ⟨l, q, rfl, hq⟩
  · exact absurd rfl h

theorem Dr.ff (D : Dr callF P ops ms Z FF HH rs) : ∀ j, j < ops.size → FF (j + 1) = (FF j).putL (wr ops ms rs j) := by
  intro j hj
  obtain ⟨r, hr, hs, _⟩ := D.st j _ (Array.getElem?_eq_getElem hj)
  rw [hs]
  simp [wr, Array.getElem?_eq_getElem hj, hr]

theorem hh_st (st : ∀ j o, ops[j]? = some o → ∃ r, rs[j]? = some r ∧ StepFact callF P ops ms o j (FF j) (FF (j + 1)) (HH j) (HH (j + 1)) r)
    (nn : ∀ i o, ops[i]? = some o → Z.contains i = true → (match kindOf ops ms o i with | .norm => true | _ => false) = true) (ne : ∀ i r, rs[i]? = some r → Z.contains i = true → r.wt = true → HH (i + 1) = HH i)
    {j : Nat} (hj : j < ops.size) (hn : ¬ Ef ops ms Z rs j) : HH (j + 1) = HH j := by
  have ho : ops[j]? = some ops[j] := Array.getElem?_eq_getElem hj
  obtain ⟨r, hr, _, _, h3⟩ := st j _ ho
  split at h3
  · exact h3.1
  · rename_i l hk
    have hz : Z.contains j = false := by
      cases hz : Z.contains j with
      | false => rfl
      | true => have := nn j _ ho hz; rw [hk] at this; cases this
    cases hw : r.wt with
    | false => exact (h3.2.2 hw).1
    | true => exact absurd ⟨_, r, ho, hr, by simp only [hw, effK_with hk, hz]; rfl⟩ hn
  · rename_i hk
    cases hw : r.wt with
    | false => exact h3.2.2.2 hw
    | true =>
      cases he : isEff ops[j].op with
      | true =>
        cases hz : Z.contains j with
        | true => exact ne j r hr hz hw
        | false => exact absurd ⟨_, r, ho, hr, by simp only [hw, effK_norm hk, he, hz]; rfl⟩ hn
      | false => exact evOp_noeff he (h3.2.2.1 hw)

theorem Dr.hh (D : Dr callF P ops ms Z FF HH rs) {j : Nat} (hj : j < ops.size) (hn : ¬ Ef ops ms Z rs j) : HH (j + 1) = HH j := hh_st D.st D.nn D.ne hj hn

theorem Dr.hh_eq (D : Dr callF P ops ms Z FF HH rs) (a : Nat) : ∀ m, a + m ≤ ops.size → (∀ e, Ef ops ms Z rs e → a ≤ e → e < a + m → False) → HH (a + m) = HH a
  | 0, _, _ => rfl
  | m + 1, hm, hn => by
    have e1 : HH (a + m + 1) = HH (a + m) := D.hh (by omega) fun he => hn _ he (by omega) (by omega)
    have e2 := D.hh_eq a m (by omega) fun e he h1 h2 => hn e he h1 (by omega)
    rw [← Nat.add_assoc, e1, e2]

theorem Dr.hh_same (D : Dr callF P ops ms Z FF HH rs) {a c : Nat} (ha : a ≤ ops.size) (hc : c ≤ ops.size) (h : ∀ e, Ef ops ms Z rs e → (e < a ↔ e < c)) : HH a = HH c := by
  rcases Nat.le_total a c with hh | hh
  · obtain ⟨m, rfl⟩ := Nat.exists_eq_add_of_le hh
    exact (D.hh_eq a m hc fun e he h1 h2 => by have := (h e he).2 h2; omega).symm
  · obtain ⟨m, rfl⟩ := Nat.exists_eq_add_of_le hh
    exact D.hh_eq c m ha fun e he h1 h2 => by have := (h e he).1 h2; omega

theorem Ef.lt {e : Nat} (h : Ef ops ms Z rs e) : e < ops.size := by
  obtain ⟨o, _, ho, _⟩ := h
  exact (Array.getElem?_eq_some_iff.1 ho).1

/-- An operation that may come next. -/
structure Nxt (ops : Array Oper) (A : Nat → Prop) (i : Nat) (o : Oper) : Prop where
  get : ops[i]? = some o
  new : ¬ A i
  edges : ∀ e ∈ o.after.toList, Region.binds .any e = true → A e.on

theorem Nxt.lt (N : Nxt ops A i o) : i < ops.size := (Array.getElem?_eq_some_iff.1 N.get).1

section

theorem DInv.ancA (D : Dr callF P ops ms Z FF HH rs) (I : DInv P B w0 E0 ops ms Z FF HH rs A p pb E T w) (N : Nxt ops A i o) : ∀ j, anc ms i j = true → A j := anc_in D.hm I.closed i o N.get N.edges

theorem DInv.ancN (D : Dr callF P ops ms Z FF HH rs) (I : DInv P B w0 E0 ops ms Z FF HH rs A p pb E T w) (N : Nxt ops A i o) : ∀ j, A j → anc ms j i = false := by
  intro j hj
  have hl := I.sub j hj
  cases h : anc ms j i with
  | false => rfl
  | true => exact absurd (anc_in D.hm I.closed j ops[j] (Array.getElem?_eq_getElem hl) (fun e h1 h2 => I.closed j _ hj (Array.getElem?_eq_getElem hl) e h1 h2) i h) N.new

theorem DInv.ltI (D : Dr callF P ops ms Z FF HH rs) (_I : DInv P B w0 E0 ops ms Z FF HH rs A p pb E T w) (N : Nxt ops A i o) {j : Nat} (h : anc ms i j = true) : j < i := anc_lt D.hm i o N.get j h

theorem DInv.lt_of (D : Dr callF P ops ms Z FF HH rs) (_I : DInv P B w0 E0 ops ms Z FF HH rs A p pb E T w) (_N : Nxt ops A i o) {j : Nat} (h : anc ms j i = true) : i < j := by
  rcases Nat.lt_or_ge j ops.size with hl | hl
  · exact anc_lt D.hm j ops[j] (Array.getElem?_eq_getElem hl) i h
  · have : ms.length ≤ j := by
      have := (masks_spec ops.toList [] ms D.hm).2.1
      simp at this
      omega
    unfold anc at h
    simp [List.getD, this] at h

/-- Who has written a slot that the operation looks at. -/
theorem DInv.writers (D : Dr callF P ops ms Z FF HH rs) (I : DInv P B w0 E0 ops ms Z FF HH rs A p pb E T w) (N : Nxt ops A i o) {t : Nat} (hl : looks ops o t = true) : ∀ j, lk t (wr ops ms rs j) ≠ none → (A j ↔ j < i) := by
  intro j hj
  obtain ⟨oj, hoj, h1 | ⟨l, q, h2, h3⟩⟩ := D.wr_some hj
  · rcases D.tk i j o oj t N.get hoj h1 (.inr hl) with rfl | h | h
    · exact ⟨fun h => absurd h N.new, fun h => by omega⟩
    · exact ⟨fun _ => I.ltI D N h, fun _ => I.ancA D N j h⟩
    · have h3 := I.lt_of D N h
      refine ⟨fun hA => ?_, fun hh => by omega⟩
      have := I.ancN D N j hA
      rw [h] at this
      cases this
  · obtain ⟨i0, a1, a2, a3⟩ := (with_mem h2).1 h3
    obtain ⟨t', c, S⟩ := softOf_spec a2
    have e := S.dst
    rw [a3] at e
    cases e
    by_cases hne : i = i0
    · subst hne
      rw [N.get] at a1
      cases a1
      have := I.ltI D N (S.here i o t N.get a3 hl)
      omega
    · have := S.only i o N.get hne (.inr hl)
      subst this
      exact ⟨fun h => absurd h N.new, fun h => by omega⟩

/-- A slot that waits: only who brings it looks at it. -/
theorem DInv.waiting (_D : Dr callF P ops ms Z FF HH rs) (_I : DInv P B w0 E0 ops ms Z FF HH rs A p pb E T w) (N : Nxt ops A i o) {t i0 : Nat} (hl : o.dst = some t ∨ looks ops o t = true) (hp : Pd ops ms A i0 t) : ∃ q l, ops[i0]? = some q ∧ softOf ops ms i0 q = some i ∧ q.dst = some t ∧ kindOf ops ms o i = .withVars l ∧ (q, t) ∈ l := by
  obtain ⟨h1, q, s, a1, a2, a3, a4⟩ := hp
  have hne : i ≠ i0 := by rintro rfl; exact N.new h1
  obtain ⟨t', c, S⟩ := softOf_spec a3
  have e := S.dst
  rw [a2] at e
  cases e
  have := S.only i o N.get hne hl
  subst this
  obtain ⟨o', l, b1, b2⟩ := store_kind a1 a3
  rw [N.get] at b1
  cases b1
  exact ⟨q, l, a1, a3, a2, b2, (with_mem b2).2 ⟨i0, a1, a3, a2⟩⟩

/-- What a slot holds that the operation looks at. -/
theorem DInv.view (D : Dr callF P ops ms Z FF HH rs) (I : DInv P B w0 E0 ops ms Z FF HH rs A p pb E T w) (N : Nxt ops A i o) {t : Nat} (hout : ∀ t, (FF 0).n ≤ t → (FF 0).tm.get t = none) (hl : looks ops o t = true) (hn : ∀ i0, ¬ Pd ops ms A i0 t) :
    T.getD t Go.undef = con E (((FF i).tm.get t).getD Eng.undef) ∧ sc (HH p).next (((FF i).tm.get t).getD Eng.undef) = true := by
  obtain ⟨_, v1, v2⟩ := va_text D.ff i (Nat.le_of_lt N.lt)
  rcases Nat.lt_or_ge t (FF 0).n with ht | ht
  · obtain ⟨v, a1, a2, a3⟩ := I.slot t ht hn
    have := VA.fun (I.writers D N hl) a1 (v1 t ht)
    rw [← this]
    exact ⟨by simp [Array.getD_eq_getD_getElem?, a2], a3⟩
  · rw [v2 t ht, hout t ht]
    have : T.size ≤ t := by rw [I.size]; exact ht
    simp [Array.getD_eq_getD_getElem?, this, Eng.undef, Go.undef, con, conA, conL, sc, scA, scL]

/-- The heap as an operation that turns it finds it. -/
theorem DInv.heap (D : Dr callF P ops ms Z FF HH rs) (I : DInv P B w0 E0 ops ms Z FF HH rs A p pb E T w) (N : Nxt ops A i o) (he : Ef ops ms Z rs i) : HH p = HH i := by
  have hp : p ≤ ops.size := by
    rcases I.pOK with h | ⟨e, h1, h2⟩
    · omega
    · have := h1.lt; omega
  refine D.hh_same hp (Nat.le_of_lt N.lt) fun e hee => ?_
  rw [← I.eff e hee]
  refine ⟨fun hA => ?_, fun hlt => I.ancA D N e (D.chain e i hee he hlt)⟩
  rcases Nat.lt_trichotomy e i with h | h | h
  · exact h
  · subst h; exact absurd hA N.new
  · have h1 := D.chain i e he hee h
    have := I.ancN D N e hA
    rw [h1] at this
    cases this

theorem DInv.closed' (_D : Dr callF P ops ms Z FF HH rs) (I : DInv P B w0 E0 ops ms Z FF HH rs A p pb E T w) (N : Nxt ops A i o) : Closed ops (fun j => A j ∨ j = i) := by
  intro j q hj hq e h1 h2
  rcases hj with hj | rfl
  · exact .inl (I.closed j q hj hq e h1 h2)
  · rw [N.get] at hq
    cases hq
    exact .inl (N.edges e h1 h2)

theorem DInv.sub' (_D : Dr callF P ops ms Z FF HH rs) (I : DInv P B w0 E0 ops ms Z FF HH rs A p pb E T w) (N : Nxt ops A i o) : ∀ j, (A j ∨ j = i) → j < ops.size := by
  intro j hj
  rcases hj with hj | rfl
  · exact I.sub j hj
  · exact N.lt

theorem DInv.eff' (_D : Dr callF P ops ms Z FF HH rs) (I : DInv P B w0 E0 ops ms Z FF HH rs A p pb E T w) (_N : Nxt ops A i o) (he : ¬ Ef ops ms Z rs i) : ∀ e, Ef ops ms Z rs e → ((A e ∨ e = i) ↔ e < p) := by
  intro e hee
  rw [← I.eff e hee]
  exact ⟨fun h => h.elim id fun h => absurd (h ▸ hee) he, .inl⟩

theorem DInv.effE (D : Dr callF P ops ms Z FF HH rs) (I : DInv P B w0 E0 ops ms Z FF HH rs A p pb E T w) (N : Nxt ops A i o) (he : Ef ops ms Z rs i) : ∀ e, Ef ops ms Z rs e → ((A e ∨ e = i) ↔ e < i + 1) := by
  intro e hee
  constructor
  · rintro (h | h)
    · rcases Nat.lt_trichotomy e i with h' | h' | h'
      · omega
      · omega
      · have h1 := D.chain i e he hee h'
        have := I.ancN D N e h
        rw [h1] at this
        cases this
    · omega
  · intro h
    rcases Nat.lt_or_ge e i with h' | h'
    · exact .inl (I.ancA D N e (D.chain e i hee he h'))
    · exact .inr (by omega)

end
end
end Go.Eng
