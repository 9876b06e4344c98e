/- A region that draws its order: what is put off, who brings it, and every other operation. -/
import Derived.Test.YtkfbfgcflnkllaaGreatDoorEngK4
namespace Go.Eng
open Go.RowKit

section
variable {callF : CallF} {P : Program} {B : Prot} {w0 : World} {E0 : Env} {ops : Array Oper} {ms Z : List Nat} {FF : Nat → Fm} {HH : Nat → Hp} {rs : List Rec} {A : Nat → Prop} {p : Nat} {pb : Nat → Nat} {E : Env} {T : Array Value} {w : World} {i : Nat} {o : Oper}

theorem DInv.blt (I : DInv P B w0 E0 ops ms Z FF HH rs A p pb E T w) {i1 t1 : Nat} (h : Pd ops ms A i1 t1) (hw : Wd ops FF i1) : pb i1 < w.heap.size := by
  obtain ⟨_, _, _, _, _, _, _, _, h4, _⟩ := I.pblk i1 t1 h hw
  exact (Array.getElem?_eq_some_iff.1 h4).1

theorem DInv.img (I : DInv P B w0 E0 ops ms Z FF HH rs A p pb E T w) {i1 t1 : Nat} (h : Pd ops ms A i1 t1) (hw : Wd ops FF i1) : ¬ B (pb i1) ∧ ¬ B.ro (pb i1) ∧ ∀ j o', (HH p).get j = some o' → E.μ j ≠ pb i1 := by
  obtain ⟨_, _, _, _, _, _, _, _, _, _, h5⟩ := I.pblk i1 t1 h hw
  exact h5

/-- What is put off: its block is there, and waits. -/
theorem DInv.soft (D : Dr callF P ops ms Z FF HH rs) (I : DInv P B w0 E0 ops ms Z FF HH rs A p pb E T w) (N : Nxt ops A i o) (hout : ∀ t, (FF 0).n ≤ t → (FF 0).tm.get t = none) (hC : ∀ B w0, CallOK P B w0 callF) (hk : kindOf ops ms o i = .soft) {b : Frame} {ds : List Deferred} {rest : List Nat} {k : List Item} {cs : List Frame} :
    ∃ p' pb' E' T' w', DInv P B w0 E0 ops ms Z FF HH rs (fun j => A j ∨ j = i) p' pb' E' T' w' ∧ Steps P (lone (at_ b T ds (.inRegion ops (i :: rest) :: k)) cs w) (lone (at_ b T' ds (.inRegion ops rest :: k)) cs w') := by
  obtain ⟨s, hs⟩ := kind_soft hk
  obtain ⟨d, c, S⟩ := softOf_spec hs
  have hsA : ¬ A s := fun hh => by
    have := I.ancN D N s hh
    rw [S.an] at this
    cases this
  obtain ⟨r, hr, hF, hh, h3⟩ := D.st i o N.get
  rw [hk] at h3
  have hne : ¬ Ef ops ms Z rs i := by
    rintro ⟨o', r', h1, h2, h4⟩
    rw [hr] at h2
    cases h2
    rw [h3.2] at h4
    simp at h4
  have hwr : wr ops ms rs i = [] := wr_soft N.get hk
  have npd : ∀ {t}, looks ops o t = true → ∀ i0, ¬ Pd ops ms A i0 t := fun {t} hl i0 h => by
    obtain ⟨_, l, _, _, _, h4, _⟩ := I.waiting D N (.inr hl) h
    rw [hk] at h4
    cases h4
  have view : ∀ t, looks ops o t = true → T.getD t Go.undef = con E (((FF i).tm.get t).getD Eng.undef) ∧ sc (HH p).next (((FF i).tm.get t).getD Eng.undef) = true := fun t ht => I.view D N hout ht (npd ht)
  have hwanted := wanted_slots ops o fun t ht => (view t ht).1
  have hpd : Pd ops ms (fun j => A j ∨ j = i) i d := ⟨.inr rfl, o, s, N.get, S.dst, hs, fun hh => hh.elim hsA S.ne⟩
  have own : ∀ {i0 t}, Pd ops ms A i0 t → t ≠ d := fun {i0 t} h hh => by
    subst hh
    obtain ⟨h1, q, s', a1, a2, a3, a4⟩ := h
    have := owner_only hs S.dst a1 a2
    subst this
    exact N.new h1
  have noti : ∀ {i0 t}, Pd ops ms A i0 t → i0 ≠ i := fun h hh => N.new (hh ▸ h.1)
  have on : ∀ {i0 t}, Pd ops ms A i0 t → Pd ops ms (fun j => A j ∨ j = i) i0 t := fun {i0 t} h => h.on fun q hq he => by
    obtain ⟨t', c', S'⟩ := softOf_spec he
    have e := S'.op
    rw [N.get] at e
    cases e
    have := S.fr
    rw [S'.nf] at this
    cases this
  have dd : ∀ {t}, Pd ops ms (fun j => A j ∨ j = i) i t → t = d := fun {t} h => by
    obtain ⟨_, q, s', a1, a2, _⟩ := h
    rw [N.get] at a1
    cases a1
    have e := S.dst
    rw [a2] at e
    cases e
    rfl
  have Tset : ∀ (x : Value) t, t ≠ d → (match o.dst with | some d => T.setIfInBounds d x | none => T)[t]? = T[t]? := fun x t ht => by
    rw [S.dst]
    exact Array.getElem?_setIfInBounds_ne (Ne.symm ht)
  have Tat : ∀ (x : Value), d < (FF 0).n → (match o.dst with | some d => T.setIfInBounds d x | none => T)[d]? = some x := fun x hd => by
    rw [S.dst]
    have : d < T.size := by rw [I.size]; exact hd
    simp [this]
  have Tsz : ∀ (x : Value), (match o.dst with | some d => T.setIfInBounds d x | none => T).size = (FF 0).n := fun x => by rw [S.dst, ← I.size]; simp
  cases hwt : wantedT ops (FF i) o with
  | false =>
    have nw : ¬ Wd ops FF i := by
      rintro ⟨q, h1, h2⟩
      rw [N.get] at h1
      cases h1
      rw [hwt] at h2
      cases h2
    have hst := step_op_skip' (P := P) (fr := at_ b T ds (.inRegion ops (i :: rest) :: k)) (cs := cs) (w := w) rfl rfl N.get (by rw [hwt] at hwanted; exact hwanted.symm)
    rw [finish_at N.get] at hst
    refine ⟨p, pb, E, _, w, ⟨I.closed' D N, I.sub' D N, I.pOK, I.eff' D N hne, I.hp, I.agree, I.le, Tsz _, fun t ht hn => ?_, fun i0 t h hwd => ?_, fun i0 t h hwd ht => ?_, fun i0 i1 t t' h h' hw hw' => ?_⟩, .one hst⟩
    · have htd : t ≠ d := fun hh => hn i (hh ▸ hpd)
      obtain ⟨u, a1, a2, a3⟩ := I.slot t ht fun i0 h => hn i0 (on h)
      exact ⟨u, a1.more (by rw [hwr]; rfl), by rw [Tset _ t htd]; exact a2, a3⟩
    · have hi : i0 ≠ i := fun e => nw (e ▸ hwd)
      obtain ⟨q, cs, e, sh, O, b1, b2, b3, b4⟩ := I.pblk i0 t (h.back hi).1 hwd
      exact ⟨q, cs, e, sh, O, b1, b2, fun ht => by rw [Tset _ t (own (h.back hi).1)]; exact b3 ht, b4⟩
    · by_cases hi : i0 = i
      · subst hi
        have := dd h
        subst this
        exact Tat _ ht
      · rw [Tset _ t (own (h.back hi).1)]
        exact I.pno i0 t (h.back hi).1 hwd ht
    · have hi : i0 ≠ i := fun e => nw (e ▸ hw)
      have hi' : i1 ≠ i := fun e => nw (e ▸ hw')
      exact I.pinj i0 i1 t t' (h.back hi).1 (h'.back hi').1 hw hw'
  | true =>
    have yw : Wd ops FF i := ⟨o, N.get, hwt⟩
    obtain ⟨cs', e, sh, hfr⟩ := D.fresh N.get hs hwt
    have H2 := I.hp.protect (Q := fun k => ∃ i1 t1, Pd ops ms A i1 t1 ∧ Wd ops FF i1 ∧ pb i1 = k) (by
      rintro k ⟨i1, t1, d1, d2, rfl⟩
      exact ⟨I.blt d1 d2, (I.img d1 d2).2.2⟩)
    have hev := hfr.1 callF (FF i) (HH p) fun _ _ => rfl
    have hsl := eval_slots (b := b) (ds := ds) I.hp.glob I.hp.gnext (.inRegion ops (i :: rest) :: k) o.op.operands fun t ht => view t (looks_operand ht)
    obtain ⟨E', w', g1, g2, g3, g4, g5⟩ := op_sound' (rest := rest) (k := k) (hC _ _) H2 hsl N.get (by rw [← hwanted, ← hwt]) hev cs
    obtain ⟨H3, H4, H5⟩ := I.hp.unprotect g1
    obtain ⟨_, m2, O, m3, m4⟩ := H3.obj (HH p).next (.cells cs' e false) (by rw [Hp.get_new, if_pos rfl])
    have hscl : scL (HH p).next cs' = true := hfr.2.2 _ fun x hx hox => (hsl x hx hox).2
    have Hf : HpOK P B w0 E' (HH p) w' := I.hp.forget H3
    have hmu : con E' (absv sh (HH p).next) = realv sh (E'.μ (HH p).next) := con_absv _ _ _
    rw [hmu] at g5
    have hold : ∀ j o', (HH p).get j = some o' → ((HH p).new (.cells cs' e false)).get j = some o' := fun j o' hj => by
      rw [Hp.get_new, if_neg (Nat.ne_of_lt (I.hp.obj j o' hj).1)]
      exact hj
    refine ⟨p, fun j => if j = i then E'.μ (HH p).next else pb j, E', _, w', ⟨I.closed' D N, I.sub' D N, I.pOK, I.eff' D N hne, Hf, I.agree.trans g2 I.le, I.le, Tsz _, fun t ht hn => ?_, fun i0 t h hwd => ?_, fun i0 t h hwd ht => ?_, fun i0 i1 t t' h h' hw hw' he => ?_⟩, g5⟩
    · have htd : t ≠ d := fun hh => hn i (hh ▸ hpd)
      obtain ⟨u, a1, a2, a3⟩ := I.slot t ht fun i0 h => hn i0 (on h)
      exact ⟨u, a1.more (by rw [hwr]; rfl), by rw [Tset _ t htd, a2, con_congr g2 u a3], a3⟩
    · by_cases hi : i0 = i
      · subst hi
        have := dd h
        subst this
        simp only [if_true]
        refine ⟨o, cs', e, sh, O, N.get, hfr, fun ht => Tat _ ht, m3, ?_, m2.1 rfl, fun hb => ?_, fun j o' hj hje => ?_⟩
        · obtain ⟨junk, k1, _, k3⟩ := m4
          exact ⟨junk, k1, hscl, k3.1, k3.2.1, fun ho => by cases ho⟩
        · exact m2.1 rfl ((H3.bnd _).2 hb)
        · have h1 := (I.hp.obj j o' hj).1
          cases hro : isRo o' with
          | false =>
            have := H3.inj j (HH p).next o' _ (hold j o' hj) (by rw [Hp.get_new, if_pos rfl]) hro rfl hje
            omega
          | true =>
            have := (H3.obj j o' (hold j o' hj)).2.1.2 hro
            rw [hje] at this
            exact m2.1 rfl ((H3.bnd _).2 this)
      · have h' := (h.back hi).1
        simp only [if_neg hi]
        obtain ⟨q, cs, e1, sh1, O1, b1, b2, b3, b4, b5, b6, b7, b8⟩ := I.pblk i0 t h' hwd
        have hQ : ∃ i2 t2, Pd ops ms A i2 t2 ∧ Wd ops FF i2 ∧ pb i2 = pb i0 := ⟨i0, t, h', hwd, rfl⟩
        exact ⟨q, cs, e1, sh1, O1, b1, b2, fun ht => by rw [Tset _ t (own h')]; exact b3 ht, by rw [H4 _ hQ]; exact b4, objAt_any b5 g2 (Nat.le_refl _), b6, b7, fun j o' hj => H5 _ hQ b7 j o' (hold j o' hj)⟩
    · have hi : i0 ≠ i := fun e => hwd (e ▸ yw)
      rw [Tset _ t (own (h.back hi).1)]
      exact I.pno i0 t (h.back hi).1 hwd ht
    · have far : ∀ {i0 t}, Pd ops ms (fun j => A j ∨ j = i) i0 t → Wd ops FF i0 → i0 ≠ i → E'.μ (HH p).next ≠ pb i0 := fun {i0 t} h hw hi => by
        have h' := (h.back hi).1
        exact H5 _ ⟨i0, t, h', hw, rfl⟩ (I.img h' hw).2.1 (HH p).next _ (by rw [Hp.get_new, if_pos rfl])
      by_cases hi : i0 = i <;> by_cases hi' : i1 = i
      · omega
      · rw [if_pos hi, if_neg hi'] at he
        exact absurd he (far h' hw' hi')
      · rw [if_neg hi, if_pos hi'] at he
        exact absurd he.symm (far h hw hi)
      · rw [if_neg hi, if_neg hi'] at he
        exact I.pinj i0 i1 t t' (h.back hi).1 (h'.back hi').1 hw hw' he

theorem wanted_guard {E : Env} {G : Fm} {T : Array Value} (ops : Array Oper) (o : Oper) (hs : ∀ j want q t, o.guard = some (j, want) → ops[j]? = some q → q.dst = some t → T.getD t Go.undef = con E ((G.tm.get t).getD Eng.undef)) : wantedT ops G o = Region.wanted o (yielded ops T) := by
  have := wanted_slots (E := E) (G := G) (T := T) ops { o with op := .alloc 0 } fun t ht => by
    unfold looks at ht
    rw [Bool.or_eq_true] at ht
    rcases ht with ht | ht
    · simp [Op.operands] at ht
    · simp only at ht
      split at ht
      · rename_i j want hg
        split at ht
        · rename_i q hq
          split at ht
          · rename_i t' hd
            have := Tr.beq_true ht
            subst this
            exact hs j want q t' hg hq hd
          · cases ht
        · cases ht
      · cases ht
  exact this

/-- Every slot that comes with an operation comes once. -/
theorem bring_once {s : Nat} : ∀ (l : List (Oper × Nat)), (∀ q j, (q, j) ∈ l → ops[j]? = some q) → (l.map (·.2)).Nodup → (bring ops ms s l).Pairwise (fun a b => a.2 ≠ b.2)
  | [], _, _ => by simp [bring]
  | (q, j) :: r, h1, h2 => by
    have ih := bring_once (s := s) r (fun q j h => h1 q j (List.mem_cons_of_mem _ h)) (List.nodup_cons.1 h2).2
    simp only [bring]
    split
    · rename_i s' t hs hd
      split
      · rw [List.pairwise_cons]
        refine ⟨fun b hb => ?_, ih⟩
        obtain ⟨q', t'⟩ := b
        obtain ⟨j', a1, a2, a3⟩ := (bring_spec (s := s) r).1 hb
        intro e
        have e : t = t' := e
        subst e
        have := owner_only hs hd (h1 q' j' (List.mem_cons_of_mem _ a1)) a3
        subst this
        exact (List.nodup_cons.1 h2).1 (List.mem_map.2 ⟨_, a1, rfl⟩)
      · exact ih
    · exact ih

theorem zip_once (l : List Oper) : ∀ n, ((l.zipIdx n).map (·.2)).Nodup := by
  intro n
  rw [List.zipIdx_map_snd]
  exact List.nodup_range'

/-- The blocks that come with an operation take their places. -/
theorem DInv.commit (D : Dr callF P ops ms Z FF HH rs) (I : DInv P B w0 E0 ops ms Z FF HH rs A p pb E T w) :
    ∀ (l : List (Oper × Tmp)) (h h1 : Hp) (ws : List (Tmp × Value)) (E1 : Env), evBring callF P l (FF i) h = some (ws, h1) → l.Pairwise (fun a b => a.2 ≠ b.2) →
    (∀ q t, (q, t) ∈ l → ∃ i0, ops[i0]? = some q ∧ Pd ops ms A i0 t ∧ Wd ops FF i0 ∧ softOf ops ms i0 q = some i) → HpOK P B w0 E1 h w → Agree (HH p).next E E1 → (HH p).next ≤ h.next →
    (∀ j o', h.get j = some o' → ∀ q t i0, (q, t) ∈ l → ops[i0]? = some q → Pd ops ms A i0 t → Wd ops FF i0 → E1.μ j ≠ pb i0) →
    ∃ E2, HpOK P B w0 E2 h1 w ∧ Agree h.next E1 E2 ∧ h.next ≤ h1.next ∧ (∀ u x, lk u ws = some x → (u < (FF 0).n → T[u]? = some (con E2 x)) ∧ sc h1.next x = true) ∧
      ∀ j o', h1.get j = some o' → (∃ o'', h.get j = some o'') ∨ ∃ i0 t q, (q, t) ∈ l ∧ ops[i0]? = some q ∧ Pd ops ms A i0 t ∧ Wd ops FF i0 ∧ E2.μ j = pb i0
  | [], h, h1, ws, E1, he, _, _, H, ha, hle, _ => by
    simp only [evBring, Option.some.injEq, Prod.mk.injEq] at he
    obtain ⟨rfl, rfl⟩ := he
    exact ⟨E1, H, Agree.refl _ _, Nat.le_refl _, fun u x hx => by simp [lk] at hx, fun j o' hj => .inl ⟨o', hj⟩⟩
  | (q, t) :: l, h, h1, ws, E1, he, hp, hm, H, ha, hle, hi => by
    obtain ⟨i0, a1, a2, a3, a4⟩ := hm q t (List.mem_cons_self ..)
    obtain ⟨q', cs, e, sh, O, b1, b2, b3, b4, b5, b6, b7, b8⟩ := I.pblk i0 t a2 a3
    rw [a1] at b1
    cases b1
    have ev : evOp callF P q (FF i) h = some (absv sh h.next, h.new (.cells cs e false)) := b2.1 callF (FF i) h fun x hx => by
      cases x with
      | tmp u => exact (DInv.stays D a1 a4 (looks_operand hx)).symm
      | _ => rfl
    simp only [evBring, ev] at he
    split at he
    · rename_i ws' h2 hb
      simp only [Option.some.injEq, Prod.mk.injEq] at he
      obtain ⟨rfl, rfl⟩ := he
      rw [List.pairwise_cons] at hp
      have hx : Agree h.next E1 (E1.ext h.next (pb i0) 0) := Env.ext_agree _ _ _ _
      have hEx : Agree (HH p).next E (E1.ext h.next (pb i0) 0) := ha.trans hx hle
      have H1 : HpOK P B w0 (E1.ext h.next (pb i0) 0) (h.new (.cells cs e false)) w :=
        H.new' (O := O) (SameOn.refl _ _) (fun j o' hj => ⟨rfl, hi j o' hj q t i0 (List.mem_cons_self ..) a1 a2 a3⟩) b4 b6 (objAt_any b5 hEx (by omega))
      have hn : h.next ≤ (h.new (.cells cs e false)).next := by simp
      obtain ⟨E2, c1, c2, c3, c4, c5⟩ := I.commit D l _ _ _ _ hb hp.2 (fun q t h => hm q t (List.mem_cons_of_mem _ h)) H1 hEx (Nat.le_trans hle hn) fun j o' hj q1 t1 i1 g1 g2 g3 g4 => by
        rw [Hp.get_new] at hj
        split at hj
        · rename_i hjn
          subst hjn
          rw [Env.ext_mu]
          intro hh
          have := I.pinj _ _ _ _ a2 g3 a3 g4 hh
          subst this
          rw [a1] at g2
          cases g2
          obtain ⟨_, q2, _, d1, d2, _⟩ := a2
          obtain ⟨_, q3, _, d3, d4, _⟩ := g3
          rw [d1] at d3
          cases d3
          rw [d2] at d4
          cases d4
          exact hp.1 _ g1 rfl
        · rw [← (hx j (H.obj j o' hj).1).1]
          exact hi j o' hj q1 t1 i1 (List.mem_cons_of_mem _ g1) g2 g3 g4
      have hlt : h.next < (h.new (.cells cs e false)).next := by simp
      refine ⟨E2, c1, hx.trans c2 hn, Nat.le_trans hn c3, fun u x hu => ?_, fun j o' hj => ?_⟩
      · simp only [lk] at hu
        split at hu
        · rename_i y hy
          cases hu
          exact c4 u _ hy
        · split at hu
          · rename_i hut
            cases hu
            subst hut
            refine ⟨fun hlt' => ?_, sc_absv sh (Nat.lt_of_lt_of_le hlt c3)⟩
            rw [b3 hlt', con_absv, ← (c2 _ hlt).1, Env.ext_mu]
          · cases hu
      · rcases c5 j o' hj with ⟨o'', g⟩ | ⟨i1, t1, q1, g1, g2, g3, g4, g5⟩
        · rw [Hp.get_new] at g
          split at g
          · rename_i hjn
            subst hjn
            exact .inr ⟨i0, t, q, List.mem_cons_self .., a1, a2, a3, by rw [← (c2 _ hlt).1, Env.ext_mu]⟩
          · exact .inl ⟨o'', g⟩
        · exact .inr ⟨i1, t1, q1, List.mem_cons_of_mem _ g1, g2, g3, g4, g5⟩
    · cases he

theorem lk_unds {t : Tmp} {l : List (Oper × Tmp)} {x : Value} (h : lk t (unds l) = some x) : x = Eng.undef ∧ ∃ q, (q, t) ∈ l := by
  have := lk_mem h
  unfold unds at this
  obtain ⟨⟨q, t'⟩, h1, h2⟩ := List.mem_map.1 this
  simp only [Prod.mk.injEq] at h2
  obtain ⟨rfl, rfl⟩ := h2
  exact ⟨rfl, q, h1⟩

theorem lk_some {t : Tmp} : ∀ {l : List (Tmp × Value)}, t ∈ l.map (·.1) → lk t l ≠ none
  | (u, v) :: r, h => by
    simp only [lk]
    split
    · simp
    · rename_i hn
      rcases List.mem_cons.1 h with h | h
      · rw [if_pos h.symm]; simp
      · exact absurd hn (lk_some h)

theorem DInv.withVars (D : Dr callF P ops ms Z FF HH rs) (I : DInv P B w0 E0 ops ms Z FF HH rs A p pb E T w) (N : Nxt ops A i o) (hout : ∀ t, (FF 0).n ≤ t → (FF 0).tm.get t = none) (hC : ∀ B w0, CallOK P B w0 callF) {l : List (Oper × Tmp)} (hk : kindOf ops ms o i = .withVars l) {b : Frame} {ds : List Deferred} {rest : List Nat} {k : List Item} {cs : List Frame} :
    ∃ p' pb' E' T' w', DInv P B w0 E0 ops ms Z FF HH rs (fun j => A j ∨ j = i) p' pb' E' T' w' ∧ Steps P (lone (at_ b T ds (.inRegion ops (i :: rest) :: k)) cs w) (lone (at_ b T' ds (.inRegion ops rest :: k)) cs w') := by
  have hks : kindOf ops ms o i ≠ .soft := by rw [hk]; simp
  obtain ⟨r, hr, hF, hh, h3⟩ := D.st i o N.get
  rw [hk] at h3
  obtain ⟨hwt, hyes, hno⟩ := h3
  have hwr : wr ops ms rs i = r.ws ++ dstW o (if r.wt then r.v else Eng.undef) := by simp [wr, N.get, hr, wOf, hk]
  have mem : ∀ {q t}, (q, t) ∈ l → ∃ i0, ops[i0]? = some q ∧ q.dst = some t ∧ Pd ops ms A i0 t ∧ softOf ops ms i0 q = some i := fun {q t} hm => by
    obtain ⟨i0, a1, a2, a3⟩ := (with_mem hk).1 hm
    obtain ⟨t', c, S⟩ := softOf_spec a2
    exact ⟨i0, a1, a3, ⟨I.ancA D N i0 S.an, q, i, a1, a3, a2, N.new⟩, a2⟩
  have wd : ∀ {q i0}, ops[i0]? = some q → softOf ops ms i0 q = some i → wantedT ops (FF i0) q = r.wt := fun {q i0} a1 a2 => by
    obtain ⟨t', c, S⟩ := softOf_spec a2
    have e := S.op
    rw [N.get] at e
    cases e
    rw [hwt]
    exact wanted_stays S.gd fun u hu => DInv.stays D a1 a2 hu
  have hwanted : wantedT ops (FF i) o = Region.wanted o (yielded ops T) := by
    refine wanted_guard (E := E) ops o fun j want q t hg hq hd => ?_
    have hl : looks ops o t = true := by unfold looks; simp [hg, hq, hd]
    refine (I.view D N hout hl fun i1 hpd => ?_).1
    obtain ⟨q1, l1, a1, a2, a3, _⟩ := I.waiting D N (.inr hl) hpd
    obtain ⟨t', c, S⟩ := softOf_spec a2
    have e := S.op
    rw [N.get] at e
    cases e
    have hl1 : looks ops q1 t = true := by unfold looks; simp [S.gd, hg, hq, hd]
    have := anc_lt D.hm i1 q1 a1 i1 (S.here i1 q1 t a1 a3 hl1)
    omega
  have cov : ∀ {i0 u q}, Pd ops ms A i0 u → ops[i0]? = some q → softOf ops ms i0 q = some i → (q, u) ∈ l := fun {i0 u q} h1 h2 h3 => by
    obtain ⟨_, q', s, a1, a2, _⟩ := h1
    rw [h2] at a1
    cases a1
    exact (with_mem hk).2 ⟨i0, h2, h3, a2⟩
  have e1 : con E Eng.undef = Go.undef := by simp [Eng.undef, Go.undef, con, conA, conL]
  cases hw : r.wt with
  | false =>
    obtain ⟨hn1, hn2⟩ := hno hw
    rw [hw, hn2] at hwr
    rw [hw] at hwt
    have hne : ¬ Ef ops ms Z rs i := by
      rintro ⟨o', r', h1, h2, h4⟩
      rw [hr] at h2
      cases h2
      rw [hw] at h4
      simp at h4
    have hst := step_op_skip' (P := P) (fr := at_ b T ds (.inRegion ops (i :: rest) :: k)) (cs := cs) (w := w) rfl rfl N.get (by rw [← hwt] at hwanted; exact hwanted.symm)
    rw [finish_at N.get] at hst
    have := I.done D N hks (v := Eng.undef) (ws := unds l) hwr I.pOK (I.eff' D N hne) I.hp (Agree.refl _ _) (Nat.le_refl _) (by simp [Eng.undef, sc, scA, scL])
      (fun u x hx => by
        obtain ⟨rfl, q, hm⟩ := lk_unds hx
        obtain ⟨i0, a1, a2, a3, a4⟩ := mem hm
        refine ⟨⟨i0, a3⟩, fun hlt => ?_, by simp [Eng.undef, sc, scA, scL]⟩
        rw [e1]
        refine I.pno i0 u a3 ?_ hlt
        rintro ⟨q', b1, b2⟩
        rw [a1] at b1
        cases b1
        rw [wd a1 a4, hw] at b2
        cases b2)
      (fun i0 u q h1 h2 h3 => lk_some (by
        unfold unds
        rw [List.map_map]
        exact List.mem_map.2 ⟨(q, u), cov h1 h2 h3, rfl⟩))
      (fun i0 t q h1 h2 h3 h4 => ⟨rfl, (I.img h1 h2).2.2⟩)
    rw [e1] at this
    exact ⟨p, pb, E, _, w, this, .one hst⟩
  | true =>
    obtain ⟨hrF, h1, hb, hev⟩ := hyes hw
    rw [hw] at hwr hwt
    have hz : Z.contains i = false := by
      cases hz : Z.contains i with
      | false => rfl
      | true => have := D.nn i _ N.get hz; rw [hk] at this; cases this
    have hE : Ef ops ms Z rs i := ⟨o, r, N.get, hr, by simp only [hw, effK_with hk, hz]; rfl⟩
    have hHH := I.heap D N hE
    have sl := bring_slots hb
    have mem' : ∀ q t, (q, t) ∈ l → ∃ i0, ops[i0]? = some q ∧ Pd ops ms A i0 t ∧ Wd ops FF i0 ∧ softOf ops ms i0 q = some i := fun q t hm => by
      obtain ⟨i0, a1, a2, a3, a4⟩ := mem hm
      exact ⟨i0, a1, a3, ⟨q, a1, (wd a1 a4).trans hw⟩, a4⟩
    obtain ⟨E1, H1, hE1, hn1, hws, himg⟩ := I.commit D l (HH i) h1 r.ws E hb (by rw [(kind_withVars hk).1]; exact bring_once _ (fun q j h => zip_mem.1 h) (zip_once _ _)) mem' (hHH ▸ I.hp) (Agree.refl _ _) (by rw [hHH]; exact Nat.le_refl _) (fun j o' hj q t i0 _ _ g3 g4 => (I.img g3 g4).2.2 j o' (by rw [hHH]; exact hj))
    have H2 := H1.protect (Q := fun k => ∃ i1 t1 q1, Pd ops ms A i1 t1 ∧ Wd ops FF i1 ∧ ops[i1]? = some q1 ∧ softOf ops ms i1 q1 ≠ some i ∧ pb i1 = k) (by
      rintro k ⟨i1, t1, q1, d1, d2, d3, d4, rfl⟩
      refine ⟨I.blt d1 d2, fun j o' hj => ?_⟩
      rcases himg j o' hj with ⟨o'', g⟩ | ⟨i2, t2, q2, g1, g2, g3, g4, g5⟩
      · rw [← hHH] at g
        rw [← (hE1 j (by rw [← hHH]; exact (I.hp.obj j o'' g).1)).1]
        exact (I.img d1 d2).2.2 j o'' g
      · rw [g5]
        intro hh
        have := I.pinj _ _ _ _ g3 d1 g4 d2 hh
        subst this
        obtain ⟨i3, c1, c2, c3, c4⟩ := mem g1
        have : i2 = i3 := by
          obtain ⟨_, q4, s4, f1, f2, f3, f4⟩ := g3
          exact owner_only c4 c2 f1 f2
        subst this
        rw [c1] at d3
        cases d3
        exact d4 c4)
    have hn : (HH p).next ≤ h1.next := by rw [hHH]; exact hn1
    have hEp : Agree (HH p).next E E1 := by rw [hHH]; exact hE1
    have hevs : ∀ x ∈ o.op.operands, okOpd P x = true → (at_ b T ds (.inRegion ops (i :: rest) :: k)).eval x = con E1 (r.F.eval x) ∧ sc h1.next (r.F.eval x) = true := by
      refine eval_slots H1.glob H1.gnext _ _ fun u hu => ?_
      have hni : (FF i).n = (FF 0).n := (va_text D.ff i (Nat.le_of_lt N.lt)).1.1
      rw [hrF, get_putL, hni]
      cases hx : lk u r.ws with
      | some x =>
        obtain ⟨g1, g2⟩ := hws u x hx
        by_cases hlt : u < (FF 0).n
        · simp only [if_pos hlt, Option.getD_some]
          exact ⟨by simp [Array.getD_eq_getD_getElem?, g1 hlt], g2⟩
        · simp only [if_neg hlt]
          have hge : (FF 0).n ≤ u := Nat.le_of_not_lt hlt
          have : T.size ≤ u := by rw [I.size]; exact hge
          rw [(va_text D.ff i (Nat.le_of_lt N.lt)).2.2 u hge, hout u hge]
          simp [Array.getD_eq_getD_getElem?, this, Eng.undef, Go.undef, con, conA, conL, sc, scA, scL]
      | none =>
        obtain ⟨v1, v2⟩ := I.view D N hout (looks_operand hu) fun i1 hp1 => by
          obtain ⟨q, l', a1, a2, a3, a4, a5⟩ := I.waiting D N (.inr (looks_operand hu)) hp1
          rw [hk] at a4
          cases a4
          exact lk_some (by rw [sl]; exact List.mem_map.2 ⟨_, a5, rfl⟩) hx
        exact ⟨by rw [v1, con_congr hEp _ v2], sc_mono hn _ v2⟩
    obtain ⟨E', w', g1, g2, g3, g4, g5⟩ := op_sound' (rest := rest) (k := k) (hC _ _) H2 hevs N.get (by rw [← hwanted, ← hwt]) hev cs
    obtain ⟨H3, H4, H5⟩ := H1.unprotect g1
    exact ⟨i + 1, pb, E', _, w', I.done D N hks (v := r.v) (ws := r.ws) hwr (.inr ⟨i, hE, rfl⟩) (I.effE D N hE) H3 (hEp.trans g2 hn) (Nat.le_trans hn g3) g4
      (fun u x hx => by
        obtain ⟨a1, a2⟩ := hws u x hx
        have hm : u ∈ r.ws.map (·.1) := List.mem_map.2 ⟨_, lk_mem hx, rfl⟩
        rw [sl] at hm
        obtain ⟨⟨q, t'⟩, hq, e⟩ := List.mem_map.1 hm
        have e : t' = u := e
        subst e
        obtain ⟨i0, c1, c2, c3, c4⟩ := mem hq
        exact ⟨⟨i0, c3⟩, fun hlt => by rw [a1 hlt, con_congr g2 x a2], sc_mono g3 x a2⟩)
      (fun i0 u q h1 h2 h3 => lk_some (by rw [sl]; exact List.mem_map.2 ⟨(q, u), cov h1 h2 h3, rfl⟩))
      (fun i0 t q h1 h2 h3 h4 => by
        have hQ : ∃ i2 t2 q2, Pd ops ms A i2 t2 ∧ Wd ops FF i2 ∧ ops[i2]? = some q2 ∧ softOf ops ms i2 q2 ≠ some i ∧ pb i2 = pb i0 := ⟨i0, t, q, h1, h2, h3, h4, rfl⟩
        exact ⟨H4 _ hQ, H5 _ hQ (I.img h1 h2).2.1⟩), g5⟩

theorem DInv.plain (D : Dr callF P ops ms Z FF HH rs) (I : DInv P B w0 E0 ops ms Z FF HH rs A p pb E T w) (N : Nxt ops A i o) (hout : ∀ t, (FF 0).n ≤ t → (FF 0).tm.get t = none) (hC : ∀ B w0, CallOK P B w0 callF) (hk : kindOf ops ms o i = .norm) {b : Frame} {ds : List Deferred} {rest : List Nat} {k : List Item} {cs : List Frame} :
    ∃ p' pb' E' T' w', DInv P B w0 E0 ops ms Z FF HH rs (fun j => A j ∨ j = i) p' pb' E' T' w' ∧ Steps P (lone (at_ b T ds (.inRegion ops (i :: rest) :: k)) cs w) (lone (at_ b T' ds (.inRegion ops rest :: k)) cs w') := by
  have hks : kindOf ops ms o i ≠ .soft := by rw [hk]; simp
  obtain ⟨r, hr, hF, hh, h3⟩ := D.st i o N.get
  rw [hk] at h3
  obtain ⟨hrF, hwt, hyes, hno⟩ := h3
  have hwr : wr ops ms rs i = [] ++ dstW o (if r.wt then r.v else Eng.undef) := by simp [wr, N.get, hr, wOf, hk]
  have view : ∀ t, looks ops o t = true → T.getD t Go.undef = con E (((FF i).tm.get t).getD Eng.undef) ∧ sc (HH p).next (((FF i).tm.get t).getD Eng.undef) = true := fun t ht =>
    I.view D N hout ht fun i0 h => by
      obtain ⟨_, _, _, _, _, he, _⟩ := I.waiting D N (.inr ht) h
      rw [hk] at he
      cases he
  have cov : ∀ i0 u q, Pd ops ms A i0 u → ops[i0]? = some q → softOf ops ms i0 q = some i → lk u ([] : List (Tmp × Value)) ≠ none := fun i0 u q _ h2 h3 => by
    obtain ⟨o', l, c1, c2⟩ := store_kind h2 h3
    rw [N.get] at c1
    cases c1
    rw [hk] at c2
    cases c2
  have hwanted := wanted_slots ops o fun t ht => (view t ht).1
  cases hw : r.wt with
  | false =>
    rw [hw] at hwr hwt
    have hne : ¬ Ef ops ms Z rs i := by
      rintro ⟨o', r', h1, h2, h4⟩
      rw [hr] at h2
      cases h2
      rw [hw] at h4
      simp at h4
    have hst := step_op_skip' (P := P) (fr := at_ b T ds (.inRegion ops (i :: rest) :: k)) (cs := cs) (w := w) rfl rfl N.get (by rw [← hwt] at hwanted; exact hwanted.symm)
    rw [finish_at N.get] at hst
    have e1 : con E Eng.undef = Go.undef := by simp [Eng.undef, Go.undef, con, conA, conL]
    have := I.done D N hks (v := Eng.undef) hwr I.pOK (I.eff' D N hne) I.hp (Agree.refl _ _) (Nat.le_refl _) (by simp [Eng.undef, sc, scA, scL]) (fun u x hx => by simp [lk] at hx) cov (fun i0 t q h1 h2 h3 h4 => ⟨rfl, (I.img h1 h2).2.2⟩)
    rw [e1] at this
    exact ⟨p, pb, E, _, w, this, .one hst⟩
  | true =>
    rw [hw] at hwr hwt
    have hev := hyes hw
    have key : ∃ p', (p' = 0 ∨ ∃ e, Ef ops ms Z rs e ∧ p' = e + 1) ∧ (∀ e, Ef ops ms Z rs e → ((A e ∨ e = i) ↔ e < p')) ∧ evOp callF P o (FF i) (HH p) = some (r.v, HH p') := by
      cases hzi : Z.contains i with
      | true =>
        have hne : ¬ Ef ops ms Z rs i := by
          rintro ⟨o', r', h1, h2, h4⟩
          rw [hzi] at h4
          simp at h4
        refine ⟨p, I.pOK, I.eff' D N hne, ?_⟩
        rw [← hrF]
        refine D.reads i o r N.get hr hw (.inl hzi) p I.pOK (fun e hee ha => ?_) (fun e hee hl => ?_)
        · exact (I.eff e hee).1 (I.ancA D N e ha)
        · exact I.ancN D N e ((I.eff e hee).2 hl)
      | false =>
      cases he : isEff o.op with
      | true =>
        have hE : Ef ops ms Z rs i := ⟨o, r, N.get, hr, by simp only [hw, effK_norm hk, he, hzi]; rfl⟩
        exact ⟨i + 1, .inr ⟨i, hE, rfl⟩, I.effE D N hE, by rw [I.heap D N hE]; exact hev⟩
      | false =>
        have hne : ¬ Ef ops ms Z rs i := by
          rintro ⟨o', r', h1, h2, h4⟩
          rw [N.get] at h1
          cases h1
          rw [effK_norm hk, he] at h4
          simp at h4
        refine ⟨p, I.pOK, I.eff' D N hne, ?_⟩
        cases hrd : isRead o.op with
        | false => exact evOp_pure he hrd hev _
        | true =>
          rw [← hrF]
          refine D.reads i o r N.get hr hw (.inr ⟨hrd, he⟩) p I.pOK (fun e hee ha => ?_) (fun e hee hl => ?_)
          · exact (I.eff e hee).1 (I.ancA D N e ha)
          · exact I.ancN D N e ((I.eff e hee).2 hl)
    obtain ⟨p', hp', heff, hev'⟩ := key
    have H2 := I.hp.protect (Q := fun k => ∃ i1 t1, Pd ops ms A i1 t1 ∧ Wd ops FF i1 ∧ pb i1 = k) (by
      rintro k ⟨i1, t1, d1, d2, rfl⟩
      exact ⟨I.blt d1 d2, (I.img d1 d2).2.2⟩)
    obtain ⟨E', w', g1, g2, g3, g4, g5⟩ := op_sound' (rest := rest) (k := k) (hC _ _) H2 (eval_slots (b := b) (ds := ds) I.hp.glob I.hp.gnext (.inRegion ops (i :: rest) :: k) o.op.operands fun t ht => view t (looks_operand ht)) N.get (by rw [← hwanted, ← hwt]) hev' cs
    obtain ⟨H3, H4, H5⟩ := I.hp.unprotect g1
    exact ⟨p', pb, E', _, w', I.done D N hks (v := r.v) hwr hp' heff H3 g2 g3 g4 (fun u x hx => by simp [lk] at hx) cov (fun i0 t q h1 h2 h3 h4 => ⟨H4 _ ⟨i0, t, h1, h2, rfl⟩, H5 _ ⟨i0, t, h1, h2, rfl⟩ (I.img h1 h2).2.1⟩), g5⟩

theorem DInv.op (D : Dr callF P ops ms Z FF HH rs) (I : DInv P B w0 E0 ops ms Z FF HH rs A p pb E T w) (N : Nxt ops A i o) (hout : ∀ t, (FF 0).n ≤ t → (FF 0).tm.get t = none) (hC : ∀ B w0, CallOK P B w0 callF) {b : Frame} {ds : List Deferred} {rest : List Nat} {k : List Item} {cs : List Frame} :
    ∃ p' pb' E' T' w', DInv P B w0 E0 ops ms Z FF HH rs (fun j => A j ∨ j = i) p' pb' E' T' w' ∧ Steps P (lone (at_ b T ds (.inRegion ops (i :: rest) :: k)) cs w) (lone (at_ b T' ds (.inRegion ops rest :: k)) cs w') := by
  cases hk : kindOf ops ms o i with
  | soft => exact I.soft D N hout hC hk
  | withVars l => exact I.withVars D N hout hC hk
  | norm => exact I.plain D N hout hC hk

end
end Go.Eng
