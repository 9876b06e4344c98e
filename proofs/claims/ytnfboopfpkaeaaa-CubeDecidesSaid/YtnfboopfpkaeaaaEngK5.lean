/- A region that draws its order: a store that brings its variable with it, and every other operation. -/
import Derived.Test.YtnfboopfpkaeaaaEngK4
namespace Go.Eng
open Go.RowKit

section
variable {callF : CallF} {P : Program} {B : Prot} {w0 : World} {E0 : Env} {ops : Array Oper} {ms Z : List Nat} {FF : Nat → Fm} {HH : Nat → Hp} {rs : List Rec} {A : Nat → Prop} {p : Nat} {pb : Nat → Nat} {E : Env} {T : Array Value} {w : World} {i : Nat} {o : Oper}

theorem DInv.withVar (D : Dr callF P ops ms Z FF HH rs) (I : DInv P B w0 E0 ops ms Z FF HH rs A p pb E T w) (N : Nxt ops A i o) (hout : ∀ t, (FF 0).n ≤ t → (FF 0).tm.get t = none) (hC : ∀ B w0, CallOK P B w0 callF) {e : TypeId} {t : Nat} (hk : kindOf ops ms o i = .withVar e t) {b : Frame} {ds : List Deferred} {rest : List Nat} {k : List Item} {cs : List Frame} :
    ∃ p' pb' E' T' w', DInv P B w0 E0 ops ms Z FF HH rs (fun j => A j ∨ j = i) p' pb' E' T' w' ∧ Steps P (lone (at_ b T ds (.inRegion ops (i :: rest) :: k)) cs w) (lone (at_ b T' ds (.inRegion ops rest :: k)) cs w') := by
  have hks : kindOf ops ms o i ≠ .soft := by rw [hk]; simp
  obtain ⟨ty, x, q, i0, hop, hg, hd, b1, b2, b3, b4, b5⟩ := kind_withVar hk
  have hS := softOf_spec b5
  have hpd : Pd ops ms A i0 t := ⟨I.ancA D N i0 hS.anc, q, e, i, b1, b2, b3, b4, b5, N.new⟩
  have hxt : x ≠ .tmp t := by
    obtain ⟨o', ty', x', c1, c2, c3, c4, c5⟩ := hS.op
    rw [N.get] at c1
    cases c1
    rw [hop] at c2
    cases c2
    exact c5
  obtain ⟨r, hr, hF, hh, h3⟩ := D.st i o N.get
  rw [hk] at h3
  obtain ⟨hwt, hrF, h1, hnv, hev⟩ := h3
  have hwr : wr ops ms HH rs i = (some t, .pointer (some ⟨(HH i).next, 0, none⟩)) := by simp [wr, N.get, hr, wOf, hk]
  have hFi : FF (i + 1) = (FF i).put (some t) (.pointer (some ⟨(HH i).next, 0, none⟩)) := by rw [D.ff i N.lt, hwr]
  have hz : Z.contains i = false := by
    cases hz : Z.contains i with
    | false => rfl
    | true => have := D.nn i _ N.get hz; rw [hk] at this; cases this
  have hE : Ef ops Z rs i := ⟨o, r, N.get, hr, by simp only [hwt, hop, isEff, hz]; rfl⟩
  have hHH := I.heap D N hE
  obtain ⟨z, hz, hall, rfl⟩ := newVarOf_spec hnv
  obtain ⟨⟨q', e', z', c1, c2, c3, c4⟩, c5, c6, c7⟩ := I.pblk i0 t hpd
  rw [b1] at c1
  cases c1
  rw [b2] at c2
  cases c2
  rw [hz] at c3
  cases c3
  have hzf := flat_cells (zeroOf_run hz w).2
  have H1 : HpOK P B w0 (E.ext (HH i).next (pb i0) 0) ((HH i).new (.cells z.cells.toList e false)) w := by
    rw [← hHH]
    refine I.hp.new' (O := .cells z.cells e (0, 0)) (SameOn.refl _ _) (fun j o' hj => ⟨rfl, c7 j o' hj⟩) c4 c5 ⟨[], ?_, scL_flat _ _ hzf, cells_scalar hall, fun _ => rfl, fun hh => by cases hh⟩
    rw [conL_flat _ _ hzf]
    simp
  have hE1 : Agree (HH p).next E (E.ext (HH i).next (pb i0) 0) := by rw [hHH]; exact Env.ext_agree _ _ _ _
  have blt : ∀ {i1 t1}, Pd ops ms A i1 t1 → pb i1 < w.heap.size := fun {i1 t1} h => by
    obtain ⟨⟨_, _, _, _, _, _, h4⟩, _⟩ := I.pblk i1 t1 h
    exact (Array.getElem?_eq_some_iff.1 h4).1
  have H2 := H1.protect (Q := fun k => ∃ i1 t1, Pd ops ms A i1 t1 ∧ i1 ≠ i0 ∧ pb i1 = k) (by
    rintro k ⟨i1, t1, d1, d2, rfl⟩
    refine ⟨blt d1, fun j o' hj => ?_⟩
    rw [Hp.get_new] at hj
    split at hj
    · rename_i hjn
      subst hjn
      rw [Env.ext_mu]
      exact fun hh => d2 (I.pinj _ _ _ _ d1 hpd hh.symm)
    · rw [← hHH] at hj
      rw [← (hE1 j (I.hp.obj j o' hj).1).1]
      exact (I.pblk i1 t1 d1).2.2.2 j o' hj)
  have only : ∀ {i1 t1}, Pd ops ms A i1 t1 → t1 ≠ t → ∀ q e, ops[i1]? = some q → q.op = .alloc e → q.dst = some t1 → q.guard = none → softOf ops ms i1 t1 ≠ some i := fun {i1 t1} _ hne q e a1 a2 a3 a4 a5 => by
    obtain ⟨⟨o', ty', x', d1, d2, _⟩, _⟩ := softOf_spec a5
    rw [N.get] at d1
    cases d1
    rw [hop] at d2
    cases d2
    exact hne rfl
  have hn1 : (HH p).next ≤ ((HH i).new (.cells z.cells.toList e false)).next := by rw [hHH]; simp
  have hevs : ∀ x ∈ o.op.operands, okOpd P x = true → (at_ b T ds (.inRegion ops (i :: rest) :: k)).eval x = con (E.ext (HH i).next (pb i0) 0) ((FF (i + 1)).eval x) ∧ sc ((HH i).new (.cells z.cells.toList e false)).next ((FF (i + 1)).eval x) = true := by
    refine eval_slots H1.glob H1.gnext _ _ fun u hu => ?_
    by_cases hut : u = t
    · subst hut
      rcases Nat.lt_or_ge u (FF 0).n with hlt | hge
      · have e1 : (FF (i + 1)).tm.get u = some (.pointer (some ⟨(HH i).next, 0, none⟩)) := by
          rw [hFi, Fm.get_put, if_pos ⟨rfl, by rw [(va_text D.ff i (Nat.le_of_lt N.lt)).1.1]; exact hlt⟩]
        rw [e1]
        refine ⟨?_, by simp [sc]⟩
        simp [Array.getD_eq_getD_getElem?, I.pslot i0 u hpd hlt, con]
      · have e1 : (FF (i + 1)).tm.get u = none := by
          rw [(va_text D.ff (i + 1) N.lt).2.2 u hge, hout u hge]
        have : T.size ≤ u := by rw [I.size]; exact hge
        simp [e1, Array.getD_eq_getD_getElem?, this, Eng.undef, Go.undef, con, conA, conL, sc, scA, scL]
    · have e1 : (FF (i + 1)).tm.get u = (FF i).tm.get u := by
        rw [hFi, Fm.get_put, if_neg (fun hh => hut (by have := hh.1; cases this; rfl))]
      rw [e1]
      obtain ⟨v1, v2⟩ := I.view D N hout hks (looks_operand hu) fun i1 hp1 => by
        have hp2 := hp1
        obtain ⟨_, q1, e1, s1, a1, a2, a3, a4, a5, a6⟩ := hp1
        have hne : i ≠ i1 := by
          rintro rfl
          rw [N.get] at a1
          cases a1
          rw [hop] at a2
          cases a2
        have := (softOf_spec a5).only i o N.get hne (.inr (looks_operand hu))
        subst this
        exact only hp2 hut q1 e1 a1 a2 a3 a4 a5
      exact ⟨by rw [v1, con_congr hE1 _ v2], sc_mono hn1 _ v2⟩
  obtain ⟨E', w', g1, g2, g3, g4, g5⟩ := op_sound' (rest := rest) (k := k) (hC _ _) H2 hevs N.get (by simp [Region.wanted, hg]) hev cs
  rw [hd] at g5
  obtain ⟨H3, H4, H5⟩ := H1.unprotect g1
  have hA' : Agree (HH p).next E E' := hE1.trans g2 hn1
  have hle : (HH p).next ≤ (HH (i + 1)).next := Nat.le_trans hn1 g3
  have back : ∀ {i1 t1}, Pd ops ms (fun j => A j ∨ j = i) i1 t1 → Pd ops ms A i1 t1 ∧ i1 ≠ i0 ∧ t1 ≠ t := fun {i1 t1} h => by
    have h' := h.back fun hh => by
      subst hh
      obtain ⟨q, h1, h2⟩ := h.softK
      rw [N.get] at h1
      cases h1
      exact hks h2
    refine ⟨h', ?_⟩
    obtain ⟨_, q1, e1, s1, a1, a2, a3, a4, a5, a6⟩ := h
    have hne : i1 ≠ i0 := fun hh => by
      subst hh
      rw [b1] at a1
      cases a1
      rw [b3] at a3
      cases a3
      rw [b5] at a5
      cases a5
      exact a6 (.inr rfl)
    exact ⟨hne, fun hh => by subst hh; exact hne (owner_only b1 b3 b2 b5 a1 a3 ⟨_, a2⟩)⟩
  refine ⟨i + 1, pb, E', T, w', ⟨I.closed' D N, I.sub' D N, .inr ⟨i, hE, rfl⟩, I.effE D N hE, H3, I.agree.trans hA' I.le, Nat.le_trans I.le hle, I.size, fun u hu hn => ?_, fun i1 t1 h ht => I.pslot i1 t1 (back h).1 ht, fun i1 t1 h => ?_, fun i1 i2 t1 t2 h h' => I.pinj i1 i2 t1 t2 (back h).1 (back h').1⟩, g5⟩
  · by_cases hut : u = t
    · subst hut
      have hlt : (HH i).next < ((HH i).new (.cells z.cells.toList e false)).next := by simp
      refine ⟨.pointer (some ⟨(HH i).next, 0, none⟩), ?_, ?_, ?_⟩
      · have := VA.last (W := wr ops ms HH rs) (A := A) (t := u) (v0 := ((FF 0).tm.get u).getD Eng.undef) (i := i) (by rw [hwr]) ?_
        · rw [hwr] at this
          exact this
        · intro j hj hwj
          obtain ⟨oj, hoj, hj2⟩ := wr_some hwj
          have hne : j ≠ i0 := by
            rintro rfl
            rw [b1] at hoj
            cases hoj
            have hso := soft_kind (ops := ops) (ms := ms) b2 b3 b4 b5
            rcases hj2 with ⟨_, h2⟩ | ⟨_, h2⟩ <;> (rw [hso] at h2; cases h2)
          have : j = i := by
            rcases hj2 with ⟨h1, _⟩ | ⟨e', h2⟩
            · exact hS.only j oj hoj hne (.inl h1)
            · obtain ⟨ty', x', _, _, c1, _⟩ := kind_withVar h2
              exact hS.only j oj hoj hne (.inr (looks_operand (by simp [c1, Op.operands])))
          subst this
          exact absurd hj N.new
      · rw [I.pslot i0 u hpd hu]
        simp only [con]
        rw [← (g2 _ hlt).1, Env.ext_mu]
      · simp only [sc, decide_eq_true_eq]
        omega
    · obtain ⟨v, a1, a2, a3⟩ := I.slot u hu fun i1 h => hn i1 (h.on (only h hut))
      refine ⟨v, a1.more (by rw [hwr]; intro hh; cases hh; exact hut rfl), ?_, sc_mono hle v a3⟩
      rw [a2, con_congr hA' v a3]
  · obtain ⟨h', hne, _⟩ := back h
    obtain ⟨⟨q1, e1, z1, d1, d2, d3, d4⟩, d5, d6, d7⟩ := I.pblk i1 t1 h'
    have hQ : ∃ i2 t2, Pd ops ms A i2 t2 ∧ i2 ≠ i0 ∧ pb i2 = pb i1 := ⟨i1, t1, h', hne, rfl⟩
    exact ⟨⟨q1, e1, z1, d1, d2, d3, by rw [H4 _ hQ]; exact d4⟩, d5, d6, H5 _ hQ d6⟩

theorem DInv.plain (D : Dr callF P ops ms Z FF HH rs) (I : DInv P B w0 E0 ops ms Z FF HH rs A p pb E T w) (N : Nxt ops A i o) (hout : ∀ t, (FF 0).n ≤ t → (FF 0).tm.get t = none) (hC : ∀ B w0, CallOK P B w0 callF) (hk : kindOf ops ms o i = .norm) {b : Frame} {ds : List Deferred} {rest : List Nat} {k : List Item} {cs : List Frame} :
    ∃ p' pb' E' T' w', DInv P B w0 E0 ops ms Z FF HH rs (fun j => A j ∨ j = i) p' pb' E' T' w' ∧ Steps P (lone (at_ b T ds (.inRegion ops (i :: rest) :: k)) cs w) (lone (at_ b T' ds (.inRegion ops rest :: k)) cs w') := by
  have hks : kindOf ops ms o i ≠ .soft := by rw [hk]; simp
  obtain ⟨r, hr, hF, hh, h3⟩ := D.st i o N.get
  rw [hk] at h3
  obtain ⟨hrF, hwt, hyes, hno⟩ := h3
  have hwr : wr ops ms HH rs i = (o.dst, if r.wt then r.v else undef) := by simp [wr, N.get, hr, wOf, hk]
  have view : ∀ t, looks ops o t = true → T.getD t Go.undef = con E (((FF i).tm.get t).getD Eng.undef) ∧ sc (HH p).next (((FF i).tm.get t).getD Eng.undef) = true := fun t ht =>
    I.view D N hout hks ht fun i0 h => by
      obtain ⟨e, he⟩ := I.waiting D N hks (.inr ht) h
      rw [hk] at he
      cases he
  have hwanted := wanted_slots ops o fun t ht => (view t ht).1
  have blt : ∀ {i1 t1}, Pd ops ms A i1 t1 → pb i1 < w.heap.size := fun {i1 t1} h => by
    obtain ⟨⟨_, _, _, _, _, _, h4⟩, _⟩ := I.pblk i1 t1 h
    exact (Array.getElem?_eq_some_iff.1 h4).1
  cases hw : r.wt with
  | false =>
    rw [hw] at hwr hwt
    have hne : ¬ Ef ops Z rs i := by
      rintro ⟨o', r', h1, h2, h4⟩
      rw [hr] at h2
      cases h2
      rw [hw] at h4
      simp at h4
    have hst := step_op_skip' (P := P) (fr := at_ b T ds (.inRegion ops (i :: rest) :: k)) (cs := cs) (w := w) rfl rfl N.get (by rw [← hwt] at hwanted; exact hwanted.symm)
    rw [finish_at N.get] at hst
    have e1 : con E Eng.undef = Go.undef := by simp [Eng.undef, Go.undef, con, conA, conL]
    have := I.norm D N hk (v := Eng.undef) hwr I.pOK (I.eff' D N hne) I.hp (Agree.refl _ _) (Nat.le_refl _) (by simp [Eng.undef, sc, scA, scL]) (fun i0 t h => ⟨rfl, (I.pblk i0 t h).2.2.2⟩)
    rw [e1] at this
    exact ⟨p, pb, E, _, w, this, .one hst⟩
  | true =>
    rw [hw] at hwr hwt
    have hev := hyes hw
    have key : ∃ p', (p' = 0 ∨ ∃ e, Ef ops Z rs e ∧ p' = e + 1) ∧ (∀ e, Ef ops Z rs e → ((A e ∨ e = i) ↔ e < p')) ∧ evOp callF P o (FF i) (HH p) = some (r.v, HH p') := by
      cases hzi : Z.contains i with
      | true =>
        have hne : ¬ Ef ops Z rs i := by
          rintro ⟨o', r', h1, h2, h4⟩
          rw [hzi] at h4
          simp at h4
        refine ⟨p, I.pOK, I.eff' D N hne, ?_⟩
        rw [← hrF]
        refine D.reads i o r N.get hr hw (.inl hzi) p I.pOK (fun e hee ha => ?_) (fun e hee hl => ?_)
        · exact (I.eff e hee).1 (I.ancA D N e ha)
        · exact I.ancN D N e ((I.eff e hee).2 hl)
      | false =>
      cases he : isEff o.op with
      | true =>
        have hE : Ef ops Z rs i := ⟨o, r, N.get, hr, by simp only [hw, he, hzi]; rfl⟩
        exact ⟨i + 1, .inr ⟨i, hE, rfl⟩, I.effE D N hE, by rw [I.heap D N hE]; exact hev⟩
      | false =>
        have hne : ¬ Ef ops Z rs i := by
          rintro ⟨o', r', h1, h2, h4⟩
          rw [N.get] at h1
          cases h1
          rw [he] at h4
          simp at h4
        refine ⟨p, I.pOK, I.eff' D N hne, ?_⟩
        cases hrd : isRead o.op with
        | false => exact evOp_pure he hrd hev _
        | true =>
          rw [← hrF]
          refine D.reads i o r N.get hr hw (.inr ⟨hrd, he⟩) p I.pOK (fun e hee ha => ?_) (fun e hee hl => ?_)
          · exact (I.eff e hee).1 (I.ancA D N e ha)
          · exact I.ancN D N e ((I.eff e hee).2 hl)
    obtain ⟨p', hp', heff, hev'⟩ := key
    have H2 := I.hp.protect (Q := fun k => ∃ i1 t1, Pd ops ms A i1 t1 ∧ pb i1 = k) (by
      rintro k ⟨i1, t1, d1, rfl⟩
      exact ⟨blt d1, (I.pblk i1 t1 d1).2.2.2⟩)
    obtain ⟨E', w', g1, g2, g3, g4, g5⟩ := op_sound' (rest := rest) (k := k) (hC _ _) H2 (eval_slots (b := b) (ds := ds) I.hp.glob I.hp.gnext (.inRegion ops (i :: rest) :: k) o.op.operands fun t ht => view t (looks_operand ht)) N.get (by rw [← hwanted, ← hwt]) hev' cs
    obtain ⟨H3, H4, H5⟩ := I.hp.unprotect g1
    exact ⟨p', pb, E', _, w', I.norm D N hk (v := r.v) hwr hp' heff H3 g2 g3 g4 (fun i0 t h => ⟨H4 _ ⟨i0, t, h, rfl⟩, H5 _ ⟨i0, t, h, rfl⟩ (I.pblk i0 t h).2.2.1⟩), g5⟩

theorem DInv.op (D : Dr callF P ops ms Z FF HH rs) (I : DInv P B w0 E0 ops ms Z FF HH rs A p pb E T w) (N : Nxt ops A i o) (hout : ∀ t, (FF 0).n ≤ t → (FF 0).tm.get t = none) (hC : ∀ B w0, CallOK P B w0 callF) {b : Frame} {ds : List Deferred} {rest : List Nat} {k : List Item} {cs : List Frame} :
    ∃ p' pb' E' T' w', DInv P B w0 E0 ops ms Z FF HH rs (fun j => A j ∨ j = i) p' pb' E' T' w' ∧ Steps P (lone (at_ b T ds (.inRegion ops (i :: rest) :: k)) cs w) (lone (at_ b T' ds (.inRegion ops rest :: k)) cs w') := by
  cases hk : kindOf ops ms o i with
  | soft => exact I.soft D N hk
  | withVar e t => exact I.withVar D N hout hC hk
  | norm => exact I.plain D N hout hC hk

end
end Go.Eng
