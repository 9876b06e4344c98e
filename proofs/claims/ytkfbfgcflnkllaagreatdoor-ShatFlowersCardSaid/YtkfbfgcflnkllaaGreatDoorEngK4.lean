/- A region that draws its order: one operation. -/
import Derived.Test.YtkfbfgcflnkllaaGreatDoorEngK3
namespace Go.Eng
open Go.RowKit

theorem newVarOf_spec {P : Program} {h h1 : Hp} {e : TypeId} (hn : newVarOf P h e = some h1) : ∃ z, zeroOf P e = some z ∧ z.cells.toList.all scalar = true ∧ h1 = h.new (.cells z.cells.toList e false) := by
  unfold newVarOf at hn
  split at hn
  · rename_i z hz
    split at hn
    · rename_i hall
      cases hn
      exact ⟨z, hz, hall, rfl⟩
    · cases hn
  · cases hn

theorem looks_operand {ops : Array Oper} {o : Oper} {t : Nat} (h : Operand.tmp t ∈ o.op.operands) : looks ops o t = true := by
  unfold looks
  rw [Bool.or_eq_true]
  left
  rw [Array.any_eq_true']
  exact ⟨_, h, by simp⟩

theorem objAt_any {P : Program} {E E' : Env} {n m i j : Nat} {cs : List Value} {e : TypeId} {O : Obj} (h : ObjAt P E n i (.cells cs e false) O) (hE : Agree n E E') (hm : n ≤ m) : ObjAt P E' m j (.cells cs e false) O := by
  obtain ⟨junk, h1, h2, h3, h4, _⟩ := h
  exact ⟨junk, by rw [← conL_congr hE cs h2]; exact h1, scL_mono hm cs h2, h3, h4, fun ho => by cases ho⟩

/-- What was there before has no part in what came later. -/
theorem ObjAt.down {P : Program} {E E' : Env} {n m i : Nat} {o : AObj} {O O' : Obj} (h : ObjAt P E n i o O) (h' : ObjAt P E' m i o O') : ObjAt P E' n i o O' := by
  cases o with
  | cells cs e opn =>
    obtain ⟨_, _, h2, _⟩ := h
    obtain ⟨junk, k1, _, k3⟩ := h'
    exact ⟨junk, k1, h2, k3⟩
  | ro o cs e =>
    obtain ⟨_, _, _, _, _, h2, _⟩ := h
    obtain ⟨pre, rest, fz, k1, k0, _, k3⟩ := h'
    exact ⟨pre, rest, fz, k1, k0, h2, k3⟩
  | fro cs e =>
    obtain ⟨_, _, _, h2, _⟩ := h
    obtain ⟨rest, fz, k1, _, k3⟩ := h'
    exact ⟨rest, fz, k1, h2, k3⟩
  | map es clock => exact ⟨h'.1, h.2⟩
  | iter s pos => exact h'
  | miter m since seen last => exact ⟨h.1, h'.2⟩
  | loop st pd fm ps as body d =>
    obtain ⟨h1, T, h2, _⟩ := h
    obtain ⟨_, T', k2, k3⟩ := h'
    exact ⟨h1, T', ⟨k2.size, k2.val, k2.out, h2.scd⟩, k3⟩
  | defd tk => exact h'

theorem HpOK.forget {P : Program} {B : Prot} {w0 w w' : World} {E E' : Env} {h : Hp} {o : AObj} {B0 : Prot} {wb : World} (H : HpOK P B0 wb E h w) (H' : HpOK P B w0 E' (h.new o) w') : HpOK P B w0 E' h w' := by
  have old : ∀ j x, h.get j = some x → (h.new o).get j = some x := fun j x hj => by
    rw [Hp.get_new, if_neg (Nat.ne_of_lt (H.obj j x hj).1)]
    exact hj
  refine ⟨H'.bnd, H'.below, fun j x hj => ?_, fun j k x y hj hk => H'.inj j k x y (old j x hj) (old k y hk), H'.glob, H.gnext⟩
  obtain ⟨a1, _, O, _, a4⟩ := H.obj j x hj
  obtain ⟨_, b2, O', b3, b4⟩ := H'.obj j x (old j x hj)
  exact ⟨a1, b2, O', b3, a4.down b4⟩

section
variable {callF : CallF} {P : Program} {B : Prot} {w0 : World} {E0 : Env} {ops : Array Oper} {ms Z : List Nat} {FF : Nat → Fm} {HH : Nat → Hp} {rs : List Rec} {A : Nat → Prop} {p : Nat} {pb : Nat → Nat} {E : Env} {T : Array Value} {w : World} {i : Nat} {o : Oper}

theorem Pd.back {i0 t : Nat} (h : Pd ops ms (fun j => A j ∨ j = i) i0 t) (hne : i0 ≠ i) : Pd ops ms A i0 t ∧ ∀ q, ops[i0]? = some q → softOf ops ms i0 q ≠ some i := by
  obtain ⟨h1, q, s, a1, a2, a3, a4⟩ := h
  refine ⟨⟨h1.resolve_right hne, q, s, a1, a2, a3, fun hs => a4 (.inl hs)⟩, fun q' hq' he => ?_⟩
  rw [a1] at hq'
  cases hq'
  rw [a3] at he
  cases he
  exact a4 (.inr rfl)

theorem Pd.on {i0 t : Nat} (h : Pd ops ms A i0 t) (hne : ∀ q, ops[i0]? = some q → softOf ops ms i0 q ≠ some i) : Pd ops ms (fun j => A j ∨ j = i) i0 t := by
  obtain ⟨h1, q, s, a1, a2, a3, a4⟩ := h
  refine ⟨.inl h1, q, s, a1, a2, a3, fun hs => hs.elim a4 fun hs => ?_⟩
  subst hs
  exact hne q a1 a3

theorem Pd.softK {i0 t : Nat} (h : Pd ops ms A i0 t) : ∃ q, ops[i0]? = some q ∧ kindOf ops ms q i0 = .soft := by
  obtain ⟨_, q, s, a1, a2, a3, a4⟩ := h
  exact ⟨q, a1, soft_kind a3⟩

theorem wr_soft {q : Oper} (hq : ops[i]? = some q) (hk : kindOf ops ms q i = .soft) : wr ops ms rs i = [] := by
  unfold wr
  rw [hq]
  cases rs[i]? with
  | none => rfl
  | some r => simp only [wOf, hk]

/-- Behind an operation that is not put off. -/
theorem DInv.done (D : Dr callF P ops ms Z FF HH rs) (I : DInv P B w0 E0 ops ms Z FF HH rs A p pb E T w) (N : Nxt ops A i o) (hks : kindOf ops ms o i ≠ .soft) {v : Value} {ws : List (Tmp × Value)} (hw : wr ops ms rs i = ws ++ dstW o v) {p' : Nat} {E' : Env} {w' : World} (hp' : p' = 0 ∨ ∃ e, Ef ops ms Z rs e ∧ p' = e + 1) (heff : ∀ e, Ef ops ms Z rs e → ((A e ∨ e = i) ↔ e < p'))
    (H : HpOK P B w0 E' (HH p') w') (ha : Agree (HH p).next E E') (hle : (HH p).next ≤ (HH p').next) (hv : sc (HH p').next v = true)
    (hws : ∀ u x, lk u ws = some x → (∃ i0, Pd ops ms A i0 u) ∧ (u < (FF 0).n → T[u]? = some (con E' x)) ∧ sc (HH p').next x = true)
    (hcov : ∀ i0 u q, Pd ops ms A i0 u → ops[i0]? = some q → softOf ops ms i0 q = some i → lk u ws ≠ none)
    (hb : ∀ i0 t q, Pd ops ms A i0 t → Wd ops FF i0 → ops[i0]? = some q → softOf ops ms i0 q ≠ some i → w'.heap[pb i0]? = w.heap[pb i0]? ∧ ∀ j o', (HH p').get j = some o' → E'.μ j ≠ pb i0) :
    DInv P B w0 E0 ops ms Z FF HH rs (fun j => A j ∨ j = i) p' pb E' (match o.dst with | some d => T.setIfInBounds d (con E' v) | none => T) w' := by
  have back : ∀ {i0 t}, Pd ops ms (fun j => A j ∨ j = i) i0 t → Pd ops ms A i0 t ∧ ∀ q, ops[i0]? = some q → softOf ops ms i0 q ≠ some i := fun {i0 t} h => h.back fun hh => by
    subst hh
    obtain ⟨q, h1, h2⟩ := h.softK
    rw [N.get] at h1
    cases h1
    exact hks h2
  have nodst : ∀ {i0 t}, Pd ops ms A i0 t → o.dst ≠ some t := fun {i0 t} h hd => by
    obtain ⟨q, l, a1, a2, a3, _⟩ := I.waiting D N (.inl hd) h
    obtain ⟨t', c, S⟩ := softOf_spec a2
    have e1 := S.dst
    rw [a3] at e1
    cases e1
    have e2 := S.op
    rw [N.get] at e2
    cases e2
    exact S.cd hd
  have other : ∀ t, o.dst ≠ some t → (match o.dst with | some d => T.setIfInBounds d (con E' v) | none => T)[t]? = T[t]? := by
    intro t ht
    cases hd : o.dst with
    | none => rfl
    | some d =>
      have : d ≠ t := fun hh => ht (by rw [hd, hh])
      simp [Array.getElem?_setIfInBounds_ne this]
  refine ⟨I.closed' D N, I.sub' D N, hp', heff, H, I.agree.trans ha I.le, Nat.le_trans I.le hle, ?_, fun t ht hn => ?_, fun i0 t h hwd => ?_, fun i0 t h hwd ht => ?_, fun i0 i1 t t' h h' => I.pinj i0 i1 t t' (back h).1 (back h').1⟩
  · rw [← I.size]
    cases o.dst <;> simp
  · by_cases hd : o.dst = some t
    · refine ⟨v, VA.last (by rw [hw, lk_app, lk_dst, if_pos hd]) fun j hj hwj => ?_, ?_, hv⟩
      · obtain ⟨oj, hoj, h1 | ⟨l, q, h2, h3⟩⟩ := D.wr_some hwj
        · rcases D.tk i j o oj t N.get hoj h1 (.inl hd) with rfl | h | h
          · exact absurd hj N.new
          · exact I.ltI D N h
          · have := I.ancN D N j hj
            rw [h] at this
            cases this
        · obtain ⟨i0, a1, a2, a3⟩ := (with_mem h2).1 h3
          obtain ⟨t', c, S⟩ := softOf_spec a2
          have e1 := S.dst
          rw [a3] at e1
          cases e1
          have hne : i ≠ i0 := by
            rintro rfl
            rw [N.get] at a1
            cases a1
            exact hks (soft_kind a2)
          have := S.only i o N.get hne (.inl hd)
          subst this
          exact absurd hj N.new
      · rw [hd]
        have : t < T.size := by rw [I.size]; exact ht
        simp [this]
    · cases hx : lk t ws with
      | some x =>
        obtain ⟨⟨i0, h0⟩, hT, hsx⟩ := hws t x hx
        refine ⟨x, VA.last (by rw [hw, lk_app, lk_dst, if_neg hd]; exact hx) fun j hj hwj => ?_, by rw [other t hd]; exact hT ht, hsx⟩
        have own : ∀ j q, ops[j]? = some q → q.dst = some t → j = i0 := fun j q hq hqd => by
          obtain ⟨_, q0, s, a1, a2, a3, _⟩ := h0
          exact owner_only a3 a2 hq hqd
        obtain ⟨oj, hoj, h1 | ⟨l, q, h2, h3⟩⟩ := D.wr_some hwj
        · have := own j oj hoj h1
          subst this
          obtain ⟨q, b1, b2⟩ := h0.softK
          rw [wr_soft b1 b2] at hwj
          exact absurd rfl hwj
        · obtain ⟨i1, a1, a2, a3⟩ := (with_mem h2).1 h3
          have := own i1 q a1 a3
          subst this
          obtain ⟨_, q0, s, b1, b2, b3, b4⟩ := h0
          rw [a1] at b1
          cases b1
          rw [a2] at b3
          cases b3
          exact absurd hj b4
      | none =>
        obtain ⟨u, a1, a2, a3⟩ := I.slot t ht fun i0 h => hn i0 (h.on fun q hq hs => hcov i0 t q h hq hs hx)
        refine ⟨u, a1.more (by rw [hw, lk_app, lk_dst, if_neg hd]; exact hx), ?_, sc_mono hle u a3⟩
        rw [other t hd, a2, con_congr ha u a3]
  · obtain ⟨h1, h2⟩ := back h
    obtain ⟨q, cs, e, sh, O, b1, b2, b3, b4, b5, b6, b7, _⟩ := I.pblk i0 t h1 hwd
    obtain ⟨c1, c2⟩ := hb i0 t q h1 hwd b1 (h2 q b1)
    exact ⟨q, cs, e, sh, O, b1, b2, fun ht => by rw [other t (nodst h1)]; exact b3 ht, by rw [c1]; exact b4, objAt_any b5 ha hle, b6, b7, c2⟩
  · rw [other t (nodst (back h).1)]
    exact I.pno i0 t (back h).1 hwd ht

/-- What a put-off operation looks at stays so till it is brought. -/
theorem DInv.stays (D : Dr callF P ops ms Z FF HH rs) {q : Oper} {s : Nat} (hq : ops[i]? = some q) (hs : softOf ops ms i q = some s) {u : Nat} (hu : looks ops q u = true) : ((FF i).tm.get u).getD Eng.undef = ((FF s).tm.get u).getD Eng.undef := by
  obtain ⟨t, c, S⟩ := softOf_spec hs
  have hi : i < ops.size := (Array.getElem?_eq_some_iff.1 hq).1
  have hsz : s < ops.size := (Array.getElem?_eq_some_iff.1 S.op).1
  have his : i < s := anc_lt D.hm s c S.op i S.an
  obtain ⟨_, v1, v2⟩ := va_text D.ff i (Nat.le_of_lt hi)
  obtain ⟨_, x1, x2⟩ := va_text D.ff s (Nat.le_of_lt hsz)
  rcases Nat.lt_or_ge u (FF 0).n with hun | hun
  · refine VA.fun (fun j hj => ?_) (v1 u hun) (x1 u hun)
    obtain ⟨oj, hoj, h1 | ⟨l, q', h2, h3⟩⟩ := D.wr_some hj
    · have := anc_lt D.hm i q hq j (S.here j oj u hoj h1 hu)
      exact ⟨fun _ => by omega, fun _ => this⟩
    · obtain ⟨i0, a1, a2, a3⟩ := (with_mem h2).1 h3
      have h4 := anc_lt D.hm i q hq i0 (S.here i0 q' u a1 a3 hu)
      obtain ⟨t', c', S'⟩ := softOf_spec a2
      have e1 := S'.dst
      rw [a3] at e1
      cases e1
      have := S'.only i q hq (by omega) (.inr hu)
      subst this
      have e2 := S'.op
      rw [hq] at e2
      cases e2
      have := S.fr
      rw [S'.nf] at this
      cases this
  · rw [v2 u hun, x2 u hun]

theorem wanted_stays {F G : Fm} {q c : Oper} (hg : q.guard = c.guard) (h : ∀ u, looks ops q u = true → (F.tm.get u).getD Eng.undef = (G.tm.get u).getD Eng.undef) : wantedT ops F q = wantedT ops G c := by
  unfold wantedT
  rw [← hg]
  cases hq : q.guard with
  | none => rfl
  | some g =>
    obtain ⟨j, want⟩ := g
    have : yieldedT ops F.tm j = yieldedT ops G.tm j := by
      unfold yieldedT
      cases ho : ops[j]? with
      | none => rfl
      | some x =>
        simp only
        cases hd : x.dst with
        | none => rfl
        | some d =>
          have e := h d (by unfold looks; simp [hq, ho, hd])
          cases h1 : F.tm.get d with
          | none =>
            cases h2 : G.tm.get d with
            | none => simp only [h1, h2]
            | some v =>
              rw [h1, h2] at e
              have e : v = Eng.undef := e.symm
              subst e
              simp only [h1, h2, Eng.undef]
          | some u =>
            cases h2 : G.tm.get d with
            | none =>
              rw [h1, h2] at e
              have e : u = Eng.undef := e
              subst e
              simp only [h1, h2, Eng.undef]
            | some v =>
              rw [h1, h2] at e
              have e : u = v := e
              subst e
              simp only [h1, h2]
    simp only [this]

theorem bring_run {F : Fm} : ∀ {l : List (Oper × Tmp)} {h h1 : Hp} {ws : List (Tmp × Value)}, evBring callF P l F h = some (ws, h1) → ∀ q t, (q, t) ∈ l → ∃ v h2 h3, evOp callF P q F h2 = some (v, h3)
  | [], _, _, _, _, q, t, hm => by cases hm
  | (q', t') :: l, h, h1, ws, he, q, t, hm => by
    simp only [evBring] at he
    split at he
    · rename_i v h2 hv
      split at he
      · rename_i ws' h3 hb
        rcases List.mem_cons.1 hm with hm | hm
        · cases hm
          exact ⟨v, h, h2, hv⟩
        · exact bring_run hb q t hm
      · cases he
    · cases he

/-- What a put-off operation makes. -/
theorem Dr.fresh (D : Dr callF P ops ms Z FF HH rs) {q : Oper} {s : Nat} (hq : ops[i]? = some q) (hs : softOf ops ms i q = some s) (hw : wantedT ops (FF i) q = true) : ∃ cs e sh, Fresh P q (FF i) cs e sh := by
  obtain ⟨t, c, S⟩ := softOf_spec hs
  obtain ⟨c', l, h1, h2⟩ := store_kind hq hs
  have e := S.op
  rw [h1] at e
  cases e
  obtain ⟨r, _, _, _, h3⟩ := D.st s _ h1
  rw [h2] at h3
  have st : ∀ u, looks ops q u = true → ((FF i).tm.get u).getD Eng.undef = ((FF s).tm.get u).getD Eng.undef := fun u hu => DInv.stays D hq hs hu
  have hwt : r.wt = true := by rw [h3.1, ← wanted_stays S.gd st]; exact hw
  obtain ⟨_, hh, hb, _⟩ := h3.2.1 hwt
  obtain ⟨v, g1, g2, hv⟩ := bring_run hb q t ((with_mem h2).2 ⟨i, hq, hs, S.dst⟩)
  have ev : evOp callF P q (FF i) g1 = some (v, g2) := by
    rw [← hv]
    refine evOp_congr fun x hx => ?_
    cases x with
    | tmp u => exact st u (looks_operand hx)
    | _ => rfl
  obtain ⟨cs, e, sh, hf, _⟩ := fresh_spec S.fr ev
  exact ⟨cs, e, sh, hf⟩

end
end Go.Eng
