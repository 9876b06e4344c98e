/- A region that draws its order: one operation. -/
import Derived.Test.YtnfboopfpkaeaaaEngK3
namespace Go.Eng
open Go.RowKit

theorem newVarOf_spec {P : Program} {h h1 : Hp} {e : TypeId} (hn : newVarOf P h e = some h1) : ∃ z, zeroOf P e = some z ∧ z.cells.toList.all scalar = true ∧ h1 = h.new (.cells z.cells.toList e false) := by
  unfold newVarOf at hn
  split at hn
  · rename_i z hz
    split at hn
    · rename_i hall
      cases hn
      exact ⟨z, hz, hall, rfl⟩
    · cases hn
  · cases hn

theorem looks_operand {ops : Array Oper} {o : Oper} {t : Nat} (h : Operand.tmp t ∈ o.op.operands) : looks ops o t = true := by
  unfold looks
  rw [Bool.or_eq_true]
  left
  rw [Array.any_eq_true']
  exact ⟨_, h, by simp⟩

section
variable {callF : CallF} {P : Program} {B : Prot} {w0 : World} {E0 : Env} {ops : Array Oper} {ms Z : List Nat} {FF : Nat → Fm} {HH : Nat → Hp} {rs : List Rec} {A : Nat → Prop} {p : Nat} {pb : Nat → Nat} {E : Env} {T : Array Value} {w : World} {i : Nat} {o : Oper}

theorem Pd.back {i0 t : Nat} (h : Pd ops ms (fun j => A j ∨ j = i) i0 t) (hne : i0 ≠ i) : Pd ops ms A i0 t := by
  obtain ⟨h1, q, e, s, a1, a2, a3, a4, a5, a6⟩ := h
  exact ⟨h1.resolve_right hne, q, e, s, a1, a2, a3, a4, a5, fun hs => a6 (.inl hs)⟩

theorem Pd.on {i0 t : Nat} (h : Pd ops ms A i0 t) (hne : ∀ q e, ops[i0]? = some q → q.op = .alloc e → q.dst = some t → q.guard = none → softOf ops ms i0 t ≠ some i) : Pd ops ms (fun j => A j ∨ j = i) i0 t := by
  obtain ⟨h1, q, e, s, a1, a2, a3, a4, a5, a6⟩ := h
  refine ⟨.inl h1, q, e, s, a1, a2, a3, a4, a5, fun hs => hs.elim a6 fun hs => ?_⟩
  subst hs
  exact hne q e a1 a2 a3 a4 a5

theorem Pd.softK {i0 t : Nat} (h : Pd ops ms A i0 t) : ∃ q, ops[i0]? = some q ∧ kindOf ops ms q i0 = .soft := by
  obtain ⟨_, q, e, s, a1, a2, a3, a4, a5, a6⟩ := h
  exact ⟨q, a1, soft_kind a2 a3 a4 a5⟩


/-- Behind an operation of the plain kind. -/
theorem DInv.norm (D : Dr callF P ops ms Z FF HH rs) (I : DInv P B w0 E0 ops ms Z FF HH rs A p pb E T w) (N : Nxt ops A i o) (hk : kindOf ops ms o i = .norm) {v : Value} (hw : wr ops ms HH rs i = (o.dst, v)) {p' : Nat} {E' : Env} {w' : World} (hp' : p' = 0 ∨ ∃ e, Ef ops Z rs e ∧ p' = e + 1) (heff : ∀ e, Ef ops Z rs e → ((A e ∨ e = i) ↔ e < p'))
    (H : HpOK P B w0 E' (HH p') w') (ha : Agree (HH p).next E E') (hle : (HH p).next ≤ (HH p').next) (hv : sc (HH p').next v = true)
    (hb : ∀ i0 t, Pd ops ms A i0 t → w'.heap[pb i0]? = w.heap[pb i0]? ∧ ∀ j o', (HH p').get j = some o' → E'.μ j ≠ pb i0) :
    DInv P B w0 E0 ops ms Z FF HH rs (fun j => A j ∨ j = i) p' pb E' (match o.dst with | some d => T.setIfInBounds d (con E' v) | none => T) w' := by
  have hks : kindOf ops ms o i ≠ .soft := by rw [hk]; simp
  have back : ∀ {i0 t}, Pd ops ms (fun j => A j ∨ j = i) i0 t → Pd ops ms A i0 t := fun {i0 t} h => h.back fun hh => by
    subst hh
    obtain ⟨q, h1, h2⟩ := h.softK
    rw [N.get] at h1
    cases h1
    exact hks h2
  have on : ∀ {i0 t}, Pd ops ms A i0 t → Pd ops ms (fun j => A j ∨ j = i) i0 t := fun {i0 t} h => h.on fun q e a1 a2 a3 a4 a5 => by
    obtain ⟨o', b1, b2⟩ := store_kind a1 a2 a3 a4 a5
    rw [N.get] at b1
    cases b1
    rw [hk] at b2
    cases b2
  have nodst : ∀ {i0 t}, Pd ops ms A i0 t → o.dst ≠ some t := fun {i0 t} h hd => by
    obtain ⟨e, he⟩ := I.waiting D N hks (.inl hd) h
    rw [hk] at he
    cases he
  have other : ∀ t, o.dst ≠ some t → (match o.dst with | some d => T.setIfInBounds d (con E' v) | none => T)[t]? = T[t]? := by
    intro t ht
    cases hd : o.dst with
    | none => rfl
    | some d =>
      have : d ≠ t := fun hh => ht (by rw [hd, hh])
      simp [Array.getElem?_setIfInBounds_ne this]
  refine ⟨I.closed' D N, I.sub' D N, hp', heff, H, I.agree.trans ha I.le, Nat.le_trans I.le hle, ?_, fun t ht hn => ?_, fun i0 t h ht => ?_, fun i0 t h => ?_, fun i0 i1 t t' h h' => I.pinj i0 i1 t t' (back h) (back h')⟩
  · rw [← I.size]
    cases o.dst <;> simp
  · obtain ⟨u, a1, a2, a3⟩ := I.slot t ht fun i0 h => hn i0 (on h)
    by_cases hd : o.dst = some t
    · refine ⟨v, ?_, ?_, hv⟩
      · have := VA.last (W := wr ops ms HH rs) (A := A) (t := t) (v0 := ((FF 0).tm.get t).getD Eng.undef) (i := i) (by rw [hw]; exact hd) ?_
        · rw [hw] at this
          exact this
        · intro j hj hwj
          obtain ⟨oj, hoj, ⟨h1, h2⟩ | ⟨e, h2⟩⟩ := wr_some hwj
          · rcases D.tk i j o oj t N.get hoj h1 (.inl hd) with rfl | h | h
            · exact absurd hj N.new
            · exact I.ltI D N h
            · have := I.ancN D N j hj
              rw [h] at this
              cases this
          · obtain ⟨ty, x, q, i0, b1, b2, b3, b4, b5, b6, b7, b8⟩ := kind_withVar h2
            have hne : i ≠ i0 := by
              rintro rfl
              rw [N.get] at b4
              cases b4
              exact hks (soft_kind b5 b6 b7 b8)
            have := (softOf_spec b8).only i o N.get hne (.inl hd)
            subst this
            exact absurd hj N.new
      · rw [hd]
        have : t < T.size := by rw [I.size]; exact ht
        simp [this]
    · refine ⟨u, a1.more (by rw [hw]; exact hd), ?_, sc_mono hle u a3⟩
      rw [other t hd, a2, con_congr ha u a3]
  · rw [other t (nodst (back h))]
    exact I.pslot i0 t (back h) ht
  · obtain ⟨⟨q, e, z, b1, b2, b3, b4⟩, b5, b6, _⟩ := I.pblk i0 t (back h)
    obtain ⟨c1, c2⟩ := hb i0 t (back h)
    exact ⟨⟨q, e, z, b1, b2, b3, by rw [c1]; exact b4⟩, b5, b6, c2⟩

/-- A variable that waits for its first value. -/
theorem DInv.soft (D : Dr callF P ops ms Z FF HH rs) (I : DInv P B w0 E0 ops ms Z FF HH rs A p pb E T w) (N : Nxt ops A i o) (hk : kindOf ops ms o i = .soft) {b : Frame} {ds : List Deferred} {rest : List Nat} {k : List Item} {cs : List Frame} :
    ∃ p' pb' E' T' w', DInv P B w0 E0 ops ms Z FF HH rs (fun j => A j ∨ j = i) p' pb' E' T' w' ∧ Steps P (lone (at_ b T ds (.inRegion ops (i :: rest) :: k)) cs w) (lone (at_ b T' ds (.inRegion ops rest :: k)) cs w') := by
  obtain ⟨e, d, s, hop, hd, hg, hs⟩ := kind_soft hk
  obtain ⟨os, hos, hks⟩ := store_kind N.get hop hd hg hs
  have hS := softOf_spec hs
  have hsA : ¬ A s := fun hh => by
    have := I.ancN D N s hh
    rw [hS.anc] at this
    cases this
  have hz : ∃ z, zeroOf P e = some z := by
    obtain ⟨r, _, _, _, h3⟩ := D.st s os hos
    rw [hks] at h3
    obtain ⟨_, _, h1, h4, _⟩ := h3
    obtain ⟨z, hz, _⟩ := newVarOf_spec h4
    exact ⟨z, hz⟩
  obtain ⟨z, hz⟩ := hz
  obtain ⟨r, hr, hF, hh, h3⟩ := D.st i o N.get
  rw [hk] at h3
  have hne : ¬ Ef ops Z rs i := by
    rintro ⟨o', r', h1, h2, h4⟩
    rw [hr] at h2
    cases h2
    rw [h3.2] at h4
    simp at h4
  have hwr : (wr ops ms HH rs i).1 = none := by simp [wr, N.get, hr, wOf, hk]
  have hstep : step P (lone (at_ b T ds (.inRegion ops (i :: rest) :: k)) cs w) = .next (lone ((at_ b T ds (.inRegion ops (i :: rest) :: k)).finish (.pointer (some ⟨w.heap.size, 0, none⟩))) cs (w.alloc (.cells z.cells e (0, 0)))) := by
    refine step_op_value rfl rfl N.get (by simp [Region.wanted, hg]) (by simp [hop]) (v := .pointer (some ⟨w.heap.size, 0, none⟩)) ?_ (.inl rfl)
    simp [execOp, hop, Instr.alloc, (zeroOf_run hz w).1, newVar, newRow]
  rw [finish_at N.get, hd] at hstep
  have hsame : SameOn (fun k => k < w.heap.size) w (w.alloc (.cells z.cells e (0, 0))) := ⟨rfl, rfl, rfl, by simp, fun k hk => Below.heap_alloc w _ k hk⟩
  have hpd : Pd ops ms (fun j => A j ∨ j = i) i d := ⟨.inr rfl, o, e, s, N.get, hop, hd, hg, hs, fun hh => hh.elim hsA hS.ne⟩
  have own : ∀ {i0 t}, Pd ops ms A i0 t → t ≠ d := fun {i0 t} h hh => by
    subst hh
    obtain ⟨h1, q, e', s', a1, a2, a3, a4, a5, a6⟩ := h
    have := owner_only N.get hd hop hs a1 a3 ⟨_, a2⟩
    subst this
    exact N.new h1
  have blt : ∀ {i0 t}, Pd ops ms A i0 t → pb i0 < w.heap.size := fun {i0 t} h => by
    obtain ⟨⟨_, _, _, _, _, _, h4⟩, _⟩ := I.pblk i0 t h
    exact (Array.getElem?_eq_some_iff.1 h4).1
  refine ⟨p, fun j => if j = i then w.heap.size else pb j, E, _, _, ⟨I.closed' D N, I.sub' D N, I.pOK, I.eff' D N hne, I.hp.wider hsame, I.agree, I.le, by simp [I.size], fun t ht hn => ?_, fun i0 t h ht => ?_, fun i0 t h => ?_, fun i0 i1 t t' h h' he => ?_⟩, .one hstep⟩
  · have htd : t ≠ d := fun hh => hn i (hh ▸ hpd)
    obtain ⟨u, a1, a2, a3⟩ := I.slot t ht fun i0 h => hn i0 (h.on fun q e' b1 b2 b3 b4 b5 => by
      obtain ⟨⟨o', ty, x, c1, c2, _⟩, _⟩ := softOf_spec b5
      rw [N.get] at c1
      cases c1
      rw [hop] at c2
      cases c2)
    refine ⟨u, a1.more (by rw [hwr]; simp), ?_, a3⟩
    simp [Array.getElem?_setIfInBounds_ne (Ne.symm htd), a2]
  · by_cases hi : i0 = i
    · subst hi
      obtain ⟨_, q, e', s', a1, a2, a3, _⟩ := h
      rw [N.get] at a1
      cases a1
      rw [hd] at a3
      cases a3
      have : d < T.size := by rw [I.size]; exact ht
      simp [this]
    · have h' := h.back hi
      rw [if_neg hi, ← I.pslot i0 t h' ht]
      exact Array.getElem?_setIfInBounds_ne (Ne.symm (own h'))
  · by_cases hi : i0 = i
    · subst hi
      simp only [if_true]
      refine ⟨⟨o, e, z, N.get, hop, hz, by show (w.heap.push _)[w.heap.size]? = _; simp⟩, I.hp.le, fun hb => ?_, fun j o' hj => ?_⟩
      · have := (I.hp.bnd _).1 (.inr hb)
        have := I.hp.below.size
        omega
      · have := I.hp.lt hj
        omega
    · have h' := h.back hi
      rw [if_neg hi]
      obtain ⟨⟨q, e', z', b1, b2, b3, b4⟩, b5⟩ := I.pblk i0 t h'
      exact ⟨⟨q, e', z', b1, b2, b3, by rw [hsame.block _ (blt h')]; exact b4⟩, b5⟩
  · by_cases hi : i0 = i <;> by_cases hi' : i1 = i
    · omega
    · rw [if_pos hi, if_neg hi'] at he
      have := blt (h'.back hi')
      omega
    · rw [if_neg hi, if_pos hi'] at he
      have := blt (h.back hi)
      omega
    · rw [if_neg hi, if_neg hi'] at he
      exact I.pinj i0 i1 t t' (h.back hi) (h'.back hi') he

end
end Go.Eng
