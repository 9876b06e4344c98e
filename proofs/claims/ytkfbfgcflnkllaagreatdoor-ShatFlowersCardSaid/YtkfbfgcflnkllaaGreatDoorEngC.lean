/- The heap of the evaluator and the heap of the model: what they have in common, and that it is kept. -/
import Derived.Test.YtkfbfgcflnkllaaGreatDoorEngB
import Derived.Below
import Derived.Deep.AppendSrc
namespace Go.Eng
open Go.RowKit

theorem undef_eq : Eng.undef = Go.undef := rfl

def conE (E : Env) (e : MapEntry) : MapEntry := { e with key := con E e.key, val := con E e.val }

/-- The frame's slots. -/
structure TmOK (E : Env) (n : Nat) (F : Fm) (T : Array Value) : Prop where
  size : T.size = F.n
  val : ∀ t, t < F.n → T[t]? = some (con E ((F.tm.get t).getD Eng.undef))
  out : ∀ t, F.n ≤ t → F.tm.get t = none
  scd : ∀ t v, F.tm.get t = some v → sc n v = true

theorem TmOK.mono {E E' : Env} {n m : Nat} {F : Fm} {T : Array Value} (h : TmOK E n F T) (hE : Agree n E E') (hm : n ≤ m) : TmOK E' m F T := by
  refine ⟨h.size, fun t ht => ?_, h.out, fun t v hv => sc_mono hm v (h.scd t v hv)⟩
  rw [h.val t ht]
  cases hg : F.tm.get t with
  | none => simp [Eng.undef, con, conA, conL]
  | some v => simp [con_congr hE v (h.scd t v hg)]

def isRo : AObj → Bool
  | .ro _ _ _ => true
  | _ => false

/-- A block of the model, and what the evaluator has for it. -/
def ObjAt (P : Program) (E : Env) (n i : Nat) : AObj → Obj → Prop
  | .cells cs e opn, O => ∃ junk : List Value, O = .cells (conL E cs ++ junk).toArray e (0, 0) ∧ scL n cs = true ∧ (∀ v ∈ cs, scalar v = true) ∧ (opn = false → junk = []) ∧
      (opn = true → ∃ s, sizeT P e = some s ∧ junk.length = E.ε i * s)
  | .ro o cs e, O => ∃ (pre rest : List Value) (fz : Nat × Nat), O = .cells (pre ++ (conL E cs ++ rest)).toArray e fz ∧ pre.length = o ∧ scL n cs = true ∧ (∀ v ∈ cs, scalar v = true)
  | .fro cs e, O => ∃ (rest : List Value) (fz : Nat × Nat), O = .cells (conL E cs ++ rest).toArray e fz ∧ scL n cs = true ∧ (∀ v ∈ cs, scalar v = true)
  | .map es clock, O => O = .map (es.map (conE E)).toArray clock ∧ (∀ x ∈ es, sc n x.key = true ∧ sc n x.val = true)
  | .iter s pos, O => O = .stringIter s pos
  | .miter m since seen last, O => m < n ∧ O = .mapIter (some (E.μ m)) since seen.toArray last
  | .loop st pd fm ps as body d, O => d < n ∧ ∃ T, TmOK E n fm T ∧ O = .loop { state := st, pending := pd, fn := fm.fn, tmps := T, params := ps, assign := as, body := body, defers := E.μ d }
  | .defd tk, O => O = .deferred (if tk then none else some [])

theorem ObjAt.mono {P : Program} {E E' : Env} {n m i : Nat} {o : AObj} {O : Obj} (h : ObjAt P E n i o O) (hE : Agree n E E') (hi : i < n) (hm : n ≤ m) : ObjAt P E' m i o O := by
  cases o with
  | cells cs e opn =>
    obtain ⟨junk, h1, h2, h3, h4, h5⟩ := h
    refine ⟨junk, by rw [← conL_congr hE cs h2]; exact h1, scL_mono hm cs h2, h3, h4, fun ho => ?_⟩
    rw [← (hE i hi).2]
    exact h5 ho
  | ro o cs e =>
    obtain ⟨pre, rest, fz, h1, h0, h2, h3⟩ := h
    exact ⟨pre, rest, fz, by rw [← conL_congr hE cs h2]; exact h1, h0, scL_mono hm cs h2, h3⟩
  | fro cs e =>
    obtain ⟨rest, fz, h1, h2, h3⟩ := h
    exact ⟨rest, fz, by rw [← conL_congr hE cs h2]; exact h1, scL_mono hm cs h2, h3⟩
  | map es clock =>
    obtain ⟨h1, h2⟩ := h
    refine ⟨?_, fun x hx => ⟨sc_mono hm _ (h2 x hx).1, sc_mono hm _ (h2 x hx).2⟩⟩
    rw [h1]
    congr 2
    apply List.map_congr_left
    intro x hx
    simp [conE, con_congr hE _ (h2 x hx).1, con_congr hE _ (h2 x hx).2]
  | iter s pos => exact h
  | miter m since seen last =>
    obtain ⟨h1, h2⟩ := h
    exact ⟨by omega, by rw [← (hE m h1).1]; exact h2⟩
  | loop st pd fm ps as body d =>
    obtain ⟨h1, T, h2, h3⟩ := h
    exact ⟨by omega, T, h2.mono hE hm, by rw [← (hE d h1).1]; exact h3⟩
  | defd tk => exact h

/-- Of the blocks Pr nothing has turned. -/
structure SameOn (Pr : Nat → Prop) (w w' : World) : Prop where
  os : w'.os = w.os
  tape : w'.tape = w.tape
  output : w'.output = w.output
  size : w.heap.size ≤ w'.heap.size
  block : ∀ k, Pr k → w'.heap[k]? = w.heap[k]?

theorem SameOn.refl (Pr : Nat → Prop) (w : World) : SameOn Pr w w := ⟨rfl, rfl, rfl, Nat.le_refl _, fun _ _ => rfl⟩
theorem SameOn.trans {Pr : Nat → Prop} {a b c : World} (h : SameOn Pr a b) (k : SameOn Pr b c) : SameOn Pr a c :=
  ⟨k.os.trans h.os, k.tape.trans h.tape, k.output.trans h.output, Nat.le_trans h.size k.size, fun i hi => (k.block i hi).trans (h.block i hi)⟩
theorem SameOn.mono {Pr Pr' : Nat → Prop} {a b : World} (h : SameOn Pr a b) (hp : ∀ k, Pr' k → Pr k) : SameOn Pr' a b := ⟨h.os, h.tape, h.output, h.size, fun k hk => h.block k (hp k hk)⟩
theorem SameOn.drew {Pr : Nat → Prop} {a w : World} (h : SameOn Pr a w) : SameOn Pr a w.drew := ⟨h.os, h.tape, h.output, h.size, h.block⟩

/-- What a run leaves alone: the blocks of no object that it turns, and where the objects lie that none may turn. -/
structure Prot where
  b : Nat → Prop
  ro : Nat → Prop

instance : CoeFun Prot fun _ => Nat → Prop := ⟨Prot.b⟩

structure HpOK (P : Program) (B : Prot) (w0 : World) (E : Env) (h : Hp) (w : World) : Prop where
  bnd : ∀ k, (B k ∨ B.ro k → k < w0.heap.size) ∧ (B.ro k → B k)
  below : SameOn B.b w0 w
  obj : ∀ i o, h.get i = some o → i < h.next ∧ ((isRo o = false → ¬ B (E.μ i)) ∧ (isRo o = true → B.ro (E.μ i))) ∧ ∃ O, w.heap[E.μ i]? = some O ∧ ObjAt P E h.next i o O
  inj : ∀ i j o o', h.get i = some o → h.get j = some o' → isRo o = false → isRo o' = false → E.μ i = E.μ j → i = j
  glob : ∀ g, g < P.globals.size → E.μ g = g
  gnext : P.globals.size ≤ h.next

section
variable {P : Program} {B : Prot} {w0 : World} {E : Env} {h : Hp} {w : World}

theorem Hp.get_put (h : Hp) (i j : Nat) (o : AObj) : (h.put i o).get j = if j = i then some o else h.get j := by
  simp [Hp.put, Hp.get, Tr.get_set]
theorem Hp.get_kill (h : Hp) (i j : Nat) : (h.kill i).get j = if j = i then none else h.get j := by
  simp [Hp.kill, Hp.get, Tr.get_set]
theorem Hp.get_new (h : Hp) (j : Nat) (o : AObj) : (h.new o).get j = if j = h.next then some o else h.get j := by
  simp [Hp.new, Hp.get, Tr.get_set]
@[simp] theorem Hp.next_put (h : Hp) (i : Nat) (o : AObj) : (h.put i o).next = h.next := rfl
@[simp] theorem Hp.next_kill (h : Hp) (i : Nat) : (h.kill i).next = h.next := rfl
@[simp] theorem Hp.next_new (h : Hp) (o : AObj) : (h.new o).next = h.next + 1 := rfl

theorem HpOK.get_next (H : HpOK P B w0 E h w) : h.get h.next = none := by
  cases hg : h.get h.next with
  | none => rfl
  | some o => exact absurd (H.obj _ _ hg).1 (Nat.lt_irrefl _)

theorem HpOK.env {E' : Env} (H : HpOK P B w0 E h w) (hE : Agree h.next E E') : HpOK P B w0 E' h w := by
  refine ⟨H.bnd, H.below, fun i o ho => ?_, fun i j o o' ho ho' q q' hm => ?_, fun g hg => ?_, H.gnext⟩
  · obtain ⟨h1, h2, O, h3, h4⟩ := H.obj i o ho
    rw [← (hE i h1).1]
    exact ⟨h1, h2, O, h3, h4.mono hE h1 (Nat.le_refl _)⟩
  · rw [← (hE i (H.obj i o ho).1).1, ← (hE j (H.obj j o' ho').1).1] at hm
    exact H.inj i j o o' ho ho' q q' hm
  · have := H.gnext
    rw [← (hE g (by omega)).1]
    exact H.glob g hg

/-- One block has turned. -/
structure Upd (w w' : World) (b : Nat) (O : Obj) : Prop where
  at_ : w'.heap[b]? = some O
  other : ∀ k, k ≠ b → w'.heap[k]? = w.heap[k]?
  size : w'.heap.size = w.heap.size
  os : w'.os = w.os
  tape : w'.tape = w.tape
  output : w'.output = w.output

/-- One block more. -/
structure New (w w' : World) (O : Obj) : Prop where
  at_ : w'.heap[w.heap.size]? = some O
  other : ∀ k, k < w.heap.size → w'.heap[k]? = w.heap[k]?
  size : w'.heap.size = w.heap.size + 1
  os : w'.os = w.os
  tape : w'.tape = w.tape
  output : w'.output = w.output

theorem New.alloc (w : World) (o : Obj) : New w (w.alloc o) o :=
  ⟨by show (w.heap.push o)[w.heap.size]? = some o; simp, fun k hk => Below.heap_alloc w o k hk, by simp, rfl, rfl, rfl⟩

theorem New.drewAlloc (w : World) (o : Obj) : New w (w.drew.alloc o) o :=
  ⟨by show (w.heap.push o)[w.heap.size]? = some o; simp, fun k hk => Below.heap_alloc w.drew o k hk, by simp, rfl, rfl, rfl⟩

theorem Upd.setRow {w : World} {b : Nat} {old : Array Value} {t : TypeId} (hg : w.heap[b]? = some (.cells old t (0, 0))) (cs : Array Value) : Upd w (w.setRow b cs) b (.cells cs t (0, 0)) :=
  ⟨setRow_heap w b old cs t _ hg, fun k hk => setRow_other w b k cs hk, by simp, rfl, rfl, rfl⟩

theorem Upd.setObj {w : World} {b : Nat} {O : Obj} (hb : b < w.heap.size) : Upd w { w with heap := w.heap.setIfInBounds b O } b O :=
  ⟨by simp [hb], fun k hk => by simp [Array.getElem?_setIfInBounds_ne (Ne.symm hk)], by simp, rfl, rfl, rfl⟩

/-- What may be written stands nowhere else. -/
theorem HpOK.ne {i j : Nat} {o x : AObj} (H : HpOK P B w0 E h w) (hi : h.get i = some o) (hr : isRo o = false) (hj : h.get j = some x) (hji : j ≠ i) : E.μ j ≠ E.μ i := by
  intro e
  cases hx : isRo x with
  | false => exact hji (H.inj j i x o hj hi hx hr e)
  | true => exact (H.obj i o hi).2.1.1 hr (e ▸ (H.bnd _).2 ((H.obj j x hj).2.1.2 hx))

theorem HpOK.upd {w' : World} {i : Nat} {o o' : AObj} {O : Obj} (H : HpOK P B w0 E h w) (hi : h.get i = some o) (hr : isRo o = false) (hr' : isRo o' = false)
    (hU : Upd w w' (E.μ i) O) (hO : ObjAt P E h.next i o' O) : HpOK P B w0 E (h.put i o') w' := by
  have hB := (H.obj i o hi).2.1.1 hr
  refine ⟨H.bnd, H.below.trans ⟨hU.os, hU.tape, hU.output, by rw [hU.size]; exact Nat.le_refl _, fun k hk => hU.other k (fun hh => hB (hh ▸ hk))⟩, fun j x hx => ?_, fun j k x x' hx hx' q q' hm => ?_, H.glob, H.gnext⟩
  · rw [Hp.get_put] at hx
    split at hx
    · rename_i hji
      subst hji
      cases hx
      exact ⟨(H.obj j o hi).1, ⟨fun _ => hB, fun hh => by rw [hr'] at hh; cases hh⟩, O, hU.at_, hO⟩
    · rename_i hji
      obtain ⟨h1, h2, O2, h3, h4⟩ := H.obj j x hx
      exact ⟨h1, h2, O2, by rw [hU.other _ (H.ne hi hr hx hji)]; exact h3, h4⟩
  · rw [Hp.get_put] at hx hx'
    by_cases hj : j = i <;> by_cases hk : k = i
    · omega
    · subst hj; simp [hk] at hx'; exact H.inj j k o x' hi hx' hr q' hm
    · subst hk; simp [hj] at hx; exact H.inj j k x o hx hi q hr hm
    · simp [hj] at hx; simp [hk] at hx'; exact H.inj j k x x' hx hx' q q' hm

/-- An environment with one number more. -/
def Env.ext (E : Env) (i m x : Nat) : Env := ⟨fun j => if j = i then m else E.μ j, fun j => if j = i then x else E.ε j⟩

theorem Env.ext_agree (E : Env) (i m x : Nat) : Agree i E (E.ext i m x) := fun j hj => by
  have : j ≠ i := by omega
  simp [Env.ext, this]
@[simp] theorem Env.ext_mu (E : Env) (i m x : Nat) : (E.ext i m x).μ i = m := by simp [Env.ext]
@[simp] theorem Env.ext_eps (E : Env) (i m x : Nat) : (E.ext i m x).ε i = x := by simp [Env.ext]

theorem HpOK.kill (H : HpOK P B w0 E h w) (i : Nat) : HpOK P B w0 E (h.kill i) w := by
  refine ⟨H.bnd, H.below, fun j o ho => ?_, fun j k o o' ho ho' q q' hm => ?_, H.glob, H.gnext⟩
  · rw [Hp.get_kill] at ho
    split at ho
    · cases ho
    · exact H.obj j o ho
  · rw [Hp.get_kill] at ho ho'
    split at ho
    · cases ho
    · split at ho'
      · cases ho'
      · exact H.inj j k o o' ho ho' q q' hm

theorem HpOK.new' {w' : World} {o : AObj} {O : Obj} {m x : Nat} (H : HpOK P B w0 E h w) (hb : SameOn B.b w w')
    (hkeep : ∀ j o', h.get j = some o' → w'.heap[E.μ j]? = w.heap[E.μ j]? ∧ E.μ j ≠ m) (hat : w'.heap[m]? = some O) (hB : ¬ B m)
    (hO : ObjAt P (E.ext h.next m x) (h.next + 1) h.next o O) (hr : isRo o = false := by rfl) : HpOK P B w0 (E.ext h.next m x) (h.new o) w' := by
  have hE := Env.ext_agree E h.next m x
  refine ⟨H.bnd, H.below.trans hb, fun j y hy => ?_, fun j k y y' hy hy' q q' hm => ?_, fun g hg => ?_, by simp; have := H.gnext; omega⟩
  · rw [Hp.get_new] at hy
    split at hy
    · rename_i hj
      subst hj
      cases hy
      exact ⟨by simp, ⟨fun _ => by simpa using hB, fun hh => by rw [hr] at hh; cases hh⟩, O, by simpa using hat, hO⟩
    · obtain ⟨h1, h2, O2, h3, h4⟩ := H.obj j y hy
      rw [← (hE j h1).1]
      refine ⟨by simp; omega, h2, O2, by rw [(hkeep j y hy).1]; exact h3, h4.mono hE h1 (by simp)⟩
  · rw [Hp.get_new] at hy hy'
    by_cases hj : j = h.next <;> by_cases hk : k = h.next
    · omega
    · subst hj
      simp [hk] at hy'
      rw [← (hE k (H.obj k y' hy').1).1] at hm
      simp at hm
      exact absurd hm.symm (hkeep k y' hy').2
    · subst hk
      simp [hj] at hy
      rw [← (hE j (H.obj j y hy).1).1] at hm
      simp at hm
      exact absurd hm (hkeep j y hy).2
    · simp [hj] at hy
      simp [hk] at hy'
      rw [← (hE j (H.obj j y hy).1).1, ← (hE k (H.obj k y' hy').1).1] at hm
      exact H.inj j k y y' hy hy' q q' hm
  · have := H.gnext
    rw [← (hE g (by omega)).1]
    exact H.glob g hg

theorem HpOK.lt (H : HpOK P B w0 E h w) {j : Nat} {o : AObj} (hj : h.get j = some o) : E.μ j < w.heap.size := by
  obtain ⟨_, _, O, h3, _⟩ := H.obj j o hj
  exact (Array.getElem?_eq_some_iff.1 h3).1

theorem HpOK.le (H : HpOK P B w0 E h w) : ¬ B w.heap.size := fun hb => by have := (H.bnd _).1 (.inl hb); have := H.below.size; omega

theorem HpOK.new {w' : World} {o : AObj} {O : Obj} (x : Nat) (H : HpOK P B w0 E h w) (hN : New w w' O)
    (hO : ObjAt P (E.ext h.next w.heap.size x) (h.next + 1) h.next o O) (hr : isRo o = false := by rfl) : HpOK P B w0 (E.ext h.next w.heap.size x) (h.new o) w' :=
  H.new' ⟨hN.os, hN.tape, hN.output, by rw [hN.size]; omega, fun k hk => hN.other k (by have := (H.bnd _).1 (.inl hk); have := H.below.size; omega)⟩
    (fun j o' hj => ⟨hN.other _ (H.lt hj), by have := H.lt hj; omega⟩) hN.at_ H.le hO hr

/-- A slice that had room is appended to in its place, and has another number from now on. -/
theorem HpOK.moved {w' : World} {i : Nat} {o o' : AObj} {O : Obj} (x : Nat) (H : HpOK P B w0 E h w) (hi : h.get i = some o) (hr : isRo o = false)
    (hU : Upd w w' (E.μ i) O) (hO : ObjAt P (E.ext h.next (E.μ i) x) (h.next + 1) h.next o' O) (hr' : isRo o' = false := by rfl) : HpOK P B w0 (E.ext h.next (E.μ i) x) ((h.kill i).new o') w' := by
  have hB := (H.obj i o hi).2.1.1 hr
  refine (H.kill i).new' ⟨hU.os, hU.tape, hU.output, by rw [hU.size]; exact Nat.le_refl _, fun k hk => hU.other k (fun hh => hB (hh ▸ hk))⟩ (fun j y hj => ?_) hU.at_ hB hO hr'
  rw [Hp.get_kill] at hj
  split at hj
  · cases hj
  · rename_i hji
    have hne : E.μ j ≠ E.μ i := H.ne hi hr hj hji
    exact ⟨hU.other _ hne, hne⟩

/-- The world has more blocks that the evaluator has no number for. -/
theorem HpOK.wider {w' : World} (H : HpOK P B w0 E h w) (hb : SameOn (fun k => k < w.heap.size) w w') : HpOK P B w0 E h w' := by
  refine ⟨H.bnd, H.below.trans (hb.mono fun k hk => by have := (H.bnd _).1 (.inl hk); have := H.below.size; omega), fun j o ho => ?_, H.inj, H.glob, H.gnext⟩
  obtain ⟨h1, h2, O, h3, h4⟩ := H.obj j o ho
  exact ⟨h1, h2, O, by rw [hb.block _ (H.lt ho)]; exact h3, h4⟩

theorem HpOK.drew (H : HpOK P B w0 E h w) : HpOK P B w0 E h w.drew :=
  ⟨H.bnd, H.below.drew, H.obj, H.inj, H.glob, H.gnext⟩

end
end Go.Eng
