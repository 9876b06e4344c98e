/- A law that the evaluator has run to true: the call, whatever the world; and the row's condition behind it. -/
import Derived.Test.YtkfbfgcflnkllaaGreatDoorEngM
import Derived.Test.YtkfbfgcflnkllaaGreatDoorFxF
import Derived.Below
import Derived.ChangeSame
namespace Go.Eng
open Go.RowKit

theorem hpOK_start (P : Program) (w : World) : HpOK P ⟨fun k => k < w.heap.size, fun _ => False⟩ w ⟨fun i => i, fun _ => 0⟩ ⟨.nil, P.globals.size⟩ w := by
  refine ⟨fun k => ⟨fun h => h.elim (fun h => h) (fun h => h.elim), fun h => h.elim⟩, SameOn.refl _ _, fun i o ho => ?_, fun i j o o' ho => ?_, fun g _ => rfl, Nat.le_refl _⟩
  · cases ho
  · cases ho

/-- A start in which all that is there may be read and none of it is turned. -/
theorem hpOK_all (P : Program) (w : World) : HpOK P ⟨fun k => k < w.heap.size, fun k => k < w.heap.size⟩ w ⟨fun i => i, fun _ => 0⟩ ⟨.nil, P.globals.size⟩ w := by
  refine ⟨fun k => ⟨fun h => h.elim (fun h => h) (fun h => h), fun h => h⟩, SameOn.refl _ _, fun i o ho => ?_, fun i j o o' ho => ?_, fun g _ => rfl, Nat.le_refl _⟩
  · cases ho
  · cases ho

/-- Cells that none may turn, as the evaluator sees them. -/
theorem HpOK.newRo {P : Program} {B : Prot} {w0 : World} {E : Env} {h : Hp} {w : World} {m off : Nat} {arr : Array Value} {fz : Nat × Nat} {cs : List Value} {e : TypeId} (H : HpOK P B w0 E h w) (hB : B.ro m) (hm : w.heap[m]? = some (.cells arr e fz))
    (ho : off ≤ arr.size) (hcs : ∀ (i : Nat) (v : Value), cs[i]? = some v → arr[off + i]? = some (con E v)) (hs : scL h.next cs = true) (h1 : ∀ v ∈ cs, scalar v = true) :
    HpOK P B w0 (E.ext h.next m 0) (h.new (.ro off cs e)) w := by
  have hE := Env.ext_agree E h.next m 0
  have harr : arr = (arr.toList.take off ++ (conL (E.ext h.next m 0) cs ++ arr.toList.drop (off + cs.length))).toArray := by
    apply Array.ext'
    show arr.toList = _
    rw [← conL_congr hE cs hs, conL_eq]
    refine List.ext_getElem? fun i => ?_
    by_cases h1 : i < off
    · rw [List.getElem?_append_left (by simp; omega), List.getElem?_take, if_pos h1]
    · rw [List.getElem?_append_right (by simp; omega)]
      have ht : (arr.toList.take off).length = off := by simp; omega
      rw [ht]
      by_cases h2 : i - off < cs.length
      · rw [List.getElem?_append_left (by simpa using h2), List.getElem?_map, List.getElem?_eq_getElem h2]
        have := hcs (i - off) _ (List.getElem?_eq_getElem h2)
        rw [show off + (i - off) = i by omega] at this
        simpa using this
      · rw [List.getElem?_append_right (by simpa using h2), List.length_map, List.getElem?_drop, show off + cs.length + (i - off - cs.length) = i by omega]
  refine ⟨H.bnd, H.below, fun j y hy => ?_, fun j k y y' hy hy' q q' hm' => ?_, fun g hg => ?_, by simp; have := H.gnext; omega⟩
  · rw [Hp.get_new] at hy
    split at hy
    · rename_i hj
      subst hj
      cases hy
      refine ⟨by simp, ⟨fun hh => (by cases hh), fun _ => by simpa using hB⟩, .cells arr e fz, by simpa using hm, arr.toList.take off, arr.toList.drop (off + cs.length), fz, by rw [← harr], by simp; omega, scL_mono (by simp) cs hs, h1⟩
    · obtain ⟨k1, k2, O2, k3, k4⟩ := H.obj j y hy
      rw [← (hE j k1).1]
      exact ⟨by simp; omega, k2, O2, k3, k4.mono hE k1 (by simp)⟩
  · rw [Hp.get_new] at hy hy'
    split at hy
    · cases hy; cases q
    · split at hy'
      · cases hy'; cases q'
      · rw [← (hE j (H.obj j y hy).1).1, ← (hE k (H.obj k y' hy').1).1] at hm'
        exact H.inj j k y y' hy hy' q q' hm'
  · have := H.gnext
    rw [← (hE g (by omega)).1]
    exact H.glob g hg

/-- A number more, of a block that the evaluator has nothing for. -/
theorem HpOK.bump {P : Program} {B : Prot} {w0 : World} {E : Env} {h : Hp} {w : World} (m : Nat) (H : HpOK P B w0 E h w) : HpOK P B w0 (E.ext h.next m 0) ⟨h.objs, h.next + 1⟩ w := by
  have hE := Env.ext_agree E h.next m 0
  refine ⟨H.bnd, H.below, fun j y hy => ?_, fun j k y y' hy hy' q q' hm' => ?_, fun g hg => ?_, by have := H.gnext; show _ ≤ h.next + 1; omega⟩
  · have hy : h.get j = some y := hy
    obtain ⟨k1, k2, O2, k3, k4⟩ := H.obj j y hy
    rw [← (hE j k1).1]
    exact ⟨Nat.lt_succ_of_lt k1, k2, O2, k3, k4.mono hE k1 (Nat.le_succ _)⟩
  · have hy : h.get j = some y := hy
    have hy' : h.get k = some y' := hy'
    rw [← (hE j (H.obj j y hy).1).1, ← (hE k (H.obj k y' hy').1).1] at hm'
    exact H.inj j k y y' hy hy' q q' hm'
  · have := H.gnext
    rw [← (hE g (by omega)).1]
    exact H.glob g hg

/-- A call that the evaluator has run from arguments that it may read, to a plain value. -/
theorem calls_read {P : Program} {O : Orc} (hO : OrcOK P O) {lf n : Nat} {f : FuncId} (hf : O f = none) {args : List Value} {v : Value} {h h' : Hp} {E : Env} {w : World}
    (H : HpOK P ⟨fun k => k < w.heap.size, fun k => k < w.heap.size⟩ w E h w) (he : evInv P O lf n (.fn f args) h = some (v, h')) (ha : scL h.next args = true) (hv : flat v = true) :
    Calls P f (conL E args).toArray w fun e w' => e = .returned v ∧ Below w.heap.size w w' := by
  refine (calls_of_ev hO hf he H ha).mono fun e w' ⟨E', h1, h2, _⟩ => ?_
  refine ⟨by rw [h1, con_flat _ _ hv], ?_⟩
  exact ⟨h2.below.os, h2.below.tape, h2.below.output, h2.below.size, fun k hk => h2.below.block k hk⟩

/-- A call that the evaluator has run from nothing to a plain value. -/
theorem calls_flat {P : Program} {O : Orc} (hO : OrcOK P O) {lf n : Nat} {f : FuncId} (hf : O f = none) {args : List Value} {v : Value} {h' : Hp} (he : evInv P O lf n (.fn f args) ⟨.nil, P.globals.size⟩ = some (v, h')) (ha : flatL args = true) (hv : flat v = true) (w : World) :
    Calls P f args.toArray w fun e w' => e = .returned v ∧ Below w.heap.size w w' := by
  have H := hpOK_start P w
  have hsc : scL P.globals.size args = true := scL_flat _ _ ha
  have := calls_of_ev hO hf he H hsc
  rw [conL_flat _ _ ha] at this
  refine this.mono fun e w' ⟨E', h1, h2, _⟩ => ?_
  refine ⟨by rw [h1, con_flat _ _ hv], ?_⟩
  exact ⟨h2.below.os, h2.below.tape, h2.below.output, h2.below.size, fun k hk => h2.below.block k hk⟩

/-- A law that the quick evaluator has run to true. -/
theorem calls_yes {P : Program} {O : Orc} (hO : OrcOK P O) {lf n : Nat} {sy : List (Nat × Nat)} {f : FuncId} (hf : O f = none) {args : List Value} (he : Yes (runInv P O lf sy n (.fn f args) ⟨.nil, P.globals.size⟩ trueV)) (ha : flatL args = true) (w : World) :
    Calls P f args.toArray w fun e w' => e = .returned (.bool true) ∧ Below w.heap.size w w' := by
  obtain ⟨v, h', h1, h2⟩ := runInv_says he
  rw [trueV_ok h2] at h1
  exact calls_flat hO hf h1 ha rfl w

/-- Nothing is known ahead. -/
def noOrc : Orc := fun _ => none

theorem noOrc_ok (P : Program) : OrcOK P noOrc := fun f g h => by cases h

/-- A function without arguments that is known to answer true. -/
def trueOrc (f : FuncId) : Orc := fun i => match Nat.beq i f with
  | true => some fun args h => match args with
    | [] => some (.bool true, h)
    | _ :: _ => none
  | false => none

theorem trueOrc_ok {P : Program} {f : FuncId} (hfn : (match P.funcs[f]? with | some fn => fn.body.isSome && !(fn.name == "runtime.NumGoroutine") | none => false) = true)
    (hc : ∀ w, Calls P f #[] w fun e w' => e = .returned (.bool true) ∧ Below w.heap.size w w') : OrcOK P (trueOrc f) := by
  intro i g hg B w0 inv h v h' he E w H hsc
  unfold trueOrc at hg
  split at hg
  · rename_i hb
    have := Nat.eq_of_beq_eq_true hb
    subst this
    cases hg
    cases inv with
    | yield l args => cases he
    | fn f' args =>
      simp only at he
      split at he
      · rename_i e
        subst e
        match args, he with
        | [], he =>
          cases he
          refine ⟨Frame.enter P f' #[] .normal, ⟨?_, rfl⟩, fun c cs => ?_⟩
          · split at hfn
            · rename_i fn hf
              simp only [Bool.and_eq_true, Bool.not_eq_true'] at hfn
              refine ⟨fn, hf, ?_, hfn.2⟩
              cases hbd : fn.body with
              | none => rw [hbd] at hfn; simp at hfn
              | some _ => rfl
            · cases hfn
          · obtain ⟨e, w', fr, ⟨rfl, hb⟩, s1, _, s2⟩ := hc w (c :: cs)
            refine ⟨E, w', H.wider ⟨hb.os, hb.tape, hb.output, hb.size, fun k hk => hb.block k hk⟩, Agree.refl _ _, Nat.le_refl _, rfl, Steps.trans s1 (.one (step_leave_returned s2))⟩
      · cases he
  · cases hg

theorem yes_of {a : Ans} (h : a = .yes) : Yes a := by
  rw [h]
  exact .yes

end Go.Eng

namespace Go.ChangeShapes
open Go Go.RowKit

variable {P : Program} {H : Type} {enc : TypeId × Value → H}

/-- What the row asks behind a call that has left all that was there as it was. -/
theorem post_of_below {f : Func} {s : ChangeSpec} {apart fresh handsOn again : Bool} {W W' : World} {args : Array Value} {v : Value} {ds gs : List (DataW H)} {before pa pv : List MemPlace}
    (hW : DataW.Whole enc P f.params.toList s.vars apart W args.toList ds gs before)
    (hres : ∀ (b : Nat) (sp : Nat → Bool) (hd : Bool), DataW.TrodAll enc P W' b sp hd f.resultTypes.toList (v.resultList f.resultTypes.size) (s.fn H (ds ++ gs)).results [])
    (hargs : ∀ sp : Nat → Bool, (∀ p ∈ before, sp p.block = true) → DataW.TrodAll enc P W' 0 sp true f.params.toList args.toList (s.fn H (ds ++ gs)).args pa)
    (hvars : ∀ sp : Nat → Bool, (∀ p ∈ before, sp p.block = true) → DataW.TrodVars enc P W' sp s.vars (s.fn H (ds ++ gs)).vars pv)
    (hps : before = pa ++ pv) (hB : Below W.heap.size W W')
    (hok : ∀ (j : Nat) (t : TypeId) (r : Value), f.resultTypes[j]? = some t → (v.resultList f.resultTypes.size)[j]? = some r → Value.okWide P W' .any 0 t r) :
    s.post enc P f apart fresh handsOn again W args v W' := by
  have hlt := hW.lt
  have hold : ∀ p ∈ before, (fun b => decide (b < W.heap.size)) p.block = true := fun p hp => by simpa using hlt p hp
  refine ⟨ds, gs, before, [], pa, pv, hW, hres _ _ _, hargs _ hold, hvars _ hold, World.keptBut_mono (fun p hp => ⟨hp, ?_⟩) (hB.frame (· ∈ before)), fun _ => ?_⟩
  · rw [hps, List.mem_append] at hp
    exact .inr hp
  · obtain ⟨_, _, _, _, _, hz, hn⟩ := hW
    refine ⟨hok, _, _, ([] ++ pa) ++ pv, ⟨[] ++ pa, pv, trodAll_append (hargs _ (fun _ _ => rfl)) (hres _ _ _), hvars _ (fun _ _ => rfl), rfl, ?_, ?_⟩, ?_⟩
    · intro b off hp
      have hp' : MemPlace.cell b off ∈ before := by rw [hps]; simpa using hp
      rw [hB.frozen (hlt _ hp')]
      exact hz b off hp'
    · intro ha
      have := hn ha
      rw [hps] at this
      simpa using this
    · intro p hp _
      rw [hps]
      simpa using hp

end Go.ChangeShapes
