/- A law that the evaluator has run to true: the call, whatever the world; and the row's condition behind it. -/
import Derived.Test.YtnfboopfpkaeaaaEngM
import Derived.Test.YtnfboopfpkaeaaaFxF
import Derived.Below
import Derived.ChangeSame
namespace Go.Eng
open Go.RowKit

theorem calls_true {P : Program} {lf n : Nat} {f : FuncId} {args : List Value} {h' : Hp} (he : evInv P lf n (.fn f args) ⟨.nil, P.globals.size⟩ = some (.bool true, h')) (hf : flatL args = true) (w : World) :
    Calls P f args.toArray w fun e w' => e = .returned (.bool true) ∧ Below w.heap.size w w' := by
  have H : HpOK P ⟨fun k => k < w.heap.size, fun _ => False⟩ w ⟨fun i => i, fun _ => 0⟩ ⟨.nil, P.globals.size⟩ w := by
    refine ⟨fun k h => h.elim (fun h => h) (fun h => h.elim), SameOn.refl _ _, fun i o ho => ?_, fun i j o o' ho => ?_, fun g _ => rfl, Nat.le_refl _⟩
    · cases ho
    · cases ho
  have hsc : scL P.globals.size args = true := scL_flat _ _ hf
  have := calls_of_ev he H hsc
  rw [conL_flat _ _ hf] at this
  refine this.mono fun e w' ⟨E', h1, h2, _⟩ => ?_
  refine ⟨by rw [h1]; rfl, ?_⟩
  exact ⟨h2.below.os, h2.below.tape, h2.below.output, h2.below.size, fun k hk => h2.below.block k hk⟩

/-- A law that the quick evaluator has run to true. -/
theorem calls_yes {P : Program} {lf n : Nat} {sy : List (Nat × Nat)} {f : FuncId} {args : List Value} (he : Yes (runInv P lf sy n (.fn f args) ⟨.nil, P.globals.size⟩ trueV)) (hf : flatL args = true) (w : World) :
    Calls P f args.toArray w fun e w' => e = .returned (.bool true) ∧ Below w.heap.size w w' := by
  obtain ⟨v, h', h1, h2⟩ := runInv_says he
  rw [trueV_ok h2] at h1
  exact calls_true h1 hf w

theorem yes_of {a : Ans} (h : a = .yes) : Yes a := by
  rw [h]
  exact .yes

end Go.Eng

namespace Go.ChangeShapes
open Go Go.RowKit

variable {P : Program} {H : Type} {enc : TypeId × Value → H}

/-- What the row asks behind a call that has left all that was there as it was. -/
theorem post_of_below {f : Func} {s : ChangeSpec} {apart fresh handsOn again : Bool} {W W' : World} {args : Array Value} {v : Value} {ds gs : List (DataW H)} {before pa pv : List MemPlace}
    (hW : DataW.Whole enc P f.params.toList s.vars apart W args.toList ds gs before)
    (hres : ∀ (b : Nat) (sp : Nat → Bool) (hd : Bool), DataW.TrodAll enc P W' b sp hd f.resultTypes.toList (v.resultList f.resultTypes.size) (s.fn H (ds ++ gs)).results [])
    (hargs : ∀ sp : Nat → Bool, (∀ p ∈ before, sp p.block = true) → DataW.TrodAll enc P W' 0 sp true f.params.toList args.toList (s.fn H (ds ++ gs)).args pa)
    (hvars : ∀ sp : Nat → Bool, (∀ p ∈ before, sp p.block = true) → DataW.TrodVars enc P W' sp s.vars (s.fn H (ds ++ gs)).vars pv)
    (hps : before = pa ++ pv) (hB : Below W.heap.size W W')
    (hok : ∀ (j : Nat) (t : TypeId) (r : Value), f.resultTypes[j]? = some t → (v.resultList f.resultTypes.size)[j]? = some r → Value.okWide P W' .any 0 t r) :
    s.post enc P f apart fresh handsOn again W args v W' := by
  have hlt := hW.lt
  have hold : ∀ p ∈ before, (fun b => decide (b < W.heap.size)) p.block = true := fun p hp => by simpa using hlt p hp
  refine ⟨ds, gs, before, [], pa, pv, hW, hres _ _ _, hargs _ hold, hvars _ hold, World.keptBut_mono (fun p hp => ⟨hp, ?_⟩) (hB.frame (· ∈ before)), fun _ => ?_⟩
  · rw [hps, List.mem_append] at hp
    exact .inr hp
  · obtain ⟨_, _, _, _, _, hz, hn⟩ := hW
    refine ⟨hok, _, _, ([] ++ pa) ++ pv, ⟨[] ++ pa, pv, trodAll_append (hargs _ (fun _ _ => rfl)) (hres _ _ _), hvars _ (fun _ _ => rfl), rfl, ?_, ?_⟩, ?_⟩
    · intro b off hp
      have hp' : MemPlace.cell b off ∈ before := by rw [hps]; simpa using hp
      rw [hB.frozen (hlt _ hp')]
      exact hz b off hp'
    · intro ha
      have := hn ha
      rw [hps] at this
      simpa using this
    · intro p hp _
      rw [hps]
      simpa using hp

end Go.ChangeShapes
