/- Code of the model and the evaluator: all code, and calls. -/
import Derived.Test.YtkfbfgcflnkllaaGreatDoorEngK
namespace Go.Eng
open Go.RowKit

section
variable {P : Program} {B : Prot} {w0 : World}

theorem fr_put {E : Env} {n : Nat} {b : Frame} {F : Fm} {T : Array Value} {ds : List Deferred} (h : FrOK E n b F T ds) {todo : List Item} : (at_ b T ds todo).roundOf = F.round.map E.μ := h.round

theorem endLoop_run {E : Env} {h : Hp} {w : World} (H : HpOK P B w0 E h w) {l : Nat} {st : LoopState} {pd : Option Code} {fm : Fm} {ps : Array Tmp} {as bo : Code} {d : Nat} (hg : h.get l = some (.loop st pd fm ps as bo d)) (hst : st ≠ .busy) :
    ∃ w', (Instr.endLoop (E.μ l)).run P w = .ok pd w' ∧ HpOK P B w0 E (h.put l (.loop .exhausted pd fm ps as bo d)) w' := by
  obtain ⟨h1, h2, O, h3, h4, T, h5, rfl⟩ := H.obj l _ hg
  have hgo : (getObj (E.μ l)).run P w = .ok (.loop { state := st, pending := pd, fn := fm.fn, tmps := T, params := ps, assign := as, body := bo, defers := E.μ d }) w := by simp [getObj, Sem.run, h3]
  have hso : ∀ o : Obj, (setObj (E.μ l) o).run P w = .ok () { w with heap := w.heap.setIfInBounds (E.μ l) o } := by intro o; simp [setObj, Sem.run, h3]
  refine ⟨_, ?_, H.upd hg rfl rfl (Upd.setObj (H.lt hg)) ⟨h4, T, h5, rfl⟩⟩
  cases st <;> simp_all [Instr.endLoop, Instr.getLoop]

theorem step_rangeFunc {fr fr0 : Frame} {cs : List Frame} {w w2 : World} {f : Operand} {ps : Array Tmp} {as body : Code} {k : List Item} {l : Nat} {mark : List Deferred} {nx : Next}
    (hm : fr.mode = .run) (ht : fr.todo = .code (.rangeFunc f ps as body) :: k) (he : (Instr.enterLoop fr.fn fr.tmps ps as body fr.roundOf).run P w = .ok (l, mark) w2)
    (hr : ((do let d ← Deferred.ofValue (fr.eval f) #[.func (.yield l) #[] #[]]; invoke d.target d.args : Sem Next)).run P w2 = .ok nx w2) (hnx : Lays P nx fr0) :
    step P (lone fr cs w) = .next (lone fr0 ({ fr with todo := .inRangeFunc l :: k, defers := mark ++ fr.defers } :: cs) w2) := by
  refine step_lone_go ?_
  have hr' : (do let d ← resolve ({ fn := fr.fn, tmps := fr.tmps, todo := .inRangeFunc l :: k, defers := mark ++ fr.defers, mode := .run, kind := fr.kind, roundOf := fr.roundOf } : Frame).eval { callee := .value f, args := #[.const (.func (.yield l) #[] #[])], argTypes := #[] } 0; invoke d.target d.args : Sem Next).run P w2 = .ok nx w2 := by
    have e : ({ fn := fr.fn, tmps := fr.tmps, todo := .inRangeFunc l :: k, defers := mark ++ fr.defers, mode := .run, kind := fr.kind, roundOf := fr.roundOf } : Frame).eval f = fr.eval f := by cases f <;> rfl
    have e2 : ({ fn := fr.fn, tmps := fr.tmps, todo := .inRangeFunc l :: k, defers := mark ++ fr.defers, mode := .run, kind := fr.kind, roundOf := fr.roundOf } : Frame).eval (.const (.func (.yield l) #[] #[])) = .func (.yield l) #[] #[] := rfl
    simp only [resolve, e, List.map_toArray, List.map_cons, List.map_nil, e2]
    exact hr
  simp only [Sem.run_bind] at hr'
  simp only [stepG, hm, stepG.exec, ht, Sem.runT_eq, he, GStep.bare_after]
  rcases hnx with ⟨g, a, rfl, rfl⟩ | ⟨l2, g, t, as2, bo, rfl, rfl⟩ <;> simp [stepG.apply, hr']

theorem Kept.refl' {E : Env} {h : Hp} {b : Frame} {F : Fm} {T : Array Value} {ds : List Deferred} {w : World} (H : HpOK P B w0 E h w) (hF : FrOK E h.next b F T ds) : Kept P B w0 E E h h b F T ds w := ⟨H, hF, Agree.refl _ _, Nat.le_refl _⟩

theorem code_sound {callF : CallF} (hC : ∀ B w0, CallOK P B w0 callF) (lf : Nat) : ∀ c : Code, CodeOK P B w0 (evC callF P lf c) c := by
  intro c
  induction c with
  | skip =>
    intro F h e F' h' he E w b T ds H hF k cs hq
    simp [evC] at he
    obtain ⟨rfl, rfl, rfl⟩ := he
    exact ⟨E, T, ds, w, ⟨H, hF, Agree.refl _ _, Nat.le_refl _⟩, .one (step_lone_go (by simp [stepG, stepG.exec, at_]))⟩
  | label l =>
    intro F h e F' h' he E w b T ds H hF k cs hq
    simp [evC] at he
    obtain ⟨rfl, rfl, rfl⟩ := he
    exact ⟨E, T, ds, w, ⟨H, hF, Agree.refl _ _, Nat.le_refl _⟩, .one (step_lone_go (by simp [stepG, stepG.exec, at_]))⟩
  | region id ops draw =>
    intro F h e F' h' he E w b T ds H hF k cs hq
    cases draw with
    | false =>
      simp only [evC] at he
      split at he
      · rename_i F1 h1 hops
        cases he
        have hst : step P (lone (at_ b T ds (.code (.region id ops false) :: k)) cs w) = .next (lone (at_ b T ds (.inRegion ops (List.range ops.size) :: k)) cs w) := step_lone_go (by simp [stepG, stepG.exec, at_])
        obtain ⟨E', T', ds', w', k1, s1⟩ := ops_sound (k := k) (hC B w0) cs hq ops.toList 0 (by simp) H hF hops
        rw [← List.range_eq_range', Array.length_toList] at s1
        exact ⟨E', T', ds', w', k1, .head hst s1⟩
      · cases he
    | true =>
      simp only [evC] at he
      split at he
      · rename_i F1 h1 hops
        cases he
        exact draw_sound hC hops H hF k cs
      · cases he
  | seq x y ihx ihy =>
    intro F h e F' h' he E w b T ds H hF k cs hq
    have hst : step P (lone (at_ b T ds (.code (.seq x y) :: k)) cs w) = .next (lone (at_ b T ds (.code x :: .code y :: k)) cs w) := step_lone_go (by simp [stepG, stepG.exec, at_])
    simp only [evC] at he
    split at he
    · rename_i F1 h1 hx
      obtain ⟨E1, T1, ds1, w1, k1, s1⟩ := ihx F h _ F1 h1 hx E w b T ds H hF (.code y :: k) cs hq
      obtain ⟨E2, T2, ds2, w2, k2, s2⟩ := ihy F1 h1 e F' h' he E1 w1 b T1 ds1 k1.hp k1.fr k cs hq
      exact ⟨E2, T2, ds2, w2, k1.trans k2, .of_steps (.head hst s1) s2⟩
    · rename_i r hr
      have hne : e ≠ .normal := fun hh => by subst hh; exact hr F' h' he
      obtain ⟨E1, T1, ds1, w1, k1, s1⟩ := ihx F h e F' h' he E w b T ds H hF (.code y :: k) cs hq
      exact ⟨E1, T1, ds1, w1, k1, .of_steps (.one hst) (s1.drop (fun id => by simp [exitTo]) hne)⟩
  | cond x y z ihy ihz =>
    intro F h e F' h' he E w b T ds H hF k cs hq
    simp only [evC] at he
    split at he
    · rename_i hok hb
      have hev := (hF.eval (P := P) H.glob H.gnext (.code (.cond x y z) :: k) x hok).1
      rw [hb] at hev
      have hst : step P (lone (at_ b T ds (.code (.cond x y z) :: k)) cs w) = .next (lone (at_ b T ds (.code y :: k)) cs w) :=
        step_lone_go (by simp only [at_] at hev; simp [stepG, stepG.exec, at_, hev, con])
      obtain ⟨E1, T1, ds1, w1, k1, s1⟩ := ihy F h e F' h' he E w b T ds H hF k cs hq
      exact ⟨E1, T1, ds1, w1, k1, .of_steps (.one hst) s1⟩
    · rename_i hok hb
      have hev := (hF.eval (P := P) H.glob H.gnext (.code (.cond x y z) :: k) x hok).1
      rw [hb] at hev
      have hst : step P (lone (at_ b T ds (.code (.cond x y z) :: k)) cs w) = .next (lone (at_ b T ds (.code z :: k)) cs w) :=
        step_lone_go (by simp only [at_] at hev; simp [stepG, stepG.exec, at_, hev, con])
      obtain ⟨E1, T1, ds1, w1, k1, s1⟩ := ihz F h e F' h' he E w b T ds H hF k cs hq
      exact ⟨E1, T1, ds1, w1, k1, .of_steps (.one hst) s1⟩
    · cases he
  | block id x ih =>
    intro F h e F' h' he E w b T ds H hF k cs hq
    have hst : step P (lone (at_ b T ds (.code (.block id x) :: k)) cs w) = .next (lone (at_ b T ds (.code x :: .inBlock id :: k)) cs w) := step_lone_go (by simp [stepG, stepG.exec, at_])
    simp only [evC] at he
    split at he
    · rename_i id' F1 h1 hx
      obtain ⟨E1, T1, ds1, w1, k1, k0, s0, s1⟩ := ih F h _ F1 h1 hx E w b T ds H hF (.inBlock id :: k) cs hq
      split at he
      · rename_i hb
        have hid := Tr.beq_true hb
        subst hid
        cases he
        refine ⟨E1, T1, ds1, w1, k1, .head hst (s1.trans (.one ?_))⟩
        have s0' : exitTo id' k0 = some k := by rw [s0]; simp [exitTo]
        exact step_lone_go (by simp [stepG, stepG.exec, at_, s0'])
      · rename_i hb
        have hid := Tr.beq_false hb
        cases he
        refine ⟨E1, T1, ds1, w1, k1, k0, ?_, .head hst s1⟩
        rw [s0]
        have : (id == id') = false := by simp; exact fun hh => hid hh.symm
        simp [exitTo, this]
    · rename_i r hr
      obtain ⟨E1, T1, ds1, w1, k1, s1⟩ := ih F h e F' h' he E w b T ds H hF (.inBlock id :: k) cs hq
      cases e with
      | normal =>
        refine ⟨E1, T1, ds1, w1, k1, .head hst (Steps.trans s1 (.one ?_))⟩
        exact step_lone_go (by simp [stepG, stepG.exec, at_])
      | exit id' => exact absurd he (hr id' F' h')
      | ret =>
        obtain ⟨k0, s1⟩ := s1
        exact ⟨E1, T1, ds1, w1, k1, k0, .head hst s1⟩
  | loop x ih =>
    intro F h e F' h' he E w b T ds H hF k cs hq
    simp only [evC] at he
    have hst : step P (lone (at_ b T ds (.code (.loop x) :: k)) cs w) = .next (lone (at_ b T ds (.code x :: .inLoop x :: k)) cs w) := step_lone_go (by simp [stepG, stepG.exec, at_])
    obtain ⟨E1, T1, ds1, w1, k1, s1⟩ := loop_sound ih lf F h e F' h' he E w b T ds H hF k cs hq
    exact ⟨E1, T1, ds1, w1, k1, .of_steps (.one hst) s1⟩
  | exit id =>
    intro F h e F' h' he E w b T ds H hF k cs hq
    simp [evC] at he
    obtain ⟨rfl, rfl, rfl⟩ := he
    exact ⟨E, T, ds, w, ⟨H, hF, Agree.refl _ _, Nat.le_refl _⟩, k, rfl, .refl _ _⟩
  | ret =>
    intro F h e F' h' he E w b T ds H hF k cs hq
    simp [evC] at he
    obtain ⟨rfl, rfl, rfl⟩ := he
    exact ⟨E, T, ds, w, ⟨H, hF, Agree.refl _ _, Nat.le_refl _⟩, k, .refl _ _⟩
  | scope x ih =>
    intro F h e F' h' he E w b T ds H hF k cs hq
    simp only [evC] at he
    have hst : step P (lone (at_ b T ds (.code (.scope x) :: k)) cs w) = .next (lone (at_ b T ds (.code x :: .inScope x :: k)) cs w) := step_lone_go (by simp [stepG, stepG.exec, at_])
    obtain ⟨E1, T1, ds1, w1, k1, s1⟩ := ih F h e F' h' he E w b T ds H hF (.inScope x :: k) cs hq
    cases e with
    | normal =>
      refine ⟨E1, T1, ds1, w1, k1, .head hst (Steps.trans s1 (.one ?_))⟩
      exact step_lone_go (by simp [stepG, stepG.exec, at_])
    | exit id => exact ⟨E1, T1, ds1, w1, k1, .of_steps (.one hst) (s1.drop (fun id => by simp [exitTo]) (by simp))⟩
    | ret => exact ⟨E1, T1, ds1, w1, k1, .of_steps (.one hst) (s1.drop (fun id => by simp [exitTo]) (by simp))⟩
  | goto l =>
    intro F h e F' h' he
    simp [evC] at he
  | refuse s =>
    intro F h e F' h' he
    simp [evC] at he
  | rangeFunc f ps as body _ _ =>
    intro F h e F' h' he E w b T ds H hF k cs hq
    simp only [evC] at he
    split at he
    · rename_i d h1 mark hok hent
      split at he
      · rename_i g args htg
        split at he
        · rename_i u h3 hcall
          -- the loop's record
          have enter : ∃ E2 w2 markc, (Instr.enterLoop b.fn T ps as body b.roundOf).run P w = .ok (E2.μ h1.next, markc) w2 ∧ HpOK P B w0 E2 (h1.new (.loop .ready none F ps as body d)) w2 ∧ Agree h.next E E2 ∧ h.next ≤ h1.next ∧
              markc = mark.map (conD E2) ∧ (∀ x ∈ mark, ∃ r, x = { target := .collected r, args := #[] } ∧ r < h1.next) := by
            cases hr : F.round with
            | none =>
              rw [hr] at hent
              simp only [Option.some.injEq, Prod.mk.injEq] at hent
              obtain ⟨rfl, rfl, rfl⟩ := hent
              have H1 := H.new 0 (New.alloc w (.deferred (some []))) (o := .defd false) rfl
              have a1 := Env.ext_agree E h.next w.heap.size 0
              have H2 := H1.new (w' := ((w.alloc (.deferred (some []))).alloc (.loop { state := .ready, pending := none, fn := F.fn, tmps := T, params := ps, assign := as, body := body, defers := w.heap.size }))) 0 (New.alloc _ _) (o := .loop .ready none F ps as body h.next)
                ⟨by simp; omega, T, (hF.tm.mono a1 (by simp)).mono (Env.ext_agree _ _ _ 0) (by simp), by simp [Env.ext]⟩
              refine ⟨_, _, [{ target := .collected w.heap.size, args := #[] }], ?_, H2, a1.trans (Env.ext_agree _ _ _ 0) (by simp), by simp, ?_, ?_⟩
              · have : b.roundOf = none := by rw [hF.round, hr]; rfl
                simp [Instr.enterLoop, this, hF.fn]
              · simp [conD, Env.ext]
              · intro x hx
                simp at hx
                exact ⟨h.next, hx, by simp⟩
            | some l0 =>
              rw [hr] at hent
              simp only at hent
              split at hent
              · rename_i st pd fm ps0 as0 bo0 d0 hg
                simp only [Option.some.injEq, Prod.mk.injEq] at hent
                obtain ⟨rfl, rfl, rfl⟩ := hent
                obtain ⟨q1, q2, O, q3, q4, T0, q5, rfl⟩ := H.obj l0 _ hg
                have H2 := H.new (w' := w.alloc (.loop { state := .ready, pending := none, fn := F.fn, tmps := T, params := ps, assign := as, body := body, defers := E.μ d0 })) 0 (New.alloc _ _) (o := .loop .ready none F ps as body d0)
                  ⟨by omega, T, hF.tm.mono (Env.ext_agree _ _ _ 0) (by simp), by rw [← (Env.ext_agree E h.next w.heap.size 0 d0 q4).1]⟩
                refine ⟨_, _, [], ?_, H2, Env.ext_agree _ _ _ 0, by simp, by simp, by simp⟩
                have : b.roundOf = some (E.μ l0) := by rw [hF.round, hr]; rfl
                have hgo : (getObj (E.μ l0)).run P w = .ok (.loop { state := st, pending := pd, fn := fm.fn, tmps := T0, params := ps0, assign := as0, body := bo0, defers := E.μ d0 }) w := by simp [getObj, Sem.run, q3]
                simp [Instr.enterLoop, Instr.getLoop, this, hF.fn, hgo]
              · cases hent
          obtain ⟨E2, w2, markc, e1, H2, a2, le2, e3, e4⟩ := enter
          have hF2 := hF.mono a2 (m := h1.next + 1) (by omega)
          have hgl : P.globals.size ≤ h1.next + 1 := H2.gnext
          have hev := hF2.eval (P := P) H2.glob hgl (.code (.rangeFunc f ps as body) :: k) f hok
          -- the call
          have hsc : scInv (h1.next + 1) (.fn g args) = true := target_sc htg hev.2 (by simp [scL, sc, scA])
          obtain ⟨fr0, l1, l2⟩ := hC B w0 _ _ _ _ hcall E2 w2 H2 hsc
          obtain ⟨nx, r1, r2⟩ := target_run htg l1
          obtain ⟨E3, w3, H3, a3, le3, sv, s3⟩ := l2 (at_ b T (markc ++ ds) (.inRangeFunc (E2.μ h1.next) :: k)) cs
          have hst := step_rangeFunc (fr := at_ b T ds (.code (.rangeFunc f ps as body) :: k)) (cs := cs) (k := k) rfl rfl e1 (by rw [hev.1]; simpa [conL, con, conFn, conA] using r1) r2
          -- what stands behind it
          split at he
          · cases he
          · rename_i st pd fm ps' as' body' d' hnb hg
            split at he
            · rename_i e0 hp
              cases he
              obtain ⟨w4, x1, x2⟩ := endLoop_run H3 hg (fun hh => hnb hh)
              have hlt : h1.next < (h1.new (.loop .ready none F ps as body d)).next := by simp
              have hmu : E2.μ h1.next = E3.μ h1.next := (a3 h1.next hlt).1
              have a23 : Agree h.next E E3 := a2.trans a3 (by simp; omega)
              have hfr : FrOK E3 h3.next b { F with defers := mark ++ F.defers } T (markc ++ ds) := by
                have hF3 := hF2.mono a3 (m := h3.next) (by simpa using le3)
                refine ⟨⟨hF3.tm.size, hF3.tm.val, hF3.tm.out, hF3.tm.scd⟩, hF3.fn, hF3.round, hF3.roundsc, ?_, ?_⟩
                · rw [e3, hF3.defers, List.map_append]
                  congr 1
                  apply List.map_congr_left
                  intro x hx
                  obtain ⟨r, rfl, hr⟩ := e4 x hx
                  simp [conD, (a3 r (by simp; omega)).1]
                · intro x hx
                  rcases List.mem_append.1 hx with hx | hx
                  · obtain ⟨r, q1, q2⟩ := e4 x hx
                    exact .inl ⟨r, q1, by simp at le3; omega⟩
                  · exact hF3.defersc x hx
              refine ⟨E3, T, markc ++ ds, w4, ⟨x2, by simpa using hfr, a23, by simp at le3 ⊢; omega⟩, ?_⟩
              have s4 : step P (lone (at_ b T (markc ++ ds) (.endRangeFunc (E2.μ h1.next) :: k)) cs w3) = .next (lone (at_ b T (markc ++ ds) ((pd.map Item.code).toList ++ k)) cs w4) := by
                rw [hmu]
                exact step_lone_go (by simp [stepG, stepG.exec, at_, Sem.runT_eq, x1])
              have s5 : Steps P (lone (at_ b T ds (.code (.rangeFunc f ps as body) :: k)) cs w) (lone (at_ b T (markc ++ ds) ((pd.map Item.code).toList ++ k)) cs w4) := by
                refine .head hst (Steps.trans s3 (.one ?_))
                simpa [Frame.finish, at_] using s4
              cases pd with
              | none =>
                simp [endPending] at hp
                subst hp
                exact s5
              | some c =>
                cases c <;> simp [endPending] at hp
                · rename_i id
                  subst hp
                  exact ⟨k, rfl, s5⟩
                · subst hp
                  exact ⟨k, s5⟩
            · cases he
          · cases he
        · cases he
      · cases he
    · cases he

end
end Go.Eng
