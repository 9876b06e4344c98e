/- One operation of the model and one of the evaluator: all of them together. -/
import Derived.Test.YtkfbfgcflnkllaaGreatDoorEngG3
namespace Go.Eng
open Go.RowKit

section
variable {P : Program} {B : Prot} {w0 : World} {E : Env} {h : Hp} {w : World}

theorem pureOp_run {F : Fm} {ρ : Operand → Value} {o : Oper} {v : Value} (hs : ∀ cs b, o.op ≠ .select cs b) (hρ : ∀ x ∈ o.op.operands, ρ x = con E (F.eval x)) (ha : pureOp P F.eval o = some v) (w : World) :
    (execOp ρ o).run P w = .ok (.value (con E v)) w ∧ flat v = true := by
  unfold pureOp at ha
  split at ha
  · cases ha
  · rename_i hall
    rw [Array.all_eq_true_iff_forall_mem] at hall
    have he : execOp ρ o = execOp F.eval o := execOp_congr o hs fun x hx => by rw [hρ x hx, con_flat E _ (hall x hx)]
    split at ha
    · rename_i u hr
      split at ha
      · rename_i hf
        cases ha
        rw [he, con_flat E v hf]
        exact ⟨pureRun_sound _ w hr, hf⟩
      · cases ha
    · cases ha

theorem OpOK.pureOp {F : Fm} {ρ : Operand → Value} {o : Oper} {v : Value} {h' : Hp} (H : HpOK P B w0 E h w) (hs : ∀ cs b, o.op ≠ .select cs b) (hρ : ∀ x ∈ o.op.operands, ρ x = con E (F.eval x))
    (ha : (Eng.pureOp P F.eval o).map (·, h) = some (v, h')) : OpOK P B w0 E h ((execOp ρ o).run P w) v h' := by
  cases hp : Eng.pureOp P F.eval o with
  | none => simp [hp] at ha
  | some u =>
    simp [hp] at ha
    obtain ⟨rfl, rfl⟩ := ha
    obtain ⟨h1, h2⟩ := pureOp_run hs hρ hp w
    exact OpOK.pure H h1 (sc_flat _ _ h2)

theorem map_some {α β : Type} {x : Option α} {h h' : β} {v : α} (hm : x.map (·, h) = some (v, h')) : x = some v ∧ h' = h := by
  cases x with
  | none => simp at hm
  | some u => simp at hm; exact ⟨by rw [hm.1], hm.2.symm⟩

theorem equalIn_slice {t e : TypeId} (hu : P.underlying t = some (.slice e)) (d : Nat) (u u' : Option Addr) (l c l' c' : Nat) (hn : (u.isNone || u'.isNone) = true) (w : World) :
    (Op.equalIn (d + 1) t (.slice u l c) (.slice u' l' c')).run P w = .ok (u.isNone && u'.isNone) w := by
  cases u <;> cases u' <;> simp at hn <;> simp [Op.equalIn, run_underlying hu]

theorem equalIn_pointer {t e : TypeId} (hu : P.underlying t = some (.pointer e)) (d : Nat) (u u' : Option Addr) (hn : (u.isNone || u'.isNone) = true) (w : World) :
    (Op.equalIn (d + 1) t (.pointer u) (.pointer u')).run P w = .ok (u.isNone && u'.isNone) w := by
  cases u <;> cases u' <;> simp at hn <;> simp [Op.equalIn, run_underlying hu]

theorem one_of_map {α β : Type} {f : α → β} {l : List α} {x : β} (h : l.map f = [x]) : ∃ y, l = [y] ∧ f y = x := by
  match l, h with
  | [y], h => simp at h; exact ⟨y, rfl, h⟩

theorem two_of_map {α β : Type} {f : α → β} {l : List α} {x x' : β} (h : l.map f = [x, x']) : ∃ y z, l = [y, z] ∧ f y = x ∧ f z = x' := by
  match l, h with
  | [y, z], h => simp at h; exact ⟨y, z, rfl, h.1, h.2⟩

theorem con_slice (E : Env) (a : Option Addr) (l c : Nat) : ∃ a' c', con E (.slice a l c) = .slice a' l c' ∧ a'.isNone = a.isNone := by
  cases a with
  | none => exact ⟨none, c, rfl, rfl⟩
  | some a => obtain ⟨i, o, x⟩ := a; cases x <;> exact ⟨_, _, rfl, rfl⟩

theorem equalIn_same {t e : TypeId} (hu : P.underlying t = some (.pointer e)) (d i o q k : Nat) (hk : sizeT P e = some (k + 1)) (w : World) :
    (Op.equalIn (d + 1) t (.pointer (some ⟨i, o, none⟩)) (.pointer (some ⟨i, q, none⟩))).run P w = .ok (Nat.beq o q) w := by
  have hz := run_sizeT (P := P) hk w
  have hb : (({ block := i, off := o, spot := none } : Addr) == { block := i, off := q, spot := none }) = Nat.beq o q := by
    by_cases h : o = q
    · subst h; simp
    · have : Nat.beq o q = false := by
        cases hq : Nat.beq o q
        · rfl
        · exact absurd (Nat.eq_of_beq_eq_true hq) h
      rw [this]
      simp [h]
  simp [Op.equalIn, run_underlying hu, hz, sameAddr, hb]

theorem equalIn_map {t k e : TypeId} (hu : P.underlying t = some (.map k e)) (d : Nat) (u u' : Option Nat) (hn : (u.isNone || u'.isNone) = true) (w : World) :
    (Op.equalIn (d + 1) t (.map u) (.map u')).run P w = .ok (u.isNone && u'.isNone) w := by
  cases u <;> cases u' <;> simp at hn <;> simp [Op.equalIn, run_underlying hu]

theorem conA_map (E : Env) (f : Operand → Value) (xs : Array Operand) : conA E (xs.map f) = xs.map fun x => con E (f x) := by
  rw [conA_eq]; simp

set_option maxHeartbeats 1000000 in
theorem evOp_sound {callF : CallF} {F : Fm} {ρ : Operand → Value} {o : Oper} {v : Value} {h' : Hp} (H : HpOK P B w0 E h w)
    (hρ : ∀ x ∈ o.op.operands, okOpd P x = true → ρ x = con E (F.eval x) ∧ sc h.next (F.eval x) = true) (ha : evOp callF P o F h = some (v, h')) (hnc : ∀ c f, o.op = .call c → c.callee ≠ .value f) :
    OpOK P B w0 E h ((execOp ρ o).run P w) v h' := by
  unfold evOp at ha
  split at ha
  · cases ha
  · rename_i hok
    rw [Array.all_eq_true_iff_forall_mem] at hok
    have hρ1 : ∀ x ∈ o.op.operands, ρ x = con E (F.eval x) := fun x hx => (hρ x hx (hok x hx)).1
    have hsc1 : ∀ x ∈ o.op.operands, sc h.next (F.eval x) = true := fun x hx => (hρ x hx (hok x hx)).2
    have hpure : (∀ cs b, o.op ≠ .select cs b) → (Eng.pureOp P F.eval o).map (·, h) = some (v, h') → OpOK P B w0 E h ((execOp ρ o).run P w) v h' := fun hs hp => OpOK.pureOp H hs hρ1 hp
    obtain ⟨dst, op, type, pos, after, guard⟩ := o
    dsimp only at ha hρ1 hsc1 hpure hnc
    cases op with
    | move x =>
      cases ha
      exact OpOK.pure H (by simp [execOp, hρ1 x (by simp [Op.operands])]) (hsc1 x (by simp [Op.operands]))
    | assign x =>
      cases ha
      exact OpOK.pure H (by simp [execOp, hρ1 x (by simp [Op.operands])]) (hsc1 x (by simp [Op.operands]))
    | pick c a b =>
      simp only at ha
      have hc := hρ1 c (by simp [Op.operands])
      have hA := hρ1 a (by simp [Op.operands])
      have hB := hρ1 b (by simp [Op.operands])
      split at ha
      · rename_i t ht
        cases ha
        refine OpOK.pure H ?_ (by split; exact hsc1 a (by simp [Op.operands]); exact hsc1 b (by simp [Op.operands]))
        cases t <;> simp [execOp, hc, ht, con, asBool, hA, hB]
      · cases ha
    | alloc e =>
      simp only at ha
      split at ha
      · rename_i z hz
        split at ha
        · rename_i hall
          cases ha
          exact H.alloc hz hall
        · cases ha
      · cases ha
    | box e x =>
      simp only at ha
      split at ha
      · rename_i hall
        cases ha
        simp only [execOp, hρ1 x (by simp [Op.operands])]
        exact H.box (hsc1 x (by simp [Op.operands])) hall
      · cases ha
    | build t ps =>
      simp only at ha
      obtain ⟨ha2, he2⟩ := map_some ha
      subst he2
      refine H.build ?_ ha2 _ ?_
      · intro p hp
        obtain ⟨⟨i, x⟩, hq, rfl⟩ := List.mem_map.1 hp
        exact hsc1 x (by simp only [Op.operands, List.mem_toArray, List.mem_map]; exact ⟨(i, x), hq, rfl⟩)
      · simp only [Array.toList_map, List.map_map]
        apply List.map_congr_left
        rintro ⟨i, x⟩ hq
        simp [hρ1 x (by simp only [Op.operands, List.mem_toArray, List.mem_map]; exact ⟨(i, x), hq, rfl⟩)]
    | buildSlice t n ps =>
      simp only at ha
      refine H.buildSlice ?_ ha _ ?_
      · intro p hp
        obtain ⟨⟨i, x⟩, hq, rfl⟩ := List.mem_map.1 hp
        exact hsc1 x (by simp only [Op.operands, List.mem_toArray, List.mem_map]; exact ⟨(i, x), hq, rfl⟩)
      · simp only [Array.toList_map, List.map_map]
        apply List.map_congr_left
        rintro ⟨i, x⟩ hq
        simp [hρ1 x (by simp only [Op.operands, List.mem_toArray, List.mem_map]; exact ⟨(i, x), hq, rfl⟩)]
    | load t a =>
      simp only at ha
      obtain ⟨ha2, he2⟩ := map_some ha
      subst he2
      obtain ⟨h1, h2⟩ := H.loadT ha2
      refine OpOK.pure H ?_ h2
      simp only [execOp, hρ1 a (by simp [Op.operands])]
      exact runV h1
    | store t a x =>
      simp only at ha
      cases hs : storeT P h t (F.eval a) (F.eval x) with
      | none => simp [hs] at ha
      | some h2 =>
        simp [hs] at ha
        obtain ⟨rfl, rfl⟩ := ha
        obtain ⟨w', h1, h3, h4⟩ := H.storeT hs (hsc1 x (by simp [Op.operands]))
        refine ⟨E, w', _, ?_, .inr ⟨rfl, rfl⟩, Agree.refl _ _, by omega, h3, by simp [Eng.undef, sc, scA, scL]⟩
        simp only [execOp, hρ1 a (by simp [Op.operands]), hρ1 x (by simp [Op.operands])]
        exact runU h1
    | nilCheck x =>
      simp only at ha
      have hx := hρ1 x (by simp [Op.operands])
      have hs := hsc1 x (by simp [Op.operands])
      split at ha
      · rename_i a he
        cases ha
        rw [he] at hx hs
        exact OpOK.pure H (by simp [execOp, hx, con]) hs
      · rename_i g a b he
        cases ha
        rw [he] at hx hs
        exact OpOK.pure H (by simp [execOp, hx, con, conFn]) hs
      · rename_i g a b he
        cases ha
        rw [he] at hx hs
        exact OpOK.pure H (by simp [execOp, hx, con, conFn]) hs
      · cases ha
    | binOp op t x y ty =>
      simp only at ha
      have hx := hρ1 x (by simp [Op.operands])
      have hy := hρ1 y (by simp [Op.operands])
      split at ha
      · exact hpure (by simp) ha
      · have hneq : ∀ b, nilEq P t (F.eval x) (F.eval y) = some b → (∀ n, (Op.equalIn (n + 1) t (con E (F.eval x)) (con E (F.eval y))).run P w = .ok b w) ∧
            ((∃ u l c u' l' c', con E (F.eval x) = .slice u l c ∧ con E (F.eval y) = .slice u' l' c') ∨ (∃ u u', con E (F.eval x) = .pointer u ∧ con E (F.eval y) = .pointer u') ∨ (∃ u u', con E (F.eval x) = .map u ∧ con E (F.eval y) = .map u')) := by
          intro b hb
          unfold nilEq at hb
          split at hb
          · rename_i e u l c u' l' c' hu hxv hyv
            split at hb
            · rename_i hn
              cases hb
              rw [hxv, hyv]
              obtain ⟨a1, c1, e1, n1⟩ := con_slice E u l c
              obtain ⟨a2, c2, e2, n2⟩ := con_slice E u' l' c'
              rw [e1, e2]
              refine ⟨fun n => ?_, .inl ⟨_, _, _, _, _, _, rfl, rfl⟩⟩
              rw [equalIn_slice hu n _ _ _ _ _ _ (by rw [n1, n2]; exact hn), n1, n2]
            · cases hb
          · rename_i e u u' hu hxv hyv
            split at hb
            · rename_i hn
              cases hb
              rw [hxv, hyv]
              refine ⟨fun n => ?_, .inr (.inl ?_)⟩
              · cases u <;> cases u' <;> simp at hn <;> simp only [con] <;> rw [equalIn_pointer hu n _ _ (by simp)] <;> simp
              · cases u <;> cases u' <;> simp [con]
            · split at hb
              · rename_i hk
                split at hb
                · rename_i hij
                  cases hb
                  have := Nat.eq_of_beq_eq_true hij
                  subst this
                  rw [hxv, hyv]
                  exact ⟨fun n => equalIn_same hu n _ _ _ _ ‹sizeT P e = some _› w, .inr (.inl ⟨_, _, rfl, rfl⟩)⟩
                · cases hb
              · cases hb
          · rename_i k e u u' hu hxv hyv
            split at hb
            · rename_i hn
              cases hb
              rw [hxv, hyv]
              refine ⟨fun n => ?_, .inr (.inr ?_)⟩
              · cases u <;> cases u' <;> simp at hn <;> simp only [con] <;> rw [equalIn_map hu n _ _ (by simp)] <;> simp
              · cases u <;> cases u' <;> simp [con]
            · cases hb
          · cases hb
        have hq : ∀ b, nilEq P t (F.eval x) (F.eval y) = some b → (Op.equal t (con E (F.eval x)) (con E (F.eval y))).run P w = .ok b w := by
          intro b hb
          exact (hneq b hb).1 9999
        split at ha
        · rename_i b hb
          cases ha
          refine OpOK.pure H ?_ (by simp [sc])
          have h1 := hq b hb
          simp only [execOp, hx, hy]
          rcases (hneq b hb).2 with ⟨u, l, c, u', l', c', e1, e2⟩ | ⟨u, u', e1, e2⟩ | ⟨u, u', e1, e2⟩ <;> rw [e1, e2] at h1 ⊢ <;>
            simp only [eqGuard, binOp, Sem.run_bind] <;> simp [h1, con]
        · rename_i b hb
          cases ha
          refine OpOK.pure H ?_ (by simp [sc])
          have h1 := hq b hb
          simp only [execOp, hx, hy]
          rcases (hneq b hb).2 with ⟨u, l, c, u', l', c', e1, e2⟩ | ⟨u, u', e1, e2⟩ | ⟨u, u', e1, e2⟩ <;> rw [e1, e2] at h1 ⊢ <;>
            simp only [eqGuard, binOp, Sem.run_bind] <;> simp [h1, con]
        · cases ha
    | unOp op t x => exact hpure (by simp) ha
    | convert s d x => exact hpure (by simp) ha
    | makeInterface t x =>
      simp only at ha
      split at ha
      · cases ha
      · rename_i d hu hd
        cases ha
        refine OpOK.pure H ?_ (by simpa [sc] using hsc1 x (by simp [Op.operands]))
        simp only [execOp, hρ1 x (by simp [Op.operands])]
        refine runV ?_
        simp only [Instr.makeInterface, Sem.run_bind, run_underlying hd, Result.andThen_ok]
        cases d <;> simp_all [con]
      · cases ha
    | makeFunc fn first cap =>
      simp only at ha
      split at ha
      · rename_i g
        cases ha
        refine OpOK.pure H ?_ ?_
        · simp only [execOp, Instr.makeFunc, con, conFn, conA_map]
          have e1 : first.map ρ = first.map fun x => con E (F.eval x) := Array.map_congr_left fun x hx => hρ1 x (by simp [Op.operands, hx])
          have e2 : cap.map ρ = cap.map fun x => con E (F.eval x) := Array.map_congr_left fun x hx => hρ1 x (by simp [Op.operands, hx])
          rw [e1, e2]
          simp
        · simp only [sc, Bool.and_eq_true, scA_iff]
          refine ⟨fun u hu => ?_, fun u hu => ?_⟩
          · obtain ⟨x, hx, rfl⟩ := Array.mem_map.1 hu
            exact hsc1 x (by simp [Op.operands, hx])
          · obtain ⟨x, hx, rfl⟩ := Array.mem_map.1 hu
            exact hsc1 x (by simp [Op.operands, hx])
      · cases ha
    | makeMap t r =>
      simp only at ha
      have hnew : HpOK P B w0 (E.ext h.next w.heap.size 0) (h.new (.map [] 0)) (w.alloc (.map #[] 0)) := H.new 0 (New.alloc w _) ⟨by simp, by simp⟩
      cases r with
      | none =>
        cases ha
        refine ⟨_, _, _, ?_, .inl rfl, Env.ext_agree _ _ _ _, by simp, hnew, by simp [sc]⟩
        simp [execOp, Instr.makeMap, con]
      | some x =>
        simp only at ha
        split at ha
        · rename_i k e kk n hu hx
          cases ha
          refine ⟨_, _, _, ?_, .inl rfl, Env.ext_agree _ _ _ _, by simp, hnew, by simp [sc]⟩
          have := hρ1 x (by simp [Op.operands])
          rw [hx] at this
          simp [execOp, Instr.makeMap, con, this, run_underlying hu, asInt, asIntOf]
        · cases ha
    | makeSlice t l c =>
      simp only at ha
      simp only [execOp, hρ1 l (by simp [Op.operands]), hρ1 c (by simp [Op.operands])]
      exact H.makeSlice ha
    | slice t x lo hi mx =>
      simp only at ha
      split at ha
      · exact hpure (by simp) ha
      · split at ha
        · cases ha
        · rename_i hn
          obtain ⟨ha2, he2⟩ := map_some ha
          subst he2
          have hm : ∀ q : Option Operand, (∀ y ∈ q, y ∈ (Op.slice t x lo hi mx).operands) → q.map ρ = (q.map F.eval).map (con E) := by
            intro q hq
            cases q with
            | none => rfl
            | some y => simp [hρ1 y (hq y rfl)]
          simp only [execOp, hρ1 x (by simp [Op.operands])]
          rw [hm lo (by intro y hy; simp [Op.operands]; simp_all), hm hi (by intro y hy; simp [Op.operands]; simp_all), hm mx (by intro y hy; simp [Op.operands]; simp_all)]
          refine H.slice (hsc1 x (by simp [Op.operands])) ha2 ?_
          intro hh
          cases hi <;> cases mx <;> simp_all
    | fieldAddr t x f =>
      simp only at ha
      obtain ⟨ha2, he2⟩ := map_some ha
      subst he2
      simp only [execOp, hρ1 x (by simp [Op.operands])]
      exact H.fieldAddr (hsc1 x (by simp [Op.operands])) ha2
    | field t x f =>
      simp only at ha
      obtain ⟨ha2, he2⟩ := map_some ha
      subst he2
      simp only [execOp, hρ1 x (by simp [Op.operands])]
      exact H.field (hsc1 x (by simp [Op.operands])) ha2
    | indexAddr t x i =>
      simp only at ha
      obtain ⟨ha2, he2⟩ := map_some ha
      subst he2
      simp only [execOp, hρ1 x (by simp [Op.operands]), hρ1 i (by simp [Op.operands])]
      exact H.indexAddr (hsc1 x (by simp [Op.operands])) ha2
    | index t x i => exact hpure (by simp) ha
    | lookup t x k ok =>
      simp only at ha
      obtain ⟨ha2, he2⟩ := map_some ha
      subst he2
      simp only [execOp, hρ1 x (by simp [Op.operands]), hρ1 k (by simp [Op.operands])]
      exact H.lookup ha2
    | mapUpdate t m k x =>
      simp only at ha
      cases hs : mapUpdateOp P h t (F.eval m) (F.eval k) (F.eval x) with
      | none => simp [hs] at ha
      | some h2 =>
        simp [hs] at ha
        obtain ⟨rfl, rfl⟩ := ha
        obtain ⟨w', h1, h3, h4⟩ := H.mapUpdate (hsc1 x (by simp [Op.operands])) hs
        refine ⟨E, w', _, ?_, .inr ⟨rfl, rfl⟩, Agree.refl _ _, by omega, h3, by simp [Eng.undef, sc, scA, scL]⟩
        simp only [execOp, hρ1 m (by simp [Op.operands]), hρ1 k (by simp [Op.operands]), hρ1 x (by simp [Op.operands])]
        exact runU h1
    | insert t m k x =>
      simp only at ha
      cases hs : mapUpdateOp P h t (F.eval m) (F.eval k) (F.eval x) with
      | none => simp [hs] at ha
      | some h2 =>
        simp [hs] at ha
        obtain ⟨rfl, rfl⟩ := ha
        obtain ⟨w', h1, h3, h4⟩ := H.mapUpdate (hsc1 x (by simp [Op.operands])) hs
        refine ⟨E, w', _, ?_, .inr ⟨rfl, rfl⟩, Agree.refl _ _, by omega, h3, by simp [Eng.undef, sc, scA, scL]⟩
        simp only [execOp, hρ1 m (by simp [Op.operands]), hρ1 k (by simp [Op.operands]), hρ1 x (by simp [Op.operands])]
        exact runU h1
    | mapEntry t m k =>
      simp only at ha
      obtain ⟨w', h1, h2, h3, h4⟩ := H.mapEntry ha
      refine ⟨E, w', _, ?_, .inl rfl, Agree.refl _ _, by omega, h2, by rw [h3]; exact h4⟩
      simp only [execOp, hρ1 m (by simp [Op.operands]), hρ1 k (by simp [Op.operands])]
      exact runV h1
    | entryStore t m s x =>
      simp only at ha
      cases hs : entryStoreOp h (F.eval m) (F.eval s) (F.eval x) with
      | none => simp [hs] at ha
      | some h2 =>
        simp [hs] at ha
        obtain ⟨rfl, rfl⟩ := ha
        obtain ⟨w', h1, h3, h4⟩ := H.entryStore (t := t) (hsc1 x (by simp [Op.operands])) hs
        refine ⟨E, w', _, ?_, .inr ⟨rfl, rfl⟩, Agree.refl _ _, by omega, h3, by simp [Eng.undef, sc, scA, scL]⟩
        simp only [execOp, hρ1 m (by simp [Op.operands]), hρ1 s (by simp [Op.operands]), hρ1 x (by simp [Op.operands])]
        exact runU h1
    | extract t i =>
      simp only at ha
      split at ha
      · rename_i vs he
        obtain ⟨ha2, he2⟩ := map_some ha
        subst he2
        have ht := hρ1 t (by simp [Op.operands])
        have hs := hsc1 t (by simp [Op.operands])
        rw [he] at ht hs
        refine OpOK.pure H ?_ (scA_get (by simpa [sc] using hs) ha2)
        simp only [execOp, ht, con]
        refine runV ?_
        simp [Instr.extract, conA_eq, ha2]
      · cases ha
    | range t x =>
      simp only at ha
      split at ha
      · rename_i s hu hx
        cases ha
        have := hρ1 x (by simp [Op.operands])
        rw [hx] at this
        refine ⟨_, _, _, ?_, .inl rfl, Env.ext_agree _ _ _ 0, by simp, H.new 0 (New.alloc w _) rfl, by simp [sc]⟩
        simp [execOp, this, con, Instr.range, run_underlying hu]
      · cases ha
    | next it isS =>
      simp only at ha
      split at ha
      · rename_i r hit
        split at ha
        · rename_i s p hg
          obtain ⟨h1, h2, O, h3, h4⟩ := H.obj r _ hg
          simp only [ObjAt] at h4
          subst h4
          have hi := hρ1 it (by simp [Op.operands])
          rw [hit] at hi
          have hgo : (getObj (E.μ r)).run P w = .ok (.stringIter s p) w := by simp [getObj, Sem.run, h3]
          have hso : ∀ o : Obj, (setObj (E.μ r) o).run P w = .ok () { w with heap := w.heap.setIfInBounds (E.μ r) o } := by intro o; simp [setObj, Sem.run, h3]
          split at ha
          · rename_i hlt
            cases ha
            have hlt' : p < s.size := by simpa [Nat.blt_eq] using hlt
            refine ⟨E, _, _, ?_, .inl rfl, Agree.refl _ _, by simp, H.upd hg rfl rfl (Upd.setObj (H.lt hg)) rfl, by simp [sc, scA, scL]⟩
            simp [execOp, hi, con, Instr.next, hgo, hlt', hso, goInt, conA, conL]
          · rename_i hlt
            cases ha
            have hlt' : ¬ p < s.size := by intro hh; rw [← Nat.blt_eq] at hh; rw [hh] at hlt; cases hlt
            refine OpOK.pure H ?_ (by simp [sc, scA, scL])
            simp [execOp, hi, con, Instr.next, hgo, hlt', conA, conL]
        · cases ha
      · cases ha
    | call c =>
      simp only at ha
      split at ha
      · rename_i b hb
        obtain ⟨callee, args, argTypes⟩ := c
        dsimp only at hb ha
        subst hb
        have hρa : args.map ρ = args.map fun x => con E (F.eval x) := Array.map_congr_left fun x hx => hρ1 x (by simp [Op.operands, Call.operands, hx])
        have hsa : ∀ x ∈ args, sc h.next (F.eval x) = true := fun x hx => hsc1 x (by simp [Op.operands, Call.operands, hx])
        obtain ⟨consts, hrun⟩ : ∃ consts, (execOp ρ { dst := dst, op := Op.call { callee := .builtin b, args := args, argTypes := argTypes }, type := type, pos := pos, after := after, guard := guard }).run P w =
            (builtin b argTypes type consts (args.map fun x => con E (F.eval x))).run P w := ⟨_, by simp [execOp, resolve, invoke, hρa]; rfl⟩
        obtain ⟨al⟩ := args
        obtain ⟨tl⟩ := argTypes
        unfold builtinOp at ha
        split at ha
        · split at ha
          · rename_i t t2 s x ht hax
            simp only at ht hax
            subst ht
            have : ∃ y z, al = [y, z] ∧ F.eval y = s ∧ F.eval z = x := by
              match al, hax with
              | [y, z], hq => simp at hq; exact ⟨y, z, rfl, hq.1, hq.2⟩
            obtain ⟨y, z, rfl, rfl, rfl⟩ := this
            rw [hrun]
            simp only [builtin, List.map_toArray, List.map_cons, List.map_nil]
            split at ha
            · rename_i e a n c hu hz
              rw [← hz] at ha
              exact H.append (hsa y (by simp)) (.inl ⟨e, hu, a, n, c, hz⟩) ha
            · rename_i b hu hz
              rw [← hz] at ha
              exact H.append (hsa y (by simp)) (.inr ⟨hu, b, hz⟩) ha
            · cases ha
          · cases ha
        · split at ha
          · rename_i t tx d s ht hax
            simp only at ht hax
            subst ht
            have : ∃ y z, al = [y, z] ∧ F.eval y = d ∧ F.eval z = s := by
              match al, hax with
              | [y, z], hq => simp at hq; exact ⟨y, z, rfl, hq.1, hq.2⟩
            obtain ⟨y, z, rfl, rfl, rfl⟩ := this
            rw [hrun]
            simp only [builtin, List.map_toArray, List.map_cons, List.map_nil]
            exact H.copy (hsa y (by simp)) ha
          · cases ha
        · split at ha
          · rename_i t x ht hax
            simp only at ht hax
            subst ht
            have : ∃ y, al = [y] ∧ F.eval y = x := by
              match al, hax with
              | [y], hq => simp at hq; exact ⟨y, rfl, hq⟩
            obtain ⟨y, rfl, rfl⟩ := this
            split at ha
            · rename_i e a n c hu hy
              cases ha
              refine OpOK.pure H ?_ (by simp [sc])
              rw [hrun]
              obtain ⟨a', c', e1, _⟩ := con_slice E a n c
              simp [builtin, hy, con, e1, Builtin.len_, run_underlying hu, goInt]
            · rename_i k e r hu hy
              split at ha
              · rename_i es clock hg
                cases ha
                obtain ⟨h1, h2, O, h3, rfl, h4⟩ := H.obj r _ hg
                have hgo : (getObj (E.μ r)).run P w = .ok (.map (es.map (conE E)).toArray clock) w := by simp [getObj, Sem.run, h3]
                refine OpOK.pure H ?_ (by simp [sc])
                rw [hrun]
                simp [builtin, hy, con, Builtin.len_, run_underlying hu, hgo, goInt]
              · cases ha
            · exact hpure (by simp) ha
          · cases ha
        · exact hpure (by simp) ha
        · exact hpure (by simp) ha
        · -- cap
          split at ha
          · rename_i t x ht hax
            simp only at ht hax
            subst ht
            have : ∃ y, al = [y] ∧ F.eval y = x := by
              match al, hax with
              | [y], hq => simp at hq; exact ⟨y, rfl, hq⟩
            obtain ⟨y, rfl, rfl⟩ := this
            split at ha
            · rename_i e c hu hy
              cases ha
              obtain ⟨a, l, hc⟩ := capV_con (E := E) hy
              refine OpOK.pure H ?_ (by simp [sc])
              rw [hrun]
              simp [builtin, hc, Builtin.cap_, run_underlying hu, goInt, con]
            · cases ha
          · cases ha
        · -- clear
          split at ha
          · rename_i t x ht hax
            simp only at ht hax
            subst ht
            have : ∃ y, al = [y] ∧ F.eval y = x := by
              match al, hax with
              | [y], hq => simp at hq; exact ⟨y, rfl, hq⟩
            obtain ⟨y, rfl, rfl⟩ := this
            cases hs : clearOp P h t (F.eval y) with
            | none => simp [hs] at ha
            | some h2 =>
              simp [hs] at ha
              obtain ⟨rfl, rfl⟩ := ha
              obtain ⟨w', h1, h3, h4⟩ := H.clear (ty := type) hs
              refine ⟨E, w', _, ?_, .inl rfl, Agree.refl _ _, by omega, h3, by simp [Eng.undef, sc, scA, scL]⟩
              rw [hrun]
              have h1' : (Builtin.clear_ #[t] type (#[y].map fun x => con E (F.eval x))).run P w = .ok (.tuple #[]) w' := by simpa using h1
              simp only [builtin, Sem.run_bind]
              rw [h1']
              simp [Eng.undef, con, conA, conL]
          · cases ha
        · -- unsafe.SliceData
          split at ha
          · rename_i l c hax
            cases ha
            obtain ⟨y, rfl, hy⟩ := one_of_map hax
            refine OpOK.pure H ?_ (by simp [sc])
            rw [hrun]
            have h1 := unsafeData_run (P := P) (w := w) (E := E) (A := ⟨tl⟩) (ty := type) (x := .slice none l c) (v := .pointer none) (.inl ⟨l, c, rfl, rfl⟩)
            simp only [builtin, List.map_toArray, List.map_cons, List.map_nil, Sem.run_bind]
            rw [hy]
            simp [h1]
          · rename_i a l tk c hax
            split at ha
            · cases ha
            · rename_i k hk
              cases ha
              obtain ⟨y, rfl, hy⟩ := one_of_map hax
              have hsy := hsa y (by simp)
              rw [hy] at hsy
              refine OpOK.pure H ?_ (by simpa [sc] using hsy)
              rw [hrun]
              have h1 := unsafeData_run (P := P) (w := w) (E := E) (A := ⟨tl⟩) (ty := type) (x := .slice (some ⟨a, l, none⟩) tk c) (v := .pointer (some ⟨a, l, none⟩)) (.inr ⟨⟨a, l, none⟩, tk, c, k, rfl, hk, rfl, rfl⟩)
              simp only [builtin, List.map_toArray, List.map_cons, List.map_nil, Sem.run_bind]
              rw [hy, h1]
              simp
          · cases ha
        · -- unsafe.String
          split at ha
          · rename_i t rest p kd n ht hax
            simp only at ht hax
            subst ht
            obtain ⟨y, z, rfl, rfl, hz⟩ := two_of_map hax
            obtain ⟨w', h1, h2, h3, h4⟩ := H.unsafeStr (ty := type) (kd := kd) (_kt := 0) ha rest
            refine ⟨E, w', _, ?_, .inl rfl, Agree.refl _ _, by omega, h2, h4⟩
            rw [hrun]
            simp only [builtin, List.map_toArray, List.map_cons, List.map_nil, Sem.run_bind]
            rw [hz]
            simp only [con] at h1 ⊢
            rw [h1]
            simp
          · cases ha
        · cases ha
      · rename_i f hf
        exact absurd hf (hnc c f rfl)
      · cases ha
    | _ => simp at ha

end
end Go.Eng
