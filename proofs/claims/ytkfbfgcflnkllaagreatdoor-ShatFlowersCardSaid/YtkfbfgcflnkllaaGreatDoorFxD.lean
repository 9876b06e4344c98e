/- A quicker evaluator in passing style: what one operation says. -/
import Derived.Test.YtkfbfgcflnkllaaGreatDoorFxC
namespace Go.Eng

/-- The form of a quick operation in whose stead another may run. -/
def Rule (P : Program) (o : Oper) (c g : OpC) : Prop := OpCOK P o g → OpCOK P o c

section
variable {P : Program} {o : Oper}

theorem says_gen {e : Ev} {F : Fm} {h : Hp} {k : KH} {g : OpC} (hg : OpCOK P o g) (he : EvOK e) (hr : Yes (g.run e F.tm h k)) : Says (evOp e.ef P o F h) k := hg e F h k he hr

theorem evOp_all {callF : CallF} {F : Fm} {h : Hp} (hall : o.op.operands.all (okOpd P) = true) {r : Option (Value × Hp)}
    (hr : (match o.op.operands.all (okOpd P) with | false => none | true => r) = evOp callF P o F h) : evOp callF P o F h = r := by
  rw [← hr, hall]

theorem move_ok {x : Operand} (hall : o.op.operands.all (okOpd P) = true) (ho : o.op = .move x ∨ o.op = .assign x) : OpCOK P o (moveC x) := fun e F h k he hr => by
  simp only [moveC, opdC_eq] at hr
  refine ⟨_, _, ?_, hr⟩
  rcases ho with ho | ho <;> · unfold evOp; rw [hall]; simp only [ho]

theorem pick_ok {c a b : Operand} {g : OpC} (hall : o.op.operands.all (okOpd P) = true) (ho : o.op = .pick c a b) (hg : OpCOK P o g) : OpCOK P o (pickC c a b g) := fun e F h k he hr => by
  simp only [pickC, opdC_eq] at hr
  rcases boolK_ok hr with ⟨t, h1, hr⟩ | hr
  · cases t with
    | true => exact ⟨_, _, by unfold evOp; rw [hall]; simp only [ho, h1]; rfl, hr⟩
    | false => exact ⟨_, _, by unfold evOp; rw [hall]; simp only [ho, h1]; rfl, hr⟩
  · exact says_gen hg he hr

theorem alloc_ok {t : TypeId} {g : OpC} (hall : o.op.operands.all (okOpd P) = true) (ho : o.op = .alloc t) (hg : OpCOK P o g) : OpCOK P o (allocC P t g) := fun e F h k he hr => by
  unfold allocC at hr
  split at hr
  · rename_i z hz
    split at hr
    · rename_i hz2
      simp only [newK_eq] at hr
      exact ⟨_, _, by unfold evOp; rw [hall]; simp only [ho, hz, hz2], hr⟩
    · exact says_gen hg he hr
  · exact says_gen hg he hr

theorem cells_one {v : Value} (hs : scalar v = true) : v.cells.toList = [v] := by
  cases v <;> first | rfl | cases hs

theorem box_ok {t : TypeId} {x : Operand} {g : OpC} (hall : o.op.operands.all (okOpd P) = true) (ho : o.op = .box t x) (hg : OpCOK P o g) : OpCOK P o (boxC t x g) := fun e F h k he hr => by
  simp only [boxC, opdC_eq] at hr
  rcases scalK_ok hr with ⟨hs, hr⟩ | hr
  · rw [newK_eq] at hr
    refine ⟨_, _, ?_, hr⟩
    unfold evOp
    rw [hall]
    simp only [ho, cells_one hs, List.all_cons, List.all_nil, hs, Bool.and_true]
  · rcases aggK_ok hr with ⟨l, h1, hr⟩ | hr
    · rcases allK_ok hr with ⟨h2, hr⟩ | hr
      · rw [newK_eq] at hr
        refine ⟨_, _, ?_, hr⟩
        unfold evOp
        rw [hall]
        simp only [ho, h1, Value.cells, h2]
      · exact says_gen hg he hr
    · exact says_gen hg he hr

theorem load_ok {t : TypeId} {a : Operand} {g : OpC} (hall : o.op.operands.all (okOpd P) = true) (ho : o.op = .load t a) (hg : OpCOK P o g) : OpCOK P o (loadC P t a g) := fun e F h k he hr => by
  unfold loadC at hr
  split at hr
  · rename_i h1
    simp only [opdC_eq] at hr
    rcases ptrK_ok hr with ⟨i, off, h2, hr⟩ | hr
    · obtain ⟨ob, h3, hr⟩ := getK_ok hr
      rcases loadN_one h3 hr with ⟨v, h4, hr⟩ | hr
      · exact ⟨_, _, by unfold evOp; rw [hall]; simp only [ho, loadT, h2, h1, h4, Option.map_some], hr⟩
      · exact says_gen hg he hr
    · exact says_gen hg he hr
  · rename_i n h1 h1'
    simp only [opdC_eq] at hr
    rcases ptrK_ok hr with ⟨i, off, h2, hr⟩ | hr
    · obtain ⟨ob, h3, hr⟩ := getK_ok hr
      rcases loadN_cells h3 hr with ⟨l, h4, hr⟩ | hr
      · exact ⟨_, _, by unfold evOp; rw [hall]; simp only [ho, loadT, h2, h1, h1', h4, Option.map_some], hr⟩
      · exact says_gen hg he hr
    · exact says_gen hg he hr
  · exact says_gen hg he hr

theorem cellsK_ok {ob : AObj} {d : Ans} {k : List Value → TypeId → Bool → Ans} (h : Yes (cellsK ob d k)) : (∃ cs e p, ob = .cells cs e p ∧ Yes (k cs e p)) ∨ Yes (d) := by
  cases ob <;> first | exact .inl ⟨_, _, _, rfl, h⟩ | exact .inr h

theorem store_ok {t : TypeId} {a x : Operand} {g : OpC} (hall : o.op.operands.all (okOpd P) = true) (ho : o.op = .store t a x) (hg : OpCOK P o g) : OpCOK P o (storeC P t a x g) := fun e F h k he hr => by
  unfold storeC at hr
  split at hr
  · rename_i h1
    simp only [opdC_eq] at hr
    rcases ptrK_ok hr with ⟨i, off, h2, hr⟩ | hr
    · rcases scalK_ok hr with ⟨hs, hr⟩ | hr
      · obtain ⟨ob, h3, hr⟩ := getK_ok hr
        rcases cellsK_ok hr with ⟨cs, el, opn, rfl, hr⟩ | hr
        · obtain ⟨hlt, hr⟩ := setK_ok hr
          rw [putK_eq] at hr
          have hsz : (F.eval x).cells.size = 1 := by rw [← Array.length_toList, cells_one hs]; rfl
          have hle : Nat.ble (off + 1) cs.length = true := Nat.ble_eq_true_of_le hlt
          refine ⟨_, _, ?_, hr⟩
          unfold evOp
          rw [hall]
          simp only [ho, storeT, h2, h1, hsz, cells_one hs, storeN, h3, List.length_cons, List.length_nil, Nat.zero_add, hle, List.all_cons, List.all_nil, hs, Bool.and_true, show Nat.beq 1 1 = true from rfl, Option.map_some]
        · exact says_gen hg he hr
      · exact says_gen hg he hr
    · exact says_gen hg he hr
  · rename_i n _ h1
    simp only [opdC_eq] at hr
    rcases ptrK_ok hr with ⟨i, off, h2, hr⟩ | hr
    · rcases aggK_ok hr with ⟨vs, h5, hr⟩ | hr
      · rcases bite_ok hr with ⟨h6, hr⟩ | ⟨_, hr⟩
        · rcases allK_ok hr with ⟨h7, hr⟩ | hr
          · obtain ⟨ob, h3, hr⟩ := getK_ok hr
            rcases cellsK_ok hr with ⟨cs, el, opn, rfl, hr⟩ | hr
            · obtain ⟨hlt, hr⟩ := spliceK_ok hr
              rw [putK_eq] at hr
              have hle : Nat.ble (off + vs.length) cs.length = true := Nat.ble_eq_true_of_le hlt
              refine ⟨_, _, ?_, hr⟩
              unfold evOp
              rw [hall]
              simp only [ho, storeT, h2, h1, h5, Value.cells, List.size_toArray, h6, storeN, h3, hle, h7, Option.map_some]
            · exact says_gen hg he hr
          · exact says_gen hg he hr
        · exact says_gen hg he hr
      · exact says_gen hg he hr
    · exact says_gen hg he hr
  · exact says_gen hg he hr

theorem nilCheck_ok {x : Operand} {g : OpC} (hall : o.op.operands.all (okOpd P) = true) (ho : o.op = .nilCheck x) (hg : OpCOK P o g) : OpCOK P o (nilCheckC x g) := fun e F h k he hr => by
  simp only [nilCheckC, opdC_eq] at hr
  rcases ptrK_ok hr with ⟨i, off, h2, hr⟩ | hr
  · rw [h2] at hr
    exact ⟨_, _, by unfold evOp; rw [hall]; simp only [ho, h2], hr⟩
  · exact says_gen hg he hr

theorem pureOp_of {ρ : Operand → Value} {v : Value} (hf : (o.op.operands.all fun x => flat (ρ x)) = true) (hx : pureRun P (execOp ρ o) = some (.value v)) (hv : flat v = true) : pureOp P ρ o = some v := by
  unfold pureOp
  rw [hf]
  simp only [hx, hv]

theorem pureRun_val {q : Sem Value} {v : Value} (h : pureRun P q = some v) : pureRun P (do let r ← q; pure (.value r) : Sem Next) = some (.value v) := by
  induction q with
  | pure a => simp only [pureRun, Option.some.injEq] at h; subst h; rfl
  | program k ih => exact ih P h
  | _ => cases h

theorem binOp_ok {op : BinOp} {t : TypeId} {x y : Operand} {c : TypeId} {g : OpC} (hall : o.op.operands.all (okOpd P) = true) (ho : o.op = .binOp op t x y c) (hg : OpCOK P o g) : OpCOK P o (binOpC op x y g) := fun e F h k he hr => by
  simp only [binOpC, opdC_eq] at hr
  rcases intK_ok hr with ⟨ka, a, h1, hr⟩ | hr
  · rcases intK_ok hr with ⟨kb, b, h2, hr⟩ | hr
    · rcases binC_ok P op t hr with ⟨v, h3, h4, hr⟩ | hr
      · refine ⟨v, h, ?_, hr⟩
        have hp : pureOp P F.eval o = some v := by
          refine pureOp_of ?_ ?_ h4
          · rw [ho]; simp [Op.operands, h1, h2, flat]
          · simp only [execOp, ho, h1, h2]
            refine pureRun_val ?_
            have : eqGuard op t x y (.int ka a) (.int kb b) = pure () := by
              unfold eqGuard
              split <;> rfl
            rw [this]
            exact h3
        unfold evOp
        rw [hall]
        simp only [ho, h1, h2, flat, Bool.and_self, hp, Option.map_some]
      · exact says_gen hg he hr
    · exact says_gen hg he hr
  · exact says_gen hg he hr

theorem unOp_ok {op : UnOp} {t : TypeId} {x : Operand} {g : OpC} (hall : o.op.operands.all (okOpd P) = true) (ho : o.op = .unOp op t x) (hg : OpCOK P o g) : OpCOK P o (unOpC op x g) := fun e F h k he hr => by
  unfold unOpC at hr
  split at hr
  · simp only [opdC_eq] at hr
    rcases boolK_ok hr with ⟨b, h1, hr⟩ | hr
    · have hp : pureOp P F.eval o = some (.bool !b) := by
        refine pureOp_of ?_ ?_ rfl
        · rw [ho]; simp [Op.operands, h1, flat]
        · simp only [execOp, ho, h1]
          exact pureRun_val rfl
      refine ⟨.bool !b, h, ?_, ?_⟩
      · unfold evOp
        rw [hall]
        simp only [ho, hp, Option.map_some]
      · cases b <;> exact hr
    · exact says_gen hg he hr
  · simp only [opdC_eq] at hr
    rcases intK_ok hr with ⟨kd, n, h1, hr⟩ | hr
    · rw [wrapK_eq] at hr
      have hp : pureOp P F.eval o = some (.int kd (kd.wrap (Int.sub 0 n))) := by
        refine pureOp_of ?_ ?_ rfl
        · rw [ho]; simp [Op.operands, h1, flat]
        · simp only [execOp, ho, h1]
          exact pureRun_val rfl
      refine ⟨_, h, ?_, hr⟩
      unfold evOp
      rw [hall]
      simp only [ho, hp, Option.map_some]
    · exact says_gen hg he hr
  · exact says_gen hg he hr

theorem conv_ok {s d : TypeId} {x : Operand} {g : OpC} (hall : o.op.operands.all (okOpd P) = true) (ho : o.op = .convert s d x) (hg : OpCOK P o g) : OpCOK P o (convC P s d x g) := fun e F h k he hr => by
  unfold convC at hr
  split at hr
  · rename_i ds kd hs hd
    simp only [opdC_eq] at hr
    rcases intK_ok hr with ⟨kx, n, h1, hr⟩ | hr
    · rw [wrapK_eq] at hr
      have hp : pureOp P F.eval o = some (.int kd (kd.wrap n)) := by
        refine pureOp_of ?_ ?_ rfl
        · rw [ho]; simp [Op.operands, h1, flat]
        · simp only [execOp, ho, h1]
          refine pureRun_val ?_
          simp only [convert, underlying, program, bind, Sem.bind, pureRun, hs, hd, pure]
          cases ds <;> rfl
      refine ⟨_, h, ?_, hr⟩
      unfold evOp
      rw [hall]
      simp only [ho, hp, Option.map_some]
    · exact says_gen hg he hr
  · exact says_gen hg he hr

theorem fieldAddr_ok {t : TypeId} {x : Operand} {f : Nat} {g : OpC} (hall : o.op.operands.all (okOpd P) = true) (ho : o.op = .fieldAddr t x f) (hg : OpCOK P o g) : OpCOK P o (fieldAddrC P t x f g) := fun e F h k he hr => by
  unfold fieldAddrC at hr
  split at hr
  · rename_i fs h1
    split at hr
    · rename_i fd h2
      split at hr
      · rename_i n h3
        simp only [opdC_eq] at hr
        rcases ptrK_ok hr with ⟨i, off, h4, hr⟩ | hr
        · exact ⟨_, _, by unfold evOp; rw [hall]; simp only [ho, fieldAddrOp, h1, h4, h2, h3, Option.map_some]; rfl, hr⟩
        · exact says_gen hg he hr
      · exact says_gen hg he hr
    · exact says_gen hg he hr
  · exact says_gen hg he hr

theorem indexAddr_ok {t : TypeId} {x ix : Operand} {g : OpC} (hall : o.op.operands.all (okOpd P) = true) (ho : o.op = .indexAddr t x ix) (hg : OpCOK P o g) : OpCOK P o (indexAddrC P t x ix g) := fun e F h k he hr => by
  unfold indexAddrC at hr
  split at hr
  · rename_i n el h1
    split at hr
    · rename_i s h2
      simp only [opdC_eq] at hr
      rcases ptrK_ok hr with ⟨i, off, h4, hr⟩ | hr
      · rcases intK_ok hr with ⟨kd, j, h5, hr⟩ | hr
        · rcases natK_ok hr with ⟨j, rfl, hr⟩ | hr
          · rcases bite_ok hr with ⟨h6, hr⟩ | ⟨_, hr⟩
            · refine ⟨_, _, ?_, hr⟩
              have h5' : F.eval ix = .int kd (.ofNat j) := h5
              unfold evOp
              rw [hall]
              simp only [ho, indexAddrOp, h5', natOf, h1, h4, h6, h2, Option.map_some]
              rfl
            · exact says_gen hg he hr
          · exact says_gen hg he hr
        · exact says_gen hg he hr
      · exact says_gen hg he hr
    · exact says_gen hg he hr
  · rename_i el h1
    split at hr
    · rename_i s h2
      simp only [opdC_eq] at hr
      rcases sliceK_ok hr with ⟨a, len, cp, h4, hr⟩ | hr
      · rcases addrK_ok hr with ⟨i, off, rfl, hr⟩ | hr
        · rcases intK_ok hr with ⟨kd, j, h5, hr⟩ | hr
          · rcases natK_ok hr with ⟨j, rfl, hr⟩ | hr
            · rcases bite_ok hr with ⟨h6, hr⟩ | ⟨_, hr⟩
              · refine ⟨_, _, ?_, hr⟩
                have h5' : F.eval ix = .int kd (.ofNat j) := h5
                unfold evOp
                rw [hall]
                simp only [ho, indexAddrOp, h5', natOf, h1, h4, h6, h2, Option.map_some]
                rfl
              · exact says_gen hg he hr
            · exact says_gen hg he hr
          · exact says_gen hg he hr
        · exact says_gen hg he hr
      · exact says_gen hg he hr
    · exact says_gen hg he hr
  · exact says_gen hg he hr

theorem extract_ok {t : Operand} {i : Nat} {g : OpC} (hall : o.op.operands.all (okOpd P) = true) (ho : o.op = .extract t i) (hg : OpCOK P o g) : OpCOK P o (extractC t i g) := fun e F h k he hr => by
  simp only [extractC, opdC_eq] at hr
  rcases tupleK_ok hr with ⟨l, h1, hr⟩ | hr
  · obtain ⟨v, h2, hr⟩ := nthK_ok hr
    refine ⟨v, h, ?_, hr⟩
    unfold evOp
    rw [hall]
    simp only [ho, h1, List.getElem?_toArray, h2, Option.map_some]
  · exact says_gen hg he hr

theorem tgtK_ok {i : Option Inv} {k : Inv → Ans} (h : Yes (tgtK i k)) : ∃ j, i = some j ∧ Yes (k j) := by
  cases i with
  | none => cases h
  | some j => exact ⟨j, rfl, h⟩

theorem boolEq_ok {op : BinOp} {t : TypeId} {x y : Operand} {c : TypeId} {g : OpC} (hu : P.underlying t = some .bool) (hall : o.op.operands.all (okOpd P) = true) (ho : o.op = .binOp op t x y c) (hg : OpCOK P o g) : OpCOK P o (boolEqC op x y g) := fun e F h k he hr => by
  have hp : ∀ (a b r : Bool), F.eval x = .bool a → F.eval y = .bool b → (op = .eql ∧ r = (a == b)) ∨ (op = .neq ∧ r = !(a == b)) → evOp e.ef P o F h = some (.bool r, h) := fun a b r h1 h2 h3 => by
    have hp : pureOp P F.eval o = some (.bool r) := by
      refine pureOp_of ?_ ?_ rfl
      · rw [ho]; simp [Op.operands, h1, h2, flat]
      · simp only [execOp, ho, h1, h2]
        refine pureRun_val ?_
        have h4 : eqGuard op t x y (.bool a) (.bool b) = pure () := by
          unfold eqGuard
          split <;> rfl
        have h5 : pureRun P (Op.equal t (.bool a) (.bool b)) = some (a == b) := by
          unfold Op.equal
          change pureRun P (Op.equalIn (9999 + 1) t (.bool a) (.bool b)) = some (a == b)
          unfold Op.equalIn
          simp only [underlying, program, bind, Sem.bind, pureRun, hu, pure]
        rw [h4]
        rcases h3 with ⟨rfl, rfl⟩ | ⟨rfl, rfl⟩
        · change pureRun P ((Op.equal t (.bool a) (.bool b)).bind fun r => Sem.pure (Value.bool r)) = _
          rw [pureRun_bnd, h5]
          rfl
        · change pureRun P ((Op.equal t (.bool a) (.bool b)).bind fun r => Sem.pure (Value.bool !r)) = _
          rw [pureRun_bnd, h5]
          rfl
    unfold evOp
    rw [hall]
    simp only [ho, h1, h2, flat, Bool.and_self, hp, Option.map_some]
  unfold boolEqC at hr
  split at hr
  · simp only [opdC_eq] at hr
    rcases boolK_ok hr with ⟨a, h1, r1⟩ | r1
    · rcases boolK_ok r1 with ⟨b, h2, r2⟩ | r2
      · cases a <;> cases b <;> exact ⟨_, h, hp _ _ _ h1 h2 (.inl ⟨rfl, rfl⟩), r2⟩
      · exact says_gen hg he r2
    · exact says_gen hg he r1
  · simp only [opdC_eq] at hr
    rcases boolK_ok hr with ⟨a, h1, r1⟩ | r1
    · rcases boolK_ok r1 with ⟨b, h2, r2⟩ | r2
      · cases a <;> cases b <;> exact ⟨_, h, hp _ _ _ h1 h2 (.inr ⟨rfl, rfl⟩), r2⟩
      · exact says_gen hg he r2
    · exact says_gen hg he r1
  · exact says_gen hg he hr

theorem bin2_ok {op : BinOp} {t : TypeId} {x y : Operand} {c : TypeId} {g : OpC} (hall : o.op.operands.all (okOpd P) = true) (ho : o.op = .binOp op t x y c) (hg : OpCOK P o g) : OpCOK P o (binC2 P op t x y g) := by
  unfold binC2
  split
  · rename_i hu
    exact boolEq_ok hu hall ho hg
  · exact binOp_ok hall ho hg

theorem lookup_ok {t : TypeId} {x y : Operand} {ok : Bool} {g : OpC} (hall : o.op.operands.all (okOpd P) = true) (ho : o.op = .lookup t x y ok) (hg : OpCOK P o g) : OpCOK P o (lookupC P t x y ok g) := fun e F h k he hr => by
  unfold lookupC at hr
  split at hr
  · rename_i kt et hu
    split at hr
    · rename_i d z hd hz
      have key : ∀ {s : Value → Ans} {n : Ans} {f : Bool → Value → Value}, (∀ b w, f b w = if ok then .tuple #[w, .bool b] else w) → (∀ w, s w = k (f true w) h) → n = k (f false z) h →
          Yes ((mapK (F.eval x) (g.run e F.tm h k) fun r => getK h r fun ob => mapObjK ob (g.run e F.tm h k) fun es _ => (askC d).run (F.eval y) (g.run e F.tm h k) fun q => flatsK (flatC d) es (g.run e F.tm h k) (findK q es (g.run e F.tm h k) s n))) → Says (evOp e.ef P o F h) k := by
        intro s n f hf hs hn r0
        rcases mapK_ok r0 with ⟨r, h1, r1⟩ | r1
        · obtain ⟨ob, h2, r2⟩ := getK_ok r1
          rcases mapObjK_ok r2 with ⟨es, c, e3, r3⟩ | r3
          · subst e3
            rcases askC_ok r3 with ⟨q, h4, h5, h6, r4⟩ | r4
            · rcases flatsK_ok r4 with ⟨h7, r5⟩ | r5
              · have hf0 : ∀ {r}, findR d (F.eval y) es 0 = some r → findIn P kt (F.eval y) es = some r := fun hfr => findIn_ok hd h5 h7 hfr
                rcases findK_ok h4 0 r5 with ⟨i, v, h8, r6⟩ | ⟨h8, r6⟩ | r6
                · rw [hs] at r6
                  refine ⟨_, h, ?_, r6⟩
                  unfold evOp
                  rw [hall]
                  simp only [ho, lookupOp, hu, h6, h1, h2, hf0 h8, hf, Option.map_some]
                · rw [hn] at r6
                  refine ⟨_, h, ?_, r6⟩
                  unfold evOp
                  rw [hall]
                  simp only [ho, lookupOp, hu, h6, h1, h2, hf0 h8, hz, hf, Option.map_some]
                · exact says_gen hg he r6
              · exact says_gen hg he r5
            · exact says_gen hg he r4
          · exact says_gen hg he r3
        · exact says_gen hg he r1
      split at hr
      · simp only [opdC_eq] at hr
        exact key (f := fun b w => .tuple #[w, .bool b]) (fun b w => rfl) (fun w => rfl) rfl hr
      · simp only [opdC_eq] at hr
        exact key (f := fun _ w => w) (fun b w => rfl) (fun w => rfl) rfl hr
    · exact says_gen hg he hr
  · exact says_gen hg he hr

theorem update_ok {t : TypeId} {x y z : Operand} {g : OpC} (hall : o.op.operands.all (okOpd P) = true) (ho : o.op = .mapUpdate t x y z ∨ o.op = .insert t x y z) (hg : OpCOK P o g) : OpCOK P o (updateC P t x y z g) := fun e F h k he hr => by
  unfold updateC at hr
  split at hr
  · rename_i kt et hu
    split at hr
    · rename_i d hd
      simp only [opdC_eq] at hr
      rcases mapK_ok hr with ⟨r, h1, r1⟩ | r1
      · obtain ⟨ob, h2, r2⟩ := getK_ok r1
        rcases mapObjK_ok r2 with ⟨es, c, e3, r3⟩ | r3
        · subst e3
          rcases askC_ok r3 with ⟨q, h4, h5, h6, r4⟩ | r4
          · rcases flatsK_ok r4 with ⟨h7, r5⟩ | r5
            · rcases findK_ok h4 0 r5 with ⟨i, v, h8, r6⟩ | ⟨h8, r6⟩ | r6
              · exact says_gen hg he r6
              · simp only [snocK_eq, forceN_eq, putK_eq] at r6
                refine ⟨_, _, ?_, r6⟩
                have h9 := findIn_ok (e := false) hd h5 h7 h8
                have h10 : mapUpdateOp P h t (F.eval x) (F.eval y) (F.eval z) = some (h.put r (.map (es ++ [⟨F.eval y, F.eval z, c⟩]) (c + 1))) := by
                  unfold mapUpdateOp
                  simp only [hu, h6, h1, h2]
                  rw [h7] at h9 ⊢
                  simp only [] at h9
                  simp only [h9]
                unfold evOp
                rw [hall]
                rcases ho with ho | ho <;> simp only [ho, h10, Option.map_some]
              · exact says_gen hg he r6
            · exact says_gen hg he r5
          · exact says_gen hg he r4
        · exact says_gen hg he r3
      · exact says_gen hg he r1
    · exact says_gen hg he hr
  · exact says_gen hg he hr

theorem most_ok {c : Call} {less : Bool} {g : OpC} (hall : o.op.operands.all (okOpd P) = true) (ho : o.op = .call c) (hc : c.callee = .builtin (if less then .min else .max)) (hg : OpCOK P o g) : OpCOK P o (mostC c less g) := fun e F h k he hr => by
  unfold mostC at hr
  split at hr
  · rename_i x y hxy
    have harr : c.args = #[x, y] := by
      rw [← Array.toArray_toList (xs := c.args), hxy]
    have key : ∀ (ka kb : IntKind) (a b r : Int), F.eval x = .int ka a → F.eval y = .int kb b → r = (if less then (if b < a then b else a) else (if b > a then b else a)) → evOp e.ef P o F h = some (.int ka r, h) := fun ka kb a b r h1 h2 h3 => by
      have hp : pureOp P F.eval o = some (.int ka r) := by
        refine pureOp_of ?_ ?_ rfl
        · rw [ho]
          simp [Op.operands, Call.operands, hc, harr, h1, h2, flat]
        · rw [h3]
          cases less <;> simp [execOp, ho, resolve, hc, harr, h1, h2, invoke, builtin, Builtin.max_, Builtin.min_, Builtin.max2, Builtin.min2, bind, Sem.bind, pure, pureRun]
      unfold evOp
      rw [hall]
      cases less <;> simp only [ho, hc, builtinOp, hp, Option.map_some, if_true, Bool.false_eq_true, if_false]
    split at hr
    · simp only [opdC_eq] at hr
      rcases intK_ok hr with ⟨ka, a, h1, r1⟩ | r1
      · rcases intK_ok r1 with ⟨kb, b, h2, r2⟩ | r2
        · rw [leI_eq] at r2
          rcases bite_ok r2 with ⟨h3, r3⟩ | ⟨h3, r3⟩
          · exact ⟨_, h, key ka kb a b a h1 h2 (by have := of_decide_eq_true h3; simp only [Bool.false_eq_true, if_false]; rw [if_neg (by omega)]), r3⟩
          · exact ⟨_, h, key ka kb a b b h1 h2 (by have := of_decide_eq_false h3; simp only [Bool.false_eq_true, if_false]; rw [if_pos (by omega)]), r3⟩
        · exact says_gen hg he r2
      · exact says_gen hg he r1
    · simp only [opdC_eq] at hr
      rcases intK_ok hr with ⟨ka, a, h1, r1⟩ | r1
      · rcases intK_ok r1 with ⟨kb, b, h2, r2⟩ | r2
        · rw [leI_eq] at r2
          rcases bite_ok r2 with ⟨h3, r3⟩ | ⟨h3, r3⟩
          · exact ⟨_, h, key ka kb a b a h1 h2 (by have := of_decide_eq_true h3; simp only [if_true]; rw [if_neg (by omega)]), r3⟩
          · exact ⟨_, h, key ka kb a b b h1 h2 (by have := of_decide_eq_false h3; simp only [if_true]; rw [if_pos (by omega)]), r3⟩
        · exact says_gen hg he r2
      · exact says_gen hg he r1
  · exact says_gen hg he hr

theorem call_ok {c : Call} {g : OpC} (hall : o.op.operands.all (okOpd P) = true) (ho : o.op = .call c) (hg : OpCOK P o g) : OpCOK P o (callC P c g) := fun e F h k he hr => by
  unfold callC at hr
  split at hr
  · rename_i hc
    unfold lenC at hr
    split at hr
    · rename_i t x ht hx
      split at hr
      · rename_i el hu
        simp only [opdC_eq] at hr
        rcases sliceK_ok hr with ⟨a, n, cp, h1, hr⟩ | hr
        · refine ⟨_, _, ?_, hr⟩
          unfold evOp
          rw [hall]
          simp only [ho, hc, builtinOp, ht, hx, List.map_cons, List.map_nil, hu, h1]
          rfl
        · exact says_gen hg he hr
      · exact says_gen hg he hr
    · exact says_gen hg he hr
  · rename_i hc
    exact most_ok (less := false) hall ho hc hg e F h k he hr
  · rename_i hc
    exact most_ok (less := true) hall ho hc hg e F h k he hr
  · exact says_gen hg he hr
  · rename_i i hc
    simp only [] at hr
    split at hr
    · rename_i hse
      simp only [argsC_eq] at hr
      obtain ⟨v, h', h1, h2⟩ := he _ _ _ hr
      refine ⟨v, h', ?_, h2⟩
      unfold evOp
      rw [hall]
      simp only [ho, hc, hse, Fm.eval, target, List.nil_append, List.append_nil]
      exact h1
    · rename_i n g' hse
      simp only [argsC_eq] at hr
      obtain ⟨v, h', h1, h2⟩ := genK_ok hr
      refine ⟨v, h', ?_, h2⟩
      unfold evOp
      rw [hall]
      simp only [ho, hc, hse]
      exact h1
  · rename_i f _ hc
    simp only [argsC_eq, opdC_eq] at hr
    obtain ⟨i, h0, hr⟩ := tgtK_ok hr
    obtain ⟨v, h', h1, h2⟩ := he _ _ _ hr
    refine ⟨v, h', ?_, h2⟩
    have hse : staticExt P f = none := by
      rename_i hnf _
      cases f with
      | func i => exact absurd rfl (hnf i)
      | _ => rfl
    unfold evOp
    rw [hall]
    simp only [ho, hc, hse, h0]
    exact h1
  · exact says_gen hg he hr

theorem opC_ok (P : Program) (o : Oper) : OpCOK P o (opC P o) := by
  unfold opC
  cases hall : o.op.operands.all (okOpd P) with
  | false => intro e F h k he hr; cases hr
  | true =>
    have hg := genC_ok P o
    simp only []
    split
    · rename_i ho; exact move_ok hall (.inl ho)
    · rename_i ho; exact move_ok hall (.inr ho)
    · rename_i ho; exact pick_ok hall ho hg
    · rename_i ho; exact alloc_ok hall ho hg
    · rename_i ho; exact box_ok hall ho hg
    · rename_i ho; exact load_ok hall ho hg
    · rename_i ho; exact store_ok hall ho hg
    · rename_i ho; exact nilCheck_ok hall ho hg
    · rename_i ho; exact bin2_ok hall ho hg
    · rename_i ho; exact unOp_ok hall ho hg
    · rename_i ho; exact conv_ok hall ho hg
    · rename_i ho; exact fieldAddr_ok hall ho hg
    · rename_i ho; exact indexAddr_ok hall ho hg
    · rename_i ho; exact extract_ok hall ho hg
    · rename_i ho; exact lookup_ok hall ho hg
    · rename_i ho; exact update_ok hall (.inl ho) hg
    · rename_i ho; exact update_ok hall (.inr ho) hg
    · rename_i ho; exact call_ok hall ho hg
    · exact hg

end
end Go.Eng
