/- What an operation of the evaluator hangs on. -/
import Derived.Test.YtkfbfgcflnkllaaGreatDoorEngJ
namespace Go.Eng
open Go.RowKit

section
variable {P : Program}

theorem pureOp_congr {ρ ρ' : Operand → Value} {o : Oper} (hs : ∀ cs b, o.op ≠ .select cs b) (h : ∀ x ∈ o.op.operands, ρ x = ρ' x) : pureOp P ρ o = pureOp P ρ' o := by
  unfold pureOp
  have e1 : (o.op.operands.all fun x => flat (ρ x)) = (o.op.operands.all fun x => flat (ρ' x)) := by
    rw [Bool.eq_iff_iff, Array.all_eq_true_iff_forall_mem, Array.all_eq_true_iff_forall_mem]
    constructor <;> intro hh x hx
    · rw [← h x hx]; exact hh x hx
    · rw [h x hx]; exact hh x hx
  rw [e1, execOp_congr o hs h]

theorem evOp_congr {callF : CallF} {o : Oper} {F G : Fm} {h : Hp} (hFG : ∀ x ∈ o.op.operands, F.eval x = G.eval x) : evOp callF P o F h = evOp callF P o G h := by
  unfold evOp
  have hp : (∀ cs b, o.op ≠ .select cs b) → pureOp P F.eval o = pureOp P G.eval o := fun hs => pureOp_congr hs hFG
  obtain ⟨dst, op, type, pos, after, guard⟩ := o
  dsimp only at hFG hp ⊢
  split
  · rfl
  · have pairs : ∀ ps : Array (Nat × Operand), (∀ x ∈ (ps.toList.map (·.2)).toArray, F.eval x = G.eval x) → (ps.toList.map fun (i, x) => (i, F.eval x)) = (ps.toList.map fun (i, x) => (i, G.eval x)) := fun ps hps =>
      List.map_congr_left fun q hq => by
        obtain ⟨i, x⟩ := q
        simp only [hps x (by simp only [List.mem_toArray, List.mem_map]; exact ⟨(i, x), hq, rfl⟩)]
    cases op with
    | build t ps => simp only; rw [pairs ps (by simpa [Op.operands] using hFG)]
    | buildSlice t n ps => simp only; rw [pairs ps (by simpa [Op.operands] using hFG)]
    | makeFunc fn first cap =>
      simp only
      rw [Array.map_congr_left (xs := first) fun x hx => hFG x (by simp [Op.operands, hx]), Array.map_congr_left (xs := cap) fun x hx => hFG x (by simp [Op.operands, hx])]
    | makeMap t r =>
      cases r with
      | none => rfl
      | some x => simp only; rw [hFG x (by simp [Op.operands])]
    | slice t x lo hi mx =>
      simp only
      rw [hp (by simp), hFG x (by simp [Op.operands])]
      cases lo <;> cases hi <;> cases mx <;> simp_all [Op.operands]
    | call c =>
      obtain ⟨callee, args, ats⟩ := c
      have ha : args.toList.map F.eval = args.toList.map G.eval := List.map_congr_left fun x hx => hFG x (by simp [Op.operands, Call.operands]; right; simpa using hx)
      cases callee with
      | builtin b =>
        simp only [ha]
        unfold builtinOp
        rw [hp (by simp)]
      | value f => simp only [ha]; rw [hFG f (by simp [Op.operands, Call.operands])]
      | invoke r m => rfl
    | move x => simp only; rw [hFG x (by simp [Op.operands])]
    | assign x => simp only; rw [hFG x (by simp [Op.operands])]
    | pick c a b => simp only; rw [hFG c (by simp [Op.operands]), hFG a (by simp [Op.operands]), hFG b (by simp [Op.operands])]
    | box e x => simp only; rw [hFG x (by simp [Op.operands])]
    | load t a => simp only; rw [hFG a (by simp [Op.operands])]
    | store t a x => simp only; rw [hFG a (by simp [Op.operands]), hFG x (by simp [Op.operands])]
    | nilCheck x => simp only; rw [hFG x (by simp [Op.operands])]
    | binOp op t x y ty => simp only; rw [hp (by simp), hFG x (by simp [Op.operands]), hFG y (by simp [Op.operands])]
    | unOp op t x => simp only; rw [hp (by simp)]
    | convert s d x => simp only; rw [hp (by simp)]
    | makeInterface t x => simp only; rw [hFG x (by simp [Op.operands])]
    | makeSlice t l c => simp only; rw [hFG l (by simp [Op.operands]), hFG c (by simp [Op.operands])]
    | fieldAddr t x f => simp only; rw [hFG x (by simp [Op.operands])]
    | field t x f => simp only; rw [hFG x (by simp [Op.operands])]
    | indexAddr t x i => simp only; rw [hFG x (by simp [Op.operands]), hFG i (by simp [Op.operands])]
    | index t x i => simp only; rw [hp (by simp)]
    | lookup t x k ok => simp only; rw [hFG x (by simp [Op.operands]), hFG k (by simp [Op.operands])]
    | mapUpdate t m k x => simp only; rw [hFG m (by simp [Op.operands]), hFG k (by simp [Op.operands]), hFG x (by simp [Op.operands])]
    | insert t m k x => simp only; rw [hFG m (by simp [Op.operands]), hFG k (by simp [Op.operands]), hFG x (by simp [Op.operands])]
    | mapEntry t m k => simp only; rw [hFG m (by simp [Op.operands]), hFG k (by simp [Op.operands])]
    | entryStore t m s x => simp only; rw [hFG m (by simp [Op.operands]), hFG s (by simp [Op.operands]), hFG x (by simp [Op.operands])]
    | extract t i => simp only; rw [hFG t (by simp [Op.operands])]
    | range t x => simp only; rw [hFG x (by simp [Op.operands])]
    | next it isS => simp only; rw [hFG it (by simp [Op.operands])]
    | _ => rfl

/-- What turns no heap gives the heap back. -/
theorem evOp_noeff {callF : CallF} {o : Oper} {F : Fm} {h h' : Hp} {v : Value} (he : isEff o.op = false) (ha : evOp callF P o F h = some (v, h')) : h' = h := by
  unfold evOp at ha
  split at ha
  · cases ha
  · obtain ⟨dst, op, type, pos, after, guard⟩ := o
    dsimp only at he ha
    cases op with
    | call c =>
      obtain ⟨callee, args, ats⟩ := c
      cases callee with
      | builtin b =>
        simp only at ha
        cases b <;> simp [isEff] at he <;> simp only [builtinOp] at ha
        · split at ha
          · split at ha
            · cases ha; rfl
            · split at ha
              · cases ha; rfl
              · cases ha
            · exact (map_some ha).2
          · cases ha
        · exact (map_some ha).2
        · exact (map_some ha).2
      | value f => simp [isEff] at he
      | invoke r m => simp [isEff] at he
    | alloc e => simp [isEff] at he
    | box e x => simp [isEff] at he
    | buildSlice t n ps => simp [isEff] at he
    | store t a x => simp [isEff] at he
    | makeMap t r => simp [isEff] at he
    | makeSlice t l c => simp [isEff] at he
    | mapUpdate t m k x => simp [isEff] at he
    | insert t m k x => simp [isEff] at he
    | mapEntry t m k => simp [isEff] at he
    | entryStore t m s x => simp [isEff] at he
    | range t x => simp [isEff] at he
    | next it isS => simp [isEff] at he
    | move x => cases ha; rfl
    | assign x => cases ha; rfl
    | pick c a b =>
      simp only at ha
      split at ha
      · cases ha; rfl
      · cases ha
    | build t ps => exact (map_some ha).2
    | load t a => exact (map_some ha).2
    | nilCheck x =>
      simp only at ha
      split at ha <;> first | (cases ha; rfl) | cases ha
    | binOp op t x y ty =>
      simp only at ha
      split at ha
      · exact (map_some ha).2
      · split at ha <;> first | (cases ha; rfl) | cases ha
    | unOp op t x => exact (map_some ha).2
    | convert s d x => exact (map_some ha).2
    | makeInterface t x =>
      simp only at ha
      split at ha <;> first | (cases ha; rfl) | cases ha
    | makeFunc fn first cap =>
      simp only at ha
      split at ha <;> first | (cases ha; rfl) | cases ha
    | slice t x lo hi mx =>
      simp only at ha
      split at ha
      · exact (map_some ha).2
      · split at ha
        · cases ha
        · exact (map_some ha).2
    | fieldAddr t x f => exact (map_some ha).2
    | field t x f => exact (map_some ha).2
    | indexAddr t x i => exact (map_some ha).2
    | index t x i => exact (map_some ha).2
    | lookup t x k ok => exact (map_some ha).2
    | extract t i =>
      simp only at ha
      split at ha
      · exact (map_some ha).2
      · cases ha
    | _ => simp at ha

theorem map_any {x : Option Value} {h h' : Hp} {v : Value} (hm : x.map (·, h) = some (v, h')) (g : Hp) : x.map (·, g) = some (v, g) := by
  rw [(map_some hm).1]
  rfl

/-- What doesn't look at the heap gives the same over any heap. -/
theorem evOp_pure {callF : CallF} {o : Oper} {F : Fm} {h h' : Hp} {v : Value} (he : isEff o.op = false) (hr : isRead o.op = false) (ha : evOp callF P o F h = some (v, h')) (g : Hp) : evOp callF P o F g = some (v, g) := by
  unfold evOp at ha ⊢
  split at ha
  · cases ha
  · rename_i hok
    obtain ⟨dst, op, type, pos, after, guard⟩ := o
    dsimp only at he hr ha hok ⊢
    cases op with
    | call c => simp [isRead] at hr
    | load t a => simp [isRead] at hr
    | lookup t x k ok => simp [isRead] at hr
    | alloc e => simp [isEff] at he
    | box e x => simp [isEff] at he
    | buildSlice t n ps => simp [isEff] at he
    | store t a x => simp [isEff] at he
    | makeMap t r => simp [isEff] at he
    | makeSlice t l c => simp [isEff] at he
    | mapUpdate t m k x => simp [isEff] at he
    | insert t m k x => simp [isEff] at he
    | mapEntry t m k => simp [isEff] at he
    | entryStore t m s x => simp [isEff] at he
    | range t x => simp [isEff] at he
    | next it isS => simp [isEff] at he
    | move x => cases ha; rfl
    | assign x => cases ha; rfl
    | pick c a b =>
      simp only at ha ⊢
      split at ha
      · cases ha; rfl
      · cases ha
    | build t ps => exact map_any ha g
    | nilCheck x =>
      simp only at ha ⊢
      split at ha <;> first | (cases ha; rfl) | cases ha
    | binOp op t x y ty =>
      simp only at ha ⊢
      split at ha
      · exact map_any ha g
      · split at ha <;> first | (cases ha; rfl) | cases ha
    | unOp op t x => exact map_any ha g
    | convert s d x => exact map_any ha g
    | makeInterface t x =>
      simp only at ha ⊢
      split at ha <;> first | (cases ha; rfl) | cases ha
    | makeFunc fn first cap =>
      simp only at ha ⊢
      split at ha <;> first | (cases ha; rfl) | cases ha
    | slice t x lo hi mx =>
      simp only at ha ⊢
      split at ha
      · exact map_any ha g
      · split at ha
        · cases ha
        · exact map_any ha g
    | fieldAddr t x f => exact map_any ha g
    | field t x f => exact map_any ha g
    | indexAddr t x i => exact map_any ha g
    | index t x i => exact map_any ha g
    | extract t i =>
      simp only at ha ⊢
      split at ha
      · exact map_any ha g
      · cases ha
    | _ => simp at ha

mutual
theorem veq_eq : ∀ (a b : Value), veq a b = true → a = b
  | .bool a, .bool b, h => by simp [veq] at h; simp [h]
  | .int j a, .int k b, h => by simp [veq] at h; simp [h]
  | .string a, .string b, h => by simp [veq] at h; simp [h]
  | .pointer a, .pointer b, h => by simp [veq] at h; simp [h]
  | .slice a l c, .slice b m d, h => by
    simp only [veq, Bool.and_eq_true, decide_eq_true_eq] at h
    rw [h.1.1, Tr.beq_true h.1.2, Tr.beq_true h.2]
  | .map a, .map b, h => by simp [veq] at h; simp [h]
  | .func f a b, .func g c d, h => by
    simp only [veq, Bool.and_eq_true, decide_eq_true_eq] at h
    rw [h.1.1, veqA_eq a c h.1.2, veqA_eq b d h.2]
  | .nilFunc, .nilFunc, _ => rfl
  | .iface t v, .iface u w, h => by
    simp only [veq, Bool.and_eq_true] at h
    rw [Tr.beq_true h.1, veq_eq v w h.2]
  | .nilIface, .nilIface, _ => rfl
  | .agg a, .agg b, h => by simp only [veq] at h; rw [veqA_eq a b h]
  | .tuple a, .tuple b, h => by simp only [veq] at h; rw [veqA_eq a b h]
  | .float _ _, b, h => by simp [veq] at h
  | .complex _ _ _, b, h => by simp [veq] at h
  | .chan _, b, h => by simp [veq] at h
theorem veqA_eq : ∀ (a b : Array Value), veqA a b = true → a = b
  | ⟨a⟩, ⟨b⟩, h => by simp only [veqA] at h; rw [veqL_eq a b h]
theorem veqL_eq : ∀ (a b : List Value), veqL a b = true → a = b
  | [], [], _ => rfl
  | a :: r, b :: q, h => by
    simp only [veqL, Bool.and_eq_true] at h
    rw [veq_eq a b h.1, veqL_eq r q h.2]
end

end
end Go.Eng
