/- What the evaluator's values, frames and heaps stand for in the model: the plain lemmas. -/
import Derived.Test.YtkfbfgcflnkllaaGreatDoorEngA
import Derived.Orders
namespace Go.Eng

namespace Tr
variable {α : Type}

theorem beq_false {a b : Nat} (h : Nat.beq a b = false) : a ≠ b := Nat.ne_of_beq_eq_false h
theorem beq_true {a b : Nat} (h : Nat.beq a b = true) : a = b := Nat.eq_of_beq_eq_true h

theorem get_setF (v : Option α) : ∀ (f : Nat) (t : Tr α) (n m : Nat), n < f → (setF f t n v).get m = if m = n then v else t.get m := by
  intro f
  induction f with
  | zero => intro t n m h; omega
  | succ f ih =>
    intro t n m h
    cases n with
    | zero =>
      cases t <;> cases m <;> simp [setF, get]
      rename_i m
      cases Nat.beq (m % 2) 0 <;> simp []
    | succ n =>
      have hn : n / 2 < f := by omega
      cases m with
      | zero => cases t <;> cases hb : Nat.beq (n % 2) 0 <;> simp [setF, hb, get]
      | succ m =>
        have e1 : (m + 1 = n + 1) ↔ (m = n) := by omega
        cases hb : Nat.beq (n % 2) 0 <;> cases hc : Nat.beq (m % 2) 0
        · have hb' := beq_false hb
          have hc' := beq_false hc
          have e2 : (m / 2 = n / 2) ↔ (m = n) := by omega
          cases t <;> simp [setF, hb, get, hc, ih _ _ _ hn, e2]
        · have hb' := beq_false hb
          have hc' := beq_true hc
          have e3 : m ≠ n := by omega
          cases t <;> simp [setF, hb, get, hc, e3]
        · have hb' := beq_true hb
          have hc' := beq_false hc
          have e3 : m ≠ n := by omega
          cases t <;> simp [setF, hb, get, hc, e3]
        · have hb' := beq_true hb
          have hc' := beq_true hc
          have e2 : (m / 2 = n / 2) ↔ (m = n) := by omega
          cases t <;> simp [setF, hb, get, hc, ih _ _ _ hn, e2]

theorem get_set (t : Tr α) (n m : Nat) (v : Option α) : (t.set n v).get m = if m = n then v else t.get m := get_setF v _ t n m (by omega)

@[simp] theorem get_nil (m : Nat) : (Tr.nil : Tr α).get m = none := rfl

end Tr

structure Env where
  μ : Nat → Nat
  ε : Nat → Nat

def conCap (E : Env) (i c : Nat) : Nat := if c % 2 = 1 then c / 2 + E.ε i else c / 2

/-- Where a slice begins: one that was taken from the end of a slice on, whose room is not known, begins behind it if there is room, and otherwise where that one began. -/
def conOff (E : Env) (i off q c : Nat) : Nat :=
  match conCap E i c with
  | 0 => off
  | _ + 1 => off + q

/-- One that was given with an odd address, and has no room, keeps it. -/
def conSpot (q c : Nat) : Option Nat := if c % 2 = 1 then none else some q

def conFn (E : Env) : Fn → Fn
  | .yield l => .yield (E.μ l)
  | f => f

mutual
def con (E : Env) : Value → Value
  | .bool b => .bool b
  | .int k n => .int k n
  | .float k b => .float k b
  | .complex k a b => .complex k a b
  | .string s => .string s
  | .pointer none => .pointer none
  | .pointer (some a) => .pointer (some ⟨E.μ a.block, a.off, a.spot⟩)
  | .slice none l c => .slice none l c
  | .slice (some ⟨i, o, none⟩) l c => .slice (some ⟨E.μ i, o, none⟩) l (conCap E i c)
  | .slice (some ⟨i, o, some q⟩) l c => .slice (some ⟨E.μ i, conOff E i o q c, conSpot q c⟩) l (conCap E i c)
  | .map none => .map none
  | .map (some r) => .map (some (E.μ r))
  | .chan r => .chan r
  | .func fn first cap => .func (conFn E fn) (conA E first) (conA E cap)
  | .nilFunc => .nilFunc
  | .iface t v => .iface t (con E v)
  | .nilIface => .nilIface
  | .agg cs => .agg (conA E cs)
  | .tuple vs => .tuple (conA E vs)
def conA (E : Env) : Array Value → Array Value
  | ⟨l⟩ => ⟨conL E l⟩
def conL (E : Env) : List Value → List Value
  | [] => []
  | v :: r => con E v :: conL E r
end

theorem conL_eq (E : Env) (l : List Value) : conL E l = l.map (con E) := by
  induction l with
  | nil => rfl
  | cons v r ih => simp [conL, ih]

theorem conA_eq (E : Env) (a : Array Value) : conA E a = a.map (con E) := by
  obtain ⟨l⟩ := a
  simp [conA, conL_eq]

mutual
def sc (n : Nat) : Value → Bool
  | .bool _ => true
  | .int _ _ => true
  | .float _ _ => true
  | .complex _ _ _ => true
  | .string _ => true
  | .pointer none => true
  | .pointer (some a) => decide (a.block < n)
  | .slice none _ _ => true
  | .slice (some a) _ _ => decide (a.block < n)
  | .map none => true
  | .map (some r) => decide (r < n)
  | .chan _ => true
  | .func (.yield l) first cap => decide (l < n) && scA n first && scA n cap
  | .func (.func _) first cap => scA n first && scA n cap
  | .func (.method _) first cap => scA n first && scA n cap
  | .func (.methodOf _ _) first cap => scA n first && scA n cap
  | .func (.via _ _ _ _) first cap => scA n first && scA n cap
  | .nilFunc => true
  | .iface _ v => sc n v
  | .nilIface => true
  | .agg cs => scA n cs
  | .tuple vs => scA n vs
def scA (n : Nat) : Array Value → Bool
  | ⟨l⟩ => scL n l
def scL (n : Nat) : List Value → Bool
  | [] => true
  | v :: r => sc n v && scL n r
end

theorem scL_iff (n : Nat) (l : List Value) : scL n l = true ↔ ∀ v ∈ l, sc n v = true := by
  induction l with
  | nil => simp [scL]
  | cons v r ih => simp [scL, ih]

theorem scA_iff (n : Nat) (a : Array Value) : scA n a = true ↔ ∀ v ∈ a, sc n v = true := by
  obtain ⟨l⟩ := a
  simp [scA, scL_iff]

/-- Two environments say the same below n. -/
def Agree (n : Nat) (E E' : Env) : Prop := ∀ i, i < n → E.μ i = E'.μ i ∧ E.ε i = E'.ε i

theorem Agree.refl (n : Nat) (E : Env) : Agree n E E := fun _ _ => ⟨rfl, rfl⟩
theorem Agree.trans {n m : Nat} {A B C : Env} (h : Agree n A B) (k : Agree m B C) (hnm : n ≤ m) : Agree n A C :=
  fun i hi => ⟨(h i hi).1.trans (k i (by omega)).1, (h i hi).2.trans (k i (by omega)).2⟩
theorem Agree.mono {n m : Nat} {A B : Env} (h : Agree m A B) (hnm : n ≤ m) : Agree n A B := fun i hi => h i (by omega)

mutual
theorem con_congr {n : Nat} {E E' : Env} (h : Agree n E E') : ∀ v, sc n v = true → con E v = con E' v
  | .bool _, _ => rfl
  | .int _ _, _ => rfl
  | .float _ _, _ => rfl
  | .complex _ _ _, _ => rfl
  | .string _, _ => rfl
  | .pointer none, _ => rfl
  | .pointer (some a), hs => by simp [sc] at hs; simp [con, (h _ hs).1]
  | .slice none _ _, _ => rfl
  | .slice (some ⟨_, _, none⟩) _ _, hs => by simp [sc] at hs; simp [con, conCap, (h _ hs).1, (h _ hs).2]
  | .slice (some ⟨_, _, some _⟩) _ _, hs => by simp [sc] at hs; simp [con, conOff, conCap, (h _ hs).1, (h _ hs).2]
  | .map none, _ => rfl
  | .map (some r), hs => by simp [sc] at hs; simp [con, (h _ hs).1]
  | .chan _, _ => rfl
  | .func fn first cap, hs => by
    have key : conFn E fn = conFn E' fn ∧ scA n first = true ∧ scA n cap = true := by
      cases fn <;> simp_all [sc, conFn]
      exact (h _ hs.1.1).1
    simp [con, key.1, conA_congr h first key.2.1, conA_congr h cap key.2.2]
  | .nilFunc, _ => rfl
  | .iface t v, hs => by simp [sc] at hs; simp [con, con_congr h v hs]
  | .nilIface, _ => rfl
  | .agg cs, hs => by simp [sc] at hs; simp [con, conA_congr h cs hs]
  | .tuple vs, hs => by simp [sc] at hs; simp [con, conA_congr h vs hs]
theorem conA_congr {n : Nat} {E E' : Env} (h : Agree n E E') : ∀ a, scA n a = true → conA E a = conA E' a
  | ⟨l⟩, hs => by simp [scA] at hs; simp [conA, conL_congr h l hs]
theorem conL_congr {n : Nat} {E E' : Env} (h : Agree n E E') : ∀ l, scL n l = true → conL E l = conL E' l
  | [], _ => rfl
  | v :: r, hs => by simp [scL] at hs; simp [conL, con_congr h v hs.1, conL_congr h r hs.2]
end

mutual
theorem sc_mono {n m : Nat} (h : n ≤ m) : ∀ v, sc n v = true → sc m v = true
  | .bool _, _ => rfl
  | .int _ _, _ => rfl
  | .float _ _, _ => rfl
  | .complex _ _ _, _ => rfl
  | .string _, _ => rfl
  | .pointer none, _ => rfl
  | .pointer (some a), hs => by simp [sc] at hs ⊢; omega
  | .slice none _ _, _ => rfl
  | .slice (some a) _ _, hs => by simp [sc] at hs ⊢; omega
  | .map none, _ => rfl
  | .map (some r), hs => by simp [sc] at hs ⊢; omega
  | .chan _, _ => rfl
  | .func fn first cap, hs => by
    cases fn <;> simp [sc] at hs ⊢ <;> simp [scA_mono h first, scA_mono h cap, hs]
    omega
  | .nilFunc, _ => rfl
  | .iface t v, hs => by simp [sc] at hs ⊢; exact sc_mono h v hs
  | .nilIface, _ => rfl
  | .agg cs, hs => by simp [sc] at hs ⊢; exact scA_mono h cs hs
  | .tuple vs, hs => by simp [sc] at hs ⊢; exact scA_mono h vs hs
theorem scA_mono {n m : Nat} (h : n ≤ m) : ∀ a, scA n a = true → scA m a = true
  | ⟨l⟩, hs => by simp [scA] at hs ⊢; exact scL_mono h l hs
theorem scL_mono {n m : Nat} (h : n ≤ m) : ∀ l, scL n l = true → scL m l = true
  | [], _ => rfl
  | v :: r, hs => by simp [scL] at hs ⊢; exact ⟨sc_mono h v hs.1, scL_mono h r hs.2⟩
end

mutual
theorem con_flat (E : Env) : ∀ v, flat v = true → con E v = v
  | .bool _, _ => rfl
  | .int _ _, _ => rfl
  | .float _ _, _ => rfl
  | .complex _ _ _, _ => rfl
  | .string _, _ => rfl
  | .pointer none, _ => rfl
  | .pointer (some _), hs => by simp [flat] at hs
  | .slice none _ _, _ => rfl
  | .slice (some _) _ _, hs => by simp [flat] at hs
  | .map none, _ => rfl
  | .map (some _), hs => by simp [flat] at hs
  | .chan _, hs => by simp [flat] at hs
  | .func fn first cap, hs => by
    cases fn <;> simp [flat] at hs <;> simp [con, conFn, conA_flat E first hs.1, conA_flat E cap hs.2]
  | .nilFunc, _ => rfl
  | .iface t v, hs => by simp [flat] at hs; simp [con, con_flat E v hs]
  | .nilIface, _ => rfl
  | .agg cs, hs => by simp [flat] at hs; simp [con, conA_flat E cs hs]
  | .tuple vs, hs => by simp [flat] at hs; simp [con, conA_flat E vs hs]
theorem conA_flat (E : Env) : ∀ a, flatA a = true → conA E a = a
  | ⟨l⟩, hs => by simp [flatA] at hs; simp [conA, conL_flat E l hs]
theorem conL_flat (E : Env) : ∀ l, flatL l = true → conL E l = l
  | [], _ => rfl
  | v :: r, hs => by simp [flatL] at hs; simp [conL, con_flat E v hs.1, conL_flat E r hs.2]
end

mutual
theorem sc_flat (n : Nat) : ∀ v, flat v = true → sc n v = true
  | .bool _, _ => rfl
  | .int _ _, _ => rfl
  | .float _ _, _ => rfl
  | .complex _ _ _, _ => rfl
  | .string _, _ => rfl
  | .pointer none, _ => rfl
  | .pointer (some _), hs => by simp [flat] at hs
  | .slice none _ _, _ => rfl
  | .slice (some _) _ _, hs => by simp [flat] at hs
  | .map none, _ => rfl
  | .map (some _), hs => by simp [flat] at hs
  | .chan _, hs => by simp [flat] at hs
  | .func fn first cap, hs => by
    cases fn <;> simp [flat] at hs <;> simp [sc, scA_flat n first hs.1, scA_flat n cap hs.2]
  | .nilFunc, _ => rfl
  | .iface t v, hs => by simp [flat] at hs; simp [sc, sc_flat n v hs]
  | .nilIface, _ => rfl
  | .agg cs, hs => by simp [flat] at hs; simp [sc, scA_flat n cs hs]
  | .tuple vs, hs => by simp [flat] at hs; simp [sc, scA_flat n vs hs]
theorem scA_flat (n : Nat) : ∀ a, flatA a = true → scA n a = true
  | ⟨l⟩, hs => by simp [flatA] at hs; simp [scA, scL_flat n l hs]
theorem scL_flat (n : Nat) : ∀ l, flatL l = true → scL n l = true
  | [], _ => rfl
  | v :: r, hs => by simp [flatL] at hs; simp [scL, sc_flat n v hs.1, scL_flat n r hs.2]
end

theorem con_cells (E : Env) (v : Value) : (con E v).cells = (v.cells).map (con E) := by
  cases v with
  | agg cs => simp [con, Value.cells, conA_eq]
  | pointer a => cases a <;> simp [con, Value.cells]
  | slice a l c =>
    cases a with
    | none => simp [con, Value.cells]
    | some a => obtain ⟨i, o, x⟩ := a; cases x <;> simp [con, Value.cells]
  | map r => cases r <;> simp [con, Value.cells]
  | _ => simp [con, Value.cells]

theorem con_bool {E : Env} {v : Value} {b : Bool} (h : con E v = .bool b) : v = .bool b := by
  cases v with
  | pointer a => cases a <;> simp [con] at h
  | slice a l c =>
    cases a with
    | none => simp [con] at h
    | some a => obtain ⟨i, o, x⟩ := a; cases x <;> simp [con] at h
  | map r => cases r <;> simp [con] at h
  | _ => simp_all [con]

theorem scalar_con (E : Env) (v : Value) : scalar (con E v) = scalar v := by
  cases v with
  | pointer a => cases a <;> simp [con, scalar]
  | slice a l c =>
    cases a with
    | none => simp [con, scalar]
    | some a => obtain ⟨i, o, x⟩ := a; cases x <;> simp [con, scalar]
  | map r => cases r <;> simp [con, scalar]
  | _ => simp [con, scalar]

theorem sc_cells {n : Nat} {v : Value} (h : sc n v = true) : ∀ x ∈ v.cells, sc n x = true := by
  cases v with
  | agg cs => simp [sc, scA_iff] at h; simpa [Value.cells] using h
  | _ => simpa [Value.cells] using h

end Go.Eng
