/- A quicker evaluator in passing style: slots, objects, values. -/
import Derived.Test.YtkfbfgcflnkllaaGreatDoorEngA
namespace Go.Eng

/-- The answer of a run: a need is met by its own value. -/
inductive Ans where
  | no
  | yes
  | need (v : Value) (f : Value → Ans)

inductive Yes : Ans → Prop where
  | yes : Yes .yes
  | need {v : Value} {f : Value → Ans} : Yes (f v) → Yes (.need v f)

abbrev Tm := Tr Value
abbrev KV := Value → Ans
abbrev KH := Value → Hp → Ans
abbrev CallK := Inv → Hp → KH → Ans

structure Ev where
  cf : CallK
  ef : CallF
  F : Fm

/-- The way to a number in a tree. -/
def pathF : Nat → Nat → List Bool
  | 0, _ => []
  | _ + 1, 0 => []
  | f + 1, k + 1 => Nat.beq (k % 2) 0 :: pathF f (k / 2)

def path (n : Nat) : List Bool := pathF (n + 1) n

def getB {α : Type} : List Bool → Tr α → Option α
  | _, .nil => none
  | [], .node _ o _ => o
  | true :: p, .node l _ _ => getB p l
  | false :: p, .node _ _ r => getB p r

def setB {α : Type} (v : Option α) : List Bool → Tr α → Tr α
  | [], .nil => .node .nil v .nil
  | [], .node l _ r => .node l v r
  | true :: p, .nil => .node (setB v p .nil) none .nil
  | true :: p, .node l o r => .node (setB v p l) o r
  | false :: p, .nil => .node .nil none (setB v p .nil)
  | false :: p, .node l o r => .node l o (setB v p r)

theorem getB_nil {α : Type} (p : List Bool) : getB p (.nil : Tr α) = none := by cases p <;> rfl

theorem getB_pathF {α : Type} : ∀ (f n : Nat) (t : Tr α), n < f → getB (pathF f n) t = t.get n
  | 0, _, _, h => absurd h (Nat.not_lt_zero _)
  | f + 1, n, .nil, _ => by rw [getB_nil]; rfl
  | f + 1, 0, .node l o r, _ => rfl
  | f + 1, k + 1, .node l o r, h => by
    have hk : k / 2 < f := by omega
    simp only [pathF, Tr.get]
    cases Nat.beq (k % 2) 0
    · exact getB_pathF f (k / 2) r hk
    · exact getB_pathF f (k / 2) l hk

theorem getB_path {α : Type} (n : Nat) (t : Tr α) : getB (path n) t = t.get n := getB_pathF _ _ _ (Nat.lt_succ_self n)

theorem setB_pathF {α : Type} (v : Option α) : ∀ (f n : Nat) (t : Tr α), n < f → setB v (pathF f n) t = Tr.setF f t n v
  | 0, _, _, h => absurd h (Nat.not_lt_zero _)
  | f + 1, 0, .nil, _ => rfl
  | f + 1, 0, .node l o r, _ => rfl
  | f + 1, k + 1, .nil, h => by
    have hk : k / 2 < f := by omega
    simp only [pathF, Tr.setF]
    cases Nat.beq (k % 2) 0 <;> simp only [setB, setB_pathF v f (k / 2) _ hk]
  | f + 1, k + 1, .node l o r, h => by
    have hk : k / 2 < f := by omega
    simp only [pathF, Tr.setF]
    cases Nat.beq (k % 2) 0 <;> simp only [setB, setB_pathF v f (k / 2) _ hk]

theorem setB_path {α : Type} (v : Option α) (n : Nat) (t : Tr α) : setB v (path n) t = t.set n v := setB_pathF _ _ _ _ (Nat.lt_succ_self n)

theorem setF_fuel {α : Type} (v : Option α) (f g n : Nat) (t : Tr α) (hf : n < f) (hg : n < g) : Tr.setF f t n v = Tr.setF g t n v := by
  induction f generalizing g n t with
  | zero => omega
  | succ f ih =>
    cases g with
    | zero => omega
    | succ g =>
      cases t <;> cases n <;> simp only [Tr.setF]
      all_goals
        rename_i k
        rw [ih g (k / 2) _ (by omega) (by omega)]
        try rw [ih g (k / 2) _ (by omega) (by omega)]

noncomputable section

/-- if -/
def bite (b : Bool) (x y : Ans) : Ans := Bool.rec (motive := fun _ => Ans) y x b

theorem bite_true (x y : Ans) : bite true x y = x := rfl
theorem bite_false (x y : Ans) : bite false x y = y := rfl

structure GetC where
  run : Tm → KV → Ans

def getC : List Bool → GetC
  | [] => ⟨fun t k => Tr.rec (motive := fun _ => Ans) (k undef) (fun _ o _ _ _ => Option.rec (motive := fun _ => Ans) (k undef) k o) t⟩
  | true :: p => ⟨fun t k => Tr.rec (motive := fun _ => Ans) (k undef) (fun l _ _ _ _ => (getC p).run l k) t⟩
  | false :: p => ⟨fun t k => Tr.rec (motive := fun _ => Ans) (k undef) (fun _ _ r _ _ => (getC p).run r k) t⟩

theorem getC_eq (k : KV) : ∀ (p : List Bool) (t : Tm), (getC p).run t k = k ((getB p t).getD undef)
  | [], .nil => rfl
  | [], .node _ none _ => rfl
  | [], .node _ (some _) _ => rfl
  | true :: _p, .nil => rfl
  | true :: p, .node l _ _ => getC_eq k p l
  | false :: _p, .nil => rfl
  | false :: p, .node _ _ r => getC_eq k p r

structure PutC where
  run : Value → Tm → (Tm → Ans) → Ans

def putC : List Bool → PutC
  | [] => ⟨fun v t k => Tr.rec (motive := fun _ => Ans) (k (.node .nil (some v) .nil)) (fun l _ r _ _ => k (.node l (some v) r)) t⟩
  | true :: p => ⟨fun v t k => Tr.rec (motive := fun _ => Ans) ((putC p).run v .nil fun l => k (.node l none .nil)) (fun l o r _ _ => (putC p).run v l fun l => k (.node l o r)) t⟩
  | false :: p => ⟨fun v t k => Tr.rec (motive := fun _ => Ans) ((putC p).run v .nil fun r => k (.node .nil none r)) (fun l o r _ _ => (putC p).run v r fun r => k (.node l o r)) t⟩

theorem putC_eq (v : Value) : ∀ (p : List Bool) (t : Tm) (k : Tm → Ans), (putC p).run v t k = k (setB (some v) p t)
  | [], .nil, _k => rfl
  | [], .node _ _ _, _k => rfl
  | true :: p, .nil, _k => putC_eq v p .nil _
  | true :: p, .node l _ _, _k => putC_eq v p l _
  | false :: p, .nil, _k => putC_eq v p .nil _
  | false :: p, .node _ _ r, _k => putC_eq v p r _

/-- Objects. -/
def hget (t : Tr AObj) (n : Nat) (k : AObj → Ans) : Ans :=
  Tr.rec (motive := fun _ => Nat → Ans) (fun _ => .no)
    (fun _ o _ il ir n => bite (Nat.beq n 0) (Option.rec (motive := fun _ => Ans) .no k o)
      (bite (Nat.beq (Nat.mod (Nat.sub n 1) 2) 0) (il (Nat.div (Nat.sub n 1) 2)) (ir (Nat.div (Nat.sub n 1) 2)))) t n

theorem hget_ok {k : AObj → Ans} : ∀ {t : Tr AObj} {n : Nat}, Yes (hget t n k) → ∃ o, t.get n = some o ∧ Yes (k o)
  | .nil, n, h => by cases h
  | .node l o r, 0, h => by
    cases o with
    | none => cases h
    | some o => exact ⟨o, rfl, h⟩
  | .node l o r, n + 1, h => by
    change Yes (bite (Nat.beq (Nat.mod n 2) 0) (hget l (Nat.div n 2) k) (hget r (Nat.div n 2) k)) at h
    simp only [Tr.get]
    change ∃ o, (match Nat.beq (Nat.mod n 2) 0 with | true => l.get (Nat.div n 2) | false => r.get (Nat.div n 2)) = some o ∧ Yes (k o)
    cases hb : Nat.beq (Nat.mod n 2) 0 with
    | true => rw [hb] at h; exact hget_ok (t := l) h
    | false => rw [hb] at h; exact hget_ok (t := r) h

def hput (v : Option AObj) (t : Tr AObj) (n : Nat) (k : Tr AObj → Ans) : Ans :=
  Tr.rec (motive := fun _ => Nat → (Tr AObj → Ans) → Ans)
    (fun n k => bite (Nat.beq n 0) (k (.node .nil v .nil)) (k (Tr.set .nil n v)))
    (fun l o r il ir n k => bite (Nat.beq n 0) (k (.node l v r))
      (bite (Nat.beq (Nat.mod (Nat.sub n 1) 2) 0) (il (Nat.div (Nat.sub n 1) 2) fun l => k (.node l o r)) (ir (Nat.div (Nat.sub n 1) 2) fun r => k (.node l o r)))) t n k

theorem hput_eq (v : Option AObj) : ∀ (t : Tr AObj) (n : Nat) (k : Tr AObj → Ans), hput v t n k = k (t.set n v)
  | .nil, 0, k => rfl
  | .nil, n + 1, k => rfl
  | .node l o r, 0, k => rfl
  | .node l o r, n + 1, k => by
    change bite (Nat.beq (Nat.mod n 2) 0) (hput v l (Nat.div n 2) fun l => k (.node l o r)) (hput v r (Nat.div n 2) fun r => k (.node l o r)) = _
    rw [hput_eq v l, hput_eq v r]
    have h1 : ∀ t : Tr AObj, t.set (n / 2) v = Tr.setF (n + 1) t (n / 2) v := fun t => setF_fuel v _ _ _ _ (by omega) (by omega)
    change bite (Nat.beq (n % 2) 0) (k (.node (l.set (n / 2) v) o r)) (k (.node l o (r.set (n / 2) v))) = k (Tr.setF (n + 1 + 1) (.node l o r) (n + 1) v)
    rw [h1, h1]
    simp only [Tr.setF]
    cases Nat.beq (n % 2) 0 <;> rfl

/-- A number, looked at. -/
def forceN (n : Nat) (k : Nat → Ans) : Ans := Nat.rec (motive := fun _ => Ans) (k 0) (fun m _ => k (Nat.succ m)) n

theorem forceN_eq (n : Nat) (k : Nat → Ans) : forceN n k = k n := by cases n <;> rfl

/-- Cells. -/
def nthK (l : List Value) (n : Nat) (k : KV) : Ans :=
  List.rec (motive := fun _ => Nat → Ans) (fun _ => .no) (fun v _ ih n => bite (Nat.beq n 0) (k v) (ih (Nat.sub n 1))) l n

theorem nthK_ok {k : KV} : ∀ {l : List Value} {n : Nat}, Yes (nthK l n k) → ∃ v, l[n]? = some v ∧ Yes (k v)
  | [], _, h => by cases h
  | v :: r, 0, h => ⟨v, rfl, h⟩
  | v :: r, n + 1, h => nthK_ok (l := r) (n := n) h

def setK (x : Value) (l : List Value) (n : Nat) (k : List Value → Ans) : Ans :=
  List.rec (motive := fun _ => Nat → (List Value → Ans) → Ans) (fun _ _ => .no)
    (fun v r ih n k => bite (Nat.beq n 0) (k (x :: r)) (ih (Nat.sub n 1) fun r => k (v :: r))) l n k

theorem setK_ok {x : Value} : ∀ {l : List Value} {n : Nat} {k : List Value → Ans}, Yes (setK x l n k) → n < l.length ∧ Yes (k (splice l n [x]))
  | [], _, _, h => by cases h
  | v :: r, 0, k, h => ⟨by simp, h⟩
  | v :: r, n + 1, k, h => by
    have := setK_ok (l := r) (n := n) (k := fun r => k (v :: r)) h
    exact ⟨by simpa using this.1, by simpa [splice, Nat.add_right_comm] using this.2⟩

/-- Values. -/
def intK (v : Value) (d : Ans) (k : IntKind → Int → Ans) : Ans :=
  Value.rec (motive_1 := fun _ => Ans) (motive_2 := fun _ => Unit) (motive_3 := fun _ => Unit)
    (fun _ => d) k (fun _ _ => d) (fun _ _ _ => d) (fun _ => d) (fun _ => d) (fun _ _ _ => d) (fun _ => d) (fun _ => d) (fun _ _ _ _ _ => d) d (fun _ _ _ => d) d (fun _ _ => d) (fun _ _ => d)
    (fun _ _ => ()) () (fun _ _ _ _ => ()) v

def boolK (v : Value) (d : Ans) (k : Bool → Ans) : Ans :=
  Value.rec (motive_1 := fun _ => Ans) (motive_2 := fun _ => Unit) (motive_3 := fun _ => Unit)
    k (fun _ _ => d) (fun _ _ => d) (fun _ _ _ => d) (fun _ => d) (fun _ => d) (fun _ _ _ => d) (fun _ => d) (fun _ => d) (fun _ _ _ _ _ => d) d (fun _ _ _ => d) d (fun _ _ => d) (fun _ _ => d)
    (fun _ _ => ()) () (fun _ _ _ _ => ()) v

/-- A pointer to something, without a mark. -/
def ptrK (v : Value) (d : Ans) (k : Nat → Nat → Ans) : Ans :=
  Value.rec (motive_1 := fun _ => Ans) (motive_2 := fun _ => Unit) (motive_3 := fun _ => Unit)
    (fun _ => d) (fun _ _ => d) (fun _ _ => d) (fun _ _ _ => d) (fun _ => d)
    (fun a => Option.rec (motive := fun _ => Ans) d (fun a => Addr.rec (motive := fun _ => Ans) (fun i o x => Option.rec (motive := fun _ => Ans) (k i o) (fun _ => d) x) a) a)
    (fun _ _ _ => d) (fun _ => d) (fun _ => d) (fun _ _ _ _ _ => d) d (fun _ _ _ => d) d (fun _ _ => d) (fun _ _ => d)
    (fun _ _ => ()) () (fun _ _ _ _ => ()) v

def sliceK (v : Value) (d : Ans) (k : Option Addr → Nat → Nat → Ans) : Ans :=
  Value.rec (motive_1 := fun _ => Ans) (motive_2 := fun _ => Unit) (motive_3 := fun _ => Unit)
    (fun _ => d) (fun _ _ => d) (fun _ _ => d) (fun _ _ _ => d) (fun _ => d) (fun _ => d) k
    (fun _ => d) (fun _ => d) (fun _ _ _ _ _ => d) d (fun _ _ _ => d) d (fun _ _ => d) (fun _ _ => d)
    (fun _ _ => ()) () (fun _ _ _ _ => ()) v

def tupleK (v : Value) (d : Ans) (k : List Value → Ans) : Ans :=
  Value.rec (motive_1 := fun _ => Ans) (motive_2 := fun _ => Unit) (motive_3 := fun _ => Unit)
    (fun _ => d) (fun _ _ => d) (fun _ _ => d) (fun _ _ _ => d) (fun _ => d) (fun _ => d) (fun _ _ _ => d)
    (fun _ => d) (fun _ => d) (fun _ _ _ _ _ => d) d (fun _ _ _ => d) d (fun _ _ => d) (fun a _ => Array.rec (motive := fun _ => Ans) k a)
    (fun _ _ => ()) () (fun _ _ _ _ => ()) v

def scalK (v : Value) (d k : Ans) : Ans :=
  Value.rec (motive_1 := fun _ => Ans) (motive_2 := fun _ => Unit) (motive_3 := fun _ => Unit)
    (fun _ => k) (fun _ _ => k) (fun _ _ => k) (fun _ _ _ => k) (fun _ => k) (fun _ => k) (fun _ _ _ => k)
    (fun _ => k) (fun _ => k) (fun _ _ _ _ _ => k) k (fun _ _ _ => k) k (fun _ _ => d) (fun _ _ => d)
    (fun _ _ => ()) () (fun _ _ _ _ => ()) v

theorem intK_ok {v : Value} {d : Ans} {k : IntKind → Int → Ans} (h : Yes (intK v d k)) : (∃ kd n, v = .int kd n ∧ Yes (k kd n)) ∨ Yes (d) := by
  cases v <;> first | exact .inl ⟨_, _, rfl, h⟩ | exact .inr h

theorem boolK_ok {v : Value} {d : Ans} {k : Bool → Ans} (h : Yes (boolK v d k)) : (∃ b, v = .bool b ∧ Yes (k b)) ∨ Yes (d) := by
  cases v <;> first | exact .inl ⟨_, rfl, h⟩ | exact .inr h

theorem ptrK_ok {v : Value} {d : Ans} {k : Nat → Nat → Ans} (h : Yes (ptrK v d k)) : (∃ i o, v = .pointer (some ⟨i, o, none⟩) ∧ Yes (k i o)) ∨ Yes (d) := by
  cases v with
  | pointer a =>
    cases a with
    | none => exact .inr h
    | some a =>
      obtain ⟨i, o, x⟩ := a
      cases x with
      | none => exact .inl ⟨_, _, rfl, h⟩
      | some _ => exact .inr h
  | _ => exact .inr h

theorem sliceK_ok {v : Value} {d : Ans} {k : Option Addr → Nat → Nat → Ans} (h : Yes (sliceK v d k)) : (∃ a n c, v = .slice a n c ∧ Yes (k a n c)) ∨ Yes (d) := by
  cases v <;> first | exact .inl ⟨_, _, _, rfl, h⟩ | exact .inr h

theorem tupleK_ok {v : Value} {d : Ans} {k : List Value → Ans} (h : Yes (tupleK v d k)) : (∃ l, v = .tuple ⟨l⟩ ∧ Yes (k l)) ∨ Yes (d) := by
  cases v with
  | tuple a => exact .inl ⟨a.toList, by cases a; rfl, by cases a; exact h⟩
  | _ => exact .inr h

theorem scalK_ok {v : Value} {d k : Ans} (h : Yes (scalK v d k)) : (scalar v = true ∧ Yes (k)) ∨ Yes (d) := by
  cases v <;> first | exact .inl ⟨rfl, h⟩ | exact .inr h

/-- Kinds. -/
def lim (k : IntKind) : Nat :=
  IntKind.rec (motive := fun _ => Nat) 127 32767 2147483647 9223372036854775807 255 65535 4294967295 18446744073709551615 k
def nlim (k : IntKind) : Nat :=
  IntKind.rec (motive := fun _ => Nat) 128 32768 2147483648 9223372036854775808 0 0 0 0 k
def tagK (k : IntKind) : Nat := IntKind.rec (motive := fun _ => Nat) 0 1 2 3 4 5 6 7 k

theorem tagK_inj {a b : IntKind} (h : Nat.beq (tagK a) (tagK b) = true) : a = b := by
  cases a <;> cases b <;> first | rfl | cases h

theorem wrap_in {k : IntKind} {n : Int} (h1 : n ≤ lim k) (h2 : -(nlim k : Int) ≤ n) : k.wrap n = n := by
  unfold IntKind.wrap
  cases k <;> simp only [lim, nlim] at h1 h2 <;> simp only [IntKind.bits, IntKind.signed, Bool.true_and, Bool.false_and] <;> split <;> first | omega | (simp at *; done) | (simp at *; omega)

/-- A number wrapped, in its plain form. -/
def wrapK (kd : IntKind) (n : Int) (k : Int → Ans) : Ans :=
  Int.rec (motive := fun _ => Ans)
    (fun m => bite (Nat.ble m (lim kd)) (k (.ofNat m)) (Int.rec (motive := fun _ => Ans) (fun m => k (.ofNat m)) (fun m => k (.negSucc m)) (kd.wrap (.ofNat m))))
    (fun m => bite (Nat.blt m (nlim kd)) (k (.negSucc m)) (Int.rec (motive := fun _ => Ans) (fun m => k (.ofNat m)) (fun m => k (.negSucc m)) (kd.wrap (.negSucc m)))) n

theorem intrec_eq (k : Int → Ans) (n : Int) : Int.rec (motive := fun _ => Ans) (fun m => k (.ofNat m)) (fun m => k (.negSucc m)) n = k n := by cases n <;> rfl

theorem wrapK_eq (kd : IntKind) (n : Int) (k : Int → Ans) : wrapK kd n k = k (kd.wrap n) := by
  cases n with
  | ofNat m =>
    simp only [wrapK]
    rw [intrec_eq]
    cases hb : Nat.ble m (lim kd) with
    | false => rfl
    | true =>
      rw [bite_true, wrap_in]
      · have := Nat.le_of_ble_eq_true hb; simp only [Int.ofNat_eq_natCast]; omega
      · simp only [Int.ofNat_eq_natCast]; omega
  | negSucc m =>
    simp only [wrapK]
    rw [intrec_eq]
    cases hb : Nat.blt m (nlim kd) with
    | false => rfl
    | true =>
      rw [bite_true, wrap_in]
      · omega
      · have : m < nlim kd := by simpa [Nat.blt_eq] using hb
        omega

end
end Go.Eng
