/- A quicker evaluator in passing style: one operation. -/
import Derived.Test.YtkfbfgcflnkllaaGreatDoorFxM
namespace Go.Eng
noncomputable section

def opdC (x : Operand) : GetC :=
  match x with
  | .tmp t => getC (path t)
  | .const v => ⟨fun _ k => k v⟩
  | .global g => ⟨fun _ k => k (.pointer (some ⟨g, 0, none⟩))⟩
  | .func f => ⟨fun _ k => k (.func (.func f) #[] #[])⟩

theorem opdC_eq (x : Operand) (F : Fm) (k : KV) : (opdC x).run F.tm k = k (F.eval x) := by
  cases x with
  | tmp t => simp only [opdC, getC_eq, getB_path, Fm.eval]
  | _ => rfl

structure DstC where
  run : Value → Tm → (Tm → Ans) → Ans

def dstC (n : Nat) (d : Option Tmp) : PutC :=
  match d with
  | none => ⟨fun _ t k => k t⟩
  | some d => match Nat.blt d n with
    | true => putC (path d)
    | false => ⟨fun _ t k => k t⟩

theorem dstC_eq (F : Fm) (d : Option Tmp) (v : Value) (k : Tm → Ans) : (dstC F.n d).run v F.tm k = k (F.put d v).tm := by
  cases d with
  | none => rfl
  | some d =>
    simp only [dstC, Fm.put]
    cases Nat.blt d F.n
    · rfl
    · simp only [putC_eq, setB_path]

structure ArgsC where
  run : Tm → (List Value → Ans) → Ans

def argsC : List Operand → ArgsC
  | [] => ⟨fun _ k => k []⟩
  | x :: r => ⟨fun tm k => (opdC x).run tm fun v => (argsC r).run tm fun l => k (v :: l)⟩

theorem argsC_eq (F : Fm) : ∀ (l : List Operand) (k : List Value → Ans), (argsC l).run F.tm k = k (l.map F.eval)
  | [], k => rfl
  | x :: r, k => by
    simp only [argsC, opdC_eq, argsC_eq F r, List.map_cons]

structure OpC where
  run : Ev → Tm → Hp → KH → Ans

def EvOK (e : Ev) : Prop := ∀ i h k, Yes (e.cf i h k) → ∃ v h', e.ef i h = some (v, h') ∧ Yes (k v h')

/-- What a quick operation, once true, says. -/
def Says (r : Option (Value × Hp)) (k : KH) : Prop := ∃ v h', r = some (v, h') ∧ Yes (k v h')

def OpCOK (P : Program) (o : Oper) (c : OpC) : Prop := ∀ (e : Ev) (F : Fm) (h : Hp) (k : KH), EvOK e → Yes (c.run e F.tm h k) → Says (evOp e.ef P o F h) k

def genK (r : Option (Value × Hp)) (k : KH) : Ans :=
  Option.rec (motive := fun _ => Ans) .no (fun p => Prod.rec (motive := fun _ => Ans) (fun v h => Hp.rec (motive := fun _ => Ans) (fun a n => forceN n fun n => k v ⟨a, n⟩) h) p) r

theorem genK_ok {r : Option (Value × Hp)} {k : KH} (h : Yes (genK r k)) : Says r k := by
  cases r with
  | none => cases h
  | some p =>
    obtain ⟨v, ⟨a, n⟩⟩ := p
    have h' : Yes ((forceN n fun n => k v ⟨a, n⟩)) := h
    rw [forceN_eq] at h'
    exact ⟨v, _, rfl, h'⟩

def genC (P : Program) (o : Oper) : OpC := ⟨fun e tm h k => genK (evOp e.ef P o { e.F with tm := tm } h) k⟩

theorem genC_ok (P : Program) (o : Oper) : OpCOK P o (genC P o) := fun e F h k _ hr => by
  obtain ⟨v, h', e1, e2⟩ := genK_ok hr
  exact ⟨v, h', (evOp_tm h rfl).trans e1, e2⟩

def failC : OpC := ⟨fun _ _ _ _ => .no⟩

/-- A new object. -/
def newK (o : AObj) (h : Hp) (k : KH) : Ans :=
  Hp.rec (motive := fun _ => Ans) (fun a n => hput (some o) a n fun a => forceN (Nat.succ n) fun m => k (.pointer (some ⟨n, 0, none⟩)) ⟨a, m⟩) h

theorem newK_eq (o : AObj) (h : Hp) (k : KH) : newK o h k = k (.pointer (some ⟨h.next, 0, none⟩)) (h.new o) := by
  obtain ⟨a, n⟩ := h
  change (hput (some o) a n fun a => forceN (Nat.succ n) fun m => k (.pointer (some ⟨n, 0, none⟩)) ⟨a, m⟩) = _
  rw [hput_eq, forceN_eq]
  rfl

def getK (h : Hp) (i : Nat) (k : AObj → Ans) : Ans :=
  Hp.rec (motive := fun _ => Ans) (fun a _ => hget a i k) h

theorem getK_ok {h : Hp} {i : Nat} {k : AObj → Ans} (hr : Yes (getK h i k)) : ∃ o, h.get i = some o ∧ Yes (k o) := by
  obtain ⟨a, n⟩ := h
  exact hget_ok hr

def putK (h : Hp) (i : Nat) (o : AObj) (k : Hp → Ans) : Ans :=
  Hp.rec (motive := fun _ => Ans) (fun a n => hput (some o) a i fun a => k ⟨a, n⟩) h

theorem putK_eq (h : Hp) (i : Nat) (o : AObj) (k : Hp → Ans) : putK h i o k = k (h.put i o) := by
  obtain ⟨a, n⟩ := h
  change hput (some o) a i (fun a => k ⟨a, n⟩) = _
  rw [hput_eq]
  rfl

/-- The cells of an object. -/
def objK (o : AObj) (d : Ans) (k : List Value → Ans) : Ans :=
  AObj.rec (motive := fun _ => Ans) (fun cs _ _ => k cs) (fun _ _ _ => d) (fun cs _ => k cs) (fun _ _ => d) (fun _ _ => d) (fun _ _ _ _ => d) (fun _ _ _ _ _ _ _ => d) (fun _ => d) o

def cellsK (o : AObj) (d : Ans) (k : List Value → TypeId → Bool → Ans) : Ans :=
  AObj.rec (motive := fun _ => Ans) k (fun _ _ _ => d) (fun _ _ => d) (fun _ _ => d) (fun _ _ => d) (fun _ _ _ _ => d) (fun _ _ _ _ _ _ _ => d) (fun _ => d) o

def dropK (l : List Value) (n : Nat) (k : List Value → Ans) : Ans :=
  List.rec (motive := fun _ => Nat → Ans) (fun _ => k []) (fun v r ih n => bite (Nat.beq n 0) (k (v :: r)) (ih (Nat.sub n 1))) l n

theorem dropK_eq (k : List Value → Ans) : ∀ (l : List Value) (n : Nat), dropK l n k = k (l.drop n)
  | [], n => by cases n <;> rfl
  | v :: r, 0 => rfl
  | v :: r, n + 1 => dropK_eq k r n

def takeK (l : List Value) (n : Nat) (k : List Value → Ans) : Ans :=
  List.rec (motive := fun _ => Nat → (List Value → Ans) → Ans) (fun n k => bite (Nat.beq n 0) (k []) .no)
    (fun v _ ih n k => bite (Nat.beq n 0) (k []) (ih (Nat.sub n 1) fun l => k (v :: l))) l n k

theorem takeK_ok : ∀ {l : List Value} {n : Nat} {k : List Value → Ans}, Yes (takeK l n k) → ∃ r, takeN n l = some r ∧ Yes (k r)
  | [], 0, k, h => ⟨[], rfl, h⟩
  | [], n + 1, k, h => by cases h
  | v :: r, 0, k, h => ⟨[], rfl, h⟩
  | v :: r, n + 1, k, h => by
    obtain ⟨l, h1, h2⟩ := takeK_ok (l := r) (n := n) (k := fun l => k (v :: l)) h
    exact ⟨v :: l, by simp only [takeN, h1], h2⟩

/-- All are of one cell. -/
def allK (l : List Value) (d k : Ans) : Ans :=
  List.rec (motive := fun _ => Ans) k (fun v _ ih => scalK v d ih) l

theorem allK_ok {d k : Ans} : ∀ {l : List Value}, Yes (allK l d k) → (l.all scalar = true ∧ Yes (k)) ∨ Yes (d)
  | [], h => .inl ⟨rfl, h⟩
  | v :: r, h => by
    rcases scalK_ok (v := v) (d := d) (k := allK r d k) h with ⟨h1, h⟩ | h
    · rcases allK_ok h with ⟨h2, h⟩ | h
      · exact .inl ⟨by simp [h1, h2], h⟩
      · exact .inr h
    · exact .inr h

/-- The first cells put over. -/
def overK (vs : List Value) : List Value → (List Value → Ans) → Ans :=
  List.rec (motive := fun _ => List Value → (List Value → Ans) → Ans) (fun l k => k l)
    (fun x _ ih l k => List.rec (motive := fun _ => Ans) .no (fun _ r _ => ih r fun r => k (x :: r)) l) vs

theorem overK_ok : ∀ {vs l : List Value} {k : List Value → Ans}, Yes (overK vs l k) → vs.length ≤ l.length ∧ Yes (k (vs ++ l.drop vs.length))
  | [], l, k, h => ⟨Nat.zero_le _, h⟩
  | x :: vs, [], k, h => by cases h
  | x :: vs, y :: r, k, h => by
    have := overK_ok (vs := vs) (l := r) (k := fun r => k (x :: r)) h
    exact ⟨by simpa using this.1, this.2⟩

def spliceK (vs : List Value) (l : List Value) (n : Nat) (k : List Value → Ans) : Ans :=
  List.rec (motive := fun _ => Nat → (List Value → Ans) → Ans) (fun n k => bite (Nat.beq n 0) (overK vs [] k) .no)
    (fun v r ih n k => bite (Nat.beq n 0) (overK vs (v :: r) k) (ih (Nat.sub n 1) fun r => k (v :: r))) l n k

theorem spliceK_ok {vs : List Value} : ∀ {l : List Value} {n : Nat} {k : List Value → Ans}, Yes (spliceK vs l n k) → n + vs.length ≤ l.length ∧ Yes (k (splice l n vs))
  | [], 0, k, h => by
    have := overK_ok (k := k) h
    exact ⟨by simpa using this.1, by simpa [splice] using this.2⟩
  | [], n + 1, k, h => by cases h
  | v :: r, 0, k, h => by
    have := overK_ok (vs := vs) (l := v :: r) (k := k) h
    exact ⟨by simpa using this.1, by simpa [splice] using this.2⟩
  | v :: r, n + 1, k, h => by
    have := spliceK_ok (l := r) (n := n) (k := fun r => k (v :: r)) h
    refine ⟨by simp only [List.length_cons]; omega, ?_⟩
    have h2 := this.2
    simp only [splice, List.take_succ_cons, List.cons_append] at h2 ⊢
    rw [show n + 1 + vs.length = n + vs.length + 1 by omega, List.drop_succ_cons]
    exact h2

theorem loadN_cells {h : Hp} {i off n : Nat} {o : AObj} {k : List Value → Ans} {d : Ans} (hg : h.get i = some o) (hr : Yes (objK o d (fun cs => dropK cs off fun r => takeK r n k))) :
    (∃ l, loadN h i off n = some l ∧ Yes (k l)) ∨ Yes (d) := by
  cases o with
  | cells cs e opn =>
    change Yes (dropK cs off (fun r => takeK r n k)) at hr
    rw [dropK_eq] at hr
    obtain ⟨l, h1, h2⟩ := takeK_ok hr
    exact .inl ⟨l, by simp only [loadN, hg, h1], h2⟩
  | fro cs e =>
    change Yes (dropK cs off (fun r => takeK r n k)) at hr
    rw [dropK_eq] at hr
    obtain ⟨l, h1, h2⟩ := takeK_ok hr
    exact .inl ⟨l, by simp only [loadN, hg, h1], h2⟩
  | _ => exact .inr hr

theorem loadN_one {h : Hp} {i off : Nat} {o : AObj} {k : KV} {d : Ans} (hg : h.get i = some o) (hr : Yes (objK o d (fun cs => nthK cs off k))) :
    (∃ v, loadN h i off 1 = some [v] ∧ Yes (k v)) ∨ Yes (d) := by
  have key : ∀ {cs : List Value}, Yes (nthK cs off k) → ∃ v, takeN 1 (cs.drop off) = some [v] ∧ Yes (k v) := fun {cs} h => by
    obtain ⟨v, h1, h2⟩ := nthK_ok h
    obtain ⟨hlt, hv⟩ := List.getElem?_eq_some_iff.1 h1
    refine ⟨v, ?_, h2⟩
    rw [List.drop_eq_getElem_cons hlt, hv]
    rfl
  cases o with
  | cells cs e opn =>
    obtain ⟨v, h1, h2⟩ := key (cs := cs) hr
    exact .inl ⟨v, by simp only [loadN, hg, h1], h2⟩
  | fro cs e =>
    obtain ⟨v, h1, h2⟩ := key (cs := cs) hr
    exact .inl ⟨v, by simp only [loadN, hg, h1], h2⟩
  | _ => exact .inr hr

def loadC (P : Program) (t : TypeId) (a : Operand) (g : OpC) : OpC :=
  match isAggT P t, sizeT P t with
  | some false, _ => ⟨fun e tm h k => (opdC a).run tm fun p => ptrK p (g.run e tm h k) fun i off => getK h i fun o => objK o (g.run e tm h k) fun cs => nthK cs off fun v => k v h⟩
  | some true, some n => ⟨fun e tm h k => (opdC a).run tm fun p => ptrK p (g.run e tm h k) fun i off => getK h i fun o => objK o (g.run e tm h k) fun cs => dropK cs off fun r => takeK r n fun l => k (.agg ⟨l⟩) h⟩
  | _, _ => g

def storeC (P : Program) (t : TypeId) (a x : Operand) (g : OpC) : OpC :=
  match sizeT P t with
  | some 1 => ⟨fun e tm h k => (opdC a).run tm fun p => (opdC x).run tm fun v => ptrK p (g.run e tm h k) fun i off => scalK v (g.run e tm h k) (getK h i fun o => cellsK o (g.run e tm h k) fun cs el opn => setK v cs off fun cs => putK h i (.cells cs el opn) fun h => k undef h)⟩
  | some n => ⟨fun e tm h k => (opdC a).run tm fun p => (opdC x).run tm fun v => ptrK p (g.run e tm h k) fun i off => aggK v (g.run e tm h k) fun vs => bite (Nat.beq vs.length n) (allK vs (g.run e tm h k) (getK h i fun o => cellsK o (g.run e tm h k) fun cs el opn => spliceK vs cs off fun cs => putK h i (.cells cs el opn) fun h => k undef h)) (g.run e tm h k)⟩
  | none => g

def binOpC (op : BinOp) (x y : Operand) (g : OpC) : OpC :=
  ⟨fun e tm h k => (opdC x).run tm fun v => (opdC y).run tm fun w => intK v (g.run e tm h k) fun ka a => intK w (g.run e tm h k) fun kb b => (binC op).run ka a kb b (g.run e tm h k) fun r => k r h⟩

def unOpC (op : UnOp) (x : Operand) (g : OpC) : OpC :=
  match op with
  | .not => ⟨fun e tm h k => (opdC x).run tm fun v => boolK v (g.run e tm h k) fun b => bite b (k (.bool false) h) (k (.bool true) h)⟩
  | .neg => ⟨fun e tm h k => (opdC x).run tm fun v => intK v (g.run e tm h k) fun kd n => wrapK kd (Int.sub 0 n) fun r => k (.int kd r) h⟩
  | _ => g

def convC (P : Program) (s d : TypeId) (x : Operand) (g : OpC) : OpC :=
  match P.underlying s, P.underlying d with
  | some _, some (.int kd) => ⟨fun e tm h k => (opdC x).run tm fun v => intK v (g.run e tm h k) fun _ n => wrapK kd n fun r => k (.int kd r) h⟩
  | _, _ => g

def fieldAddrC (P : Program) (t : TypeId) (x : Operand) (f : Nat) (g : OpC) : OpC :=
  match P.underlying t with
  | some (.struct fs) => match fs[f]? with
    | some fd => match sizeT P fd.type with
      | some (_ + 1) => ⟨fun e tm h k => (opdC x).run tm fun p => ptrK p (g.run e tm h k) fun i off => k (.pointer (some ⟨i, Nat.add off fd.offset, none⟩)) h⟩
      | _ => g
    | none => g
  | _ => g

def addrK (a : Option Addr) (d : Ans) (k : Nat → Nat → Ans) : Ans :=
  Option.rec (motive := fun _ => Ans) d (fun a => Addr.rec (motive := fun _ => Ans) (fun i o x => Option.rec (motive := fun _ => Ans) (k i o) (fun _ => d) x) a) a

theorem addrK_ok {a : Option Addr} {d : Ans} {k : Nat → Nat → Ans} (h : Yes (addrK a d k)) : (∃ i o, a = some ⟨i, o, none⟩ ∧ Yes (k i o)) ∨ Yes (d) := by
  cases a with
  | none => exact .inr h
  | some a =>
    obtain ⟨i, o, x⟩ := a
    cases x with
    | none => exact .inl ⟨_, _, rfl, h⟩
    | some _ => exact .inr h

def indexAddrC (P : Program) (t : TypeId) (x ix : Operand) (g : OpC) : OpC :=
  match P.underlying t with
  | some (.array n el) => match sizeT P el with
    | some s => ⟨fun e tm h k => (opdC x).run tm fun p => (opdC ix).run tm fun q => ptrK p (g.run e tm h k) fun i off => intK q (g.run e tm h k) fun _ j => natK j (g.run e tm h k) fun j => bite (Nat.blt j n) (k (.pointer (some ⟨i, Nat.add off (Nat.mul j s), none⟩)) h) (g.run e tm h k)⟩
    | none => g
  | some (.slice el) => match sizeT P el with
    | some s => ⟨fun e tm h k => (opdC x).run tm fun p => (opdC ix).run tm fun q => sliceK p (g.run e tm h k) fun a len _ => addrK a (g.run e tm h k) fun i off => intK q (g.run e tm h k) fun _ j => natK j (g.run e tm h k) fun j => bite (Nat.blt j len) (k (.pointer (some ⟨i, Nat.add off (Nat.mul j s), none⟩)) h) (g.run e tm h k)⟩
    | none => g
  | _ => g

def lenC (P : Program) (c : Call) (g : OpC) : OpC :=
  match c.argTypes.toList, c.args.toList with
  | [t], [x] => match P.underlying t with
    | some (.slice _) => ⟨fun e tm h k => (opdC x).run tm fun v => sliceK v (g.run e tm h k) fun _ n _ => k (.int .i64 (.ofNat n)) h⟩
    | _ => g
  | _, _ => g

def tgtK (i : Option Inv) (k : Inv → Ans) : Ans := Option.rec (motive := fun _ => Ans) .no k i

/-- The greater or the lesser of two. -/
def mostC (c : Call) (less : Bool) (g : OpC) : OpC :=
  match c.args.toList with
  | [x, y] => match less with
    | false => ⟨fun e tm h k => (opdC x).run tm fun v => (opdC y).run tm fun w => intK v (g.run e tm h k) fun ka a => intK w (g.run e tm h k) fun _ b => bite (leI b a) (k (.int ka a) h) (k (.int ka b) h)⟩
    | true => ⟨fun e tm h k => (opdC x).run tm fun v => (opdC y).run tm fun w => intK v (g.run e tm h k) fun ka a => intK w (g.run e tm h k) fun _ b => bite (leI a b) (k (.int ka a) h) (k (.int ka b) h)⟩
  | _ => g

def callC (P : Program) (c : Call) (g : OpC) : OpC :=
  match c.callee with
  | .builtin .len => lenC P c g
  | .builtin .max => mostC c false g
  | .builtin .min => mostC c true g
  | .builtin _ => g
  | .value (.func i) => let a := argsC c.args.toList; match staticExt P (.func i) with
    | none => ⟨fun e tm h k => a.run tm fun l => e.cf (.fn i l) h k⟩
    | some (n, g) => ⟨fun _ tm h k => a.run tm fun l => genK (evExt P h n g l) k⟩
  | .value f => let a := argsC c.args.toList; ⟨fun e tm h k => (opdC f).run tm fun v => a.run tm fun l => tgtK (target v l) fun i => e.cf i h k⟩
  | _ => g

def extractC (t : Operand) (i : Nat) (g : OpC) : OpC :=
  ⟨fun e tm h k => (opdC t).run tm fun v => tupleK v (g.run e tm h k) fun l => nthK l i fun r => k r h⟩

def allocC (P : Program) (t : TypeId) (g : OpC) : OpC :=
  match zeroOf P t with
  | some z => match z.cells.toList.all scalar with
    | true => ⟨fun _ _ h k => newK (.cells z.cells.toList t false) h k⟩
    | false => g
  | none => g

def boxC (t : TypeId) (x : Operand) (g : OpC) : OpC :=
  ⟨fun e tm h k => (opdC x).run tm fun v => scalK v (aggK v (g.run e tm h k) fun vs => allK vs (g.run e tm h k) (newK (.cells vs t false) h k)) (newK (.cells [v] t false) h k)⟩

def nilCheckC (x : Operand) (g : OpC) : OpC :=
  ⟨fun e tm h k => (opdC x).run tm fun v => ptrK v (g.run e tm h k) fun _ _ => k v h⟩

def pickC (c a b : Operand) (g : OpC) : OpC :=
  ⟨fun e tm h k => (opdC c).run tm fun v => boolK v (g.run e tm h k) fun t => bite t ((opdC a).run tm fun v => k v h) ((opdC b).run tm fun v => k v h)⟩

def moveC (x : Operand) : OpC := ⟨fun _ tm h k => (opdC x).run tm fun v => k v h⟩

def boolEqC (op : BinOp) (x y : Operand) (g : OpC) : OpC :=
  match op with
  | .eql => ⟨fun e tm h k => (opdC x).run tm fun v => (opdC y).run tm fun w => boolK v (g.run e tm h k) fun a => boolK w (g.run e tm h k) fun b => bite a (bite b (k (.bool true) h) (k (.bool false) h)) (bite b (k (.bool false) h) (k (.bool true) h))⟩
  | .neq => ⟨fun e tm h k => (opdC x).run tm fun v => (opdC y).run tm fun w => boolK v (g.run e tm h k) fun a => boolK w (g.run e tm h k) fun b => bite a (bite b (k (.bool false) h) (k (.bool true) h)) (bite b (k (.bool true) h) (k (.bool false) h))⟩
  | _ => g

def binC2 (P : Program) (op : BinOp) (t : TypeId) (x y : Operand) (g : OpC) : OpC :=
  match P.underlying t with
  | some .bool => boolEqC op x y g
  | _ => binOpC op x y g

def lookupC (P : Program) (t : TypeId) (x y : Operand) (ok : Bool) (g : OpC) : OpC :=
  match P.underlying t with
  | some (.map kt et) => match keyD P kt, zeroOf P et with
    | some d, some z => match ok with
      | true => ⟨fun e tm h k => (opdC x).run tm fun m => (opdC y).run tm fun v => mapK m (g.run e tm h k) fun r => getK h r fun o => mapObjK o (g.run e tm h k) fun es _ =>
          (askC d).run v (g.run e tm h k) fun q => flatsK (flatC d) es (g.run e tm h k) (findK q es (g.run e tm h k) (fun w => k (.tuple ⟨[w, .bool true]⟩) h) (k (.tuple ⟨[z, .bool false]⟩) h))⟩
      | false => ⟨fun e tm h k => (opdC x).run tm fun m => (opdC y).run tm fun v => mapK m (g.run e tm h k) fun r => getK h r fun o => mapObjK o (g.run e tm h k) fun es _ =>
          (askC d).run v (g.run e tm h k) fun q => flatsK (flatC d) es (g.run e tm h k) (findK q es (g.run e tm h k) (fun w => k w h) (k z h))⟩
    | _, _ => g
  | _ => g

def updateC (P : Program) (t : TypeId) (x y z : Operand) (g : OpC) : OpC :=
  match P.underlying t with
  | some (.map kt _) => match keyD P kt with
    | some d => ⟨fun e tm h k => (opdC x).run tm fun m => (opdC y).run tm fun v => (opdC z).run tm fun u => mapK m (g.run e tm h k) fun r => getK h r fun o => mapObjK o (g.run e tm h k) fun es c =>
        (askC d).run v (g.run e tm h k) fun q => flatsK (flatC d) es (g.run e tm h k) (findK q es (g.run e tm h k) (fun _ => g.run e tm h k)
          (snocK es ⟨v, u, c⟩ fun es => forceN (Nat.succ c) fun c => putK h r (.map es c) fun h => k undef h))⟩
    | none => g
  | _ => g

def opC (P : Program) (o : Oper) : OpC :=
  match o.op.operands.all (okOpd P) with
  | false => failC
  | true => match o.op with
    | .move x => moveC x
    | .assign x => moveC x
    | .pick c a b => pickC c a b (genC P o)
    | .alloc e => allocC P e (genC P o)
    | .box e x => boxC e x (genC P o)
    | .load t a => loadC P t a (genC P o)
    | .store t a x => storeC P t a x (genC P o)
    | .nilCheck x => nilCheckC x (genC P o)
    | .binOp op t x y _ => binC2 P op t x y (genC P o)
    | .unOp op _ x => unOpC op x (genC P o)
    | .convert s d x => convC P s d x (genC P o)
    | .fieldAddr t x f => fieldAddrC P t x f (genC P o)
    | .indexAddr t x i => indexAddrC P t x i (genC P o)
    | .extract t i => extractC t i (genC P o)
    | .lookup t x y ok => lookupC P t x y ok (genC P o)
    | .mapUpdate t m k v => updateC P t m k v (genC P o)
    | .insert t m k v => updateC P t m k v (genC P o)
    | .call c => callC P c (genC P o)
    | _ => genC P o

end
end Go.Eng
