/- An evaluator for the code of the model over a heap of its own: the definitions. -/
import GoSem.Step
namespace Go.Eng

inductive Tr (α : Type) where
  | nil
  | node (l : Tr α) (o : Option α) (r : Tr α)

namespace Tr
variable {α : Type}

def get : Tr α → Nat → Option α
  | .nil, _ => none
  | .node l o r, n => match n with
    | 0 => o
    | k + 1 => match Nat.beq (k % 2) 0 with
      | true => l.get (k / 2)
      | false => r.get (k / 2)

def setF : Nat → Tr α → Nat → Option α → Tr α
  | 0, t, _, _ => t
  | f + 1, .nil, n, v => match n with
    | 0 => .node .nil v .nil
    | k + 1 => match Nat.beq (k % 2) 0 with
      | true => .node (setF f .nil (k / 2) v) none .nil
      | false => .node .nil none (setF f .nil (k / 2) v)
  | f + 1, .node l o r, n, v => match n with
    | 0 => .node l v r
    | k + 1 => match Nat.beq (k % 2) 0 with
      | true => .node (setF f l (k / 2) v) o r
      | false => .node l o (setF f r (k / 2) v)

def set (t : Tr α) (n : Nat) (v : Option α) : Tr α := setF (n + 1) t n v

end Tr

mutual
def flat : Value → Bool
  | .bool _ => true
  | .int _ _ => true
  | .float _ _ => true
  | .complex _ _ _ => true
  | .string _ => true
  | .pointer none => true
  | .pointer (some _) => false
  | .slice none _ _ => true
  | .slice (some _) _ _ => false
  | .map none => true
  | .map (some _) => false
  | .chan _ => false
  | .func (.yield _) _ _ => false
  | .func _ first cap => flatA first && flatA cap
  | .nilFunc => true
  | .iface _ v => flat v
  | .nilIface => true
  | .agg cs => flatA cs
  | .tuple vs => flatA vs
def flatA : Array Value → Bool
  | ⟨l⟩ => flatL l
def flatL : List Value → Bool
  | [] => true
  | v :: r => flat v && flatL r
end

/-- A value of one cell. -/
def scalar : Value → Bool
  | .agg _ => false
  | .tuple _ => false
  | _ => true

structure Fm where
  fn : FuncId
  n : Nat
  tm : Tr Value
  defers : List Deferred
  round : Option Nat

inductive AObj where
  | cells (cs : List Value) (elem : TypeId) (opn : Bool)
  | ro (o : Nat) (cs : List Value) (elem : TypeId)
  | fro (cs : List Value) (elem : TypeId)
  | map (es : List MapEntry) (clock : Nat)
  | iter (s : ByteArray) (pos : Nat)
  | miter (m since : Nat) (seen : List Nat) (last : Nat)
  | loop (st : LoopState) (pending : Option Code) (fm : Fm) (params : Array Tmp) (assign body : Code) (defers : Nat)
  | defd (taken : Bool)

structure Hp where
  objs : Tr AObj
  next : Nat

def Hp.get (h : Hp) (i : Nat) : Option AObj := h.objs.get i
def Hp.put (h : Hp) (i : Nat) (o : AObj) : Hp := { h with objs := h.objs.set i (some o) }
def Hp.kill (h : Hp) (i : Nat) : Hp := { h with objs := h.objs.set i none }
def Hp.new (h : Hp) (o : AObj) : Hp := { objs := h.objs.set h.next (some o), next := h.next + 1 }

def undef : Value := .tuple #[]

def Fm.eval (F : Fm) : Operand → Value
  | .tmp t => (F.tm.get t).getD undef
  | .const v => v
  | .global g => .pointer (some ⟨g, 0, none⟩)
  | .func f => .func (.func f) #[] #[]

def okOpd (P : Program) : Operand → Bool
  | .tmp _ => true
  | .const v => flat v
  | .global g => Nat.blt g P.globals.size
  | .func _ => true

def Fm.put (F : Fm) (dst : Option Tmp) (v : Value) : Fm :=
  match dst with
  | some d => match Nat.blt d F.n with
    | true => { F with tm := F.tm.set d (some v) }
    | false => F
  | none => F

/-- Runs what asks the program alone. -/
def pureRun (P : Program) {α : Type} : Sem α → Option α
  | .pure a => some a
  | .program k => pureRun P (k P)
  | _ => none

def pureOp (P : Program) (ρ : Operand → Value) (o : Oper) : Option Value :=
  match o.op.operands.all fun x => flat (ρ x) with
  | false => none
  | true => match pureRun P (execOp ρ o) with
    | some (.value v) => match flat v with
      | true => some v
      | false => none
    | _ => none

def zeroOf (P : Program) (t : TypeId) : Option Value :=
  match pureRun P (zeroValue t) with
  | some v => match flat v with
    | true => some v
    | false => none
  | none => none

def takeN : Nat → List Value → Option (List Value)
  | 0, _ => some []
  | _ + 1, [] => none
  | n + 1, v :: r => match takeN n r with
    | some l => some (v :: l)
    | none => none

def splice (l : List Value) (n : Nat) (vs : List Value) : List Value := l.take n ++ vs ++ l.drop (n + vs.length)

def loadN (h : Hp) (i off n : Nat) : Option (List Value) :=
  match h.get i with
  | some (.cells cs _ _) => takeN n (cs.drop off)
  | some (.ro o cs _) => match Nat.ble o off with
    | true => takeN n (cs.drop (off - o))
    | false => none
  | some (.fro cs _) => takeN n (cs.drop off)
  | _ => none

def storeN (h : Hp) (i off : Nat) (vs : List Value) : Option Hp :=
  match h.get i with
  | some (.cells cs e opn) => match Nat.ble (off + vs.length) cs.length, vs.all scalar with
    | true, true => some (h.put i (.cells (splice cs off vs) e opn))
    | _, _ => none
  | _ => none

def isAggT (P : Program) (t : TypeId) : Option Bool :=
  match P.underlying t with
  | some (.struct _) => some true
  | some (.array _ _) => some true
  | some _ => some false
  | none => none

def sizeT (P : Program) (t : TypeId) : Option Nat :=
  match P.info? t with
  | some i => some i.size
  | none => none

def loadT (P : Program) (h : Hp) (t : TypeId) (v : Value) : Option Value :=
  match v with
  | .pointer (some ⟨i, off, none⟩) => match isAggT P t, sizeT P t with
    | some true, some n => match loadN h i off n with
      | some l => some (.agg l.toArray)
      | none => none
    | some false, _ => match loadN h i off 1 with
      | some [x] => some x
      | _ => none
    | _, _ => none
  | _ => none

def storeT (P : Program) (h : Hp) (t : TypeId) (a v : Value) : Option Hp :=
  match a, sizeT P t with
  | .pointer (some ⟨i, off, none⟩), some n => match Nat.beq v.cells.size n with
    | true => storeN h i off v.cells.toList
    | false => none
  | _, _ => none

/-- The address of a part. -/
def addTo (i off n : Nat) : Value := .pointer (some ⟨i, off + n, none⟩)

def natOf : Value → Option Nat
  | .int _ (.ofNat n) => some n
  | _ => none

def bound (x : Option Value) (dflt most : Nat) : Option Nat :=
  match x with
  | none => some dflt
  | some v => match natOf v with
    | some n => match Nat.ble n most with
      | true => some n
      | false => none
    | none => none

/-- A slice's value: its capacity c is written 2 c, or 2 c + 1 if more may follow. -/
def sliceV (i off size : Nat) (c : Nat) (opn : Bool) (len : Nat) (lo hi mx : Option Value) : Option Value :=
  match bound mx c c with
  | none => none
  | some m => match bound hi len (if mx.isSome then m else c) with
    | none => none
    | some h => match bound lo 0 h with
      | none => none
      | some l => match Nat.ble l m, Nat.beq m l, opn && !mx.isSome with
        | false, _, _ => none
        | true, true, true => match l with
          | 0 => some (.slice (some ⟨i, off, none⟩) (h - l) 1)
          | l + 1 => some (.slice (some ⟨i, off, some ((l + 1) * size)⟩) (h - (l + 1)) 1)
        | true, true, false => some (.slice (some ⟨i, off, none⟩) (h - l) 0)
        | true, false, true => some (.slice (some ⟨i, off + l * size, none⟩) (h - l) (2 * (m - l) + 1))
        | true, false, false => some (.slice (some ⟨i, off + l * size, none⟩) (h - l) (2 * (m - l)))

/-- The length and the capacity of a part of a slice of known capacity. -/
def sliceZ (len cap : Nat) (lo hi mx : Option Value) : Option (Nat × Nat) :=
  match bound mx cap cap with
  | none => none
  | some m => match bound hi len (if mx.isSome then m else cap) with
    | none => none
    | some h => match bound lo 0 h with
      | none => none
      | some l => some (h - l, m - l)

def sliceOp (P : Program) (t : TypeId) (x : Value) (lo hi mx : Option Value) : Option Value :=
  match P.underlying t, x with
  | some (.slice e), .slice (some ⟨i, off, none⟩) len cap => match sizeT P e with
    | some s => sliceV i off s (cap / 2) (Nat.beq (cap % 2) 1) len lo hi mx
    | none => none
  | some (.array n e), .pointer (some ⟨i, off, none⟩) => match sizeT P e with
    | some s => sliceV i off s n false n lo hi mx
    | none => none
  | some (.slice e), .slice none len cap => match sizeT P e, sliceZ len cap lo hi mx with
    | some _, some (a, b) => some (.slice none a b)
    | _, _ => none
  | some (.slice e), .slice (some ⟨i, off, some q⟩) 0 0 => match sizeT P e, sliceZ 0 0 lo hi mx with
    | some _, some _ => some (.slice (some ⟨i, off, some q⟩) 0 0)
    | _, _ => none
  | _, _ => none

def indexAddrOp (P : Program) (t : TypeId) (x ix : Value) : Option Value :=
  match natOf ix with
  | none => none
  | some k => match P.underlying t, x with
    | some (.array n e), .pointer (some ⟨i, off, none⟩) => match Nat.blt k n, sizeT P e with
      | true, some s => some (addTo i off (k * s))
      | _, _ => none
    | some (.slice e), .slice (some ⟨i, off, none⟩) len _ => match Nat.blt k len, sizeT P e with
      | true, some s => some (addTo i off (k * s))
      | _, _ => none
    | _, _ => none

def fieldAddrOp (P : Program) (t : TypeId) (x : Value) (f : Nat) : Option Value :=
  match P.underlying t, x with
  | some (.struct fs), .pointer (some ⟨i, off, none⟩) => match fs[f]? with
    | some fd => match sizeT P fd.type with
      | some 0 => none
      | some (_ + 1) => some (addTo i off fd.offset)
      | none => none
    | none => none
  | _, _ => none

def zeros (z : List Value) : Nat → List Value
  | 0 => []
  | n + 1 => z ++ zeros z n

def byteCells (s : ByteArray) : List Value := s.data.toList.map fun b => Value.int .u8 b.toNat

/-- The cells of the first n elements of a slice. -/
def elems (h : Hp) (size n : Nat) : Value → Option (List Value)
  | .slice (some ⟨i, off, none⟩) _ _ => match n with | 0 => some [] | m + 1 => loadN h i off ((m + 1) * size)
  | .slice none _ _ => match n with | 0 => some [] | _ + 1 => none
  | .slice (some ⟨_, _, some _⟩) _ _ => match n with | 0 => some [] | _ + 1 => none
  | .string s => match size, Nat.beq n s.size with
    | 1, true => some (byteCells s)
    | _, _ => none
  | _ => none

def lenV : Value → Option Nat
  | .slice _ n _ => some n
  | .string s => some s.size
  | _ => none

/-- No more elements than this are ever in one slice here. -/
def most : Nat := 16777216

def appendOp (P : Program) (h : Hp) (t : TypeId) (s x : Value) : Option (Value × Hp) :=
  match P.underlying t with
  | some (.slice e) => match sizeT P e, P.info? e, zeroOf P e, lenV x with
    | some size, some inf, some z, some n => match elems h size n x, Nat.beq z.cells.size size, Nat.ble (inf.bytes) 4096 with
      | some new, true, true => match new.all scalar with
        | false => none
        | true => match s with
          | .slice none 0 0 => match n with
            | 0 => some (.slice none 0 0, h)
            | _ + 1 => match Nat.ble n most with
              | true => some (.slice (some ⟨h.next, 0, none⟩) n (2 * n + 1), h.new (.cells new e true))
              | false => none
          | .slice (some ⟨i, off, none⟩) len cap => match Nat.ble (len + n) most, Nat.ble (len + n) (cap / 2) with
            | false, _ => none
            | true, true => match storeN h i (off + len * size) new with
              | some h' => some (.slice (some ⟨i, off, none⟩) (len + n) cap, h')
              | none => none
            | true, false => match loadN h i off (len * size) with
              | none => none
              | some old => match Nat.beq (cap % 2) 0 with
                | true => some (.slice (some ⟨h.next, 0, none⟩) (len + n) (2 * (len + n) + 1), h.new (.cells (old ++ new) e true))
                | false => match Nat.beq off 0, h.get i with
                  | true, some (.cells cs e' true) => match Nat.beq e' e && Nat.beq cs.length (cap / 2 * size) with
                    | true => some (.slice (some ⟨h.next, 0, none⟩) (len + n) (2 * (len + n) + 1), (h.kill i).new (.cells (old ++ new) e true))
                    | false => none
                  | _, _ => none
          | _ => none
      | _, _, _ => none
    | _, _, _, _ => none
  | _ => none

def copyOp (P : Program) (h : Hp) (t : TypeId) (d s : Value) : Option (Value × Hp) :=
  match P.underlying t with
  | some (.slice e) => match sizeT P e, lenV s, d with
    | some size, some n, .slice (some ⟨i, off, none⟩) dl _ =>
      let k := Nat.min n dl
      match elems h size k s with
      | some new => match storeN h i off new with
        | some h' => some (.int .i64 k, h')
        | none => none
      | none => none
    | some _, some _, .slice none 0 _ => some (.int .i64 0, h)
    | _, _, _ => none
  | _ => none

def makeSliceOp (P : Program) (h : Hp) (t : TypeId) (l c : Value) : Option (Value × Hp) :=
  match P.underlying t with
  | some (.slice e) => match natOf l, natOf c, zeroOf P e, P.info? e with
    | some len, some cap, some z, some inf => match Nat.ble len cap, Nat.ble cap most, Nat.ble inf.bytes 4096, Nat.beq z.cells.size inf.size with
      | true, true, true, true => match z.cells.toList.all scalar with
        | true => some (.slice (some ⟨h.next, 0, none⟩) len (2 * cap), h.new (.cells (zeros z.cells.toList cap) e false))
        | false => none
      | _, _, _, _ => none
    | _, _, _, _ => none
  | _ => none

def buildSliceOp (P : Program) (h : Hp) (t : TypeId) (len : Nat) (parts : List (Nat × Value)) : Option (Value × Hp) :=
  match P.underlying t with
  | some (.slice e) => match sizeT P e, zeroOf P e with
    | some size, some z => match Nat.beq z.cells.size size, Nat.ble (len * size) most with
      | true, true => match Instr.fill (fun i => some (i * size, size)) (zeros z.cells.toList len).toArray parts with
        | some cs => match cs.toList.all scalar with
          | true => some (.slice (some ⟨h.next, 0, none⟩) len (2 * len), h.new (.cells cs.toList e false))
          | false => none
        | none => none
      | _, _ => none
    | _, _ => none
  | _ => none

def buildOp (P : Program) (t : TypeId) (parts : List (Nat × Value)) : Option Value :=
  match zeroOf P t, P.underlying t with
  | some z, some (.struct fs) => match pureRun P (fs.mapM fun f => do pure (f.offset, ← sizeOf f.type)) with
    | some places => match Instr.fill (places[·]?) z.cells parts with
      | some cs => some (.agg cs)
      | none => none
    | none => none
  | some z, some (.array _ e) => match sizeT P e with
    | some size => match Instr.fill (fun i => some (i * size, size)) z.cells parts with
      | some cs => some (.agg cs)
      | none => none
    | none => none
  | _, _ => none

def fieldOp (P : Program) (t : TypeId) (x : Value) (f : Nat) : Option Value :=
  match P.underlying t, x with
  | some (.struct fs), .agg cs => match fs[f]? with
    | some fd => match isAggT P fd.type, sizeT P fd.type with
      | some true, some n => some (.agg (cs.extract fd.offset (fd.offset + n)))
      | some false, _ => cs[fd.offset]?
      | _, _ => none
    | none => none
  | _, _ => none

/-- A map's entry under a key. -/
def findIn (P : Program) (kt : TypeId) (k : Value) (es : List MapEntry) : Option (Option (Nat × Value)) :=
  match es.all fun e => flat e.key with
  | false => none
  | true => pureRun P (do Instr.checkKey es.isEmpty 10000 kt k; Instr.findKey kt k es)

def lookupOp (P : Program) (h : Hp) (t : TypeId) (x k : Value) (ok : Bool) : Option Value :=
  match P.underlying t, flat k with
  | some (.map kt et), true => match (match x with | .map none => some [] | .map (some r) => (match h.get r with | some (.map es _) => some es | _ => none) | _ => none) with
    | some es => match findIn P kt k es with
      | some (some (_, v)) => some (if ok then .tuple #[v, .bool true] else v)
      | some none => match zeroOf P et with
        | some z => some (if ok then .tuple #[z, .bool false] else z)
        | none => none
      | none => none
    | none => none
  | _, _ => none

def setAt : List MapEntry → Nat → Value → Value → List MapEntry
  | [], _, _, _ => []
  | e :: r, 0, k, v => { e with key := k, val := v } :: r
  | e :: r, n + 1, k, v => e :: setAt r n k v

def keyAt : List MapEntry → Nat → Value → Value
  | [], _, d => d
  | e :: _, 0, _ => e.key
  | _ :: r, n + 1, d => keyAt r n d

def mapUpdateOp (P : Program) (h : Hp) (t : TypeId) (m k v : Value) : Option Hp :=
  match P.underlying t, flat k, m with
  | some (.map kt _), true, .map (some r) => match h.get r with
    | some (.map es clock) => match (match es.all fun e => flat e.key with
        | false => none
        | true => pureRun P (do Instr.checkKey false 10000 kt k; Instr.findKey kt k es)) with
      | some (some (i, _)) => match Instr.sameBits 10000 (keyAt es i k) k with
        | true => some (h.put r (.map (setAt es i k v) clock))
        | false => none
      | some none => some (h.put r (.map (es ++ [{ key := k, val := v, born := clock }]) (clock + 1)))
      | none => none
    | _ => none
  | _, _, _ => none

def bornAt : List MapEntry → Nat → Nat
  | [], _ => 0
  | e :: _, 0 => e.born
  | _ :: r, n + 1 => bornAt r n

/-- The entry of a key: what it holds, and its stamp; a new one holds zero. -/
def mapEntryOp (P : Program) (h : Hp) (t : TypeId) (m k : Value) : Option (Value × Hp) :=
  match P.underlying t, flat k, m with
  | some (.map kt et), true, .map (some r) => match h.get r with
    | some (.map es clock) => match (match es.all fun e => flat e.key with
        | false => none
        | true => pureRun P (do Instr.checkKey false 10000 kt k; Instr.findKey kt k es)) with
      | some (some (i, v)) => match Instr.sameBits 10000 (keyAt es i k) k with
        | true => some (.tuple #[v, .int .i64 (bornAt es i)], h.put r (.map (setAt es i k v) clock))
        | false => none
      | some none => match zeroOf P et with
        | some z => some (.tuple #[z, .int .i64 clock], h.put r (.map (es ++ [{ key := k, val := z, born := clock }]) (clock + 1)))
        | none => none
      | none => none
    | _ => none
  | _, _, _ => none

def storeBorn : List MapEntry → Nat → Value → Option (List MapEntry)
  | [], _, _ => none
  | e :: r, b, v => match Nat.beq e.born b with
    | true => some ({ e with val := v } :: r)
    | false => match storeBorn r b v with
      | some q => some (e :: q)
      | none => none

def entryStoreOp (h : Hp) (m s v : Value) : Option Hp :=
  match m, s with
  | .map (some r), .int _ (.ofNat b) => match h.get r with
    | some (.map es clock) => match storeBorn es b v with
      | some q => some (h.put r (.map q clock))
      | none => none
    | _ => none
  | _, _ => none

/-- x == y where one is nil. -/
def nilEq (P : Program) (t : TypeId) (a b : Value) : Option Bool :=
  match P.underlying t, a, b with
  | some (.slice _), .slice u _ _, .slice u' _ _ => match u.isNone || u'.isNone with
    | true => some (u.isNone && u'.isNone)
    | false => none
  | some (.pointer e), .pointer u, .pointer u' => match u.isNone || u'.isNone with
    | true => some (u.isNone && u'.isNone)
    | false => match u, u', sizeT P e with
      | some ⟨i, o, none⟩, some ⟨j, q, none⟩, some (_ + 1) => match Nat.beq i j with
        | true => some (Nat.beq o q)
        | false => none
      | _, _, _ => none
  | some (.map _ _), .map u, .map u' => match u.isNone || u'.isNone with
    | true => some (u.isNone && u'.isNone)
    | false => none
  | _, _, _ => none

inductive Inv where
  | fn (f : FuncId) (args : List Value)
  | yield (l : Nat) (args : List Value)

abbrev CallF := Inv → Hp → Option (Value × Hp)

/-- What is called. -/
def target (f : Value) (args : List Value) : Option Inv :=
  match f with
  | .func (.func g) first cap => some (.fn g (first.toList ++ args ++ cap.toList))
  | .func (.yield l) first cap => match first.toList, cap.toList with
    | [], [] => some (.yield l args)
    | _, _ => none
  | _ => none

/-- Functions of the library without a Go body that are known here. -/
def extName (n : String) : Nat :=
  if n = "math/bits.Add64" then 1 else if n = "math/bits.Sub64" then 2 else if n = "internal/abi.NoEscape" then 3 else
  if n = "internal/bytealg.IndexByteString" then 4 else if n = "internal/bytealg.MakeNoZero" then 5 else 0

def extCode (P : Program) (g : FuncId) : Nat :=
  match P.funcs[g]? with
  | some fn => match fn.body with
    | none => match decide (fn.origin = "") with
      | true => extName fn.name
      | false => 0
    | some _ => 0
  | none => 0

def staticExt (P : Program) : Operand → Option (Nat × FuncId)
  | .func g => match extCode P g with
    | 0 => none
    | c + 1 => some (c + 1, g)
  | _ => none

def pair64 (a b : Nat) : Value := .tuple #[.int .u64 (Int.ofNat a), .int .u64 (Int.ofNat b)]

/-- The first place of a byte in a string. -/
def firstByte (s : ByteArray) (c : UInt8) : Int :=
  match (List.range s.size).find? fun i => s[i]! == c with
  | some i => i
  | none => -1

def resultElem (P : Program) (g : FuncId) : Option TypeId :=
  match P.funcs[g]? with
  | some fn => match fn.resultTypes[0]? with
    | some t => match P.underlying t with
      | some (.slice e) => some e
      | _ => none
    | none => none
  | none => none

def evExt (P : Program) (h : Hp) (c : Nat) (g : FuncId) (args : List Value) : Option (Value × Hp) :=
  match c, args with
  | 1, [.int .u64 (.ofNat x), .int .u64 (.ofNat y), .int .u64 (.ofNat d)] => match Nat.ble d 1 with
    | true => some (pair64 ((x + y + d) % 18446744073709551616) ((x + y + d) / 18446744073709551616), h)
    | false => none
  | 2, [.int .u64 (.ofNat x), .int .u64 (.ofNat y), .int .u64 (.ofNat d)] => match Nat.ble d 1 with
    | true => some (pair64 ((x + 18446744073709551616 - y - d) % 18446744073709551616) (match Nat.blt x (y + d) with | true => 1 | false => 0), h)
    | false => none
  | 3, [x] => some (x, h)
  | 4, [.string s, .int .u8 (.ofNat b)] => some (.int .i64 (firstByte s b.toUInt8), h)
  | 5, [.int .i64 (.ofNat n)] => match resultElem P g, Nat.ble n most with
    | some e, true => match sizeT P e with
      | some 1 => some (.slice (some ⟨h.next, 0, none⟩) n 1, h.new (.cells [] e true))
      | _ => none
    | _, _ => none
  | _, _ => none

/-- A pointer seen as unsafe.Pointer, and back. -/
def convPtr (P : Program) (h : Hp) (s d : TypeId) (x : Value) : Option Value :=
  match P.underlying s, P.underlying d, x with
  | some (.pointer t), some .unsafePointer, .pointer (some ⟨i, off, none⟩) => match h.get i, sizeT P t with
    | some (.cells cs _ _), some (_ + 1) => match Nat.blt off cs.length with
      | true => some x
      | false => none
    | _, _ => none
  | some .unsafePointer, some (.pointer u), .pointer (some ⟨i, off, none⟩) => match h.get i, sizeT P u with
    | some (.cells cs e false), some _ => match liesAt P P.depth e (cs.length / P.cellsOf e) off u 1 with
      | true => some x
      | false => none
    | _, _ => none
  | _, _, _ => none

def bytesV : List Value → ByteArray → Option ByteArray
  | [], a => some a
  | .int .u8 (.ofNat b) :: r, a => bytesV r (a.push b.toUInt8)
  | _, _ => none

/-- The string of a slice of bytes. -/
def bytesStr (P : Program) (h : Hp) (s d : TypeId) (x : Value) : Option Value :=
  match P.underlying s, P.underlying d, x with
  | some (.slice e), some .string, .slice a n c => match P.underlying e, elems h 1 n (.slice a n c) with
    | some (.int .u8), some l => match bytesV l .empty with
      | some b => some (.string b)
      | none => none
    | _, _ => none
  | _, _, _ => none

/-- A string that shares a slice's bytes: nobody writes them any more. -/
def unsafeStr (P : Program) (h : Hp) (t : TypeId) (p : Value) (n : Nat) : Option (Value × Hp) :=
  match n, p with
  | 0, .pointer _ => some (.string .empty, h)
  | n + 1, .pointer (some ⟨i, 0, none⟩) => match h.get i, P.underlying t with
    | some (.cells cs e _), some (.pointer u) => match Nat.ble (n + 1) cs.length && Nat.ble (n + 1) most, bytesV (cs.take (n + 1)) .empty, sizeT P e, P.underlyingId e == P.underlyingId u && Nat.blt 0 P.depth with
      | true, some b, some 1, true => some (.string b, h.kill i)
      | _, _, _, _ => none
    | _, _ => none
  | _, _ => none

def clearOp (P : Program) (h : Hp) (t : TypeId) (x : Value) : Option Hp :=
  match P.underlying t, x with
  | some (.slice _), .slice none _ _ => some h
  | some (.slice e), .slice (some ⟨i, off, none⟩) n _ => match n with
    | 0 => some h
    | n + 1 => match zeroOf P e with
      | some z => storeN h i off (zeros z.cells.toList (n + 1))
      | none => none
  | _, _ => none

def capV : Value → Option Nat
  | .slice none _ c => some c
  | .slice (some _) _ c => match Nat.beq (c % 2) 0 with
    | true => some (c / 2)
    | false => none
  | _ => none

def builtinOp (P : Program) (ρ : Operand → Value) (h : Hp) (o : Oper) (b : Builtin) (argTypes : Array TypeId) (args : List Value) : Option (Value × Hp) :=
  match b with
  | .append => match argTypes.toList, args with
    | [t, t2], [s, x] => match P.underlying t2, x with
      | some (.slice _), .slice a n c => appendOp P h t s (.slice a n c)
      | some .string, .string b => appendOp P h t s (.string b)
      | _, _ => none
    | _, _ => none
  | .copy => match argTypes.toList, args with
    | [t, _], [d, s] => copyOp P h t d s
    | _, _ => none
  | .len => match argTypes.toList, args with
    | [t], [x] => match P.underlying t, x with
      | some (.slice _), .slice _ n _ => some (.int .i64 n, h)
      | some (.map _ _), .map (some r) => match h.get r with
        | some (.map es _) => some (.int .i64 es.length, h)
        | _ => none
      | _, _ => (pureOp P ρ o).map (·, h)
    | _, _ => none
  | .min => (pureOp P ρ o).map (·, h)
  | .max => (pureOp P ρ o).map (·, h)
  | .cap => match argTypes.toList, args with
    | [t], [x] => match P.underlying t, capV x with
      | some (.slice _), some c => some (.int .i64 c, h)
      | _, _ => none
    | _, _ => none
  | .clear => match argTypes.toList, args with
    | [t], [x] => (clearOp P h t x).map (undef, ·)
    | _, _ => none
  | .unsafeSliceData => match args with
    | [.slice none _ _] => some (.pointer none, h)
    | [.slice (some ⟨i, o, none⟩) _ c] => match c / 2 with
      | 0 => none
      | _ + 1 => some (.pointer (some ⟨i, o, none⟩), h)
    | _ => none
  | .unsafeString => match argTypes.toList, args with
    | t :: _, [p, .int _ (.ofNat n)] => unsafeStr P h t p n
    | _, _ => none
  | _ => none

def evOp (callF : CallF) (P : Program) (o : Oper) (F : Fm) (h : Hp) : Option (Value × Hp) :=
  match o.op.operands.all (okOpd P) with
  | false => none
  | true =>
    let ρ := F.eval
    match o.op with
    | .move x => some (ρ x, h)
    | .assign x => some (ρ x, h)
    | .pick c a b => match ρ c with
      | .bool t => some (if t then ρ a else ρ b, h)
      | _ => none
    | .alloc e => match zeroOf P e with
      | some z => match z.cells.toList.all scalar with
        | true => some (.pointer (some ⟨h.next, 0, none⟩), h.new (.cells z.cells.toList e false))
        | false => none
      | none => none
    | .box e x => match (ρ x).cells.toList.all scalar with
      | true => some (.pointer (some ⟨h.next, 0, none⟩), h.new (.cells (ρ x).cells.toList e false))
      | false => none
    | .build t ps => (buildOp P t (ps.toList.map fun (i, x) => (i, ρ x))).map (·, h)
    | .buildSlice t n ps => buildSliceOp P h t n (ps.toList.map fun (i, x) => (i, ρ x))
    | .load t a => (loadT P h t (ρ a)).map (·, h)
    | .store t a x => (storeT P h t (ρ a) (ρ x)).map (undef, ·)
    | .nilCheck x => match ρ x with
      | .pointer (some a) => some (.pointer (some a), h)
      | .func (.func g) a b => some (.func (.func g) a b, h)
      | .func (.yield l) a b => some (.func (.yield l) a b, h)
      | _ => none
    | .binOp op t x y _ => match flat (ρ x) && flat (ρ y) with
      | true => (pureOp P ρ o).map (·, h)
      | false => match op, nilEq P t (ρ x) (ρ y) with
        | .eql, some b => some (.bool b, h)
        | .neq, some b => some (.bool (!b), h)
        | _, _ => none
    | .unOp .. => (pureOp P ρ o).map (·, h)
    | .convert .. => (pureOp P ρ o).map (·, h)
    | .makeInterface t x => match P.underlying t with
      | some (.interface _) => none
      | some _ => some (.iface t (ρ x), h)
      | none => none
    | .makeFunc fn first cap => match fn with
      | .func g => some (.func (.func g) (first.map ρ) (cap.map ρ), h)
      | _ => none
    | .makeMap t r => match r with
      | none => some (.map (some h.next), h.new (.map [] 0))
      | some x => match P.underlying t, ρ x with
        | some (.map _ _), .int _ _ => some (.map (some h.next), h.new (.map [] 0))
        | _, _ => none
    | .makeSlice t l c => makeSliceOp P h t (ρ l) (ρ c)
    | .slice t x lo hi mx => match flat (ρ x) with
      | true => (pureOp P ρ o).map (·, h)
      | false => match hi.isNone && mx.isSome with
        | true => none
        | false => (sliceOp P t (ρ x) (lo.map ρ) (hi.map ρ) (mx.map ρ)).map (·, h)
    | .fieldAddr t x f => (fieldAddrOp P t (ρ x) f).map (·, h)
    | .field t x f => (fieldOp P t (ρ x) f).map (·, h)
    | .indexAddr t x i => (indexAddrOp P t (ρ x) (ρ i)).map (·, h)
    | .index .. => (pureOp P ρ o).map (·, h)
    | .lookup t x k ok => (lookupOp P h t (ρ x) (ρ k) ok).map (·, h)
    | .mapUpdate t m k v => (mapUpdateOp P h t (ρ m) (ρ k) (ρ v)).map (undef, ·)
    | .insert t m k v => (mapUpdateOp P h t (ρ m) (ρ k) (ρ v)).map (undef, ·)
    | .mapEntry t m k => mapEntryOp P h t (ρ m) (ρ k)
    | .entryStore _ m s v => (entryStoreOp h (ρ m) (ρ s) (ρ v)).map (undef, ·)
    | .extract t i => match ρ t with
      | .tuple vs => (vs[i]?).map (·, h)
      | _ => none
    | .call c => match c.callee with
      | .builtin b => builtinOp P ρ h o b c.argTypes (c.args.toList.map ρ)
      | .value f => match staticExt P f with
        | some (c', g) => evExt P h c' g (c.args.toList.map ρ)
        | none => match target (ρ f) (c.args.toList.map ρ) with
          | some i => callF i h
          | none => none
      | _ => none
    | .range t x => match P.underlying t, ρ x with
      | some .string, .string s => some (.pointer (some ⟨h.next, 0, none⟩), h.new (.iter s 0))
      | _, _ => none
    | .next it isS => match ρ it, isS with
      | .pointer (some ⟨r, 0, none⟩), true => match h.get r with
        | some (.iter s pos) => match Nat.blt pos s.size with
          | true =>
            let d := Utf8.decode s pos
            some (.tuple #[.bool true, .int .i64 pos, .int .i32 d.1], h.put r (.iter s (pos + d.2)))
          | false => some (.tuple #[.bool false], h)
        | _ => none
      | _, _ => none
    | _ => none

def yieldedT (ops : Array Oper) (tm : Tr Value) (j : Nat) : Option Bool :=
  match ops[j]? with
  | some o => match o.dst with
    | some d => match tm.get d with
      | some (.bool b) => some b
      | _ => none
    | none => none
  | none => none

def wantedT (ops : Array Oper) (F : Fm) (o : Oper) : Bool :=
  match o.guard with
  | none => true
  | some (j, want) => match yieldedT ops F.tm j, want with
    | some true, true => true
    | some false, false => true
    | _, _ => false

/-- Operations that only stand where the order is fixed. -/
def isLate (P : Program) : Op → Bool
  | .defer _ => true
  | .call c => match c.callee with
    | .builtin .recover => true
    | _ => false
  | .convert s d _ => match P.underlying s, P.underlying d with
    | some .string, some (.slice _) => true
    | some (.slice _), some .string => true
    | some (.pointer _), some .unsafePointer => true
    | some .unsafePointer, some (.pointer _) => true
    | _, _ => false
  | _ => false

/-- A call that is put off. -/
def deferOf (F : Fm) (c : Call) : Option Deferred :=
  match c.callee, F.round with
  | .value f, none => match F.eval f with
    | .func (.func g) first cap => some { target := .fn (.func g) cap, args := first ++ (c.args.map F.eval) }
    | _ => none
  | _, _ => none

def strBytes (P : Program) (h : Hp) (d : TypeId) (x : Value) : Option (Value × Hp) :=
  match P.underlying d, x with
  | some (.slice e), .string s => match P.underlying e, Nat.ble s.size most with
    | some (.int .u8), true => some (.slice (some ⟨h.next, 0, none⟩) s.size (2 * s.size + 1), h.new (.fro (byteCells s) e))
    | _, _ => none
  | _, _ => none

def evLate (P : Program) (o : Oper) (F : Fm) (h : Hp) : Option (Value × Fm × Hp) :=
  match o.op.operands.all (okOpd P) with
  | false => none
  | true => match o.op with
    | .defer c => match deferOf F c with
      | some d => some (undef, { F with defers := d :: F.defers }, h)
      | none => none
    | .call c => match c.callee, F.round, c.args.toList with
      | .builtin .recover, none, [] => some (.nilIface, F, h)
      | _, _, _ => none
    | .convert s d x => match P.underlying s with
      | some .string => match strBytes P h d (F.eval x) with
        | some (v, h') => some (v, F, h')
        | none => none
      | some (.slice _) => match bytesStr P h s d (F.eval x) with
        | some v => some (v, F, h)
        | none => none
      | _ => match convPtr P h s d (F.eval x) with
        | some v => some (v, F, h)
        | none => none
    | _ => none

def evOps (callF : CallF) (P : Program) (ops : Array Oper) : List Oper → Fm → Hp → Option (Fm × Hp)
  | [], F, h => some (F, h)
  | o :: rest, F, h => match wantedT ops F o with
    | true => match isLate P o.op with
      | true => match evLate P o F h with
        | some (v, F', h') => evOps callF P ops rest (F'.put o.dst v) h'
        | none => none
      | false => match evOp callF P o F h with
        | some (v, h') => evOps callF P ops rest (F.put o.dst v) h'
        | none => none
    | false => evOps callF P ops rest (F.put o.dst undef) h

inductive Ex where
  | normal
  | exit (id : Nat)
  | ret

def Ex.code : Ex → Option Code
  | .normal => none
  | .exit id => some (.exit id)
  | .ret => some .ret

abbrev R3 := Option (Ex × Fm × Hp)

def loopN (body : Fm → Hp → R3) : Nat → Fm → Hp → R3
  | 0, _, _ => none
  | n + 1, F, h => match body F h with
    | some (.normal, F', h') => loopN body n F' h'
    | r => r

/-- What turns the heap. -/
def isEff : Op → Bool
  | .alloc _ => true
  | .box _ _ => true
  | .buildSlice _ _ _ => true
  | .store _ _ _ => true
  | .makeMap _ _ => true
  | .makeSlice _ _ _ => true
  | .mapUpdate _ _ _ _ => true
  | .mapEntry _ _ _ => true
  | .entryStore _ _ _ _ => true
  | .insert _ _ _ _ => true
  | .range _ _ => true
  | .next _ _ => true
  | .call c => match c.callee with
    | .builtin .len => false
    | .builtin .min => false
    | .builtin .max => false
    | _ => true
  | _ => false

/-- What looks at the heap, and leaves it. -/
def isRead : Op → Bool
  | .load _ _ => true
  | .lookup _ _ _ _ => true
  | .call _ => true
  | _ => false

mutual
def veq : Value → Value → Bool
  | .bool a, .bool b => a == b
  | .int j a, .int k b => decide (j = k) && decide (a = b)
  | .string a, .string b => decide (a = b)
  | .pointer a, .pointer b => decide (a = b)
  | .slice a l c, .slice b m d => decide (a = b) && Nat.beq l m && Nat.beq c d
  | .map a, .map b => decide (a = b)
  | .func f a b, .func g c d => decide (f = g) && veqA a c && veqA b d
  | .nilFunc, .nilFunc => true
  | .iface t v, .iface u w => Nat.beq t u && veq v w
  | .nilIface, .nilIface => true
  | .agg a, .agg b => veqA a b
  | .tuple a, .tuple b => veqA a b
  | _, _ => false
def veqA : Array Value → Array Value → Bool
  | ⟨a⟩, ⟨b⟩ => veqL a b
def veqL : List Value → List Value → Bool
  | [], [] => true
  | a :: r, b :: q => veq a b && veqL r q
  | _, _ => false
end

def maskOf (acc : List Nat) : List Edge → Nat → Nat
  | [], s => s
  | e :: r, s => match Region.binds .any e with
    | true => maskOf acc r (s ||| 2 ^ e.on ||| acc.getD e.on 0)
    | false => maskOf acc r s

def edgesOK (i : Nat) (l : List Edge) : Bool := l.all fun e => !Region.binds .any e || Nat.blt e.on i

/-- Of each operation those that come ahead of it in every order. -/
def masks : List Oper → List Nat → Option (List Nat)
  | [], acc => some acc
  | o :: r, acc => match edgesOK acc.length o.after.toList with
    | true => masks r (acc ++ [maskOf acc o.after.toList 0])
    | false => none

def anc (ms : List Nat) (i j : Nat) : Bool := (ms.getD i 0).testBit j

def looks (ops : Array Oper) (o : Oper) (d : Nat) : Bool :=
  (o.op.operands.any fun | .tmp t => Nat.beq t d | _ => false) ||
  (match o.guard with
    | some (g, _) => (match ops[g]? with
      | some q => (match q.dst with
        | some t => Nat.beq t d
        | none => false)
      | none => false)
    | none => false)

def tempsOK (ops : Array Oper) (ms : List Nat) : Bool :=
  ops.toList.zipIdx.all fun p => ops.toList.zipIdx.all fun q => match q.1.dst with
    | none => true
    | some d => Nat.beq p.2 q.2 || anc ms p.2 q.2 || anc ms q.2 p.2 || !((match p.1.dst with | some d' => Nat.beq d' d | none => false) || looks ops p.1 d)

/-- A new block that only one operation asks for comes into being with that operation. -/
inductive Knd where
  | norm
  | soft
  | withVars (l : List (Oper × Tmp))

/-- What makes one new block, and does nothing else. -/
def isFresh : Op → Bool
  | .alloc _ => true
  | .buildSlice _ _ _ => true
  | .makeSlice _ _ _ => true
  | _ => false

/-- What may bring a new block with it. -/
def canTake : Op → Bool
  | .assign _ => true
  | .build _ _ => true
  | o => isEff o

/-- Whether an operation may bring what it asks for with it. A variable comes with its first store alone. -/
def takes (q c : Oper) (t : Tmp) : Bool :=
  match q.op with
  | .alloc _ => match c.op, c.dst, c.guard, q.guard with
    | .store _ (.tmp u) x, none, none, none => Nat.beq u t && (match x with | .tmp y => !Nat.beq y t | _ => true)
    | _, _, _, _ => false
  | _ => !isFresh c.op && canTake c.op && (match c.dst with | some d => !Nat.beq d t | none => true) &&
    (match q.guard, c.guard with
      | none, none => true
      | some (i, b), some (j, c) => Nat.beq i j && (b == c)
      | _, _ => false)

/-- Whether all that is looked at is there. -/
def ahead0 (ops : Array Oper) (ms : List Nat) (i : Nat) (q : Oper) : Bool :=
  ops.toList.zipIdx.all fun p => match p.1.dst with
    | some d => !looks ops q d || anc ms i p.2
    | none => true

/-- The operation that alone asks for what operation i makes. -/
def softOf (ops : Array Oper) (ms : List Nat) (i : Nat) (q : Oper) : Option Nat :=
  match isFresh q.op, q.dst with
  | true, some t => match ops.toList.zipIdx.filter fun p => !Nat.beq p.2 i && ((match p.1.dst with | some d => Nat.beq d t | none => false) || looks ops p.1 t) with
    | [(c, s)] => match anc ms s i && takes q c t && ahead0 ops ms i q with
      | true => some s
      | false => none
    | _ => none
  | _, _ => none

/-- What comes into being with operation s. -/
def bring (ops : Array Oper) (ms : List Nat) (s : Nat) : List (Oper × Nat) → List (Oper × Tmp)
  | [] => []
  | (q, i) :: r => match softOf ops ms i q, q.dst with
    | some s', some t => match Nat.beq s' s with
      | true => (q, t) :: bring ops ms s r
      | false => bring ops ms s r
    | _, _ => bring ops ms s r

def kindOf (ops : Array Oper) (ms : List Nat) (o : Oper) (i : Nat) : Knd :=
  match isFresh o.op with
  | true => match softOf ops ms i o with
    | some _ => .soft
    | none => .norm
  | false => match canTake o.op with
    | false => .norm
    | true => match bring ops ms i ops.toList.zipIdx with
      | [] => .norm
      | x :: l => .withVars (x :: l)

/-- One variable with its first store. -/
def asVar (o : Oper) : List (Oper × Tmp) → Option (TypeId × Tmp)
  | [(q, t)] => match q.op, o.guard, o.dst with
    | .alloc e, none, none => some (e, t)
    | _, _, _ => none
  | _ => none

structure Rec where
  F : Fm
  v : Value
  h : Hp
  wt : Bool
  ws : List (Tmp × Value)

def Fm.putL (F : Fm) : List (Tmp × Value) → Fm
  | [] => F
  | (t, v) :: r => (F.put (some t) v).putL r

def newVarOf (P : Program) (h : Hp) (e : TypeId) : Option Hp :=
  match zeroOf P e with
  | some z => match z.cells.toList.all scalar with
    | true => some (h.new (.cells z.cells.toList e false))
    | false => none
  | none => none

/-- What an operation brings with it, one after the other. -/
def evBring (callF : CallF) (P : Program) : List (Oper × Tmp) → Fm → Hp → Option (List (Tmp × Value) × Hp)
  | [], _, h => some ([], h)
  | (q, t) :: r, F, h => match evOp callF P q F h with
    | some (v, h1) => match evBring callF P r F h1 with
      | some (ws, h2) => some ((t, v) :: ws, h2)
      | none => none
    | none => none

def unds (l : List (Oper × Tmp)) : List (Tmp × Value) := l.map fun p => (p.2, undef)

def evTr (callF : CallF) (P : Program) (ops : Array Oper) (ms : List Nat) : List Oper → Nat → Fm → Hp → Option (List Rec × Fm × Hp)
  | [], _, F, h => some ([], F, h)
  | o :: rest, i, F, h => match kindOf ops ms o i with
    | .soft => match evTr callF P ops ms rest (i + 1) F h with
      | some (rs, r) => some (⟨F, undef, h, false, []⟩ :: rs, r)
      | none => none
    | .withVars l => match wantedT ops F o with
      | true => match evBring callF P l F h with
        | some (ws, h1) => match evOp callF P o (F.putL ws) h1 with
          | some (v, h2) => match evTr callF P ops ms rest (i + 1) ((F.putL ws).put o.dst v) h2 with
            | some (rs, r) => some (⟨F.putL ws, v, h2, true, ws⟩ :: rs, r)
            | none => none
          | none => none
        | none => none
      | false => match evTr callF P ops ms rest (i + 1) ((F.putL (unds l)).put o.dst undef) h with
        | some (rs, r) => some (⟨F, undef, h, false, unds l⟩ :: rs, r)
        | none => none
    | .norm => match wantedT ops F o with
      | true => match evOp callF P o F h with
        | some (v, h') => match evTr callF P ops ms rest (i + 1) (F.put o.dst v) h' with
          | some (rs, r) => some (⟨F, v, h', true, []⟩ :: rs, r)
          | none => none
        | none => none
      | false => match evTr callF P ops ms rest (i + 1) (F.put o.dst undef) h with
        | some (rs, r) => some (⟨F, undef, h, false, []⟩ :: rs, r)
        | none => none

/-- Whether an operation turns the heap. -/
def effK (ops : Array Oper) (ms : List Nat) (o : Oper) (i : Nat) : Bool :=
  match isFresh o.op with
  | true => match softOf ops ms i o with
    | some _ => false
    | none => true
  | false => match isEff o.op with
    | true => true
    | false => match canTake o.op with
      | false => false
      | true => match bring ops ms i ops.toList.zipIdx with
        | [] => false
        | _ :: _ => true

/-- The operations that turn the heap, each with the heap behind it. -/
def effsOf (ops : Array Oper) (ms : List Nat) : List Oper → List Rec → Nat → List (Nat × Hp)
  | o :: r, x :: q, i => match x.wt && effK ops ms o i with
    | true => (i, x.h) :: effsOf ops ms r q (i + 1)
    | false => effsOf ops ms r q (i + 1)
  | _, _, _ => []

def chainOK (ms : List Nat) : List (Nat × Hp) → Bool
  | [] => true
  | e :: r => (r.all fun e' => anc ms e'.1 e.1) && chainOK ms r

def readOK (callF : CallF) (P : Program) (ms : List Nat) (effs : List (Nat × Hp)) (i : Nat) (o : Oper) (x : Rec) (c : Nat × Hp) : Bool :=
  match effs.all fun e => (!anc ms i e.1 || Nat.blt e.1 c.1) && (!Nat.blt e.1 c.1 || !anc ms e.1 i) with
  | false => true
  | true => match evOp callF P o x.F c.2 with
    | some (v, _) => veq x.v v
    | none => false

def readsOK (callF : CallF) (P : Program) (ms : List Nat) (effs : List (Nat × Hp)) (h : Hp) : List Oper → List Rec → Nat → Bool
  | o :: r, x :: q, i => (match x.wt && isRead o.op && !isEff o.op with
      | true => readOK callF P ms effs i o x (0, h) && effs.all fun e => readOK callF P ms effs i o x (e.1 + 1, e.2)
      | false => true) && readsOK callF P ms effs h r q (i + 1)
  | _, _, _ => true

def effAt (ops : Array Oper) (ms : List Nat) (p : Oper × Nat) : Bool := effK ops ms p.1 p.2

/-- What turns the heap has its place among all that turns the heap or looks at it. -/
def staticOK (ops : Array Oper) (ms : List Nat) : Bool :=
  ops.toList.zipIdx.all fun p => ops.toList.zipIdx.all fun q =>
    match Nat.blt p.2 q.2, (effAt ops ms p && (effAt ops ms q || isRead q.1.op)) || (isRead p.1.op && effAt ops ms q) with
    | true, true => anc ms q.2 p.2
    | _, _ => true

/-- The operations of a region that draws its order, if they come to one end in every order. -/
def drawRun (callF : CallF) (P : Program) (ops : Array Oper) (F : Fm) (h : Hp) : Option (Fm × Hp) :=
  match P.follows .mixedOrders, masks ops.toList [] with
  | true, some ms => match tempsOK ops ms, evTr callF P ops ms ops.toList 0 F h with
    | true, some (rs, r) => match staticOK ops ms with
      | true => some r
      | false => match effsOf ops ms ops.toList rs 0 with
        | [] => some r
        | e :: q => match chainOK ms (e :: q) && readsOK callF P ms (e :: q) h ops.toList rs 0 with
          | true => some r
          | false => none
    | _, _ => none
  | _, _ => none

/-- The heap ahead of an operation. -/
def ahead (rs : List Rec) (h : Hp) : Nat → Hp
  | 0 => h
  | j + 1 => match rs[j]? with
    | some r => r.h
    | none => h

/-- What turns the heap, but for some operations that are known to leave it. -/
def effsZ (ops : Array Oper) (ms : List Nat) (rs : List Rec) (Z : List Nat) : List (Nat × Hp) := (effsOf ops ms ops.toList rs 0).filter fun e => !Z.contains e.1

/-- Whether an operation may find the heap in this state. -/
def mayAt (ms : List Nat) (es : List (Nat × Hp)) (i c : Nat) : Bool := es.all fun e => (!anc ms i e.1 || Nat.blt e.1 c) && (!Nat.blt e.1 c || !anc ms e.1 i)

/-- Whether this is the state that it finds in the order of the text. -/
def textAt (es : List (Nat × Hp)) (i c : Nat) : Bool := es.all fun e => Nat.blt e.1 c == Nat.blt e.1 i

/-- What turns the heap has its place, and what looks at it finds the same wherever it may come. -/
structure DrawOK (callF : CallF) (P : Program) (ops : Array Oper) (ms : List Nat) (h : Hp) (rs : List Rec) (Z : List Nat) : Prop where
  nn : ∀ i o, ops[i]? = some o → Z.contains i = true → (match kindOf ops ms o i with | .norm => true | _ => false) = true
  ne : ∀ i o r, ops[i]? = some o → rs[i]? = some r → Z.contains i = true → r.wt = true → r.h = ahead rs h i
  chain : chainOK ms (effsZ ops ms rs Z) = true
  reads : ∀ i o r, ops[i]? = some o → rs[i]? = some r → r.wt = true → (Z.contains i = true ∨ (isRead o.op = true ∧ isEff o.op = false)) → ∀ c ∈ (0, h) :: (effsZ ops ms rs Z).map (fun e => (e.1 + 1, e.2)),
    mayAt ms (effsZ ops ms rs Z) i c.1 = true → textAt (effsZ ops ms rs Z) i c.1 = false → evOp callF P o r.F c.2 = some (r.v, c.2)

open Classical in
/-- The same, where it is known of some operations that they leave the heap. -/
noncomputable def drawAny (callF : CallF) (P : Program) (ops : Array Oper) (F : Fm) (h : Hp) : Option (Fm × Hp) :=
  match drawRun callF P ops F h with
  | some r => some r
  | none => match P.follows .mixedOrders, masks ops.toList [] with
    | true, some ms => match tempsOK ops ms, evTr callF P ops ms ops.toList 0 F h with
      | true, some (rs, r) => if ∃ Z, DrawOK callF P ops ms h rs Z then some r else none
      | _, _ => none
    | _, _ => none

theorem drawAny_of {callF : CallF} {P : Program} {ops : Array Oper} {F : Fm} {h : Hp} {r : Fm × Hp} (hd : drawRun callF P ops F h = some r) : drawAny callF P ops F h = some r := by
  unfold drawAny; rw [hd]

def endPending : Option Code → Option Ex
  | none => some .normal
  | some .ret => some .ret
  | some (.exit id) => some (.exit id)
  | _ => none

noncomputable section

def evC (callF : CallF) (P : Program) (lf : Nat) : Code → Fm → Hp → R3
  | .skip, F, h => some (.normal, F, h)
  | .label _, F, h => some (.normal, F, h)
  | .region _ ops false, F, h => match evOps callF P ops ops.toList F h with
    | some (F', h') => some (.normal, F', h')
    | none => none
  | .region _ ops true, F, h => match drawAny callF P ops F h with
    | some (F', h') => some (.normal, F', h')
    | none => none
  | .seq a b, F, h => match evC callF P lf a F h with
    | some (.normal, F', h') => evC callF P lf b F' h'
    | r => r
  | .cond c a b, F, h => match okOpd P c, F.eval c with
    | true, .bool true => evC callF P lf a F h
    | true, .bool false => evC callF P lf b F h
    | _, _ => none
  | .block id b, F, h => match evC callF P lf b F h with
    | some (.exit id', F', h') => match Nat.beq id' id with
      | true => some (.normal, F', h')
      | false => some (.exit id', F', h')
    | r => r
  | .loop b, F, h => loopN (evC callF P lf b) lf F h
  | .exit id, F, h => some (.exit id, F, h)
  | .ret, F, h => some (.ret, F, h)
  | .scope b, F, h => evC callF P lf b F h
  | .rangeFunc f ps as body, F, h => match okOpd P f, (match F.round with
      | none => some (h.next, h.new (.defd false), [({ target := .collected h.next, args := #[] } : Deferred)])
      | some l => (match h.get l with
        | some (.loop _ _ _ _ _ _ d) => some (d, h, [])
        | _ => none)) with
    | true, some (d, h1, mark) =>
      let l := h1.next
      let h2 := h1.new (.loop .ready none F ps as body d)
      match target (F.eval f) [.func (.yield l) #[] #[]] with
      | some (.fn g args) => match callF (.fn g args) h2 with
        | some (_, h3) => match h3.get l with
          | some (.loop .busy _ _ _ _ _ _) => none
          | some (.loop _ pending fm ps' as' body' d') =>
            match endPending pending with
            | some e => some (e, { F with defers := mark ++ F.defers }, h3.put l (.loop .exhausted pending fm ps' as' body' d'))
            | none => none
          | _ => none
        | none => none
      | _ => none
    | _, _ => none
  | .goto _, _, _ => none
  | .refuse _, _, _ => none

def putAll (tm : Tr Value) : Nat → List Value → Tr Value
  | _, [] => tm
  | k, v :: r => putAll (tm.set k (some v)) (k + 1) r

/-- The calls that were put off, when the function returns. -/
def collect (callF : CallF) : List Deferred → Hp → Option Hp
  | [], h => some h
  | d :: r, h => match d.target with
    | .collected b => match h.get b with
      | some (.defd false) => collect callF r (h.put b (.defd true))
      | _ => none
    | .fn (.func g) cap => match callF (.fn g (d.args.toList ++ cap.toList)) h with
      | some (_, h') => collect callF r h'
      | none => none
    | _ => none

/-- What is known of functions ahead. -/
abbrev Orc := FuncId → Option (List Value → Hp → Option (Value × Hp))

/-- A callee, but one that is known ahead. -/
def plainC (O : Orc) (callF : CallF) : CallF
  | .fn g args, h => match O g with
    | none => callF (.fn g args) h
    | some _ => none
  | .yield _ _, _ => none

def resultsOf (P : Program) (F : Fm) (h : Hp) : List ResultVar → Option (List Value)
  | [] => some []
  | .tmp t :: r => match resultsOf P F h r with
    | some l => some ((F.tm.get t).getD undef :: l)
    | none => none
  | .cell a t :: r => match loadT P h t ((F.tm.get a).getD undef), resultsOf P F h r with
    | some v, some l => some (v :: l)
    | _, _ => none

def oneOf : List Value → Value
  | [v] => v
  | l => .tuple l.toArray

def putZip (F : Fm) : List (Tmp × Value) → Fm
  | [] => F
  | (t, v) :: r => putZip (F.put (some t) v) r

def evInv (P : Program) (O : Orc) (lf : Nat) : Nat → Inv → Hp → Option (Value × Hp)
  | 0, _, _ => none
  | n + 1, .fn f args, h => match O f with
   | some g => g args h
   | none => match P.funcs[f]? with
    | none => none
    | some fn => match fn.body, fn.name == "runtime.NumGoroutine", Nat.ble args.length fn.ntmps with
      | some body, false, true => match evC (evInv P O lf n) P lf body { fn := f, n := fn.ntmps, tm := putAll .nil 0 args, defers := [], round := none } h with
        | some (.exit _, _, _) => none
        | some (_, F, h') => match collect (plainC O (evInv P O lf n)) F.defers h' with
          | none => none
          | some h2 => match resultsOf P F h2 fn.results.toList with
            | some l => some (oneOf l, h2)
            | none => none
        | none => none
      | _, _, _ => none
  | n + 1, .yield l args, h => match h.get l with
    | some (.loop .ready _ fm ps as body _) => match Nat.beq args.length ps.size with
      | false => none
      | true =>
        let F0 : Fm := { putZip fm (ps.toList.zip args) with defers := [], round := some l }
        match evC (evInv P O lf n) P lf as F0 h with
        | some (.normal, F1, h1) => match h1.get l with
          | some (.loop .ready pd fm1 ps1 as1 body1 d1) =>
            match evC (evInv P O lf n) P lf body F1 (h1.put l (.loop .busy pd fm1 ps1 as1 body1 d1)) with
            | some (e, F2, h2) => match h2.get l, F2.defers with
              | some (.loop _ _ fm2 ps2 as2 body2 d2), [] =>
                match e with
                | .normal => some (.bool true, h2.put l (.loop .ready none fm2 ps2 as2 body2 d2))
                | e => some (.bool false, h2.put l (.loop .done e.code fm2 ps2 as2 body2 d2))
              | _, _ => none
            | none => none
          | _ => none
        | _ => none
    | _ => none

end

end Go.Eng
