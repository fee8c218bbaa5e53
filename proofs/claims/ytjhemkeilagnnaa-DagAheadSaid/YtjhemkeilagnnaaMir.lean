/- A machine of our own beside the model's: values whose memory is told by rows, one order, no draws. Its definitions. -/
import Derived.Test.YtjhemkeilagnnaaKit
namespace Go.Proofs.Ytjhemkeilagnnaa.Mir
open Go

/-- A cell that nobody writes any more, and all behind it. -/
inductive F where
  | v (x : Value)
  | s (xs : List F) (n : Nat)
  | e
  deriving Inhabited

/-- A value at hand. -/
inductive D where
  | f (x : F)
  | sl (r off n : Nat)
  | pt (r off : Nat)
  | rf (xs : List F)
  | ag (xs : List D)
  | tp (xs : List D)
  | fn (f : FuncId) (caps : List D)
  | mp (r : Nat)
  | junk
  deriving Inhabited

/-- A row of memory. -/
inductive Row where
  | dead
  | box (T : TypeId) (xs : List D)
  | data (T : TypeId) (xs : List F)
  | froz (T : TypeId) (xs : List F)
  | map (es : List (Value × D))
  deriving Inhabited

abbrev D.v (x : Value) : D := .f (.v x)
def D.int (n : Int) : D := .f (.v (.int .i64 n))
def D.bool (b : Bool) : D := .f (.v (.bool b))
def D.undef : D := .tp []

/-- A value that is in hand whole. -/
def D.val? : D → Option Value
  | .f (.v x) => some x
  | .ag ds => (go ds).map fun l => .agg l.toArray
  | .tp ds => (go ds).map fun l => .tuple l.toArray
  | _ => none
where
  go : List D → Option (List Value)
    | [] => some []
    | .f (.v x) :: ds => (go ds).map (x :: ·)
    | _ :: _ => none

def D.of : Value → D
  | .agg cs => if cs.toList.all (·.oneCell') then .ag (cs.toList.map .v) else .junk
  | .tuple cs => if cs.toList.all (·.oneCell') then .tp (cs.toList.map .v) else .junk
  | x => .v x

def D.cells : D → List D
  | .ag ds => ds
  | d => [d]

/-- A run that asks nothing but the program. -/
def semPure {α : Type} (P : Program) : Sem α → Option α
  | .pure a => some a
  | .program k => semPure P (k P)
  | .mark (.write _) k => semPure P k
  | _ => none

theorem semPure_run {α : Type} {P : Program} {s : Sem α} {a : α} (h : semPure P s = some a) (w : World) : s.run P w = .ok a w := by
  induction s with
  | pure b => simp [semPure] at h; subst h; rfl
  | program k ih => simp only [semPure] at h; exact ih P h
  | mark m k ih =>
    cases m <;> simp only [semPure] at h <;> first | cases h | exact ih h
  | _ => simp [semPure] at h

/-- What a step does: its value, the rows that it turns, the rows that it makes. -/
structure Eff where
  res : D
  upd : List (Nat × Row) := []
  news : List Row := []

def applyUpd (H : List Row) : List (Nat × Row) → List Row
  | [] => H
  | (i, r) :: us => applyUpd (H.set i r) us
def Eff.heap (e : Eff) (H : List Row) : List Row := applyUpd H e.upd ++ e.news

section
variable (P : Program)

def isAggB (T : TypeId) : Option Bool :=
  match P.underlying T with
  | some (.struct _) => some true
  | some (.array _ _) => some true
  | some _ => some false
  | none => none

/-- Size, bytes and zero of a type. -/
def inf (T : TypeId) : Option (Nat × Nat × List Value) :=
  match P.info? T with
  | some i => match i.zero with
    | some z => if z.cells.toList.all (·.oneCell') && z.cells.toList.length == i.size then some (i.size, i.bytes, z.cells.toList) else none
    | none => none
  | none => none

/-- Cells of a type as one value. -/
def asVal (T : TypeId) (xs : List D) (off : Nat) : Option D :=
  match isAggB P T, inf P T with
  | some true, some (n, _, _) => if off + n ≤ xs.length then some (.ag ((xs.drop off).take n)) else none
  | some false, _ => xs[off]?
  | _, _ => none

def Row.cells : Row → Option (List D)
  | .box _ xs => some xs
  | .data _ xs => some (xs.map .f)
  | .froz _ xs => some (xs.map .f)
  | _ => none

/-- To read through a pointer. -/
def loadD (H : List Row) (T : TypeId) : D → Option D
  | .pt r off => match H[r]? with
    | some row => match row.cells with
      | some xs => asVal P T xs off
      | none => none
    | none => none
  | .rf xs => asVal P T (xs.map .f) 0
  | _ => none

/-- A cell that is laid down for good; the row that it held, if so. -/
def freeze1 (H : List Row) : D → Option (F × List (Nat × Row))
  | .f x => some (x, [])
  | .sl r off n =>
    if n = 0 then some (.s [] 0, []) else
    match H[r]? with
    | some (.data T xs) => match inf P T with
      | some (sz, _, _) => if off + n * sz ≤ xs.length then some (.s ((xs.drop off).take (n * sz)) n, [(r, .froz T xs)]) else none
      | none => none
    | some (.froz T xs) => match inf P T with
      | some (sz, _, _) => if off + n * sz ≤ xs.length then some (.s ((xs.drop off).take (n * sz)) n, []) else none
      | none => none
    | _ => none
  | _ => none

def freezeAll (H : List Row) : List D → Option (List F × List (Nat × Row))
  | [] => some ([], [])
  | d :: ds =>
    match freeze1 P H d with
    | some (x, u) => match freezeAll (applyUpd H u) ds with
      | some (xs, us) => some (x :: xs, u ++ us)
      | none => none
    | none => none

def splice {α : Type} (xs : List α) (off : Nat) (ys : List α) : List α := xs.take off ++ ys ++ xs.drop (off + ys.length)

def okCell : D → Bool
  | .junk => false
  | .tp _ => false
  | _ => true

def storeD (H : List Row) (T : TypeId) (a x : D) : Option Eff :=
  match a, inf P T with
  | .pt r off, some (n, _, _) =>
    match H[r]? with
    | some (.box U xs) =>
      if okCell x = true ∧ x.cells.length = n ∧ off + n ≤ xs.length then some ⟨D.undef, [(r, .box U (splice xs off x.cells))], []⟩ else none
    | some (.data U xs) =>
      if okCell x = true ∧ x.cells.length = n ∧ off + n ≤ xs.length then
        match freezeAll P H x.cells with
        | some (ys, us) => match (applyUpd H us)[r]? with
          | some (.data U ws) => some ⟨D.undef, us ++ [(r, .data U (splice ws off ys))], []⟩
          | _ => none
        | none => none
      else none
    | _ => none
  | _, _ => none

/-- The elements that a slice reads: how many, and their cells. -/
def elems (H : List Row) (T : TypeId) : D → Option (Nat × List D)
  | .f (.v (.slice none 0 0)) => some (0, [])
  | .f .e => some (0, [])
  | .f (.s xs n) => some (n, xs.map .f)
  | .sl r off n =>
    if n = 0 then some (0, []) else
    match H[r]?, inf P T with
    | some row, some (sz, _, _) => match row.cells with
      | some xs => if off + n * sz ≤ xs.length then some (n, (xs.drop off).take (n * sz)) else none
      | none => none
    | _, _ => none
  | _ => none

def fs? : List D → Option (List F)
  | [] => some []
  | .f x :: ds => (fs? ds).map (x :: ·)
  | _ :: _ => none

def most : Nat := 140737488355328

/-- append. -/
def appendD (H : List Row) (st : TypeId) (s x : D) : Option Eff :=
  match P.underlying st with
  | some (.slice T) => match inf P T, elems P H T x with
    | some (sz, by_, z), some (m, cs) =>
      if m = 0 then (match s with | .f (.v (.slice none 0 0)) => some ⟨s, [], []⟩ | .f .e => some ⟨s, [], []⟩ | .f (.s _ _) => some ⟨s, [], []⟩ | .sl _ _ _ => some ⟨s, [], []⟩ | _ => none) else
      match fs? cs with
      | some ys =>
        if ys.length = m * sz ∧ 0 < sz then
          match s with
          | .f (.v (.slice none 0 0)) => if m * by_ ≤ most ∧ m ≤ most ∧ z.length = sz then some ⟨.sl H.length 0 m, [], [.data T ys]⟩ else none
          | .f .e => if m * by_ ≤ most ∧ m ≤ most ∧ z.length = sz then some ⟨.sl H.length 0 m, [], [.data T ys]⟩ else none
          | .sl r off n => match H[r]? with
            | some (.data U xs) =>
              if U = T ∧ xs.length = off + n * sz ∧ (n + m) * by_ ≤ most ∧ n + m ≤ most ∧ z.length = sz then some ⟨.sl H.length 0 (n + m), [(r, .dead)], [.data T (xs.drop off ++ ys)]⟩ else none
            | _ => none
          | _ => none
        else none
      | none => none
    | _, _ => none
  | _ => none

def nat? : D → Option Nat
  | .f (.v (.int _ n)) => if 0 ≤ n then some n.toNat else none
  | _ => none

/-- Cells put into others, part by part. -/
def fillD (place : Nat → Option (Nat × Nat)) (cells : List D) : List (Nat × D) → Option (List D)
  | [] => some cells
  | (i, d) :: rest =>
    match place i with
    | none => none
    | some (off, size) => if okCell d = true ∧ d.cells.length = size ∧ off + size ≤ cells.length then fillD place (splice cells off d.cells) rest else none

def buildD (T : TypeId) (parts : List (Nat × D)) : Option D :=
  match P.underlying T, inf P T with
  | some (.struct fs), some (_, _, z) =>
    if fs.toList.all fun f => (P.info? f.type).isSome then
      (fillD (fun i => match fs[i]? with | some f => (P.info? f.type).map fun q => (f.offset, q.size) | none => none) (z.map .v) parts).map .ag
    else none
  | _, _ => none

def buildSliceD (H : List Row) (st : TypeId) (len : Nat) (parts : List (Nat × D)) : Option Eff :=
  match P.underlying st with
  | some (.slice T) => match inf P T with
    | some (sz, _, z) =>
      if 0 < sz ∧ 0 < len ∧ len * sz ≤ 100000 then
        match fillD (fun i => some (i * sz, sz)) ((List.range (len * sz)).map fun j => D.v (z.getD (j % sz) Go.undef)) parts with
        | some cs => match freezeAll P H cs with
          | some (xs, us) => some ⟨.sl H.length 0 len, us, [.data T xs]⟩
          | none => none
        | none => none
      else if 0 < sz ∧ len = 0 ∧ parts.isEmpty then some ⟨.sl H.length 0 0, [], [.data T []]⟩
      else none
    | none => none
  | _ => none

/-- x[lo:hi], x[lo:hi:max]. -/
def rowType (H : List Row) (r : Nat) : Option TypeId :=
  match H[r]? with
  | some (.data U _) => some U
  | some (.froz U _) => some U
  | _ => none

def sliceD (H : List Row) (T : TypeId) (x : D) (lo hi mx : Option D) : Option D :=
  match P.underlying T with
  | some (.slice E) => match inf P E with
    | some (sz, _, _) =>
      let n? := match x with
        | .sl _ _ n => some n
        | .f (.s _ n) => some n
        | .f .e => some 0
        | .f (.v (.slice none 0 0)) => some 0
        | _ => none
      match n? with
      | some n =>
        let l? := match lo with | none => some 0 | some d => nat? d
        let h? := match hi with | none => some n | some d => nat? d
        match l?, h? with
        | some l, some h =>
          if l ≤ h ∧ h ≤ n then
            match mx with
            | none => match x with
              | .sl r off _ => if rowType H r = some E then some (.sl r (off + l * sz) (h - l)) else none
              | .f (.s xs _) => some (.f (.s ((xs.drop (l * sz)).take ((h - l) * sz)) (h - l)))
              | y => some y
            | some m => if nat? m = some l ∧ l = h ∧ hi.isSome = true then (match x with | .f (.v (.slice none 0 0)) => some x | _ => some (.f .e)) else none
          else none
        | _, _ => none
      | none => none
    | none => none
  | some .string => match x, mx with
    | .f (.v (.string s)), none =>
      let l? := match lo with | none => some 0 | some d => nat? d
      let h? := match hi with | none => some s.size | some d => nat? d
      match l?, h? with
      | some l, some h => if l ≤ h ∧ h ≤ s.size then some (.f (.v (.string (s.extract l h)))) else none
      | _, _ => none
    | _, _ => none
  | _ => none

def fieldOff (T : TypeId) (f : Nat) : Option (Nat × TypeId) :=
  match P.underlying T with
  | some (.struct fs) => (fs[f]?).map fun x => (x.offset, x.type)
  | _ => none

def fieldAddrD (T : TypeId) (x : D) (f : Nat) : Option D :=
  match fieldOff P T f with
  | some (o, U) => match inf P U with
    | some (sz, _, _) => if sz = 0 then none else
      match x with
      | .pt r off => some (.pt r (off + o))
      | .rf xs => some (.rf (xs.drop o))
      | _ => none
    | none => none
  | none => none

def fieldD (T : TypeId) (x : D) (f : Nat) : Option D :=
  match fieldOff P T f, x with
  | some (o, U), .ag ds => asVal P U ds o
  | _, _ => none

def indexAddrD (T : TypeId) (x i : D) : Option D :=
  match P.underlying T, nat? i with
  | some (.slice E), some k => match inf P E with
    | some (sz, _, _) => match x with
      | .sl r off n => if k < n then some (.pt r (off + k * sz)) else none
      | .f (.s xs n) => if k < n ∧ 0 < sz then some (.rf (xs.drop (k * sz))) else none
      | _ => none
    | none => none
  | some (.array n E), some k => match inf P E with
    | some (sz, _, _) => match x with
      | .pt r off => if k < n then some (.pt r (off + k * sz)) else none
      | _ => none
    | none => none
  | _, _ => none

/-- What kind of thing may be nil here, and whether it is, where that is known. -/
def isNil : D → Option (Nat × Bool)
  | .f (.v (.slice none 0 0)) => some (0, true)
  | .f (.v (.pointer none)) => some (1, true)
  | .f (.v (.map none)) => some (2, true)
  | .f (.s _ (_ + 1)) => some (0, false)
  | .sl _ _ _ => some (0, false)
  | .pt _ _ => some (1, false)
  | .rf _ => some (1, false)
  | .mp _ => some (2, false)
  | _ => none

def kindOf (T : TypeId) : Option Nat :=
  match P.underlying T with
  | some (.slice _) => some 0
  | some (.pointer _) => some 1
  | some (.map _ _) => some 2
  | _ => none

def eqNil (T : TypeId) (x y : D) : Option Bool :=
  match kindOf P T, isNil x, isNil y with
  | some k, some (i, a), some (j, b) => if k = i ∧ k = j ∧ (a = true ∨ b = true) then some (a && b) else none
  | _, _, _ => none

def keyEq : Value → Value → Option Bool
  | .int k a, .int k' b => if k = k' then some (a == b) else none
  | .string a, .string b => some (a == b)
  | .bool a, .bool b => some (a == b)
  | _, _ => none

def findD (k : Value) : List (Value × D) → Option (Option D)
  | [] => some none
  | (x, d) :: es => match keyEq k x with
    | some true => some (some d)
    | some false => findD k es
    | none => none

def putD (k : Value) (d : D) : List (Value × D) → List (Value × D)
  | [] => [(k, d)]
  | (x, y) :: es => if keyEq k x = some true then (k, d) :: es else (x, y) :: putD k d es

def dropD (k : Value) : List (Value × D) → List (Value × D)
  | [] => []
  | (x, y) :: es => if keyEq k x = some true then es else (x, y) :: dropD k es

def keyOk (T : TypeId) (k : Value) : Bool :=
  match P.underlying T, k with
  | some (.int a), .int b _ => a == b
  | some .string, .string _ => true
  | some .bool, .bool _ => true
  | _, _ => false

def zeroD (T : TypeId) : Option D :=
  match P.info? T with
  | some i => i.zero.map D.of
  | none => none

def mapEs (H : List Row) : D → Option (List (Value × D))
  | .f (.v (.map none)) => some []
  | .mp r => match H[r]? with
    | some (.map es) => some es
    | _ => none
  | _ => none

def lookupD (H : List Row) (T : TypeId) (m k : D) (ok : Bool) : Option D :=
  match P.underlying T, mapEs H m, k with
  | some (.map K E), some es, .f (.v key) =>
    if keyOk P K key then
      match findD key es, zeroD P E with
      | some (some d), _ => some (if ok then .tp [d, .bool true] else d)
      | some none, some z => some (if ok then .tp [z, .bool false] else z)
      | _, _ => none
    else none
  | _, _, _ => none

/-- What a value becomes when it is laid down in a map. -/
def freezeV (H : List Row) : D → Option (D × List (Nat × Row))
  | .ag ds => match freezeAll P H ds with
    | some (xs, us) => some (.ag (xs.map .f), us)
    | none => none
  | .tp _ => none
  | d => match freeze1 P H d with
    | some (x, us) => some (.f x, us)
    | none => none

def mapPutD (H : List Row) (T : TypeId) (m k x : D) : Option Eff :=
  match P.underlying T, m, k with
  | some (.map K _), .mp r, .f (.v key) =>
    if keyOk P K key then
      match freezeV P H x with
      | some (y, us) => match (applyUpd H us)[r]? with
        | some (.map es) => match findD key es with
          | some _ => some ⟨D.undef, us ++ [(r, .map (putD key y es))], []⟩
          | none => none
        | _ => none
      | none => none
    else none
  | _, _, _ => none

def mapDelD (H : List Row) (T : TypeId) (m k : D) : Option Eff :=
  match P.underlying T, m, k with
  | some (.map K _), .mp r, .f (.v key) =>
    if keyOk P K key then
      match H[r]? with
      | some (.map es) => match findD key es with
        | some _ => some ⟨.tp [], [(r, .map (dropD key es))], []⟩
        | none => none
      | _ => none
    else none
  | _, _, _ => none

def sliceLen : D → Option Nat
  | .f (.v (.slice none 0 0)) => some 0
  | .f .e => some 0
  | .f (.s _ n) => some n
  | .sl _ _ n => some n
  | _ => none

def lenD (H : List Row) (t : TypeId) (x : D) : Option Nat :=
  match P.underlying t with
  | some (.slice _) => sliceLen x
  | some (.map _ _) => (mapEs H x).map (·.length)
  | _ => none

def bytesOf? : List D → Option (List UInt8)
  | [] => some []
  | .f (.v (.int .u8 n)) :: ds => (bytesOf? ds).map (UInt8.ofNat n.toNat :: ·)
  | _ :: _ => none

def convertD (H : List Row) (src dst : TypeId) (x : D) : Option Eff :=
  match P.underlying src, P.underlying dst with
  | some .string, some (.slice E) => match P.underlying E, x with
    | some (.int .u8), .f (.v (.string s)) => if s.size ≤ most then some ⟨.f (.s (s.data.toList.map fun b => .v (.int .u8 b.toNat)) s.size), [], []⟩ else none
    | _, _ => none
  | some (.slice _), some (.slice E) => match src == dst, P.underlying E, x with
    | true, some (.int .u8), .sl r off n => match H[r]?, inf P E with
      | some (.data U xs), some (1, _, _) => if U = E ∧ 0 < n ∧ off + n ≤ xs.length then some ⟨.f (.s ((xs.drop off).take n) n), [(r, .froz U xs)], []⟩ else none
      | _, _ => none
    | _, _, _ => none
  | some (.slice E), some .string => match P.underlying E, inf P E, elems P H E x with
    | some (.int .u8), some (1, _, _), some (m, cs) => match bytesOf? cs with
      | some l => if cs.length = m then some ⟨.v (.string ⟨l.toArray⟩), [], []⟩ else none
      | none => none
    | _, _, _ => none
  | _, _ => none

def makeSliceD (H : List Row) (T : TypeId) (l c : D) : Option Eff :=
  match P.underlying T, l, c with
  | some (.slice E), .f (.v (.int .i64 a)), .f (.v (.int .i64 b)) => match inf P E with
    | some (sz, by_, z) =>
      if 0 ≤ a ∧ a ≤ b ∧ by_ * b ≤ 140737488355328 ∧ b.toNat * sz ≤ 16777216 ∧ 0 < sz then
        some ⟨.sl H.length 0 a.toNat, [], [.data E ((List.range (a.toNat * sz)).map fun j => F.v (z.getD (j % sz) Go.undef))]⟩
      else none
    | none => none
  | _, _, _ => none

def clearD (H : List Row) (t : TypeId) (x : D) : Option Eff :=
  match P.underlying t, x with
  | some (.slice _), .f (.v (.slice none 0 0)) => some ⟨.tp [], [], []⟩
  | some (.slice E), .sl r off n =>
    if n = 0 then some ⟨.tp [], [], []⟩ else
    match H[r]?, inf P E with
    | some (.data U xs), some (sz, _, z) =>
      if off + n * sz ≤ xs.length ∧ 0 < sz then some ⟨.tp [], [(r, .data U (splice xs off ((List.range (n * sz)).map fun j => F.v (z.getD (j % sz) Go.undef))))], []⟩ else none
    | _, _ => none
  | _, _ => none

/-- The values that operands stand for. -/
def eval (ts : List D) : Operand → D
  | .tmp t => ts.getD t D.undef
  | .const v => D.of v
  | .global _ => .junk
  | .func f => .fn f []

def notSelect : Op → Bool
  | .select .. => false
  | _ => true

/-- A step whose operands are in hand whole. -/
def pureD (ts : List D) (o : Oper) : Option D :=
  let ρ : Operand → Value := fun x => ((eval ts x).val?).getD Go.undef
  if notSelect o.op && o.op.operands.toList.all fun x => ((eval ts x).val?).isSome then
    match semPure P (execOp ρ o) with
    | some (.value v) => some (D.of v)
    | _ => none
  else none

abbrev Calling := FuncId → List D → List Row → Option Eff

def callD (call : Calling) (ts : List D) (H : List Row) (c : Call) : Option Eff :=
  match c.callee, c.args.toList.map (eval ts), c.argTypes.toList with
  | .builtin .append, [s, x], [t, u] => if t = u then appendD P H t s x else none
  | .builtin .len, [x], [t] => (lenD P H t x).map fun (n : Nat) => ⟨D.int (n : Int), [], []⟩
  | .builtin .delete, [m, k], [t, _] => mapDelD P H t m k
  | .builtin .clear, [x], [t] => clearD P H t x
  | .value f, args, _ => match eval ts f with
    | .fn g caps => match P.funcs[g]? with
      | some fn => if fn.body.isSome then call g (args ++ caps) H else none
      | none => none
    | _ => none
  | _, _, _ => none

def stepD (call : Calling) (ts : List D) (H : List Row) (o : Oper) : Option Eff :=
  let ρ := eval ts
  let val (d : Option D) : Option Eff := d.map fun d => ⟨d, [], []⟩
  match o.op with
  | .move x => some ⟨ρ x, [], []⟩
  | .assign x => some ⟨ρ x, [], []⟩
  | .pick c a b => match ρ c with
    | .f (.v (.bool t)) => some ⟨if t then ρ a else ρ b, [], []⟩
    | _ => none
  | .alloc T => match inf P T with
    | some (_, _, z) => some ⟨.pt H.length 0, [], [.box T (z.map .v)]⟩
    | none => none
  | .box T x => if okCell (ρ x) then some ⟨.pt H.length 0, [], [.box T (ρ x).cells]⟩ else none
  | .load T a => val (loadD P H T (ρ a))
  | .store T a x => storeD P H T (ρ a) (ρ x)
  | .nilCheck x => match ρ x with
    | .pt r off => some ⟨.pt r off, [], []⟩
    | .rf xs => some ⟨.rf xs, [], []⟩
    | .fn f cs => some ⟨.fn f cs, [], []⟩
    | _ => none
  | .makeFunc (.func f) first captured => if first.size = 0 then some ⟨.fn f (captured.toList.map ρ), [], []⟩ else none
  | .makeMap _ none => some ⟨.mp H.length, [], [.map []]⟩
  | .makeSlice T l c => makeSliceD P H T (ρ l) (ρ c)
  | .fieldAddr T x f => val (fieldAddrD P T (ρ x) f)
  | .indexAddr T x i => val (indexAddrD P T (ρ x) (ρ i))
  | .buildSlice T n ps => buildSliceD P H T n (ps.toList.map fun p => (p.1, ρ p.2))
  | .mapUpdate T m k x => mapPutD P H T (ρ m) (ρ k) (ρ x)
  | .insert T m k x => mapPutD P H T (ρ m) (ρ k) (ρ x)
  | .lookup T m k ok => val (lookupD P H T (ρ m) (ρ k) ok)
  | .extract x i => match ρ x with
    | .tp ds => (ds[i]?).map fun d => ⟨d, [], []⟩
    | _ => none
  | op => match pureD P ts o with
    | some d => some ⟨d, [], []⟩
    | none => match op with
      | .call c => callD P call ts H c
      | .slice T x lo hi mx => val (sliceD P H T (ρ x) (lo.map ρ) (hi.map ρ) (mx.map ρ))
      | .field T x f => val (fieldD P T (ρ x) f)
      | .build T ps => val (buildD P T (ps.toList.map fun p => (p.1, ρ p.2)))
      | .convert a b x => convertD P H a b (ρ x)
      | .binOp .eql T x y _ => (eqNil P T (ρ x) (ρ y)).map fun b => ⟨D.bool b, [], []⟩
      | .binOp .neq T x y _ => (eqNil P T (ρ x) (ρ y)).map fun b => ⟨D.bool (!b), [], []⟩
      | _ => none
end

end Go.Proofs.Ytjhemkeilagnnaa.Mir
