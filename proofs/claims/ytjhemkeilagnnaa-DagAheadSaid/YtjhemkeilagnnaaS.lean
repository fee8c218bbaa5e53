/- Code told without the program: operations whose types are looked up already; what they do; that it is so. -/
import Derived.Test.YtjhemkeilagnnaaW
namespace Go.Proofs.Ytjhemkeilagnnaa.Mir
open Go Go.RowKit
set_option linter.unusedVariables false

/-- An operand. -/
inductive SV where
  | t (n : Nat)
  | c (d : D)
def SV.ev (ts : List D) : SV → D
  | .t n => ts.getD n D.undef
  | .c d => d

inductive SOp where
  | mv (x : SV)
  | pick (c a b : SV)
  | alloc (T : TypeId) (z : List D)
  | box (T : TypeId) (x : SV)
  | load1 (a : SV)
  | loadA (n : Nat) (a : SV)
  | store (n : Nat) (a x : SV)
  | nilc (x : SV)
  | off (o : Nat) (a : SV)
  | fld1 (o : Nat) (x : SV)
  | fldA (o n : Nat) (x : SV)
  | idx (sz : Nat) (x i : SV)
  | arr (sz n : Nat) (x i : SV)
  | ext (i : Nat) (x : SV)
  | bin (op : BinOp) (x y : SV)
  | binb (op : BinOp) (x y : SV)
  | nilq (eq : Bool) (k : Nat) (x y : SV)
  | unot (x : SV)
  | fn (f : FuncId) (caps : List SV)
  | mkmap
  | mkslice (T : TypeId) (sz b : Nat) (z : List F) (l c : SV)
  | bld (z : List D) (parts : List (Nat × Nat × SV))
  | bsl (T : TypeId) (sz len : Nat) (z : List D) (parts : List (Nat × SV))
  | app (T : TypeId) (sz b : Nat) (s x : SV)
  | slen (x : SV)
  | mlen (x : SV)
  | sub (sz : Nat) (E : TypeId) (x : SV) (lo hi mx : Option SV)
  | conv (k : IntKind) (x : SV)
  | s2b (x : SV)
  | b2s (x : SV)
  | strlen (x : SV)
  | sidx (x i : SV)
  | mm (mx : Bool) (x y : SV)
  | ssub (x : SV) (lo hi : Option SV)
  | look (ok : Bool) (K : TypeId) (z : D) (m k : SV)
  | mput (K : TypeId) (m k x : SV)
  | mdel (K : TypeId) (m k : SV)
  | call (f : SV) (args : List SV)
  | raw (o : Oper)

structure SI where
  dst : Option Nat
  op : SOp
  guard : Option (Nat × Bool)

/-- A load of one cell. -/
def load1 (H : List Row) : D → Option D
  | .pt r off => match H[r]? with
    | some row => match row.cells with
      | some xs => xs[off]?
      | none => none
    | none => none
  | .rf xs => (xs[0]?).map .f
  | _ => none
def loadA (H : List Row) (n : Nat) : D → Option D
  | .pt r off => match H[r]? with
    | some row => match row.cells with
      | some xs => if off + n ≤ xs.length then some (.ag ((xs.drop off).take n)) else none
      | none => none
    | none => none
  | .rf xs => if n ≤ xs.length then some (.ag ((xs.map .f).take n)) else none
  | _ => none
def fld1 (o : Nat) : D → Option D
  | .ag ds => ds[o]?
  | _ => none
def fldA (o n : Nat) : D → Option D
  | .ag ds => if o + n ≤ ds.length then some (.ag ((ds.drop o).take n)) else none
  | _ => none
def boxD (d : D) : Option (List D) := if okCell d = true then some d.cells else none
def offD (o : Nat) : D → Option D
  | .pt r off => some (.pt r (off + o))
  | .rf xs => some (.rf (xs.drop o))
  | _ => none
def nilcD : D → Option D
  | .pt r off => some (.pt r off)
  | .rf xs => some (.rf xs)
  | .fn f cs => some (.fn f cs)
  | _ => none
def extD (i : Nat) : D → Option D
  | .tp ds => ds[i]?
  | _ => none
/-- To lay cells over others, from a place on. -/
def putL {α : Type} : Nat → List α → List α → List α
  | 0, [], cs => cs
  | 0, y :: ys, _ :: cs => y :: putL 0 ys cs
  | n + 1, ys, c :: cs => c :: putL n ys cs
  | _, _, [] => []
theorem putL_splice {α : Type} : ∀ (off : Nat) (ys xs : List α), off + ys.length ≤ xs.length → putL off ys xs = splice xs off ys
  | 0, [], cs, _ => by cases cs <;> simp [putL, splice]
  | 0, y :: ys, [], h => by simp at h
  | 0, y :: ys, c :: cs, h => by
    have := putL_splice 0 ys cs (by simp at h ⊢; omega)
    simp only [putL, this]
    simp [splice]
  | n + 1, ys, [], h => by simp at h
  | n + 1, ys, c :: cs, h => by
    have := putL_splice n ys cs (by simp at h ⊢; omega)
    simp only [putL, this]
    simp [splice, Nat.add_right_comm n 1]
def storeS (P : Program) (H : List Row) (n : Nat) (a x : D) : Option (List Row) :=
  match a with
  | .pt r off => match H[r]? with
    | some (.box U xs) => if okCell x = true ∧ x.cells.length = n ∧ off + n ≤ xs.length then some (H.set r (.box U (putL off x.cells xs))) else none
    | some (.data U xs) => if okCell x = true ∧ x.cells.length = n ∧ off + n ≤ xs.length then
        match freezeAll P H x.cells with
        | some (ys, us) => match (applyUpd H us)[r]? with
          | some (.data U ws) => some ((applyUpd H us).set r (.data U (splice ws off ys)))
          | _ => none
        | none => none
      else none
    | _ => none
  | _ => none
/-- A part of a string. -/
def ssubS (x : D) (lo hi : Option D) : Option D :=
  match x with
  | .f (.v (.string s)) => match (match lo with | none => some 0 | some d => nat? d), (match hi with | none => some s.size | some d => nat? d) with
    | some l, some h => if l ≤ h ∧ h ≤ s.size then some (.f (.v (.string (s.extract l h)))) else none
    | _, _ => none
  | _ => none
/-- A map's entries: looked up, laid down, struck out. -/
def lookS (P : Program) (H : List Row) (ok : Bool) (K : TypeId) (z m k : D) : Option D :=
  match mapEs H m, k with
  | some es, .f (.v key) => if keyOk P K key then
      match findD key es with
      | some (some d) => some (if ok then .tp [d, .bool true] else d)
      | some none => some (if ok then .tp [z, .bool false] else z)
      | none => none
    else none
  | _, _ => none
def mputS (P : Program) (H : List Row) (K : TypeId) (m k x : D) : Option (List Row) :=
  match m, k with
  | .mp r, .f (.v key) => if keyOk P K key then
      match freezeV P H x with
      | some (y, us) => match (applyUpd H us)[r]? with
        | some (.map es) => match findD key es with
          | some _ => some ((applyUpd H us).set r (.map (putD key y es)))
          | none => none
        | _ => none
      | none => none
    else none
  | _, _ => none
def mdelS (P : Program) (H : List Row) (K : TypeId) (m k : D) : Option (List Row) :=
  match m, k with
  | .mp r, .f (.v key) => if keyOk P K key then
      match H[r]? with
      | some (.map es) => match findD key es with
        | some _ => some (H.set r (.map (dropD key es)))
        | none => none
      | _ => none
    else none
  | _, _ => none
def fillS : List D → List (Nat × Nat × D) → Option (List D)
  | cells, [] => some cells
  | cells, (off, size, d) :: rest => if okCell d = true ∧ d.cells.length = size ∧ off + size ≤ cells.length then fillS (putL off d.cells cells) rest else none
/-- How many elements, where one may look. -/
def elemsS (H : List Row) (sz : Nat) : D → Option (Nat × List F)
  | .f (.v (.slice none 0 0)) => some (0, [])
  | .f .e => some (0, [])
  | .f (.s xs n) => some (n, xs)
  | .sl r off n => match H[r]? with
    | some (.data _ xs) => if off + n * sz ≤ xs.length then some (n, (xs.drop off).take (n * sz)) else none
    | some (.froz _ xs) => if off + n * sz ≤ xs.length then some (n, (xs.drop off).take (n * sz)) else none
    | some (.box _ ds) => match fs? ds with
      | some xs => if off + n * sz ≤ xs.length then some (n, (xs.drop off).take (n * sz)) else none
      | none => none
    | _ => none
  | _ => none
/-- append: the room is asked for. -/
def appS (H : List Row) (T : TypeId) (sz b : Nat) (s x : D) (K : D → List Row → Prop) : Prop :=
  bind' (elemsS H sz x) fun (m, ys) =>
    match s with
    | .f (.v (.slice none 0 0)) => Two (m = 0) (K s H) (ys.length = m * sz ∧ m * b ≤ most ∧ m ≤ most ∧ K (.sl H.length 0 m) (H ++ [.data T ys]))
    | .f .e => Two (m = 0) (K s H) (ys.length = m * sz ∧ m * b ≤ most ∧ m ≤ most ∧ K (.sl H.length 0 m) (H ++ [.data T ys]))
    | .sl r off n => Two (m = 0) (K s H) (match H[r]? with
      | some (.data U xs) => U = T ∧ ys.length = m * sz ∧ xs.length = off + n * sz ∧ (n + m) * b ≤ most ∧ n + m ≤ most ∧ K (.sl H.length 0 (n + m)) (H.set r .dead ++ [.data T (xs.drop off ++ ys)])
      | _ => False)
    | .f (.s _ _) => m = 0 ∧ K s H
    | _ => False

def intS (op : BinOp) (k : IntKind) (a b : Int) (K : D → Prop) : Prop :=
  match op with
  | .add => K (.f (.v (.int k (k.wrap (a + b)))))
  | .sub => K (.f (.v (.int k (k.wrap (a - b)))))
  | .mul => K (.f (.v (.int k (k.wrap (a * b)))))
  | .quo => b ≠ 0 ∧ K (.f (.v (.int k (k.wrap (a.tdiv b)))))
  | .rem => b ≠ 0 ∧ K (.f (.v (.int k (a.tmod b))))
  | .eql => Two (a = b) (K (D.bool true)) (K (D.bool false))
  | .neq => Two (a = b) (K (D.bool false)) (K (D.bool true))
  | .lss => Two (a < b) (K (D.bool true)) (K (D.bool false))
  | .leq => Two (a ≤ b) (K (D.bool true)) (K (D.bool false))
  | .gtr => Two (b < a) (K (D.bool true)) (K (D.bool false))
  | .geq => Two (b ≤ a) (K (D.bool true)) (K (D.bool false))
  | _ => False
def strS (op : BinOp) (a b : ByteArray) (K : D → Prop) : Prop :=
  match op with
  | .add => a.size + b.size ≤ 9223372036854775807 ∧ K (.f (.v (.string (a ++ b))))
  | .eql => Two (a = b) (K (D.bool true)) (K (D.bool false))
  | .neq => Two (a = b) (K (D.bool false)) (K (D.bool true))
  | .lss => Two (Op.bytesLess a.toList b.toList = true) (K (D.bool true)) (K (D.bool false))
  | .gtr => Two (Op.bytesLess b.toList a.toList = true) (K (D.bool true)) (K (D.bool false))
  | .leq => Two (Op.bytesLess b.toList a.toList = true) (K (D.bool false)) (K (D.bool true))
  | .geq => Two (Op.bytesLess a.toList b.toList = true) (K (D.bool false)) (K (D.bool true))
  | _ => False
def boolS (op : BinOp) (a b : Bool) (K : D → Prop) : Prop :=
  match op with
  | .eql => K (D.bool (a == b))
  | .neq => K (D.bool (!(a == b)))
  | _ => False
def binS (op : BinOp) (x y : D) (K : D → Prop) : Prop :=
  match x, y with
  | .f (.v (.int k a)), .f (.v (.int k' b)) => k = k' ∧ intS op k a b K
  | .f (.v (.string a)), .f (.v (.string b)) => strS op a b K
  | _, _ => False
def binbS (op : BinOp) (x y : D) (K : D → Prop) : Prop :=
  match x, y with
  | .f (.v (.bool a)), .f (.v (.bool b)) => boolS op a b K
  | _, _ => False
def nilS (k : Nat) (x y : D) : Option Bool :=
  match isNil x, isNil y with
  | some (i, a), some (j, b) => if k = i ∧ k = j ∧ (a = true ∨ b = true) then some (a && b) else none
  | _, _ => none
/-- Is it nil? Of a slice that lies still nobody may know, where it is empty. -/
def nilqS (k : Nat) (x y : D) (K : Bool → Prop) : Prop :=
  match x, y with
  | .f (.s _ n), .f (.v (.slice none 0 0)) => k = 0 ∧ (n = 0 → K true) ∧ K false
  | x, y => bind' (nilS k x y) K
def pickS (c : D) (p q : Prop) : Prop := match c with
  | .f (.v (.bool t)) => Bsel t p q
  | _ => False
def idxS (sz : Nat) (x i : D) (K : D → Prop) : Prop :=
  match i with
  | .f (.v (.int _ i)) => match x with
    | .sl r off n => (0 ≤ i ∧ i < n) ∧ K (.pt r (off + i.toNat * sz))
    | .f (.s xs n) => (0 ≤ i ∧ i < n) ∧ K (.rf (xs.drop (i.toNat * sz)))
    | _ => False
  | _ => False
def arrS (sz n : Nat) (x i : D) (K : D → Prop) : Prop :=
  match i with
  | .f (.v (.int _ i)) => match x with
    | .pt r off => (0 ≤ i ∧ i < n) ∧ K (.pt r (off + i.toNat * sz))
    | _ => False
  | _ => False
def notS (x : D) : Option D := match x with
  | .f (.v (.bool b)) => some (D.bool (!b))
  | _ => none
def convS (k : IntKind) (x : D) : Option D := match x with
  | .f (.v (.int _ n)) => some (.f (.v (.int k (k.wrap n))))
  | _ => none
def intOf? (d : D) : Option Int := match d with
  | .f (.v (.int .i64 n)) => some n
  | _ => none
def strOf? (d : D) : Option ByteArray := match d with
  | .f (.v (.string s)) => some s
  | _ => none
def slcS (x : D) : Option Nat := match x with
  | .sl _ _ n => some n
  | .f (.s _ n) => some n
  | .f .e => some 0
  | .f (.v (.slice none 0 0)) => some 0
  | _ => none
def mxS (x : D) : D := match x with
  | .f (.v (.slice none 0 0)) => x
  | _ => .f .e
def subS (H : List Row) (sz : Nat) (E : TypeId) (x : D) (l h : Nat) : Option D := match x with
  | .sl r off _ => if rowType H r = some E then some (.sl r (off + l * sz) (h - l)) else none
  | .f (.s xs _) => some (.f (.s ((xs.drop (l * sz)).take ((h - l) * sz)) (h - l)))
  | y => some y

def stepS (P : Program) (ts : List D) (H : List Row) (o : SOp) (K : D → List Row → Prop) : Prop :=
  match o with
  | .mv x => K (x.ev ts) H
  | .pick c a b => pickS (c.ev ts) (K (a.ev ts) H) (K (b.ev ts) H)
  | .alloc T z => K (.pt H.length 0) (H ++ [.box T z])
  | .box T x => bind' (boxD (x.ev ts)) fun cs => K (.pt H.length 0) (H ++ [.box T cs])
  | .load1 a => bind' (load1 H (a.ev ts)) fun d => K d H
  | .loadA n a => bind' (loadA H n (a.ev ts)) fun d => K d H
  | .store n a x => bind' (storeS P H n (a.ev ts) (x.ev ts)) fun H' => K D.undef H'
  | .nilc x => bind' (nilcD (x.ev ts)) fun d => K d H
  | .off o a => bind' (offD o (a.ev ts)) fun d => K d H
  | .fld1 o x => bind' (fld1 o (x.ev ts)) fun d => K d H
  | .fldA o n x => bind' (fldA o n (x.ev ts)) fun d => K d H
  | .idx sz x i => idxS sz (x.ev ts) (i.ev ts) fun d => K d H
  | .arr sz n x i => arrS sz n (x.ev ts) (i.ev ts) fun d => K d H
  | .ext i x => bind' (extD i (x.ev ts)) fun d => K d H
  | .bin op x y => binS op (x.ev ts) (y.ev ts) fun d => K d H
  | .binb op x y => binbS op (x.ev ts) (y.ev ts) fun d => K d H
  | .nilq eq k x y => nilqS k (x.ev ts) (y.ev ts) fun b => K (D.bool (if eq then b else !b)) H
  | .unot x => bind' (notS (x.ev ts)) fun d => K d H
  | .fn f caps => K (.fn f (caps.map (SV.ev ts))) H
  | .mkmap => K (.mp H.length) (H ++ [.map []])
  | .mkslice T sz b z l c => bind' (intOf? (l.ev ts)) fun a => bind' (intOf? (c.ev ts)) fun c => (0 ≤ a ∧ a ≤ c ∧ b * c ≤ 140737488355328 ∧ c.toNat * sz ≤ 16777216) ∧
      K (.sl H.length 0 a.toNat) (H ++ [.data T ((List.range (a.toNat * sz)).map fun j => z.getD (j % sz) (.v Go.undef))])
  | .bld z parts => bind' (fillS z (parts.map fun p => (p.1, p.2.1, p.2.2.ev ts))) fun ds => K (.ag ds) H
  | .bsl T sz len z parts => bind' (fillS z (parts.map fun p => (p.1, sz, p.2.ev ts))) fun ds => bind' (freezeAll P H ds) fun xu => K (.sl H.length 0 len) (applyUpd H xu.2 ++ [.data T xu.1])
  | .app T sz b s x => appS H T sz b (s.ev ts) (x.ev ts) K
  | .slen x => bind' (slcS (x.ev ts)) fun n => K (D.int n) H
  | .mlen x => bind' (mapEs H (x.ev ts)) fun es => K (D.int es.length) H
  | .sub sz E x lo hi mx => bind' (slcS (x.ev ts)) fun n => bind' (match lo with | none => some 0 | some v => intOf? (v.ev ts)) fun l => bind' (match hi with | none => some (n : Int) | some v => intOf? (v.ev ts)) fun h =>
      (0 ≤ l ∧ l ≤ h ∧ h ≤ n) ∧ (match mx with
        | none => bind' (subS H sz E (x.ev ts) l.toNat h.toNat) fun d => K d H
        | some v => (intOf? (v.ev ts) = some l ∧ l = h ∧ hi.isSome = true) ∧ K (mxS (x.ev ts)) H)
  | .conv k x => bind' (convS k (x.ev ts)) fun d => K d H
  | .s2b x => bind' (strOf? (x.ev ts)) fun s => s.size ≤ most ∧ K (.f (.s (s.data.toList.map fun b => .v (.int .u8 b.toNat)) s.size)) H
  | .b2s x => bind' (elemsS H 1 (x.ev ts)) fun p => bind' (bytesOf? (p.2.map .f)) fun l => p.2.length = p.1 ∧ K (.f (.v (.string ⟨l.toArray⟩))) H
  | .strlen x => bind' (strOf? (x.ev ts)) fun s => K (D.int s.size) H
  | .sidx x i => bind' (strOf? (x.ev ts)) fun s => bind' (intOf? (i.ev ts)) fun i => bind' (if 0 ≤ i then s.data.toList[i.toNat]? else none) fun b => K (.f (.v (.int .u8 b.toNat))) H
  | .mm mx x y => bind' (intOf? (x.ev ts)) fun a => bind' (intOf? (y.ev ts)) fun b => K (D.int (if mx then max a b else min a b)) H
  | .ssub x lo hi => bind' (ssubS (x.ev ts) (lo.map (SV.ev ts)) (hi.map (SV.ev ts))) fun d => K d H
  | .look ok T z m k => bind' (lookS P H ok T z (m.ev ts) (k.ev ts)) fun d => K d H
  | .mput T m k x => bind' (mputS P H T (m.ev ts) (k.ev ts) (x.ev ts)) fun H' => K D.undef H'
  | .mdel T m k => bind' (mdelS P H T (m.ev ts) (k.ev ts)) fun H' => K (.tp []) H'
  | .call f args => callW P (f.ev ts) (args.map (SV.ev ts)) H K
  | .raw o => stepW P ts H o K

/-- Operands, looked up. -/
def sv : Operand → Option SV
  | .tmp t => some (.t t)
  | .const v => some (.c (D.of v))
  | .func f => some (.c (.fn f []))
  | .global _ => none
def svs : List Operand → Option (List SV)
  | [] => some []
  | x :: xs => match sv x, svs xs with
    | some y, some ys => some (y :: ys)
    | _, _ => none
def svo : Option Operand → Option (Option SV)
  | none => some none
  | some x => (sv x).map some
theorem sv_ok {x : Operand} {y : SV} (h : sv x = some y) (ts : List D) : y.ev ts = eval ts x := by
  cases x <;> simp [sv] at h <;> subst h <;> rfl
theorem svs_ok {ts : List D} : ∀ {xs : List Operand} {ys : List SV}, svs xs = some ys → ys.map (SV.ev ts) = xs.map (eval ts)
  | [], ys, h => by simp [svs] at h; subst h; rfl
  | x :: xs, ys, h => by
    simp only [svs] at h
    split at h
    · rename_i y ys' hy hys
      injection h with h
      subst h
      simp [sv_ok hy, svs_ok hys]
    · cases h

section
variable (P : Program)
def sParts (fs : Array Go.Field) : List (Nat × Operand) → Option (List (Nat × Nat × SV))
  | [] => some []
  | (i, x) :: rest => match fs[i]?, sv x, sParts fs rest with
    | some f, some y, some ys => match P.info? f.type with
      | some q => some ((f.offset, q.size, y) :: ys)
      | none => none
    | _, _, _ => none
def sElems (sz : Nat) : List (Nat × Operand) → Option (List (Nat × SV))
  | [] => some []
  | (i, x) :: rest => match sv x, sElems sz rest with
    | some y, some ys => some ((i * sz, y) :: ys)
    | _, _ => none

def slcE (T : TypeId) : Option (TypeId × Nat × Nat × List Value) :=
  match P.underlying T with
  | some (.slice E) => match inf P E with
    | some (sz, b, z) => if 0 < sz then some (E, sz, b, z) else none
    | none => none
  | _ => none
/-- An operation, looked up; none: it is left as it is. -/
def resOp? (o : Oper) : Option SOp :=
  match o.op with
  | .move x => (sv x).map .mv
  | .assign x => (sv x).map .mv
  | .pick c a b => match sv c, sv a, sv b with
    | some c, some a, some b => some (.pick c a b)
    | _, _, _ => none
  | .alloc T => match inf P T with
    | some (_, _, z) => some (.alloc T (z.map .v))
    | none => none
  | .box T x => (sv x).map (.box T)
  | .load T a => match isAggB P T, inf P T, sv a with
    | some false, _, some a => some (.load1 a)
    | some true, some (n, _, _), some a => some (.loadA n a)
    | _, _, _ => none
  | .store T a x => match inf P T, sv a, sv x with
    | some (n, _, _), some a, some x => some (.store n a x)
    | _, _, _ => none
  | .nilCheck x => (sv x).map .nilc
  | .fieldAddr T x f => match fieldOff P T f, sv x with
    | some (o, U), some x => match inf P U with
      | some (sz, _, _) => if sz = 0 then none else some (.off o x)
      | none => none
    | _, _ => none
  | .field T x f => match fieldOff P T f, sv x with
    | some (o, U), some x => match isAggB P U, inf P U with
      | some false, _ => some (.fld1 o x)
      | some true, some (n, _, _) => some (.fldA o n x)
      | _, _ => none
    | _, _ => none
  | .indexAddr T x i => match P.underlying T, sv x, sv i with
    | some (.slice E), some x, some i => match inf P E with
      | some (sz, _, _) => if 0 < sz then some (.idx sz x i) else none
      | none => none
    | some (.array n E), some x, some i => match inf P E with
      | some (sz, _, _) => some (.arr sz n x i)
      | none => none
    | _, _, _ => none
  | .extract x i => (sv x).map (.ext i)
  | .binOp op T x y _ => match sv x, sv y with
    | some x, some y => match kindOf P T with
      | some k => match op with
        | .eql => some (.nilq true k x y)
        | .neq => some (.nilq false k x y)
        | _ => none
      | none => match P.underlying T with
        | some (.int _) => some (.bin op x y)
        | some .string => some (.bin op x y)
        | some .bool => some (.binb op x y)
        | _ => none
    | _, _ => none
  | .unOp .not _ x => (sv x).map .unot
  | .makeFunc (.func f) first caps => if first.size = 0 then (svs caps.toList).map (.fn f) else none
  | .makeMap _ none => some .mkmap
  | .makeSlice T l c => match slcE P T, sv l, sv c with
    | some (E, sz, b, z), some l, some c => some (.mkslice E sz b (z.map .v) l c)
    | _, _, _ => none
  | .build T ps => match P.underlying T, inf P T with
    | some (.struct fs), some (_, _, z) => if fs.toList.all fun f => (P.info? f.type).isSome then (sParts P fs ps.toList).map (.bld (z.map .v)) else none
    | _, _ => none
  | .buildSlice T n ps => match slcE P T with
    | some (E, sz, _, z) => if (0 < n ∧ n * sz ≤ 100000) ∨ (n = 0 ∧ ps.toList.isEmpty = true) then (sElems sz ps.toList).map (.bsl E sz n ((List.range (n * sz)).map fun j => D.v (z.getD (j % sz) Go.undef))) else none
    | none => none
  | .slice T x lo hi mx => match slcE P T, sv x, svo lo, svo hi, svo mx with
    | some (E, sz, _, _), some x, some lo, some hi, some mx => some (.sub sz E x lo hi mx)
    | none, some x, some lo, some hi, some none => match P.underlying T with
      | some .string => some (.ssub x lo hi)
      | _ => none
    | _, _, _, _, _ => none
  | .convert a b x => match P.underlying a, P.underlying b, sv x with
    | some (.int _), some (.int k), some x => some (.conv k x)
    | some .string, some (.slice E), some x => match P.underlying E with
      | some (.int .u8) => some (.s2b x)
      | _ => none
    | some (.slice E), some .string, some x => match P.underlying E, inf P E with
      | some (.int .u8), some (1, _, _) => some (.b2s x)
      | _, _ => none
    | _, _, _ => none
  | .index T x i => match P.underlying T, sv x, sv i with
    | some .string, some x, some i => some (.sidx x i)
    | _, _, _ => none
  | .lookup T m k ok => match P.underlying T, sv m, sv k with
    | some (.map K E), some m, some k => match zeroD P E with
      | some z => some (.look ok K z m k)
      | none => none
    | _, _, _ => none
  | .mapUpdate T m k x => match P.underlying T, sv m, sv k, sv x with
    | some (.map K _), some m, some k, some x => some (.mput K m k x)
    | _, _, _, _ => none
  | .insert T m k x => match P.underlying T, sv m, sv k, sv x with
    | some (.map K _), some m, some k, some x => some (.mput K m k x)
    | _, _, _, _ => none
  | .call c => match c.callee, svs c.args.toList, c.argTypes.toList with
    | .builtin .delete, some [m, k], [t, _] => match P.underlying t with
      | some (.map K _) => some (.mdel K m k)
      | _ => none
    | .builtin .append, some [s, x], [t, u] => if t = u then match slcE P t with
      | some (E, sz, b, z) => if z.length = sz then some (.app E sz b s x) else none
      | none => none
      else none
    | .builtin .len, some [x], [t] => match P.underlying t with
      | some (.slice _) => some (.slen x)
      | some (.map _ _) => some (.mlen x)
      | some .string => some (.strlen x)
      | _ => none
    | .builtin .min, some [x, y], _ => some (.mm false x y)
    | .builtin .max, some [x, y], _ => some (.mm true x y)
    | .value f, some args, _ => match sv f with
      | some f => some (.call f args)
      | none => none
    | _, _, _ => none
  | _ => none
def resOp (o : Oper) : SOp := match resOp? P o with
  | some s => s
  | none => .raw o
def resI (ops : List Oper) (o : Oper) : Option SI :=
  match o.guard with
  | none => some ⟨o.dst, resOp P o, none⟩
  | some (j, w) => match ops[j]? with
    | some q => match q.dst with
      | some t => some ⟨o.dst, resOp P o, some (t, w)⟩
      | none => none
    | none => none
def resIs (ops : List Oper) : List Oper → Option (List SI)
  | [] => some []
  | o :: rest => match resI P ops o, resIs ops rest with
    | some i, some is => some (i :: is)
    | _, _ => none
end

def wantS (ts : List D) (g : Option (Nat × Bool)) (p q : Prop) : Prop :=
  match g with
  | none => p
  | some (t, w) => match ts[t]? with
    | some (.f (.v (.bool b))) => if w then Bsel b p q else Bsel b q p
    | some (.tp _) => q
    | _ => False
def wpS (P : Program) : List SI → St → (St → Prop) → Prop
  | [], s, K => K s
  | i :: rest, s, K => wantS s.ts i.guard (stepS P s.ts s.H i.op fun d H' => wpS P rest ⟨putD! s.ts i.dst d, H', []⟩ K) (wpS P rest ⟨putD! s.ts i.dst D.undef, s.H, []⟩ K)
end Go.Proofs.Ytjhemkeilagnnaa.Mir
