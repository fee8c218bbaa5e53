/- The machine beside the model's: regions, code, calls. -/
import Derived.Test.YtjhemkeilagnnaaMir
namespace Go.Proofs.Ytjhemkeilagnnaa.Mir
open Go

structure St where
  ts : List D
  H : List Row
  dirty : List Nat := []

def putD! (ts : List D) (dst : Option Tmp) (d : D) : List D :=
  match dst with
  | some t => ts.set t d
  | none => ts

def wantedD (ops : List Oper) (ts : List D) (o : Oper) : Option Bool :=
  match o.guard with
  | none => some true
  | some (j, want) => match ops[j]? with
    | some q => match q.dst with
      | some t => match ts[t]? with
        | some (.f (.v (.bool b))) => some (b == want)
        | some (.f (.v _)) => some false
        | some (.tp _) => some false
        | _ => none
      | none => none
    | none => none

section
variable (P : Program) (call : Calling)

def runSeq (ops : List Oper) : List Oper → St → Option St
  | [], s => some s
  | o :: rest, s =>
    match wantedD ops s.ts o with
    | some true => match stepD P call s.ts s.H o with
      | some e => runSeq ops rest ⟨putD! s.ts o.dst e.res, e.heap s.H, e.upd.map (·.1) ++ s.dirty⟩
      | none => none
    | some false => runSeq ops rest ⟨putD! s.ts o.dst D.undef, s.H, s.dirty⟩
    | none => none

/-- Operations that may look at memory. -/
def heapUser : Op → Bool
  | .move _ | .assign _ | .pick .. | .alloc _ | .box .. | .nilCheck _ | .makeFunc .. | .makeMap .. | .makeSlice .. | .fieldAddr .. | .indexAddr .. | .extract .. | .binOp .. | .unOp .. | .field .. | .build .. | .index .. => false
  | .call { callee := .builtin .min, .. } => false
  | .call { callee := .builtin .max, .. } => false
  | _ => true

def tmpsOf (ops : List Oper) (o : Oper) : List Tmp :=
  (o.op.operands.toList.filterMap fun | .tmp t => some t | _ => none) ++
  (match o.guard with
   | some (g, _) => ((ops[g]?).bind (·.dst)).toList
   | none => [])

/-- What is looked at was written ahead, or is written behind; no two write one slot. -/
def drawOk (ops : List Oper) (b : List Nat) : Bool :=
  ops.zipIdx.all fun (o, i) =>
    decide (b.getD i 0 < 2 ^ i) && (ops.zipIdx.all fun (q, j) => match q.dst with
      | some t => (!(tmpsOf ops o).contains t || (b.getD i 0).testBit j || (b.getD j 0).testBit i || i == j) && (i == j || o.dst != some t)
      | none => true)

def maskV (V : List Nat) (H : List Row) : List Row := H.zipIdx.map fun p => if V.contains p.2 then p.1 else .dead

/-- Two that may come in any order touch no row in common. -/
def okPairs (m : Nat) (V U : List Nat) : Nat → List (List Nat × List Nat) → Bool
  | _, [] => true
  | j, (V', U') :: l => (m.testBit j || ((U'.all fun x => !V.contains x) && U.all fun x => !V'.contains x)) && okPairs m V U (j + 1) l

def isDead : Row → Bool
  | .dead => true
  | _ => false

/-- Rows that a value names. -/
def D.refs : D → List Nat
  | .sl r _ _ => [r]
  | .pt r _ => [r]
  | .mp r => [r]
  | .ag ds => go ds
  | .tp ds => go ds
  | .fn _ ds => go ds
  | _ => []
where
  go : List D → List Nat
    | [] => []
    | d :: ds => D.refs d ++ go ds

def Row.refs : Row → List Nat
  | .box _ xs => xs.flatMap D.refs
  | _ => []

def refOk (n0 : Nat) (own : List Nat) (m base r : Nat) : Bool :=
  decide (r < n0) || decide (base ≤ r) || (match own[r - n0]? with | some k => m.testBit k | none => false)
def refIn (n0 : Nat) (own : List Nat) (m r : Nat) : Bool :=
  decide (r < n0) || (match own[r - n0]? with | some k => m.testBit k | none => false)
def inOk (n0 : Nat) (own : List Nat) (m : Nat) (ts : List D) (M : List Row) (o : Oper) : Bool :=
  (o.op.operands.toList.all fun x => (eval ts x).refs.all (refIn n0 own m)) && M.all fun r => r.refs.all (refIn n0 own m)
def effOk (n0 : Nat) (own : List Nat) (m base : Nat) (e : Eff) : Bool :=
  e.res.refs.all (refOk n0 own m base) && (e.upd.all fun p => p.2.refs.all (refOk n0 own m base)) && e.news.all fun r => r.refs.all (refOk n0 own m base)

/-- New rows that are reached. -/
def reach (H : List Row) (n0 : Nat) : Nat → List Nat → List Nat → List Nat
  | 0, _, seen => seen
  | _ + 1, [], seen => seen
  | k + 1, r :: todo, seen =>
    if r < n0 ∨ seen.contains r then reach H n0 k todo seen
    else reach H n0 k (((H[r]?).map Row.refs).getD [] ++ todo) (seen ++ [r])

/-- The rows that an operation may look at. -/
def viewOf (ts : List D) (H : List Row) (o : Oper) : List Nat :=
  if heapUser o.op then
    let rs := o.op.operands.toList.flatMap fun x => (eval ts x).refs
    match o.op with
    | .call { callee := .value _, .. } => reach H 0 (1000 + 4 * H.length) rs []
    | _ => dedupN rs
  else []
where
  dedupN : List Nat → List Nat
    | [] => []
    | x :: xs => if xs.contains x then dedupN xs else x :: dedupN xs

/-- The operations of a region that draws, one behind the other: each looks only at what must be there. 'own': whose row each new one is; 'log': what each looked at and turned. -/
def runDraw (ops : List Oper) (b : List Nat) (n0 : Nat) : List Oper → Nat → List Nat → List (List Nat × List Nat) → St → Option (St × List Nat)
  | [], _, own, _, s => some (s, own)
  | o :: rest, i, own, log, s =>
    match wantedD ops s.ts o with
    | some true =>
      let m := b.getD i 0
      let V := viewOf s.ts s.H o
      let M := maskV V s.H
      match stepD P call s.ts M o with
      | some e =>
        if V.all (refIn n0 own m) && inOk n0 own m s.ts M o && effOk n0 own m s.H.length e && (e.upd.all fun p => V.contains p.1 && decide (p.1 < s.H.length)) && okPairs m V (e.upd.map (·.1)) 0 log then
          runDraw ops b n0 rest (i + 1) (own ++ e.news.map fun _ => i) (log ++ [(V, e.upd.map (·.1))]) ⟨putD! s.ts o.dst e.res, e.heap s.H, e.upd.map (·.1) ++ s.dirty⟩
        else none
      | none => none
    | some false => runDraw ops b n0 rest (i + 1) own (log ++ [([], [])]) ⟨putD! s.ts o.dst D.undef, s.H, s.dirty⟩
    | none => none

def findIdx? (r : Nat) : List Nat → Option Nat
  | [] => none
  | x :: xs => if x = r then some 0 else (findIdx? r xs).map (· + 1)

def renN (n0 : Nat) (seen : List Nat) (r : Nat) : Option Nat :=
  if r < n0 then some r else (findIdx? r seen).map (n0 + ·)

def renD (n0 : Nat) (seen : List Nat) : D → Option D
  | .f x => some (.f x)
  | .sl r o n => (renN n0 seen r).map fun r => .sl r o n
  | .pt r o => (renN n0 seen r).map fun r => .pt r o
  | .mp r => (renN n0 seen r).map .mp
  | .rf xs => some (.rf xs)
  | .ag ds => (go ds).map .ag
  | .tp ds => (go ds).map .tp
  | .fn f ds => (go ds).map (.fn f)
  | .junk => some .junk
where
  go : List D → Option (List D)
    | [] => some []
    | d :: ds => match renD n0 seen d, go ds with
      | some x, some xs => some (x :: xs)
      | _, _ => none

def renRow (n0 : Nat) (seen : List Nat) : Row → Option Row
  | .box T xs => (renD.go n0 seen xs).map (.box T)
  | r => some r

def nodupB : List Nat → Bool
  | [] => true
  | x :: xs => !xs.contains x && nodupB xs

def renRows (n0 : Nat) (seen : List Nat) (H : List Row) : List Nat → Option (List Row)
  | [] => some []
  | r :: rs => match H[r]? with
    | some row => match renRow n0 seen row, renRows n0 seen H rs with
      | some x, some xs => some (x :: xs)
      | _, _ => none
    | none => none

def renUpd (n0 : Nat) (seen : List Nat) (H : List Row) : List Nat → Option (List (Nat × Row))
  | [] => some []
  | i :: is =>
    if i < n0 then
      match H[i]? with
      | some row => match renRow n0 seen row, renUpd n0 seen H is with
        | some x, some xs => some ((i, x) :: xs)
        | _, _ => none
      | none => none
    else renUpd n0 seen H is

def dedup : List Nat → List Nat
  | [] => []
  | x :: xs => if xs.contains x then dedup xs else x :: dedup xs

/-- What is left of a heap behind a call: a value, the old rows that turned, the new rows that are reached. -/
def gather (n0 : Nat) (d : D) (dirty : List Nat) (H : List Row) : Option Eff :=
  let dt := (dedup dirty).filter (· < n0)
  let seen := reach H n0 (1000 + 4 * H.length) (d.refs ++ dt.flatMap fun i => ((H[i]?).map Row.refs).getD []) []
  if nodupB seen && seen.all (n0 ≤ ·) then
    match renD n0 seen d, renUpd n0 seen H dt, renRows n0 seen H seen with
    | some x, some us, some ns => some ⟨x, us, ns⟩
    | _, _, _ => none
  else none

/-- At a loop's head: only what the code keeps. -/
def sweep (n0 : Nat) (keep : List Nat) (s : St) : Option St :=
  let ts := s.ts.zipIdx.map fun p => if keep.contains p.2 then p.1 else .junk
  match gather n0 (.tp ts) s.dirty s.H with
  | some ⟨.tp ts', us, ns⟩ => some ⟨ts', applyUpd (s.H.take n0) us ++ ns, s.dirty⟩
  | _ => none

def tidy (n0 : Nat) (keep : List Nat) (s : St) : Option St :=
  bif Nat.ble s.H.length (n0 + 40) then some s else sweep n0 keep s

inductive Out where
  | normal
  | exit (id : Nat)
  | ret

def exec (n0 : Nat) (keep : List Nat) : Nat → Code → St → Option (Out × St)
  | 0, _, _ => none
  | n + 1, c, s =>
    match c with
    | .skip => some (.normal, s)
    | .label _ => some (.normal, s)
    | .region _ ops false => (runSeq P call ops.toList ops.toList s).map fun s => (.normal, s)
    | .region _ ops true =>
      let b := (Region.before ops).toList
      if drawOk ops.toList b then (runDraw P call ops.toList b s.H.length ops.toList 0 [] [] s).map fun p => (.normal, p.1) else none
    | .seq x y => match exec n0 keep n x s with
      | some (.normal, s') => exec n0 keep n y s'
      | r => r
    | .cond c x y => match eval s.ts c with
      | .f (.v (.bool t)) => exec n0 keep n (if t then x else y) s
      | _ => none
    | .block id x => match exec n0 keep n x s with
      | some (.exit id', s') => if id' = id then some (.normal, s') else some (.exit id', s')
      | r => r
    | .loop x => match exec n0 keep n x s with
      | some (.normal, s') => match tidy n0 keep s' with
        | some s'' => exec n0 keep n (.loop x) s''
        | none => none
      | r => r
    | .exit id => some (.exit id, s)
    | .ret => some (.ret, s)
    | _ => none

def resultD (H : List Row) (ts : List D) : List ResultVar → Option (List D)
  | [] => some []
  | .tmp t :: rs => (resultD H ts rs).map (ts.getD t D.undef :: ·)
  | .cell a T :: rs => match loadD P H T (ts.getD a D.undef), resultD H ts rs with
    | some d, some ds => some (d :: ds)
    | _, _ => none

def one : List D → D
  | [d] => d
  | ds => .tp ds
end

/-- Slots that are looked at in another region than the one that wrote them. -/
def readsOf : List Oper → List Nat → List Nat
  | [], _ => []
  | o :: rest, w => ((o.op.operands.toList.filterMap fun | .tmp t => some t | _ => none).filter fun t => !w.contains t) ++ readsOf rest (o.dst.toList ++ w)
def keepC : Code → List Nat
  | .region _ ops _ => readsOf ops.toList []
  | .seq a b => keepC a ++ keepC b
  | .cond c a b => (match c with | .tmp t => [t] | _ => []) ++ (keepC a ++ keepC b)
  | .block _ a => keepC a
  | .loop a => keepC a
  | .scope a => keepC a
  | _ => []
def keepR : List ResultVar → List Nat
  | [] => []
  | .tmp t :: rs => t :: keepR rs
  | .cell t _ :: rs => t :: keepR rs
def keepOf (fn : Func) (c : Code) : List Nat := dedup (keepC c ++ keepR fn.results.toList)

/-- Functions that are told by something else than their text. -/
abbrev Ext := FuncId → Option (List D → List Row → Option Eff)

def run (P : Program) (ext : Ext) : Nat → Calling
  | 0, _, _, _ => none
  | n + 1, f, args, H =>
    match ext f with
    | some g => g args H
    | none => match P.funcs[f]? with
      | some fn => match fn.body with
        | some c =>
          match exec P (run P ext n) H.length (keepOf fn c) 20000 c ⟨args ++ List.replicate (fn.ntmps - args.length) D.undef, H, []⟩ with
          | some (.exit _, _) => none
          | some (_, s) => match resultD P s.H s.ts fn.results.toList with
            | some ds => gather H.length (one ds) s.dirty s.H
            | none => none
          | none => none
        | none => none
      | none => none

end Go.Proofs.Ytjhemkeilagnnaa.Mir
