/- The machine beside the model's, laid out so that the kernel runs it quicker; it is the same machine. -/
import Derived.Test.YtjhemkeilagnnaaMirUse
namespace Go.Proofs.Ytjhemkeilagnnaa.Mir
open Go
set_option linter.unusedVariables false

noncomputable section
def nth {α : Type} (l : List α) : Nat → Option α := List.rec (fun _ => none) (fun a _ ih n => Nat.rec (some a) (fun m _ => ih m) n) l
theorem nth_eq {α : Type} (l : List α) (n : Nat) : nth l n = l[n]? := by
  induction l generalizing n with
  | nil => simp [nth]
  | cons a l ih =>
    cases n with
    | zero => rfl
    | succ m => exact (ih m).trans (by simp)
def upd {α : Type} (l : List α) (v : α) : Nat → List α := List.rec (fun _ => []) (fun a r ih n => Nat.rec (v :: r) (fun m _ => a :: ih m) n) l
theorem upd_eq {α : Type} (l : List α) (v : α) (n : Nat) : upd l v n = l.set n v := by
  induction l generalizing n with
  | nil => simp [upd]
  | cons a l ih =>
    cases n with
    | zero => rfl
    | succ m => exact congrArg (a :: ·) (ih m) |>.trans (by simp)
def appL {α : Type} (l m : List α) : List α := List.rec m (fun a _ ih => a :: ih) l
theorem appL_eq {α : Type} (l m : List α) : appL l m = l ++ m := by
  induction l with
  | nil => rfl
  | cons a l ih => exact congrArg (a :: ·) ih
def app0 {α : Type} (l m : List α) : List α := List.casesOn m l (fun a t => appL l (a :: t))
theorem app0_eq {α : Type} (l m : List α) : app0 l m = l ++ m := by
  cases m with
  | nil => simp [app0]
  | cons a t => exact appL_eq l (a :: t)
def hasN (l : List Nat) (x : Nat) : Bool := List.rec false (fun a _ ih => bif Nat.beq x a then true else ih) l
theorem hasN_eq (l : List Nat) (x : Nat) : hasN l x = l.contains x := by
  induction l with
  | nil => rfl
  | cons a l ih =>
    show (bif Nat.beq x a then true else hasN l x) = _
    rw [ih, List.contains_cons]
    cases h : Nat.beq x a with
    | true => simp [Nat.eq_of_beq_eq_true h]
    | false => simp [Nat.ne_of_beq_eq_false h]
/-- To have a thing worked out before one goes on. -/
def fL {α β : Type} (l : List α) : (List α → β) → β := List.rec (motive := fun _ => (List α → β) → β) (fun k => k []) (fun a _ ih k => ih (fun t => k (a :: t))) l
theorem fL_eq {α β : Type} (l : List α) (k : List α → β) : fL l k = k l := by
  induction l generalizing k with
  | nil => rfl
  | cons a l ih => exact ih _
def fN {β : Type} (n : Nat) (k : Nat → β) : β := Nat.rec (k 0) (fun m _ => k (Nat.succ m)) n
theorem fN_eq {β : Type} (n : Nat) (k : Nat → β) : fN n k = k n := by cases n <;> rfl
def fD {β : Type} (d : D) (k : D → β) : β := D.casesOn (motive_1 := fun _ => β) d
  (fun x => F.casesOn (motive_1 := fun _ => β) x (fun v => k (.f (.v v))) (fun xs n => k (.f (.s xs n))) (k (.f .e)))
  (fun r o n => fN r fun r => fN o fun o => fN n fun n => k (.sl r o n)) (fun r o => fN r fun r => fN o fun o => k (.pt r o)) (fun xs => k (.rf xs)) (fun xs => k (.ag xs)) (fun xs => k (.tp xs)) (fun f xs => k (.fn f xs)) (fun r => fN r fun r => k (.mp r)) (k .junk)
theorem fD_eq {β : Type} (d : D) (k : D → β) : fD d k = k d := by
  cases d with
  | f x => cases x <;> rfl
  | sl r o n => show fN r (fun r => fN o fun o => fN n fun n => k (.sl r o n)) = _; rw [fN_eq, fN_eq, fN_eq]
  | pt r o => show fN r (fun r => fN o fun o => k (.pt r o)) = _; rw [fN_eq, fN_eq]
  | mp r => show fN r (fun r => k (.mp r)) = _; rw [fN_eq]
  | _ => rfl

def evalF (ts : List D) (x : Operand) : D :=
  match x with
  | .tmp t => (nth ts t).getD D.undef
  | .const v => D.of v
  | .global _ => .junk
  | .func f => .fn f []
theorem evalF_eq (ts : List D) : evalF ts = eval ts := by
  funext x
  cases x <;> simp [evalF, eval, nth_eq, List.getD_eq_getElem?_getD]

section
variable (P : Program)

def asValF (T : TypeId) (xs : List D) (off : Nat) : Option D :=
  match isAggB P T, inf P T with
  | some true, some (n, _, _) => bif Nat.ble (off + n) xs.length then some (.ag ((xs.drop off).take n)) else none
  | some false, _ => nth xs off
  | _, _ => none
theorem bif_ble {α : Type} (a b : Nat) (x y : α) : (bif Nat.ble a b then x else y) = if a ≤ b then x else y := by
  cases hb : Nat.ble a b with
  | true => rw [if_pos (Nat.le_of_ble_eq_true hb)]; rfl
  | false => rw [if_neg (fun h => by rw [Nat.ble_eq_true_of_le h] at hb; cases hb)]; rfl
theorem asValF_eq : asValF P = asVal P := by
  funext T xs off
  unfold asValF asVal
  simp only [nth_eq, bif_ble]
  rfl

def loadF (H : List Row) (T : TypeId) (a : D) : Option D :=
  match a with
  | .pt r off => match nth H r with
    | some row => match row.cells with
      | some xs => asValF P T xs off
      | none => none
    | none => none
  | .rf xs => asValF P T (xs.map .f) 0
  | _ => none
theorem loadF_eq : loadF P = loadD P := by
  funext H T a
  cases a <;> simp only [loadF, loadD, nth_eq, asValF_eq] <;> rfl

def intB (op : BinOp) (k : IntKind) (a b : Int) : Option Value :=
  match op with
  | .add => some (.int k (k.wrap (a + b)))
  | .sub => some (.int k (k.wrap (a - b)))
  | .mul => some (.int k (k.wrap (a * b)))
  | .eql => some (.bool (a == b))
  | .neq => some (.bool (a != b))
  | .lss => some (.bool (a < b))
  | .leq => some (.bool (a ≤ b))
  | .gtr => some (.bool (a > b))
  | .geq => some (.bool (a ≥ b))
  | _ => none
def fastB (op : BinOp) (x y : D) : Option D :=
  match x with
  | .f (.v (.int k a)) => match y with
    | .f (.v (.int k' b)) => if k = k' then (intB op k a b).map .v else none
    | _ => none
  | _ => none

theorem int_ok {T : TypeId} {k : IntKind} {a b : Int} {op : BinOp} {v : Value} (h : intB op k a b = some v) : Go.binOp op T (.int k a) (.int k b) = Sem.pure v := by
  cases op <;> simp [intB] at h <;> subst h <;> simp [Go.binOp, Op.intArith, Op.intCmp] <;> rfl
theorem guard_ok {op : BinOp} {T : TypeId} {x y : Operand} {k k' : IntKind} {a b : Int} : eqGuard op T x y (.int k a) (.int k' b) = Sem.pure () := by
  unfold eqGuard
  cases op <;> rfl
theorem fastB_ok {P : Program} {ts : List D} {o : Oper} {op : BinOp} {T U : TypeId} {x y : Operand} {d : D} (ho : o.op = .binOp op T x y U) (h : fastB op (eval ts x) (eval ts y) = some d) : pureD P ts o = some d := by
  unfold fastB at h
  split at h
  · rename_i k a hx
    split at h
    · rename_i k' b hy
      split at h
      · rename_i hk
        subst hk
        cases hv : intB op k a b with
        | none => rw [hv] at h; cases h
        | some v =>
          rw [hv] at h
          injection h with h
          have hv' : D.of v = d := by
            subst h
            cases op <;> simp [intB] at hv <;> subst hv <;> rfl
          have h2 : execOp (fun z => ((eval ts z).val?).getD Go.undef) o = Sem.pure (.value v) := by
            unfold execOp
            rw [ho]
            simp only [hx, hy, D.val?, Option.getD_some, guard_ok, int_ok hv]
            rfl
          have hx' : (eval ts x).val? = some (.int k a) := by rw [hx]; rfl
          have hy' : (eval ts y).val? = some (.int k b) := by rw [hy]; rfl
          have hc : (notSelect o.op && o.op.operands.toList.all fun x => ((eval ts x).val?).isSome) = true := by
            rw [ho]; simp [Op.operands, notSelect, hx', hy']
          unfold pureD
          dsimp only
          rw [if_pos hc, h2]
          simp only [semPure, hv']
      · cases h
    · cases h
  · cases h

def valD (d : Option D) : Option Eff := Option.rec none (fun d => some ⟨d, [], []⟩) d
theorem valD_eq (d : Option D) : valD d = d.map fun d => (⟨d, [], []⟩ : Eff) := by cases d <;> rfl
def stPick (ts : List D) (c a b : Operand) : Option Eff := match evalF ts c with
    | .f (.v (.bool t)) => some ⟨if t then evalF ts a else evalF ts b, [], []⟩
    | _ => none
def stAlloc (H : List Row) (T : TypeId) : Option Eff := match inf P T with
    | some (_, _, z) => some ⟨.pt H.length 0, [], [.box T (z.map .v)]⟩
    | none => none
def stBox (H : List Row) (T : TypeId) (x : D) : Option Eff := if okCell x then some ⟨.pt H.length 0, [], [.box T x.cells]⟩ else none
def stNil (x : D) : Option Eff := match x with
    | .pt r off => some ⟨.pt r off, [], []⟩
    | .rf xs => some ⟨.rf xs, [], []⟩
    | .fn f cs => some ⟨.fn f cs, [], []⟩
    | _ => none
def stMakeFunc (ts : List D) (c : Fn) (first captured : Array Operand) (z : Option Eff) : Option Eff := match c with
  | .func f => if first.size = 0 then some ⟨.fn f (captured.toList.map (evalF ts)), [], []⟩ else none
  | _ => z
def stMakeMap (H : List Row) (r : Option Operand) (z : Option Eff) : Option Eff := match r with
  | none => some ⟨.mp H.length, [], [.map []]⟩
  | _ => z
def stExtract (x : D) (i : Nat) : Option Eff := match x with
    | .tp ds => (nth ds i).map fun d => ⟨d, [], []⟩
    | _ => none
def stParts (ts : List D) (ps : Array (Nat × Operand)) : List (Nat × D) := ps.toList.map fun p => (p.1, evalF ts p.2)
def stBin (ts : List D) (o : Oper) (op : BinOp) (T : TypeId) (x y : D) : Option Eff :=
  match fastB op x y with
  | some d => some ⟨d, [], []⟩
  | none => match pureD P ts o with
    | some d => some ⟨d, [], []⟩
    | none => match op with
      | .eql => (eqNil P T x y).map fun b => ⟨D.bool b, [], []⟩
      | .neq => (eqNil P T x y).map fun b => ⟨D.bool (!b), [], []⟩
      | _ => none

def allV (ts : List D) (o : Oper) : Bool := o.op.operands.toList.all fun x => ((evalF ts x).val?).isSome
theorem pureD_none {P : Program} {ts : List D} {o : Oper} (h : allV ts o = false) : pureD P ts o = none := by
  unfold allV at h
  rw [evalF_eq] at h
  unfold pureD
  dsimp only
  rw [if_neg]
  rw [h, Bool.and_false]
  exact Bool.false_ne_true
def callF (call : Calling) (ts : List D) (H : List Row) (c : Call) : Option Eff :=
  match c.callee, c.args.toList.map (evalF ts), c.argTypes.toList with
  | .builtin .append, [s, x], [t, u] => if t = u then appendD P H t s x else none
  | .builtin .len, [x], [t] => (lenD P H t x).map fun (n : Nat) => ⟨D.int (n : Int), [], []⟩
  | .builtin .delete, [m, k], [t, _] => mapDelD P H t m k
  | .builtin .clear, [x], [t] => clearD P H t x
  | .value f, args, _ => match evalF ts f with
    | .fn g caps => match nth P.funcs.toList g with
      | some fn => if fn.body.isSome then call g (args ++ caps) H else none
      | none => none
    | _ => none
  | _, _, _ => none
theorem callF_eq : callF P = callD P := by
  funext call ts H c
  unfold callF callD
  simp only [evalF_eq, nth_eq, Array.getElem?_toList]
  rfl
def stRest (ts : List D) (o : Oper) (a b : Option Eff) : Option Eff := bif allV ts o then a else b

def stepF (call : Calling) (ts : List D) (H : List Row) (o : Oper) : Option Eff :=
  match o.op with
  | .move x => some ⟨evalF ts x, [], []⟩
  | .assign x => some ⟨evalF ts x, [], []⟩
  | .pick c a b => stPick ts c a b
  | .alloc T => stAlloc P H T
  | .box T x => stBox H T (evalF ts x)
  | .load T a => valD (loadF P H T (evalF ts a))
  | .store T a x => storeD P H T (evalF ts a) (evalF ts x)
  | .nilCheck x => stNil (evalF ts x)
  | .makeFunc c first captured => stMakeFunc ts c first captured (stepD P call ts H o)
  | .makeMap _ r => stMakeMap H r (stepD P call ts H o)
  | .makeSlice T l c => makeSliceD P H T (evalF ts l) (evalF ts c)
  | .fieldAddr T x f => valD (fieldAddrD P T (evalF ts x) f)
  | .indexAddr T x i => valD (indexAddrD P T (evalF ts x) (evalF ts i))
  | .buildSlice T n ps => buildSliceD P H T n (stParts ts ps)
  | .mapUpdate T m k x => mapPutD P H T (evalF ts m) (evalF ts k) (evalF ts x)
  | .insert T m k x => mapPutD P H T (evalF ts m) (evalF ts k) (evalF ts x)
  | .lookup T m k ok => valD (lookupD P H T (evalF ts m) (evalF ts k) ok)
  | .extract x i => stExtract (evalF ts x) i
  | .binOp op T x y _ => stBin P ts o op T (evalF ts x) (evalF ts y)
  | .call c => stRest ts o (stepD P call ts H o) (callF P call ts H c)
  | .slice T x lo hi mx => stRest ts o (stepD P call ts H o) (valD (sliceD P H T (evalF ts x) (lo.map (evalF ts)) (hi.map (evalF ts)) (mx.map (evalF ts))))
  | .field T x f => stRest ts o (stepD P call ts H o) (valD (fieldD P T (evalF ts x) f))
  | .build T ps => stRest ts o (stepD P call ts H o) (valD (buildD P T (stParts ts ps)))
  | .convert a b x => stRest ts o (stepD P call ts H o) (convertD P H a b (evalF ts x))
  | _ => stepD P call ts H o

theorem stRest_eq {ts : List D} {o : Oper} {a b : Option Eff} (h : pureD P ts o = none → b = a) : stRest ts o a b = a := by
  unfold stRest
  cases hv : allV ts o with
  | true => rfl
  | false => exact h (pureD_none hv)

theorem stepF_eq : stepF P = stepD P := by
  funext call ts H o
  obtain ⟨dst, op, ty, pos, after, guard⟩ := o
  unfold stepF
  cases op with
  | binOp op T x y U =>
    simp only [stBin, evalF_eq]
    unfold stepD
    cases hf : fastB op (eval ts x) (eval ts y) with
    | some d => simp only [fastB_ok (P := P) (o := ⟨dst, .binOp op T x y U, ty, pos, after, guard⟩) rfl hf]
    | none =>
      dsimp only
      generalize pureD P ts _ = q
      cases q with
      | some d => rfl
      | none => cases op <;> rfl
  | makeFunc c f g =>
    simp only [stMakeFunc, evalF_eq]
    cases c <;> rfl
  | makeMap T r =>
    simp only [stMakeMap]
    cases r <;> rfl
  | call c => exact stRest_eq P fun h => by unfold stepD; dsimp only; rw [h, callF_eq]
  | slice T x lo hi mx => exact stRest_eq P fun h => by unfold stepD; dsimp only; rw [h, evalF_eq, valD_eq]
  | field T x f => exact stRest_eq P fun h => by unfold stepD; dsimp only; rw [h, evalF_eq, valD_eq]
  | build T ps => exact stRest_eq P fun h => by unfold stepD; dsimp only; rw [h, valD_eq]; simp only [stParts, evalF_eq]
  | convert c d x => exact stRest_eq P fun h => by unfold stepD; dsimp only; rw [h, evalF_eq]
  | load T a => simp only [evalF_eq, loadF_eq, valD_eq]; rfl
  | fieldAddr T x f => simp only [evalF_eq, valD_eq]; rfl
  | indexAddr T x f => simp only [evalF_eq, valD_eq]; rfl
  | lookup T x f => simp only [evalF_eq, valD_eq]; rfl
  | extract x i => simp only [evalF_eq, stExtract, nth_eq]; rfl
  | buildSlice T n ps => simp only [evalF_eq, stParts]; rfl
  | pick c a b => simp only [evalF_eq, stPick]; rfl
  | _ => simp only [evalF_eq] <;> rfl

def putF (ts : List D) (dst : Option Tmp) (d : D) : List D := match dst with
  | some t => upd ts d t
  | none => ts
theorem putF_eq : putF = putD! := by
  funext ts dst d
  cases dst <;> simp [putF, putD!, upd_eq]

def seqF (call : Calling) (ops : List Oper) (l : List Oper) : St → Option St :=
  List.rec (motive := fun _ => St → Option St) (fun s => some s) (fun o _ ih s =>
    match wantedD ops s.ts o with
    | some true => match stepF P call s.ts s.H o with
      | some ⟨r, [], []⟩ => fD r fun r => ih ⟨putF s.ts o.dst r, s.H, s.dirty⟩
      | some ⟨r, u, n⟩ => fD r fun r => fL (app0 (applyUpd s.H u) n) fun H => ih ⟨putF s.ts o.dst r, H, app0 (u.map Prod.fst) s.dirty⟩
      | none => none
    | some false => ih ⟨putF s.ts o.dst D.undef, s.H, s.dirty⟩
    | none => none) l
theorem seqF_eq : seqF P = runSeq P := by
  funext call ops l
  induction l with
  | nil => rfl
  | cons o l ih =>
    funext s
    unfold runSeq
    rw [← ih]
    show (match wantedD ops s.ts o with
    | some true => match stepF P call s.ts s.H o with
      | some ⟨r, [], []⟩ => fD r fun r => seqF P call ops l ⟨putF s.ts o.dst r, s.H, s.dirty⟩
      | some ⟨r, u, n⟩ => fD r fun r => fL (app0 (applyUpd s.H u) n) fun H => seqF P call ops l ⟨putF s.ts o.dst r, H, app0 (u.map Prod.fst) s.dirty⟩
      | none => none
    | some false => seqF P call ops l ⟨putF s.ts o.dst D.undef, s.H, s.dirty⟩
    | none => none) = _
    simp only [stepF_eq, fD_eq, fL_eq, putF_eq, app0_eq]
    split <;> rename_i hw <;> simp only [hw]
    cases hs : stepD P call s.ts s.H o with
    | none => rfl
    | some e =>
      obtain ⟨r, u, n⟩ := e
      cases u <;> cases n <;> simp [Eff.heap, applyUpd]

def maskF (V : List Nat) (H : List Row) : Nat → List Row := List.rec (motive := fun _ => Nat → List Row) (fun _ => []) (fun a _ ih i => (bif hasN V i then a else .dead) :: ih (i + 1)) H
theorem maskF_eq (V : List Nat) (H : List Row) (i : Nat) : maskF V H i = (H.zipIdx i).map (fun (p : Row × Nat) => if V.contains p.2 then p.1 else Row.dead) := by
  induction H generalizing i with
  | nil => rfl
  | cons a H ih =>
    show (bif hasN V i then a else Row.dead) :: maskF V H (i + 1) = _
    rw [ih, hasN_eq]
    simp [cond_eq_ite]

def drawF (call : Calling) (ops : List Oper) (b : List Nat) (n0 : Nat) : List Oper → Nat → List Nat → List (List Nat × List Nat) → St → Option (St × List Nat)
  | [], _, own, _, s => some (s, own)
  | o :: rest, i, own, log, s =>
    match wantedD ops s.ts o with
    | some true =>
      let m := b.getD i 0
      let V := viewOf s.ts s.H o
      let M := maskF V s.H 0
      match stepF P call s.ts M o with
      | some e =>
        if V.all (refIn n0 own m) && inOk n0 own m s.ts M o && effOk n0 own m s.H.length e && (e.upd.all fun p => V.contains p.1 && decide (p.1 < s.H.length)) && okPairs m V (e.upd.map (·.1)) 0 log then
          fD e.res fun r => fL (putF s.ts o.dst r) fun ts => fL (app0 (applyUpd s.H e.upd) e.news) fun H => drawF call ops b n0 rest (i + 1) (own ++ e.news.map fun _ => i) (log ++ [(V, e.upd.map (·.1))]) ⟨ts, H, app0 (e.upd.map (·.1)) s.dirty⟩
        else none
      | none => none
    | some false => drawF call ops b n0 rest (i + 1) own (log ++ [([], [])]) ⟨putF s.ts o.dst D.undef, s.H, s.dirty⟩
    | none => none
theorem drawF_eq (call : Calling) (ops : List Oper) (b : List Nat) (n0 : Nat) (l : List Oper) : drawF P call ops b n0 l = runDraw P call ops b n0 l := by
  induction l with
  | nil => rfl
  | cons o l ih =>
    funext i own log s
    unfold drawF runDraw
    rw [ih]
    simp only [stepF_eq, fD_eq, fL_eq, putF_eq, app0_eq, maskF_eq]
    rfl

def execF (call : Calling) (n0 : Nat) (keep : List Nat) : Nat → Code → St → Option (Out × St)
  | 0, _, _ => none
  | n + 1, c, s =>
    match c with
    | .skip => some (.normal, s)
    | .label _ => some (.normal, s)
    | .region _ ops d => bif d then
        let b := (Region.before ops).toList
        if drawOk ops.toList b then (drawF P call ops.toList b s.H.length ops.toList 0 [] [] s).map fun p => (.normal, p.1) else none
      else (seqF P call ops.toList ops.toList s).map fun s => (.normal, s)
    | .seq x y => match execF call n0 keep n x s with
      | some (.normal, s') => execF call n0 keep n y s'
      | r => r
    | .cond c x y => match evalF s.ts c with
      | .f (.v (.bool t)) => execF call n0 keep n (if t then x else y) s
      | _ => none
    | .block id x => match execF call n0 keep n x s with
      | some (.exit id', s') => if id' = id then some (.normal, s') else some (.exit id', s')
      | r => r
    | .loop x => match execF call n0 keep n x s with
      | some (.normal, s') => match tidy n0 keep s' with
        | some s'' => execF call n0 keep n (.loop x) s''
        | none => none
      | r => r
    | .exit id => some (.exit id, s)
    | .ret => some (.ret, s)
    | _ => none
theorem execF_eq (call : Calling) (n0 : Nat) (keep : List Nat) (n : Nat) : execF P call n0 keep n = exec P call n0 keep n := by
  induction n with
  | zero => rfl
  | succ n ih =>
    funext c s
    unfold execF exec
    cases c with
    | region id ops d => cases d <;> simp only [seqF_eq, drawF_eq] <;> rfl
    | _ => simp only [ih, evalF_eq] <;> rfl

def runF (ext : Ext) : Nat → Calling
  | 0, _, _, _ => none
  | n + 1, f, args, H =>
    match ext f with
    | some g => g args H
    | none => match nth P.funcs.toList f with
      | some fn => match fn.body with
        | some c =>
          match execF P (runF ext n) H.length (keepOf fn c) 20000 c ⟨args ++ List.replicate (fn.ntmps - args.length) D.undef, H, []⟩ with
          | some (.exit _, _) => none
          | some (_, s) => match resultD P s.H s.ts fn.results.toList with
            | some ds => gather H.length (one ds) s.dirty s.H
            | none => none
          | none => none
        | none => none
      | none => none
theorem runF_eq (ext : Ext) (n : Nat) : runF P ext n = run P ext n := by
  induction n with
  | zero => rfl
  | succ n ih =>
    funext f args H
    unfold runF run
    simp only [ih, execF_eq, nth_eq, Array.getElem?_toList]
    rfl
end
end
end Go.Proofs.Ytjhemkeilagnnaa.Mir
