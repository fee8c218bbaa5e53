/- Lemmas for the proof. No condition. -/
import Derived.Test.YthjgmldnegaaiaaGreatDoorQf04
import Derived.Laws.StructEq
set_option linter.unusedVariables false
set_option linter.unusedSimpArgs false
namespace Go.Proofs.YthjgmldnegaaiaaGreatDoor.Mir
open Go Go.RowKit
inductive SV where
 | t (n:Nat)
 | c (d:D)
def SV.ev (ts:List D):SV→D
 | .t n=>ts.getD n D.undef
 | .c d=>d
inductive SOp where
 | mv (x:SV)
 | pick (c a b:SV)
 | alloc (T:TypeId) (z:List D)
 | box (T:TypeId) (x:SV)
 | load1 (a:SV)
 | loadA (n:Nat) (a:SV)
 | store (n:Nat) (a x:SV)
 | nilc (x:SV)
 | off (o:Nat) (a:SV)
 | fld1 (o:Nat) (x:SV)
 | fldA (o n:Nat) (x:SV)
 | idx (sz:Nat) (x i:SV)
 | arr (sz n:Nat) (x i:SV)
 | ext (i:Nat) (x:SV)
 | bin (op:BinOp) (x y:SV)
 | binb (op:BinOp) (x y:SV)
 | aeq (eq:Bool) (ks:List Nat) (x y:SV)
 | nilq (eq:Bool) (k:Nat) (x y:SV)
 | unot (x:SV)
 | fn (f:FuncId) (caps:List SV)
 | mkmap
 | mkslice (T:TypeId) (sz b:Nat) (z:List F) (l c:SV)
 | bld (z:List D) (parts:List (Nat × Nat × SV))
 | bsl (T:TypeId) (sz len:Nat) (z:List D) (parts:List (Nat × SV))
 | app (T:TypeId) (sz b:Nat) (s x:SV)
 | slen (x:SV)
 | mlen (x:SV)
 | sub (sz:Nat) (E:TypeId) (x:SV) (lo hi mx:Option SV)
 | conv (k:IntKind) (x:SV)
 | s2b (x:SV)
 | b2s (x:SV)
 | strlen (x:SV)
 | sidx (x i:SV)
 | aidx (sz n:Nat) (x i:SV)
 | mm (mx:Bool) (x y:SV)
 | ssub (x:SV) (lo hi:Option SV)
 | look (ok:Bool) (K:TypeId) (z:D) (m k:SV)
 | mput (K:TypeId) (m k x:SV)
 | mdel (K:TypeId) (m k:SV)
 | clr (T:TypeId) (x:SV)
 | call (f:SV) (args:List SV)
 | raw (o:Oper)
structure SI where
 dst:Option Nat
 op:SOp
 guard:Option (Nat × Bool)
def load1 (H:List Row):D→Option D
 | .pt r off=>match H[r]? with
  | some row=>match row.cells with
   | some xs=>xs[off]?
   | none=>none
  | none=>none
 | .rf xs=>(xs[0]?).map .f
 | _=>none
def loadA (H:List Row)(n:Nat):D→Option D
 | .pt r off=>match H[r]? with
  | some row=>match row.cells with
   | some xs=>if off+n≤xs.length then some (.ag ((xs.drop off).take n)) else none
   | none=>none
  | none=>none
 | .rf xs=>if n≤xs.length then some (.ag ((xs.map .f).take n)) else none
 | _=>none
def fld1 (o:Nat):D→Option D
 | .ag ds=>ds[o]?
 | _=>none
def fldA (o n:Nat):D→Option D
 | .ag ds=>if o+n≤ds.length then some (.ag ((ds.drop o).take n)) else none
 | _=>none
def boxD (d:D):Option (List D):=if b0I d=true then some d.cells else none
def offD (o:Nat):D→Option D
 | .pt r off=>some (.pt r (off+o))
 | .rf xs=>some (.rf (xs.drop o))
 | _=>none
def t0F:D→Option D
 | .pt r off=>some (.pt r off)
 | .rf xs=>some (.rf xs)
 | .fn f cs=>some (.fn f cs)
 | _=>none
def extD (i:Nat):D→Option D
 | .tp ds=>ds[i]?
 | _=>none
def putL {α:Type}:Nat→List α→List α→List α
 | 0,[],cs=>cs
 | 0,y :: ys,_ :: cs=>y :: putL 0 ys cs
 | n+1,ys,c :: cs=>c :: putL n ys cs
 | _,_,[]=>[]
theorem c0i {α:Type}:∀ (off:Nat) (ys xs:List α),off+ys.length≤xs.length→putL off ys xs=splice xs off ys
 | 0,[],cs,_=>by cases cs<;>simp [putL,splice]
 | 0,y :: ys,[],h=>by simp at h
 | 0,y :: ys,c :: cs,h=>by
  have:=c0i 0 ys cs (by simp at h ⊢;omega)
  simp only [putL,this]
  simp [splice]
 | n+1,ys,[],h=>by simp at h
 | n+1,ys,c :: cs,h=>by
  have:=c0i n ys cs (by simp at h ⊢;omega)
  simp only [putL,this]
  simp [splice,Nat.add_right_comm n 1]
def c0o (P:Program)(H:List Row)(n:Nat)(a x:D):Option (List Row) :=
 match a with
 | .pt r off=>match H[r]? with
  | some (.box U xs)=>if b0I x=true∧x.cells.length=n∧off+n≤xs.length then some (H.set r (.box U (putL off x.cells xs))) else none
  | some (.data U xs)=>if b0I x=true∧x.cells.length=n∧off+n≤xs.length∧0<n then
    match a0U P H x.cells with
    | some (ys,us)=>match (a0B H us)[r]? with
     | some (.data U ws)=>some ((a0B H us).set r (.data U (splice ws off ys)))
     | _=>none
    | none=>none
   else none
  | _=>none
 | _=>none
def z0f (x:D)(lo hi:Option D):Option D :=
 match x with
 | .f (.v (.string s))=>match (match lo with|none=>some 0|some d=>nat? d),(match hi with|none=>some s.size|some d=>nat? d) with
  | some l,some h=>if l≤h∧h≤s.size then some (.f (.v (.string (s.extract l h)))) else none
  | _,_=>none
 | _=>none
def z0J (P:Program)(H:List Row)(ok:Bool)(K:TypeId)(z m k:D):Option D :=
 match f0r H m,k with
 | some es,.f (.v key)=>if i0Z P K key then
   match k0f key es with
   | some (some d)=>some (if ok then .tp [d,.bool true] else d)
   | some none=>some (if ok then .tp [z,.bool false] else z)
   | none=>none
  else none
 | _,_=>none
def a1o (P:Program)(H:List Row)(K:TypeId)(m k x:D):Option (List Row) :=
 match m,k with
 | .mp r,.f (.v key)=>if i0Z P K key then
   match f0s P H x with
   | some (y,us)=>match (a0B H us)[r]? with
    | some (.map es)=>match k0f key es with
     | some _=>some ((a0B H us).set r (.map (putD key y es)))
     | none=>none
    | _=>none
   | none=>none
  else none
 | _,_=>none
def p0V (P:Program)(H:List Row)(T:TypeId)(x:D):Option (List Row) :=
 match j0W P H T x with
 | some e=>some (e.heap H)
 | none=>none
def z0w (P:Program)(H:List Row)(K:TypeId)(m k:D):Option (List Row) :=
 match m,k with
 | .mp r,.f (.v key)=>if i0Z P K key then
   match H[r]? with
   | some (.map es)=>match k0f key es with
    | some _=>some (H.set r (.map (k0j key es)))
    | none=>none
   | _=>none
  else none
 | _,_=>none
def e0a:List D→List (Nat × Nat × D)→Option (List D)
 | cells,[]=>some cells
 | cells,(off,size,d) :: rest=>if b0I d=true∧d.cells.length=size∧off+size≤cells.length then e0a (putL off d.cells cells) rest else none
def b0S (H:List Row)(sz:Nat):D→Option (Nat × List F)
 | .f (.v (.slice none 0 0))=>some (0,[])
 | .f .e=>some (0,[])
 | .f (.s xs n)=>some (n,xs)
 | .sl r off n=>match H[r]? with
  | some (.data _ xs)=>if off+n*sz≤xs.length then some (n,(xs.drop off).take (n*sz)) else none
  | some (.froz _ xs)=>if off+n*sz≤xs.length then some (n,(xs.drop off).take (n*sz)) else none
  | some (.box _ ds)=>match fs? ds with
   | some xs=>if off+n*sz≤xs.length then some (n,(xs.drop off).take (n*sz)) else none
   | none=>none
  | _=>none
 | _=>none
def appS (H:List Row)(T:TypeId)(sz b:Nat)(s x:D)(K:D→List Row→Prop):Prop :=
 a0D (b0S H sz x) fun (m,ys) =>
  match s with
  | .f (.v (.slice none 0 0))=>Two (m=0) (K s H) (ys.length=m*sz∧m*b≤most∧m≤most∧K (.sl H.length 0 m) (H++[.data T ys]))
  | .f .e=>Two (m=0) (K s H) (ys.length=m*sz∧m*b≤most∧m≤most∧K (.sl H.length 0 m) (H++[.data T ys]))
  | .sl r off n=>Two (m=0) (K s H) (match H[r]? with
   | some (.data U xs)=>U=T∧ys.length=m*sz∧xs.length=off+n*sz∧(n+m)*b≤most∧n+m≤most∧K (.sl H.length 0 (n+m)) (H.set r .dead++[.data T (xs.drop off++ys)])
   | _=>False)
  | .f (.s _ _)=>m=0∧K s H
  | _=>False
def shQ (op:BinOp)(k k':IntKind):Prop :=
 match op with
 | .shl|.shr=>True
 | _=>k=k'
def intS (op:BinOp)(k:IntKind)(a b:Int)(K:D→Prop):Prop :=
 match op with
 | .shl=>0≤b∧K (.f (.v (.int k (k.wrap (a*2 ^ (min b.toNat k.bits))))))
 | .shr=>0≤b∧K (.f (.v (.int k (a.fdiv (2 ^ (min b.toNat k.bits))))))
 | .and=>K (.f (.v (.int k (k.wrap (BitVec.ofInt k.bits a &&& BitVec.ofInt k.bits b).toNat))))
 | .or=>K (.f (.v (.int k (k.wrap (BitVec.ofInt k.bits a ||| BitVec.ofInt k.bits b).toNat))))
 | .xor=>K (.f (.v (.int k (k.wrap (BitVec.ofInt k.bits a ^^^ BitVec.ofInt k.bits b).toNat))))
 | .add=>K (.f (.v (.int k (k.wrap (a+b)))))
 | .sub=>K (.f (.v (.int k (k.wrap (a-b)))))
 | .mul=>K (.f (.v (.int k (k.wrap (a*b)))))
 | .quo=>b≠0∧K (.f (.v (.int k (k.wrap (a.tdiv b)))))
 | .rem=>b≠0∧K (.f (.v (.int k (a.tmod b))))
 | .eql=>Two (a=b) (K (D.bool true)) (K (D.bool false))
 | .neq=>Two (a=b) (K (D.bool false)) (K (D.bool true))
 | .lss=>Two (a<b) (K (D.bool true)) (K (D.bool false))
 | .leq=>Two (a≤b) (K (D.bool true)) (K (D.bool false))
 | .gtr=>Two (b<a) (K (D.bool true)) (K (D.bool false))
 | .geq=>Two (b≤a) (K (D.bool true)) (K (D.bool false))
 | _=>False
def strS (op:BinOp)(a b:ByteArray)(K:D→Prop):Prop :=
 match op with
 | .add=>a.size+b.size≤9223372036854775807∧K (.f (.v (.string (a++b))))
 | .eql=>Two (a=b) (K (D.bool true)) (K (D.bool false))
 | .neq=>Two (a=b) (K (D.bool false)) (K (D.bool true))
 | .lss=>Two (Op.bytesLess a.toList b.toList=true) (K (D.bool true)) (K (D.bool false))
 | .gtr=>Two (Op.bytesLess b.toList a.toList=true) (K (D.bool true)) (K (D.bool false))
 | .leq=>Two (Op.bytesLess b.toList a.toList=true) (K (D.bool false)) (K (D.bool true))
 | .geq=>Two (Op.bytesLess a.toList b.toList=true) (K (D.bool false)) (K (D.bool true))
 | _=>False
def s0c (op:BinOp)(a b:Bool)(K:D→Prop):Prop :=
 match op with
 | .eql=>K (D.bool (a==b))
 | .neq=>K (D.bool (!(a==b)))
 | _=>False
def binS (op:BinOp)(x y:D)(K:D→Prop):Prop :=
 match x,y with
 | .f (.v (.int k a)),.f (.v (.int k' b))=>shQ op k k'∧intS op k a b K
 | .f (.v (.string a)),.f (.v (.string b))=>strS op a b K
 | _,_=>False
def q0Q (op:BinOp)(x y:D)(K:D→Prop):Prop :=
 match x,y with
 | .f (.v (.bool a)),.f (.v (.bool b))=>s0c op a b K
 | _,_=>False
def c1H (P:Program)(T:TypeId):Option Nat :=
 match P.underlying T with
 | some (.int _)=>some 0
 | some .string=>some 1
 | some .bool=>some 2
 | _=>none
def eqKs (P:Program):List Field→Nat→Option (List Nat)
 | [],_=>some []
 | f :: fs, i => if f.name ≠ "_" ∧ f.offset = i then
   (match c1H P f.type,eqKs P fs (i+1) with
   | some k,some ks=>some (k :: ks)
   | _,_=>none) else none
def eqV:Nat→D→D→Option Bool
 | 0,.f (.v (.int k a)),.f (.v (.int k' b))=>if k=k' then some (a==b) else none
 | 1,.f (.v (.string a)),.f (.v (.string b))=>some (a.toList==b.toList)
 | 2,.f (.v (.bool a)),.f (.v (.bool b))=>some (a==b)
 | _,_,_=>none
def eqL:List Nat→List D→List D→Option Bool
 | [],[],[]=>some true
 | k :: ks,x :: xs,y :: ys=>match eqV k x y,eqL ks xs ys with
  | some a,some b=>some (a&&b)
  | _,_=>none
 | _,_,_=>none
def aeqS (eq:Bool)(ks:List Nat)(x y:D)(K:D→Prop):Prop :=
 match x,y with
 | .ag xs,.ag ys=>a0D (eqL ks xs ys) fun b=>K (D.bool (if eq then b else !b))
 | _,_=>False
def w0e (sz n:Nat)(x i:D)(K:D→Prop):Prop :=
 match x,i with
 | .ag ds,.f (.v (.int _ a))=>(0≤a∧a<n)∧a0D (ds[a.toNat*sz]?) K
 | _,_=>False
def nilS (k:Nat)(x y:D):Option Bool :=
 match c0K x,c0K y with
 | some (i,a),some (j,b)=>if k=i∧k=j∧(a=true∨b=true) then some (a&&b) else none
 | _,_=>none
def d0C (k:Nat)(x y:D)(K:Bool→Prop):Prop :=
 match x,y with
 | .f (.s _ n),.f (.v (.slice none 0 0))=>k=0∧(n=0→K true)∧K false
 | .sl _ _ n,.f (.v (.slice none 0 0))=>k=0∧(n=0→K true)∧K false
 | x,y=>a0D (nilS k x y) K
def k0i (c:D)(p q:Prop):Prop:=match c with
 | .f (.v (.bool t))=>Bsel t p q
 | _=>False
def idxS (sz:Nat)(x i:D)(K:D→Prop):Prop :=
 match i with
 | .f (.v (.int _ i))=>match x with
  | .sl r off n=>(0≤i∧i<n)∧K (.pt r (off+i.toNat*sz))
  | .f (.s xs n)=>(0≤i∧i<n)∧K (.rf (xs.drop (i.toNat*sz)))
  | _=>False
 | _=>False
def arrS (sz n:Nat)(x i:D)(K:D→Prop):Prop :=
 match i with
 | .f (.v (.int _ i))=>match x with
  | .pt r off=>(0≤i∧i<n)∧K (.pt r (off+i.toNat*sz))
  | _=>False
 | _=>False
def notS (x:D):Option D:=match x with
 | .f (.v (.bool b))=>some (D.bool (!b))
 | _=>none
def z0l (k:IntKind)(x:D):Option D:=match x with
 | .f (.v (.int _ n))=>some (.f (.v (.int k (k.wrap n))))
 | _=>none
def intOf? (d:D):Option Int:=match d with
 | .f (.v (.int .i64 n))=>some n
 | _=>none
def strOf? (d:D):Option ByteArray:=match d with
 | .f (.v (.string s))=>some s
 | _=>none
def slcS (x:D):Option Nat:=match x with
 | .sl _ _ n=>some n
 | .f (.s _ n)=>some n
 | .f .e=>some 0
 | .f (.v (.slice none 0 0))=>some 0
 | _=>none
def mxS (x:D):D:=match x with
 | .f (.v (.slice none 0 0))=>x
 | _=>.f .e
def subS (H:List Row)(sz:Nat)(E:TypeId)(x:D)(l h:Nat):Option D:=match x with
 | .sl r off _=>if l=h then some (.f (.s [] 0)) else if h0o H r=some E then some (.sl r (off+l*sz) (h-l)) else none
 | .f (.s xs _)=>some (.f (.s ((xs.drop (l*sz)).take ((h-l)*sz)) (h-l)))
 | y=>some y
def a0T (P:Program)(ts:List D)(H:List Row)(o:SOp)(K:D→List Row→Prop):Prop :=
 match o with
 | .mv x=>K (x.ev ts) H
 | .pick c a b=>k0i (c.ev ts) (K (a.ev ts) H) (K (b.ev ts) H)
 | .alloc T z=>K (.pt H.length 0) (H++[.box T z])
 | .box T x=>a0D (boxD (x.ev ts)) fun cs=>K (.pt H.length 0) (H++[.box T cs])
 | .load1 a=>a0D (load1 H (a.ev ts)) fun d=>K d H
 | .loadA n a=>a0D (loadA H n (a.ev ts)) fun d=>K d H
 | .store n a x=>a0D (c0o P H n (a.ev ts) (x.ev ts)) fun H'=>K D.undef H'
 | .nilc x=>a0D (t0F (x.ev ts)) fun d=>K d H
 | .off o a=>a0D (offD o (a.ev ts)) fun d=>K d H
 | .fld1 o x=>a0D (fld1 o (x.ev ts)) fun d=>K d H
 | .fldA o n x=>a0D (fldA o n (x.ev ts)) fun d=>K d H
 | .idx sz x i=>idxS sz (x.ev ts) (i.ev ts) fun d=>K d H
 | .arr sz n x i=>arrS sz n (x.ev ts) (i.ev ts) fun d=>K d H
 | .ext i x=>a0D (extD i (x.ev ts)) fun d=>K d H
 | .bin op x y=>binS op (x.ev ts) (y.ev ts) fun d=>K d H
 | .binb op x y=>q0Q op (x.ev ts) (y.ev ts) fun d=>K d H
 | .aeq eq ks x y=>aeqS eq ks (x.ev ts) (y.ev ts) fun d=>K d H
 | .nilq eq k x y=>d0C k (x.ev ts) (y.ev ts) fun b=>K (D.bool (if eq then b else !b)) H
 | .unot x=>a0D (notS (x.ev ts)) fun d=>K d H
 | .fn f caps=>K (.fn f (caps.map (SV.ev ts))) H
 | .mkmap=>K (.mp H.length) (H++[.map []])
 | .mkslice T sz b z l c=>a0D (intOf? (l.ev ts)) fun a=>a0D (intOf? (c.ev ts)) fun c=>((0<a∨c=0)∧0≤a∧a≤c∧b*c≤140737488355328∧c.toNat*sz≤16777216) ∧
   K (.sl H.length 0 a.toNat) (H++[.data T ((List.range (a.toNat*sz)).map fun j=>z.getD (j % sz) (.v Go.undef))])
 | .bld z parts=>a0D (e0a z (parts.map fun p=>(p.1,p.2.1,p.2.2.ev ts))) fun ds=>K (.ag ds) H
 | .bsl T sz len z parts=>a0D (e0a z (parts.map fun p=>(p.1,sz,p.2.ev ts))) fun ds=>a0D (a0U P H ds) fun xu=>K (.sl H.length 0 len) (a0B H xu.2++[.data T xu.1])
 | .app T sz b s x=>appS H T sz b (s.ev ts) (x.ev ts) K
 | .slen x=>a0D (slcS (x.ev ts)) fun n=>K (D.int n) H
 | .mlen x=>a0D (f0r H (x.ev ts)) fun es=>K (D.int es.length) H
 | .sub sz E x lo hi mx=>a0D (slcS (x.ev ts)) fun n=>a0D (match lo with|none=>some 0|some v=>intOf? (v.ev ts)) fun l=>a0D (match hi with|none=>some (n:Int)|some v=>intOf? (v.ev ts)) fun h =>
   (0≤l∧l≤h∧h≤n)∧(match mx with
    | none=>a0D (subS H sz E (x.ev ts) l.toNat h.toNat) fun d=>K d H
    | some v=>(intOf? (v.ev ts)=some l∧l=h∧hi.isSome=true)∧K (mxS (x.ev ts)) H)
 | .conv k x=>a0D (z0l k (x.ev ts)) fun d=>K d H
 | .s2b x=>a0D (strOf? (x.ev ts)) fun s=>s.size≤most∧K (.f (.s (s.data.toList.map fun b=>.v (.int .u8 b.toNat)) s.size)) H
 | .b2s x=>a0D (b0S H 1 (x.ev ts)) fun p=>a0D (bytesOf? (p.2.map .f)) fun l=>p.2.length=p.1∧K (.f (.v (.string ⟨l.toArray⟩))) H
 | .strlen x=>a0D (strOf? (x.ev ts)) fun s=>K (D.int s.size) H
 | .sidx x i=>a0D (strOf? (x.ev ts)) fun s=>a0D (intOf? (i.ev ts)) fun i=>a0D (if 0≤i then s.data.toList[i.toNat]? else none) fun b=>K (.f (.v (.int .u8 b.toNat))) H
 | .aidx sz n x i=>w0e sz n (x.ev ts) (i.ev ts) fun d=>K d H
 | .mm mx x y=>a0D (intOf? (x.ev ts)) fun a=>a0D (intOf? (y.ev ts)) fun b=>K (D.int (if mx then max a b else min a b)) H
 | .ssub x lo hi=>a0D (z0f (x.ev ts) (lo.map (SV.ev ts)) (hi.map (SV.ev ts))) fun d=>K d H
 | .look ok T z m k=>a0D (z0J P H ok T z (m.ev ts) (k.ev ts)) fun d=>K d H
 | .mput T m k x=>a0D (a1o P H T (m.ev ts) (k.ev ts) (x.ev ts)) fun H'=>K D.undef H'
 | .mdel T m k=>a0D (z0w P H T (m.ev ts) (k.ev ts)) fun H'=>K (.tp []) H'
 | .clr T x=>a0D (p0V P H T (x.ev ts)) fun H'=>K (.tp []) H'
 | .call f args=>a0P P (f.ev ts) (args.map (SV.ev ts)) H K
 | .raw o=>c1o P ts H o K
def sv:Operand→Option SV
 | .tmp t=>some (.t t)
 | .const v=>some (.c (D.of v))
 | .func f=>some (.c (.fn f []))
 | .global _=>none
def svs:List Operand→Option (List SV)
 | []=>some []
 | x :: xs=>match sv x,svs xs with
  | some y,some ys=>some (y :: ys)
  | _,_=>none
def svo:Option Operand→Option (Option SV)
 | none=>some none
 | some x=>(sv x).map some
theorem a0Q {x:Operand}{y:SV}(h:sv x=some y)(ts:List D):y.ev ts=eval ts x:=by
 cases x<;>simp [sv] at h<;>subst h<;>rfl
theorem q0S {ts:List D}:∀ {xs:List Operand} {ys:List SV},svs xs=some ys→ys.map (SV.ev ts)=xs.map (eval ts)
 | [],ys,h=>by simp [svs] at h;subst h;rfl
 | x :: xs,ys,h=>by
  simp only [svs] at h
  split at h
  ·rename_i y ys' hy hys
   injection h with h
   subst h
   simp [a0Q hy,q0S hys]
  ·cases h
section
variable (P:Program)
def e0h (fs:Array Go.Field):List (Nat × Operand)→Option (List (Nat × Nat × SV))
 | []=>some []
 | (i,x) :: rest=>match fs[i]?,sv x,e0h fs rest with
  | some f,some y,some ys=>match P.info? f.type with
   | some q=>some ((f.offset,q.size,y) :: ys)
   | none=>none
  | _,_,_=>none
def e0J (sz:Nat):List (Nat × Operand)→Option (List (Nat × SV))
 | []=>some []
 | (i,x) :: rest=>match sv x,e0J sz rest with
  | some y,some ys=>some ((i*sz,y) :: ys)
  | _,_=>none
def slcE (T:TypeId):Option (TypeId × Nat × Nat × List Value) :=
 match P.underlying T with
 | some (.slice E)=>match inf P E with
  | some (sz,b,z)=>if 0<sz then some (E,sz,b,z) else none
  | none=>none
 | _=>none
def resOp? (o:Oper):Option SOp :=
 match o.op with
 | .move x=>(sv x).map .mv
 | .assign x=>(sv x).map .mv
 | .pick c a b=>match sv c,sv a,sv b with
  | some c,some a,some b=>some (.pick c a b)
  | _,_,_=>none
 | .alloc T=>match inf P T with
  | some (_,_,z)=>some (.alloc T (z.map .v))
  | none=>none
 | .box T x=>(sv x).map (.box T)
 | .load T a=>match d0s P T,inf P T,sv a with
  | some false,_,some a=>some (.load1 a)
  | some true,some (n,_,_),some a=>some (.loadA n a)
  | _,_,_=>none
 | .store T a x=>match inf P T,sv a,sv x with
  | some (n,_,_),some a,some x=>some (.store n a x)
  | _,_,_=>none
 | .nilCheck x=>(sv x).map .nilc
 | .fieldAddr T x f=>match e0Q P T f,sv x with
  | some (o,U),some x=>match inf P U with
   | some (sz,_,_)=>if sz=0 then none else some (.off o x)
   | none=>none
  | _,_=>none
 | .field T x f=>match e0Q P T f,sv x with
  | some (o,U),some x=>match d0s P U,inf P U with
   | some false,_=>some (.fld1 o x)
   | some true,some (n,_,_)=>some (.fldA o n x)
   | _,_=>none
  | _,_=>none
 | .indexAddr T x i=>match P.underlying T,sv x,sv i with
  | some (.slice E),some x,some i=>match inf P E with
   | some (sz,_,_)=>if 0<sz then some (.idx sz x i) else none
   | none=>none
  | some (.array n E),some x,some i=>match inf P E with
   | some (sz,_,_)=>some (.arr sz n x i)
   | none=>none
  | _,_,_=>none
 | .extract x i=>(sv x).map (.ext i)
 | .binOp op T x y _=>match sv x,sv y with
  | some x,some y=>match h0K P T with
   | some k=>match op with
    | .eql=>some (.nilq true k x y)
    | .neq=>some (.nilq false k x y)
    | _=>none
   | none=>match P.underlying T with
    | some (.int _)=>some (.bin op x y)
    | some .string=>some (.bin op x y)
    | some .bool=>some (.binb op x y)
    | some (.struct fs)=>if P.stoodInHeld T=false∧P.eqGuardType P.depth T=false then
      (match op,eqKs P fs.toList 0 with
      | .eql,some ks=>some (.aeq true ks x y)
      | .neq,some ks=>some (.aeq false ks x y)
      | _,_=>none) else none
    | _=>none
  | _,_=>none
 | .unOp .not _ x=>(sv x).map .unot
 | .makeFunc (.func f) first caps=>if first.size=0 then (svs caps.toList).map (.fn f) else none
 | .makeMap _ none=>some .mkmap
 | .makeSlice T l c=>match slcE P T,sv l,sv c with
  | some (E,sz,b,z),some l,some c=>some (.mkslice E sz b (z.map .v) l c)
  | _,_,_=>none
 | .build T ps=>match P.underlying T,inf P T with
  | some (.struct fs),some (_,_,z)=>if fs.toList.all fun f=>(P.info? f.type).isSome then (e0h P fs ps.toList).map (.bld (z.map .v)) else none
  | some (.array _ E),some (_,_,z)=>match inf P E with
   | some (sz,_,_)=>(e0J sz ps.toList).map fun ys=>.bld (z.map .v) (ys.map fun p=>(p.1,sz,p.2))
   | none=>none
  | _,_=>none
 | .buildSlice T n ps=>match slcE P T with
  | some (E,sz,_,z)=>if (0<n∧n*sz≤100000)∨(n=0∧ps.toList.isEmpty=true) then (e0J sz ps.toList).map (.bsl E sz n ((List.range (n*sz)).map fun j=>D.v (z.getD (j % sz) Go.undef))) else none
  | none=>none
 | .slice T x lo hi mx=>match slcE P T,sv x,svo lo,svo hi,svo mx with
  | some (E,sz,_,_),some x,some lo,some hi,some mx=>some (.sub sz E x lo hi mx)
  | none,some x,some lo,some hi,some none=>match P.underlying T with
   | some .string=>some (.ssub x lo hi)
   | _=>none
  | _,_,_,_,_=>none
 | .convert a b x=>match P.underlying a,P.underlying b,sv x with
  | some (.int _),some (.int k),some x=>some (.conv k x)
  | some .string,some (.slice E),some x=>match P.underlying E with
   | some (.int .u8)=>some (.s2b x)
   | _=>none
  | some (.slice E),some .string,some x=>match P.underlying E,inf P E with
   | some (.int .u8),some (1,_,_)=>some (.b2s x)
   | _,_=>none
  | _,_,_=>none
 | .index T x i=>match P.underlying T,sv x,sv i with
  | some .string,some x,some i=>some (.sidx x i)
  | some (.array n E),some x,some i=>match d0s P E,inf P E with
   | some false,some (sz,_,_)=>some (.aidx sz n x i)
   | _,_=>none
  | _,_,_=>none
 | .lookup T m k ok=>match P.underlying T,sv m,sv k with
  | some (.map K E),some m,some k=>match y0t P E with
   | some z=>some (.look ok K z m k)
   | none=>none
  | _,_,_=>none
 | .mapUpdate T m k x=>match P.underlying T,sv m,sv k,sv x with
  | some (.map K _),some m,some k,some x=>some (.mput K m k x)
  | _,_,_,_=>none
 | .insert T m k x=>match P.underlying T,sv m,sv k,sv x with
  | some (.map K _),some m,some k,some x=>some (.mput K m k x)
  | _,_,_,_=>none
 | .call c=>match c.callee,svs c.args.toList,c.argTypes.toList with
  | .builtin .delete,some [m,k],[t,_]=>match P.underlying t with
   | some (.map K _)=>some (.mdel K m k)
   | _=>none
  | .builtin .clear,some [x],[t]=>some (.clr t x)
  | .builtin .append,some [s,x],[t,u]=>if t=u then match slcE P t with
   | some (E,sz,b,z)=>if z.length=sz then some (.app E sz b s x) else none
   | none=>none
   else none
  | .builtin .len,some [x],[t]=>match P.underlying t with
   | some (.slice _)=>some (.slen x)
   | some (.map _ _)=>some (.mlen x)
   | some .string=>some (.strlen x)
   | _=>none
  | .builtin .min,some [x,y],_=>some (.mm false x y)
  | .builtin .max,some [x,y],_=>some (.mm true x y)
  | .value f,some args,_=>match sv f with
   | some f=>some (.call f args)
   | none=>none
  | _,_,_=>none
 | _=>none
def s0p (o:Oper):SOp:=match resOp? P o with
 | some s=>s
 | none=>.raw o
def resI (ops:List Oper)(o:Oper):Option SI :=
 match o.guard with
 | none=>some ⟨o.dst,s0p P o,none⟩
 | some (j,w)=>match ops[j]? with
  | some q=>match q.dst with
   | some t=>some ⟨o.dst,s0p P o,some (t,w)⟩
   | none=>none
  | none=>none
def k0c (ops:List Oper):List Oper→Option (List SI)
 | []=>some []
 | o :: rest=>match resI P ops o,k0c ops rest with
  | some i,some is=>some (i :: is)
  | _,_=>none
end
def c1A (ts:List D)(g:Option (Nat × Bool))(p q:Prop):Prop :=
 match g with
 | none=>p
 | some (t,w)=>match ts[t]? with
  | some (.f (.v (.bool b)))=>if w then Bsel b p q else Bsel b q p
  | some (.tp _)=>q
  | _=>False
def wpS (P:Program):List SI→St→(St→Prop)→Prop
 | [],s,K=>K s
 | i :: rest,s,K=>c1A s.ts i.guard (a0T P s.ts s.H i.op fun d H'=>wpS P rest ⟨putD! s.ts i.dst d,H',[]⟩ K) (wpS P rest ⟨putD! s.ts i.dst D.undef,s.H,[]⟩ K)
end Go.Proofs.YthjgmldnegaaiaaGreatDoor.Mir
namespace Go.Proofs.YthjgmldnegaaiaaGreatDoor.Mir
open Go Go.RowKit
theorem a0E {α:Type}{o:Option α}{K:α→Prop}(h:a0D o K):∃ a,o=some a∧K a:=by
 cases o with
 | none=>exact h.elim
 | some a=>exact ⟨a,rfl,h⟩
section
variable {P:Program}{X:Nat→Prop}{w:World}{φ:Nat→Nat × Nat}{H:List Row}
theorem t0b {T:TypeId}{d x:D}(hT:d0s P T=some false)(h:load1 H d=some x):h0O P H T d=some x:=by
 unfold load1 at h
 unfold h0O
 split at h
 ·rename_i r off
  split at h
  ·rename_i row hr
   simp only [hr]
   split at h
   ·rename_i xs hx
    simp only [hx,e0c,hT]
    exact h
   ·cases h
  ·cases h
 ·rename_i xs
  simp only [e0c,hT]
  rw [List.getElem?_map]
  exact h
 ·cases h
theorem w0E {T:TypeId}{d x:D}{n b:Nat}{z:List Value}(hT:d0s P T=some true)(hi:inf P T=some (n,b,z))(h:loadA H n d=some x):h0O P H T d=some x:=by
 unfold loadA at h
 unfold h0O
 split at h
 ·rename_i r off
  split at h
  ·rename_i row hr
   simp only [hr]
   split at h
   ·rename_i xs hx
    simp only [hx,e0c,hT,hi]
    exact h
   ·cases h
  ·cases h
 ·rename_i xs
  simp only [e0c,hT,hi,List.drop_zero,Nat.zero_add,List.length_map]
  exact h
 ·cases h
theorem y0N {T:TypeId}{a x:D}{n b:Nat}{z:List Value}{H':List Row}(hi:inf P T=some (n,b,z))(h:c0o P H n a x=some H'):∃ e,m0j P H T a x=some e∧e.res=D.undef∧e.heap H=H':=by
 unfold c0o at h
 unfold m0j
 split at h
 ·rename_i r off
  simp only [hi]
  split at h
  ·rename_i U xs hr
   simp only [hr]
   split at h
   ·rename_i hc
    injection h with h
    rw [if_pos hc]
    refine ⟨_,rfl,rfl,?_⟩
    rw [c0i _ _ _ (by rw [hc.2.1];exact hc.2.2)] at h
    rw [←h]
    simp [Eff.heap,a0B]
   ·cases h
  ·rename_i U xs hr
   simp only [hr]
   split at h
   ·rename_i hc
    rw [if_pos hc]
    split at h
    ·rename_i ys us hf
     simp only [hf]
     split at h
     ·rename_i U' ws hw
      injection h with h
      simp only [hw]
      refine ⟨_,rfl,rfl,?_⟩
      rw [←h]
      simp [Eff.heap,b0E,a0B]
     ·cases h
    ·cases h
   ·cases h
  ·cases h
 ·cases h
theorem d1Z {q:Option Operand}{r:Option SV}(h:svo q=some r){ts:List D}:r.map (SV.ev ts)=q.map (eval ts):=by
 cases q with
 | none=>simp [svo] at h;subst h;rfl
 | some x =>
  simp only [svo,Option.map_eq_some_iff] at h
  obtain ⟨y,hy,rfl⟩:=h
  simp [a0Q hy]
theorem c1E {T:TypeId}{x d:D}{lo hi:Option D}(hu:P.underlying T=some .string)(h:z0f x lo hi=some d):d0x P H T x lo hi none=some d:=by
 unfold z0f at h
 unfold d0x
 split at h
 ·simp only [hu]
  exact h
 ·cases h
theorem c1i {T K E:TypeId}{ok:Bool}{z m k d:D}(hu:P.underlying T=some (.map K E))(hz:y0t P E=some z)(h:z0J P H ok K z m k=some d):f0u P H T m k ok=some d:=by
 unfold z0J at h
 unfold f0u
 split at h
 ·rename_i es key hes
  simp only [hu,hes]
  split at h
  ·rename_i hk
   rw [if_pos hk]
   split at h
   ·rename_i y hf;simp only [hf];exact h
   ·rename_i hf;simp only [hf,hz];exact h
   ·cases h
  ·cases h
 ·cases h
theorem t0h {T K E:TypeId}{m k x:D}{H':List Row}(hu:P.underlying T=some (.map K E))(h:a1o P H K m k x=some H'):∃ e,d0q P H T m k x=some e∧e.res=D.undef∧e.heap H=H':=by
 unfold a1o at h
 unfold d0q
 split at h
 ·rename_i r key
  simp only [hu]
  split at h
  ·rename_i hk
   rw [if_pos hk]
   split at h
   ·rename_i y us hf
    simp only [hf]
    split at h
    ·rename_i es hr
     simp only [hr]
     split at h
     ·rename_i o ho
      simp only [ho]
      injection h with h
      refine ⟨_,rfl,rfl,?_⟩
      rw [←h]
      simp [Eff.heap,b0E,a0B]
     ·cases h
    ·cases h
   ·cases h
  ·cases h
 ·cases h
theorem y0y {T:TypeId}{x:D}{H':List Row}(h:p0V P H T x=some H'):∃ e,j0W P H T x=some e∧e.res = .tp []∧e.heap H=H':=by
 unfold p0V at h
 split at h
 ·rename_i e he
  injection h with h
  refine ⟨e,he,?_,h⟩
  unfold j0W at he
  repeat' split at he
  all_goals first|(injection he with he;subst he;rfl)|cases he
 ·cases h
theorem c1X {T K E:TypeId}{m k:D}{H':List Row}(hu:P.underlying T=some (.map K E))(h:z0w P H K m k=some H'):∃ e,g0F P H T m k=some e∧e.res = .tp []∧e.heap H=H':=by
 unfold z0w at h
 unfold g0F
 split at h
 ·rename_i r key
  simp only [hu]
  split at h
  ·rename_i hk
   rw [if_pos hk]
   split at h
   ·rename_i es hr
    simp only [hr]
    split at h
    ·rename_i o ho
     simp only [ho]
     injection h with h
     refine ⟨_,rfl,rfl,?_⟩
     rw [←h]
     simp [Eff.heap,a0B]
    ·cases h
   ·cases h
  ·cases h
 ·cases h
theorem a1x (xs:List F):fs? (xs.map .f)=some xs:=by
 induction xs with
 | nil=>rfl
 | cons x xs ih=>simp [fs?,ih]
theorem f1x:∀ {ds:List D} {xs:List F},fs? ds=some xs→ds=xs.map .f
 | [],xs,h=>by simp [fs?] at h;subst h;rfl
 | d :: ds,xs,h=>by
  cases d with
  | f x =>
   simp only [fs?,Option.map_eq_some_iff] at h
   obtain ⟨ys,hy,rfl⟩:=h
   simp [f1x hy]
  | _=>simp [fs?] at h
theorem r0n {T:TypeId}{sz b:Nat}{z:List Value}{x:D}{m:Nat}{ys:List F}(hi:inf P T=some (sz,b,z))(h:b0S H sz x=some (m,ys)):g0P P H T x=some (m,ys.map .f):=by
 unfold b0S at h
 unfold g0P
 split at h
 ·cases h;rfl
 ·cases h;rfl
 ·cases h;rfl
 ·rename_i r off n
  dsimp only
  by_cases hn:n=0
  ·subst hn
   rw [if_pos rfl]
   split at h<;>simp at h
   ·obtain ⟨_,rfl,rfl⟩:=h;rfl
   ·obtain ⟨_,rfl,rfl⟩:=h;rfl
   ·split at h
    ·simp at h;obtain ⟨_,rfl,rfl⟩:=h;rfl
    ·cases h
  ·rw [if_neg hn]
   split at h
   ·rename_i U xs hr
    simp only [hr,hi,Row.cells]
    split at h
    ·rename_i hl
     injection h with h;injection h with h1 h2
     subst h1;subst h2
     rw [if_pos (by simpa using hl)]
     simp [List.map_drop,List.map_take]
    ·cases h
   ·rename_i U xs hr
    simp only [hr,hi,Row.cells]
    split at h
    ·rename_i hl
     injection h with h;injection h with h1 h2
     subst h1;subst h2
     rw [if_pos (by simpa using hl)]
     simp [List.map_drop,List.map_take]
    ·cases h
   ·rename_i U ds hr
    split at h
    ·rename_i xs hf
     have he:=f1x hf
     subst he
     simp only [hr,hi,Row.cells]
     split at h
     ·rename_i hl
      injection h with h;injection h with h1 h2
      subst h1;subst h2
      rw [if_pos (by simpa using hl)]
      simp [List.map_drop,List.map_take]
     ·cases h
    ·cases h
   ·cases h
 ·cases h
theorem e1e {t E:TypeId}{sz b:Nat}{z:List Value}{s x:D}{K:D→List Row→Prop}(ht:P.underlying t=some (.slice E))(hi:inf P E=some (sz,b,z))(hsz:0<sz)(hz:z.length=sz)(h:appS H E sz b s x K):∃ e,c0u P H t s x=some e∧K e.res (e.heap H):=by
 obtain ⟨⟨m,ys⟩,he,h⟩:=a0E h
 dsimp only at h
 have he':=r0n hi he
 have hp0:∀ s:D,(⟨s,[],[]⟩:Eff).heap H=H:=fun s=>by simp [Eff.heap,a0B]
 have plain:(s = .f (.v (.slice none 0 0))∨s = .f .e∨(∃ xs n,s = .f (.s xs n))∨∃ r o n,s = .sl r o n)→m=0→K s H→∃ e,c0u P H t s x=some e∧K e.res (e.heap H):=by
  intro hs hm hk
  refine ⟨⟨s,[],[]⟩,?_,by rw [hp0];exact hk⟩
  unfold c0u
  simp only [ht,hi,he',if_pos hm]
  rcases hs with rfl|rfl|⟨xs,n,rfl⟩|⟨r,o,n,rfl⟩<;>rfl
 have hg:∀ r:Row,(⟨.sl H.length 0 m,[],[r]⟩:Eff).heap H=H++[r]:=fun r=>by simp [Eff.heap,a0B]
 split at h
 ·by_cases hm:m=0
  ·exact plain (.inl rfl) hm (h.1 hm)
  ·obtain ⟨h1,h2,h3,h4⟩:=h.2 hm
   refine ⟨⟨.sl H.length 0 m,[],[.data E ys]⟩,?_,by rw [hg];exact h4⟩
   unfold c0u
   simp only [ht,hi,he',if_neg hm,a1x]
   rw [if_pos ⟨h1,hsz⟩,if_pos ⟨h2,h3,hz⟩]
 ·by_cases hm:m=0
  ·exact plain (.inr (.inl rfl)) hm (h.1 hm)
  ·obtain ⟨h1,h2,h3,h4⟩:=h.2 hm
   refine ⟨⟨.sl H.length 0 m,[],[.data E ys]⟩,?_,by rw [hg];exact h4⟩
   unfold c0u
   simp only [ht,hi,he',if_neg hm,a1x]
   rw [if_pos ⟨h1,hsz⟩,if_pos ⟨h2,h3,hz⟩]
 ·rename_i r off n _
  by_cases hm:m=0
  ·exact plain (.inr (.inr (.inr ⟨_,_,_,rfl⟩))) hm (h.1 hm)
  ·have h:=h.2 hm
   split at h
   ·rename_i U xs hr
    obtain ⟨h1,h2,h3,h4,h5,h6⟩:=h
    refine ⟨⟨.sl H.length 0 (n+m),[(r,.dead)],[.data E (xs.drop off++ys)]⟩,?_,by simpa [Eff.heap,a0B] using h6⟩
    unfold c0u
    simp only [ht,hi,he',if_neg hm,a1x,hr]
    rw [if_pos ⟨h2,hsz⟩,if_pos ⟨h1,h3,h4,h5,hz⟩]
   ·exact h.elim
 ·exact plain (.inr (.inr (.inl ⟨_,_,rfl⟩))) h.1 h.2
 ·exact h.elim
theorem n0I {fs:Array Go.Field}{ts:List D}:∀ {l:List (Nat × Operand)} {ys:List (Nat × Nat × SV)} {cells ds:List D},e0h P fs l=some ys→e0a cells (ys.map fun p=>(p.1,p.2.1,p.2.2.ev ts))=some ds →
  d0k (fun i=>match fs[i]? with|some f=>(P.info? f.type).map fun q=>(f.offset,q.size)|none=>none) cells (l.map fun p=>(p.1,eval ts p.2))=some ds
 | [],ys,cells,ds,h,hf=>by simp [e0h] at h;subst h;simpa [e0a,d0k] using hf
 | (i,x) :: l,ys,cells,ds,h,hf=>by
  simp only [e0h] at h
  split at h
  ·rename_i f y ys' hfi hx hl
   split at h
   ·rename_i q hq
    injection h with h
    subst h
    simp only [List.map_cons,e0a] at hf
    simp only [List.map_cons,d0k,hfi,hq,Option.map_some]
    split at hf
    ·rename_i hc
     rw [a0Q hx] at hc hf
     rw [if_pos hc]
     rw [c0i _ _ _ (by rw [hc.2.1];exact hc.2.2)] at hf
     exact n0I hl hf
    ·cases hf
   ·cases h
  ·cases h
theorem g0I {sz:Nat}{ts:List D}:∀ {l:List (Nat × Operand)} {ys:List (Nat × SV)} {cells ds:List D},e0J sz l=some ys→e0a cells (ys.map fun p=>(p.1,sz,p.2.ev ts))=some ds →
  d0k (fun i=>some (i*sz,sz)) cells (l.map fun p=>(p.1,eval ts p.2))=some ds
 | [],ys,cells,ds,h,hf=>by simp [e0J] at h;subst h;simpa [e0a,d0k] using hf
 | (i,x) :: l,ys,cells,ds,h,hf=>by
  simp only [e0J] at h
  split at h
  ·rename_i y ys' hx hl
   injection h with h
   subst h
   simp only [List.map_cons,e0a] at hf
   simp only [List.map_cons,d0k]
   split at hf
   ·rename_i hc
    rw [a0Q hx] at hc hf
    rw [if_pos hc]
    rw [c0i _ _ _ (by rw [hc.2.1];exact hc.2.2)] at hf
    exact g0I hl hf
   ·cases hf
  ·cases h
theorem x0v {A:Nat→Prop}{N:Nat}{ts:List D}{a:Act}(hts:Rs P w φ A N ts a.tmps.toList){T E:TypeId}{m q b sz b':Nat}{z z':List Value}{ps:Array (Nat × Operand)}{ds:List D}
  (hu:P.underlying T=some (.array m E)) (hinf:inf P T=some (q,b,z)) (hE:inf P E=some (sz,b',z')) (he:d0k (fun i=>some (i*sz,sz)) (z.map D.v) (ps.toList.map fun p=>(p.1,eval ts p.2))=some ds) :
  ∃ v,(Instr.build T (ps.map fun (i,x)=>(i,a.eval x))).run P w = .ok v w∧R P w φ A N (.ag ds) v:=by
 obtain ⟨i,zz,hi1,hi2,hi3,hi4,hi5⟩:=b0R hinf
 obtain ⟨_,hz1⟩:=e0V hinf
 obtain ⟨j,_,hj1,_,hj3,_,_⟩:=b0R hE
 obtain ⟨cs,h1,h2,h3⟩:=o0K hts (placeV:=fun i=>some (i*sz,sz)) (fun _ _ h=>h) ps.toList _ ds zz.cells (by rw [hi5];exact Rs.vs hz1) (by rw [hi5];exact hz1) he
 refine ⟨.agg cs,?_,.ag (by simpa using h2.1) (fun i d u hd hu=>h2.2 i d u hd (by simpa using hu)) h3⟩
 refine run_build w T _ cs ?_
 unfold Program.built
 simp only [hi1,hu,hi2,hj1,hj3]
 rw [←h1]
 simp
theorem a1p {A:Nat→Prop}{N:Nat}{T E:TypeId}{n sz b:Nat}{z:List Value}{ds:List D}{u:Value}{k:IntKind}{c:Int}{d:D}(hu:P.underlying T=some (.array n E))(hT:d0s P E=some false)(hin:inf P E=some (sz,b,z))
  (hx:R P w φ A N (.ag ds) u) (h0:0≤c∧c<n) (hd:ds[c.toNat*sz]?=some d):∃ v,(Instr.index T u (.int k c)).run P w = .ok v w∧R P w φ A N d v:=by
 cases hx with
 | ag hs hr h1 =>
  obtain ⟨v,h2,h3⟩:=m0U (P:=P) (w:=w) ⟨by simpa using hs,fun i x y hx hy=>hr i x y hx (by simpa using hy)⟩ h1 (T:=E) (off:=c.toNat*sz) (d:=d) (by unfold e0c;simp only [hT];exact hd)
  exact ⟨v,by simp [Instr.index,run_underlying hu,asIntOf,h0,c0A hin,h2],h3⟩
theorem n0R {T E:TypeId}{sz b:Nat}{z:List Value}(h:slcE P T=some (E,sz,b,z)):P.underlying T=some (.slice E)∧inf P E=some (sz,b,z)∧0<sz:=by
 unfold slcE at h
 split at h
 ·rename_i E' hu
  split at h
  ·rename_i sz' b' z' hi
   split at h
   ·rename_i h0
    injection h with h;injection h with h1 h;injection h with h2 h;injection h with h3 h4
    subst h1;subst h2;subst h3;subst h4
    exact ⟨hu,hi,h0⟩
   ·cases h
  ·cases h
 ·cases h
theorem c0B {d:D}{n:Int}(h:intOf? d=some n):d = .f (.v (.int .i64 n)):=by
 unfold intOf? at h
 split at h
 ·injection h with h;subst h;rfl
 ·cases h
theorem o0P {d:D}{s:ByteArray}(h:strOf? d=some s):d = .f (.v (.string s)):=by
 unfold strOf? at h
 split at h
 ·injection h with h;subst h;rfl
 ·cases h
theorem R.v_inv {A:Nat→Prop}{N:Nat}{x u:Value}(h:R P w φ A N (.f (.v x)) u):u=x:=by
 cases h with|f h=>cases h with|v _=>rfl
theorem u0O (a b:ByteArray):(a.toList==b.toList)=decide (a=b):=by
 rw [Bool.eq_iff_iff]
 simp [ByteArray.toList_eq]
 constructor
 ·intro h
  obtain ⟨a⟩:=a
  obtain ⟨b⟩:=b
  simp at h
  subst h;rfl
 ·rintro rfl;rfl
theorem c0L {c p q:Prop}(h:Two c p q):(c∧p)∨(¬ c∧q):=by
 by_cases hc:c
 ·exact .inl ⟨hc,h.1 hc⟩
 ·exact .inr ⟨hc,h.2 hc⟩
section
variable {A:Nat→Prop}{N:Nat}
theorem e1K {k:Nat}{T:TypeId}{x y:D}{u v:Value}{b:Bool}(hk:c1H P T=some k)(h:eqV k x y=some b)(hx:R P w φ A N x u)(hy:R P w φ A N y v)(d:Nat) :
  (Op.equalIn (d+1) T u v).run P w = .ok b w:=by
 unfold c1H at hk
 split at hk
 all_goals first|cases hk|skip
 all_goals
  rename_i hu
  unfold eqV at h
  split at h<;>first|cases h|skip
  all_goals first|(exfalso;omega)|skip
  rw [hx.v_inv,hy.v_inv]
 ·split at h
  ·rename_i e;subst e;cases h;exact run_equalIn_int w d T _ _ _ _ hu
  ·cases h
 ·exact run_equalIn_string w d T _ _ hu
 ·exact run_equalIn_bool' w d T _ _ hu
theorem z0a {xs ys:Array Value}(d:Nat):∀ {fs:List Field} {i:Nat} {ks:List Nat} {dx dy:List D} {b:Bool},eqKs P fs i=some ks→eqL ks dx dy=some b →
  (∀ (j:Nat) (e:D),dx[j]?=some e→∃ u,xs[i+j]?=some u∧R P w φ A N e u)→(∀ (j:Nat) (e:D),dy[j]?=some e→∃ u,ys[i+j]?=some u∧R P w φ A N e u) →
  (Op.eqFields (d+1) xs ys fs).run P w = .ok b w
 | [],i,ks,dx,dy,b,hk,hb,hx,hy=>by
  cases hk
  cases dx<;>cases dy<;>first|(cases hb;simp [Op.eqFields])|cases hb
 | f :: fs,i,ks,dx,dy,b,hk,hb,hx,hy=>by
  unfold eqKs at hk
  split at hk
  case isFalse=>cases hk
  rename_i hf
  split at hk
  case h_2=>cases hk
  rename_i k ks' h1 h2
  cases hk
  cases dx with
  | nil=>cases hb
  | cons x dx =>
   cases dy with
   | nil=>cases hb
   | cons y dy =>
    unfold eqL at hb
    split at hb
    case h_2=>cases hb
    rename_i a b' h3 h4
    cases hb
    obtain ⟨u,g1,g2⟩:=hx 0 x rfl
    obtain ⟨v,g3,g4⟩:=hy 0 y rfl
    have ih:=z0a d h2 h4 (fun j e he=>by have:=hx (j+1) e (by simpa using he);rwa [show i+(j+1)=i+1+j by omega] at this) (fun j e he=>by have:=hy (j+1) e (by simpa using he);rwa [show i+(j+1)=i+1+j by omega] at this)
    have hg:=e1K h1 h3 g2 g4 d
    have hpart:∀ (cs:Array Value) (q:Value),cs[i]?=some q→(part f.type cs f.offset).run P w = .ok q w:=by
     intro cs q hq
     unfold c1H at h1
     rw [hf.2]
     split at h1
     all_goals first|cases h1|skip
     all_goals
      rename_i hu
      simp [part,isAgg,run_underlying hu,hq]
    rw [Op.eqFields,if_pos hf.1]
    simp only [Sem.run_bind,hpart xs u (by simpa using g1),hpart ys v (by simpa using g3),Result.andThen_ok,hg,Sem.run_ite]
    cases a
    ·simp
    ·simpa using ih
theorem e1D {T:TypeId}{fs:Array Field}{ks:List Nat}{dx dy:List D}{u v:Value}{b:Bool}(hT:P.underlying T=some (.struct fs))(hk:eqKs P fs.toList 0=some ks)(hs:P.stoodInHeld T=false)(hb:eqL ks dx dy=some b)
  (hx:R P w φ A N (.ag dx) u) (hy:R P w φ A N (.ag dy) v):(Go.binOp .eql T u v).run P w = .ok (.bool b) w∧(Go.binOp .neq T u v).run P w = .ok (.bool !b) w∧∃ xs ys,u = .agg xs∧v = .agg ys:=by
 cases hx with
 | ag s1 r1 o1 =>
  cases hy with
  | ag s2 r2 o2 =>
   rename_i xs ys
   have hF:P.fieldsOf T=fs:=by unfold Program.fieldsOf;rw [hT]
   have he:(Op.equalIn (9999+1) T (.agg xs) (.agg ys)).run P w = .ok b w:=by
    rw [run_equalIn_agg (P:=P) w 9999 T xs ys (by rw [hF];exact hT) hs,hF]
    refine z0a (φ:=φ) (A:=A) (N:=N) 9998 hk hb (fun j e he=>?_) (fun j e he=>?_)
    ·have hj:j<xs.size:=by rw [s1];exact (List.getElem?_eq_some_iff.1 he).1
     exact ⟨xs[j],by simp [hj],r1 j e _ he (by simp [hj])⟩
    ·have hj:j<ys.size:=by rw [s2];exact (List.getElem?_eq_some_iff.1 he).1
     exact ⟨ys[j],by simp [hj],r2 j e _ he (by simp [hj])⟩
   refine ⟨?_,?_,xs,ys,rfl,rfl⟩
   ·rw [run_eql_struct,he];rfl
   ·rw [run_neq_struct,he];rfl
end
theorem c0F {ρ:Operand→Value}{o:Oper}{op:BinOp}{T U:TypeId}{x y:Operand}(ho:o.op = .binOp op T x y U){v:Value}(hg:(eqGuard op T x y (ρ x) (ρ y)).run P w = .ok () w)(hb:(Go.binOp op T (ρ x) (ρ y)).run P w = .ok v w) :
  (execOp ρ o).run P w = .ok (.value v) w:=by
 unfold execOp
 simp only [ho,Sem.run_bind,hg,Result.andThen_ok,hb,Sem.run_pure]
theorem e1c {op:BinOp}{T:TypeId}{k k':IntKind}{a b:Int}{K:D→Prop}(hq:shQ op k k')(h:intS op k a b K):∃ v:Value,(Go.binOp op T (.int k a) (.int k' b)).run P w = .ok v w∧v.oneCell'=true∧K (.f (.v v)):=by
 cases op<;>simp only [intS,shQ] at h hq
 case shl=>exact ⟨.int k (k.wrap (a*2 ^ (min b.toNat k.bits))),by simp [Go.binOp,Op.shift,Int.not_lt.2 h.1],rfl,h.2⟩
 case shr=>exact ⟨.int k (a.fdiv (2 ^ (min b.toNat k.bits))),by simp [Go.binOp,Op.shift,Int.not_lt.2 h.1],rfl,h.2⟩
 all_goals subst hq
 case and=>exact ⟨_,by simp only [Go.binOp,Op.intBits,ne_eq,not_true,if_false,Sem.run_pure],rfl,h⟩
 case or=>exact ⟨_,by simp only [Go.binOp,Op.intBits,ne_eq,not_true,if_false,Sem.run_pure],rfl,h⟩
 case xor=>exact ⟨_,by simp only [Go.binOp,Op.intBits,ne_eq,not_true,if_false,Sem.run_pure],rfl,h⟩
 case add=>exact ⟨.int k (k.wrap (a+b)),by simp [Go.binOp,Op.intArith],rfl,h⟩
 case sub=>exact ⟨.int k (k.wrap (a-b)),by simp [Go.binOp,Op.intArith],rfl,h⟩
 case mul=>exact ⟨.int k (k.wrap (a*b)),by simp [Go.binOp,Op.intArith],rfl,h⟩
 case quo=>exact ⟨.int k (k.wrap (a.tdiv b)),by simp [Go.binOp,Op.intDiv,h.1],rfl,h.2⟩
 case rem=>exact ⟨.int k (a.tmod b),by simp [Go.binOp,Op.intDiv,h.1],rfl,h.2⟩
 case eql =>
  rcases c0L h with ⟨h1,h2⟩|⟨h1,h2⟩
  ·exact ⟨.bool true,by simp [Go.binOp,Op.intCmp,h1],rfl,h2⟩
  ·exact ⟨.bool false,by simp [Go.binOp,Op.intCmp,h1],rfl,h2⟩
 case neq =>
  rcases c0L h with ⟨h1,h2⟩|⟨h1,h2⟩
  ·exact ⟨.bool false,by simp [Go.binOp,Op.intCmp,h1],rfl,h2⟩
  ·exact ⟨.bool true,by simp [Go.binOp,Op.intCmp,h1],rfl,h2⟩
 case lss =>
  rcases c0L h with ⟨h1,h2⟩|⟨h1,h2⟩
  ·exact ⟨.bool true,by simp [Go.binOp,Op.intCmp,h1],rfl,h2⟩
  ·exact ⟨.bool false,by simp [Go.binOp,Op.intCmp,Int.not_lt.1 h1],rfl,h2⟩
 case leq =>
  rcases c0L h with ⟨h1,h2⟩|⟨h1,h2⟩
  ·exact ⟨.bool true,by simp [Go.binOp,Op.intCmp,h1],rfl,h2⟩
  ·exact ⟨.bool false,by simp [Go.binOp,Op.intCmp,Int.not_le.1 h1],rfl,h2⟩
 case gtr =>
  rcases c0L h with ⟨h1,h2⟩|⟨h1,h2⟩
  ·exact ⟨.bool true,by simp [Go.binOp,Op.intCmp,h1],rfl,h2⟩
  ·exact ⟨.bool false,by simp [Go.binOp,Op.intCmp,Int.not_lt.1 h1],rfl,h2⟩
 case geq =>
  rcases c0L h with ⟨h1,h2⟩|⟨h1,h2⟩
  ·exact ⟨.bool true,by simp [Go.binOp,Op.intCmp,h1],rfl,h2⟩
  ·exact ⟨.bool false,by simp [Go.binOp,Op.intCmp,Int.not_le.1 h1],rfl,h2⟩
theorem f1F (a b:List UInt8):(Op.bytesLess a b||a==b) = !Op.bytesLess b a:=by
 induction a generalizing b with
 | nil=>cases b<;>simp [Op.bytesLess]
 | cons x a ih =>
  cases b with
  | nil=>simp [Op.bytesLess]
  | cons y b =>
   have ih:=ih b
   simp only [Op.bytesLess]
   by_cases h1:x<y
   ·have h2:¬ y<x:=UInt8.lt_asymm h1
    have h3:¬ y=x:=fun h=>by subst h;exact h2 h1
    simp [h1,h2,h3]
   ·by_cases h2:y<x
    ·have h3:¬ x=y:=fun h=>by subst h;exact h1 h2
     simp [h1,h2,h3]
    ·have h3:x=y:=UInt8.le_antisymm (UInt8.not_lt.1 h2) (UInt8.not_lt.1 h1)
     subst h3
     simp only [h1,decide_false,Bool.false_or,beq_self_eq_true,Bool.true_and,←ih]
     congr 1
     simp
theorem f1K {op:BinOp}{T:TypeId}{a b:ByteArray}{K:D→Prop}(h:strS op a b K):∃ v:Value,(Go.binOp op T (.string a) (.string b)).run P w = .ok v w∧v.oneCell'=true∧K (.f (.v v)):=by
 have hle:=f1F a.toList b.toList
 have e1:∀ op,(Go.binOp op T (.string a) (.string b))=Op.stringOp op a b:=fun op=>by cases op<;>rfl
 rw [e1]
 cases op<;>simp only [strS] at h
 case add =>
  refine ⟨.string (a++b),?_,rfl,h.2⟩
  have h1:¬ ((a.size+b.size:Nat):Int) > IntKind.i64.max:=by
   have:IntKind.i64.max=9223372036854775807:=rfl
   have:=h.1
   omega
  simp only [Op.stringOp,if_neg h1]
  rfl
 case eql =>
  rcases c0L h with ⟨h1,h2⟩|⟨h1,h2⟩
  ·exact ⟨.bool true,by simp [Op.stringOp,h1],rfl,h2⟩
  ·exact ⟨.bool false,by simp [Op.stringOp,u0O,h1],rfl,h2⟩
 case neq =>
  rcases c0L h with ⟨h1,h2⟩|⟨h1,h2⟩
  ·exact ⟨.bool false,by simp [Op.stringOp,h1],rfl,h2⟩
  ·exact ⟨.bool true,by simp [Op.stringOp,u0O,h1],rfl,h2⟩
 case lss =>
  rcases c0L h with ⟨h1,h2⟩|⟨h1,h2⟩
  ·exact ⟨.bool true,by simp [Op.stringOp,h1],rfl,h2⟩
  ·exact ⟨.bool false,by simp [Op.stringOp,h1],rfl,h2⟩
 case geq =>
  rcases c0L h with ⟨h1,h2⟩|⟨h1,h2⟩
  ·exact ⟨.bool false,by simp [Op.stringOp,h1],rfl,h2⟩
  ·exact ⟨.bool true,by simp [Op.stringOp,h1],rfl,h2⟩
 case gtr =>
  rcases c0L h with ⟨h1,h2⟩|⟨h1,h2⟩
  ·exact ⟨.bool true,by simp only [Op.stringOp,hle,h1];rfl,rfl,h2⟩
  ·exact ⟨.bool false,by simp only [Op.stringOp,hle,Bool.eq_false_iff.2 h1];rfl,rfl,h2⟩
 case leq =>
  rcases c0L h with ⟨h1,h2⟩|⟨h1,h2⟩
  ·exact ⟨.bool false,by simp only [Op.stringOp,hle,h1];rfl,rfl,h2⟩
  ·exact ⟨.bool true,by simp only [Op.stringOp,hle,Bool.eq_false_iff.2 h1];rfl,rfl,h2⟩
theorem c1m {op:BinOp}{T:TypeId}{a b:Bool}{K:D→Prop}(hT:P.underlying T=some .bool)(h:s0c op a b K):∃ v:Value,(Go.binOp op T (.bool a) (.bool b)).run P w = .ok v w∧v.oneCell'=true∧K (.f (.v v)):=by
 have he:(Op.equal T (.bool a) (.bool b)).run P w = .ok (a==b) w:=by
  have:∀ n,(Op.equalIn (n+1) T (.bool a) (.bool b)).run P w = .ok (a==b) w:=fun n=>by
   simp only [Op.equalIn,Sem.run_bind,run_underlying hT,Result.andThen_ok,Sem.run_pure]
  exact this 9999
 cases op<;>simp only [s0c] at h
 case eql=>exact ⟨.bool (a==b),by simp [Go.binOp,he],rfl,h⟩
 case neq=>exact ⟨.bool (!(a==b)),by simp [Go.binOp,he],rfl,h⟩
theorem d0y (d:D):(⟨d,[],[]⟩:Eff).heap H=H:=by simp [Eff.heap,a0B]
theorem c1d (d:D)(r:Row):(⟨d,[],[r]⟩:Eff).heap H=H++[r]:=by simp [Eff.heap,a0B]
theorem g1O (t:ByteArray)(k:Nat):t[k]?=t.data.toList[k]?:=by
 by_cases hk:k<t.size
 ·rw [getElem?_pos t k hk,List.getElem?_eq_getElem (by simpa using hk)];rfl
 ·rw [getElem?_neg t k hk,List.getElem?_eq_none (by simpa using hk)]
def lowS (lo:Option D):Option Nat:=match lo with|none=>some 0|some d=>nat? d
def s0T (n:Nat)(hi:Option D):Option Nat:=match hi with|none=>some n|some d=>nat? d
theorem y0C {T E:TypeId}{sz b:Nat}{z:List Value}{x:D}{lo hi:Option D}{n l u:Nat}(hu:P.underlying T=some (.slice E))(hinf:inf P E=some (sz,b,z))(hn:slcS x=some n)(elo:lowS lo=some l)(ehi:s0T n hi=some u)(hlu:l≤u∧u≤n) :
  d0x P H T x lo hi none=subS H sz E x l u:=by
 unfold d0x
 simp only [hu,hinf]
 unfold slcS at hn
 unfold lowS at elo
 unfold s0T at ehi
 split at hn<;>first|cases hn|skip
 all_goals
  cases lo<;>cases hi<;>simp only at elo ehi ⊢
  all_goals (try (injection elo with elo;subst elo))
  all_goals (try (injection ehi with ehi;subst ehi))
  all_goals (try simp only [elo])
  all_goals (try simp only [ehi])
  all_goals (rw [if_pos hlu];rfl)
theorem a1K {T E:TypeId}{sz b:Nat}{z:List Value}{x y:D}{lo hi:Option D}{n l:Nat}(hu:P.underlying T=some (.slice E))(hinf:inf P E=some (sz,b,z))(hn:slcS x=some n)(elo:lowS lo=some l)(ehi:s0T n hi=some l)(hlu:l≤n)(hy:nat? y=some l)(hs:hi.isSome=true) :
  d0x P H T x lo hi (some y)=some (mxS x):=by
 unfold d0x
 simp only [hu,hinf]
 unfold slcS at hn
 unfold lowS at elo
 unfold s0T at ehi
 split at hn<;>first|cases hn|skip
 all_goals
  cases lo<;>cases hi<;>simp only at elo ehi ⊢
  all_goals (try (cases hs;done))
  all_goals (try (injection elo with elo;subst elo))
  all_goals (try simp only [elo])
  all_goals (try simp only [ehi])
  all_goals (rw [if_pos ⟨Nat.le_refl _,hlu⟩];simp only [hy];rw [if_pos (by simp)];rfl)
theorem z0W {A:Nat→Prop}{N:Nat}{T:TypeId}{k:Nat}{x y:D}{u v:Value}{K:Bool→Prop}(hk:h0K P T=some k)(hx:R P w φ A N x u)(hy:R P w φ A N y v)(h:d0C k x y K) :
  ∃ b,(Op.equal T u v).run P w = .ok b w∧(∀ op xo yo,(eqGuard op T xo yo u v).run P w = .ok () w)∧Go.binOp .eql T u v=(do pure (.bool (←Op.equal T u v)))∧Go.binOp .neq T u v=(do pure (.bool (!(←Op.equal T u v))))∧K b:=by
 unfold d0C at h
 split at h
 ·rename_i xs n
  obtain ⟨rfl,h0,h1⟩:=h
  have hv:v = .slice none 0 0:=hy.v_inv
  subst hv
  obtain ⟨E,hu⟩:∃ E,P.underlying T=some (.slice E):=by
   unfold h0K at hk
   split at hk<;>first|cases hk|skip
   exact ⟨_,by assumption⟩
  have eq:∀ (a:Option Addr) (m c:Nat),(Op.equal T (.slice a m c) (.slice none 0 0)).run P w = .ok a.isNone w:=by
   intro a m c
   have:∀ n,(Op.equalIn (n+1) T (.slice a m c) (.slice none 0 0)).run P w = .ok a.isNone w:=fun n=>by
    cases a<;>simp [Op.equalIn,run_underlying hu]
   exact this 9999
  cases hx with
  | f hx =>
   cases hx with
   | s cs hn hl hc hr=>exact ⟨false,eq _ _ _,fun op xo yo=>by unfold eqGuard;split<;>rfl,rfl,rfl,h1⟩
   | s0=>exact ⟨true,eq _ _ _,fun op xo yo=>by unfold eqGuard;split<;>rfl,rfl,rfl,h0 rfl⟩
 ·rename_i n
  obtain ⟨rfl,h0,h1⟩:=h
  have hv:v = .slice none 0 0:=hy.v_inv
  subst hv
  obtain ⟨E,hu⟩:∃ E,P.underlying T=some (.slice E):=by
   unfold h0K at hk
   split at hk<;>first|cases hk|skip
   exact ⟨_,by assumption⟩
  have eq:∀ (a:Option Addr) (m c:Nat),(Op.equal T (.slice a m c) (.slice none 0 0)).run P w = .ok a.isNone w:=by
   intro a m c
   have:∀ n,(Op.equalIn (n+1) T (.slice a m c) (.slice none 0 0)).run P w = .ok a.isNone w:=fun n=>by
    cases a<;>simp [Op.equalIn,run_underlying hu]
   exact this 9999
  cases hx with
  | sl p a b c d e=>exact ⟨false,eq _ _ _,fun op xo yo=>by unfold eqGuard;split<;>rfl,rfl,rfl,h1⟩
  | @sl0 _ _ a _ =>
   cases a with
   | none=>exact ⟨true,eq _ _ _,fun op xo yo=>by unfold eqGuard;split<;>rfl,rfl,rfl,h0 rfl⟩
   | some a=>exact ⟨false,eq _ _ _,fun op xo yo=>by unfold eqGuard;split<;>rfl,rfl,rfl,h1⟩
 ·obtain ⟨b,h1,h2⟩:=a0E h
  have:r0O P T x y=some b:=by
   unfold nilS at h1
   unfold r0O
   split at h1
   ·rename_i i c j d h1' h2'
    simp only [hk,h1',h2']
    exact h1
   ·cases h1
  obtain ⟨g1,g2,g3,g4⟩:=h0h (w:=w) hx hy this
  exact ⟨b,g1,g2,g3,g4,h2⟩
set_option maxHeartbeats 2000000 in
theorem v0h (hP:Good P)(h:HR P w φ X H){ts:List D}{a:Act}(hts:Rs P w φ (Av X φ H) H.length ts a.tmps.toList){o:Oper}{so:SOp}{K:D→List Row→Prop}(hr:resOp? P o=some so)(hs:a0T P ts H so K) :
  OpOk P o a w fun v w'=>∃ d H',K d H'∧LeavesW P w φ X H v w' d H':=by
 have hev:=fun x=>R.eval hts x
 have via:∀ e:Eff,a0v P d0A ts H o=some e→K e.res (e.heap H)→OpOk P o a w fun v w'=>∃ d H',K d H'∧LeavesW P w φ X H v w' d H':=by
  intro e he hk K' Q hK
  exact o0Q hP (h0F P) h hts he K' Q (fun v w' hl=>hK v w' ⟨_,_,hk,LeavesW.of hl⟩)
 have quiet:∀ (d:D) (v:Value),(execOp a.eval o).run P w = .ok (.value v) w→R P w φ (Av X φ H) H.length d v→K d H→OpOk P o a w fun v w'=>∃ d H',K d H'∧LeavesW P w φ X H v w' d H':=by
  intro d v hx hd hk
  refine OpOk.value hx ⟨d,H,hk,?_⟩
  have:=LeavesW.of (Leaves.quiet h hd)
  rwa [d0y] at this
 have val:∀ (d:D) (s:Sem Value),(execOp a.eval o=do pure (.value (←s)))→(∃ v,s.run P w = .ok v w∧R P w φ (Av X φ H) H.length d v)→K d H→OpOk P o a w fun v w'=>∃ d H',K d H'∧LeavesW P w φ X H v w' d H':=by
  rintro d s hs ⟨v,h1,h2⟩ hk
  exact quiet d v (by rw [hs];simp [h1]) h2 hk
 have yields:∀ (e:Eff) (s:Sem Value),(execOp a.eval o=do pure (.value (←s)))→(∃ v w',s.run P w = .ok v w'∧Leaves P w φ X H e v w')→K e.res (e.heap H)→OpOk P o a w fun v w'=>∃ d H',K d H'∧LeavesW P w φ X H v w' d H':=by
  rintro e s hs ⟨v,w',h1,h2⟩ hk
  exact OpOk.value (v:=v) (w':=w') (by rw [hs];simp [h1]) ⟨_,_,hk,LeavesW.of h2⟩
 obtain ⟨dst,op,ty,pos,after,guard⟩:=o
 unfold resOp? at hr
 cases op<;>dsimp only at hr
 case move x =>
  rw [Option.map_eq_some_iff] at hr
  obtain ⟨y,hy,rfl⟩:=hr
  refine via ⟨eval ts x,[],[]⟩ rfl ?_
  rw [d0y,←a0Q hy];exact hs
 case assign x =>
  rw [Option.map_eq_some_iff] at hr
  obtain ⟨y,hy,rfl⟩:=hr
  refine via ⟨eval ts x,[],[]⟩ rfl ?_
  rw [d0y,←a0Q hy];exact hs
 case pick c x y =>
  split at hr
  ·rename_i c' x' y' hc hx hy
   injection hr with hr
   subst hr
   simp only [a0T,k0i,a0Q hc,a0Q hx,a0Q hy] at hs
   split at hs
   ·rename_i t ht
    refine via ⟨if t then eval ts x else eval ts y,[],[]⟩ (by unfold a0v;simp only [ht]) ?_
    rw [d0y]
    cases t
    ·exact hs.2 rfl
    ·exact hs.1 rfl
   ·exact hs.elim
  ·cases hr
 case alloc T =>
  split at hr
  ·rename_i n b z hi
   injection hr with hr
   subst hr
   refine via ⟨.pt H.length 0,[],[.box T (z.map .v)]⟩ (by unfold a0v;simp only [hi]) ?_
   rw [c1d];exact hs
  ·cases hr
 case box T x =>
  rw [Option.map_eq_some_iff] at hr
  obtain ⟨y,hy,rfl⟩:=hr
  obtain ⟨cs,h1,h2⟩:=a0E hs
  rw [a0Q hy] at h1
  unfold boxD at h1
  split at h1
  ·rename_i hc
   injection h1 with h1
   subst h1
   refine via ⟨.pt H.length 0,[],[.box T (eval ts x).cells]⟩ (by unfold a0v;simp only [if_pos hc]) ?_
   rw [c1d];exact h2
  ·cases h1
 case load T x =>
  split at hr
  ·rename_i y hT hy
   injection hr with hr
   subst hr
   obtain ⟨d,h1,h2⟩:=a0E hs
   rw [a0Q hy] at h1
   refine via ⟨d,[],[]⟩ (by unfold a0v;simp only [t0b hT h1];rfl) ?_
   rw [d0y];exact h2
  ·rename_i n b z y hT hi hy
   injection hr with hr
   subst hr
   obtain ⟨d,h1,h2⟩:=a0E hs
   rw [a0Q hy] at h1
   refine via ⟨d,[],[]⟩ (by unfold a0v;simp only [w0E hT hi h1];rfl) ?_
   rw [d0y];exact h2
  ·cases hr
 case store T x y =>
  split at hr
  ·rename_i n b z x' y' hi hx hy
   injection hr with hr
   subst hr
   obtain ⟨H',h1,h2⟩:=a0E hs
   rw [a0Q hx,a0Q hy] at h1
   obtain ⟨e,g1,g2,g3⟩:=y0N hi h1
   refine via e (by unfold a0v;exact g1) ?_
   rw [g2,g3];exact h2
  ·cases hr
 case lookup T m k ok =>
  split at hr
  ·rename_i K E m' k' hu hm hk
   split at hr
   ·rename_i z hz
    injection hr with hr
    subst hr
    obtain ⟨d,h1,h2⟩:=a0E hs
    rw [a0Q hm,a0Q hk] at h1
    refine via ⟨d,[],[]⟩ (by unfold a0v;simp only [c1i hu hz h1];rfl) ?_
    rw [d0y];exact h2
   ·cases hr
  ·cases hr
 case mapUpdate T m k x =>
  split at hr
  ·rename_i K E m' k' x' hu hm hk hx
   injection hr with hr
   subst hr
   obtain ⟨H',h1,h2⟩:=a0E hs
   rw [a0Q hm,a0Q hk,a0Q hx] at h1
   obtain ⟨e,g1,g2,g3⟩:=t0h hu h1
   refine via e (by unfold a0v;exact g1) ?_
   rw [g2,g3];exact h2
  ·cases hr
 case insert T m k x =>
  split at hr
  ·rename_i K E m' k' x' hu hm hk hx
   injection hr with hr
   subst hr
   obtain ⟨H',h1,h2⟩:=a0E hs
   rw [a0Q hm,a0Q hk,a0Q hx] at h1
   obtain ⟨e,g1,g2,g3⟩:=t0h hu h1
   refine via e (by unfold a0v;exact g1) ?_
   rw [g2,g3];exact h2
  ·cases hr
 case nilCheck x =>
  rw [Option.map_eq_some_iff] at hr
  obtain ⟨y,hy,rfl⟩:=hr
  obtain ⟨d,h1,h2⟩:=a0E hs
  rw [a0Q hy] at h1
  refine via ⟨d,[],[]⟩ ?_ (by rw [d0y];exact h2)
  unfold t0F at h1
  unfold a0v
  dsimp only
  split at h1<;>first|cases h1|skip
  all_goals (rename_i hx;simp only [hx])
 case fieldAddr T x f =>
  split at hr
  ·rename_i off U y hf hy
   split at hr
   ·rename_i sz b z hi
    split at hr
    ·cases hr
    ·rename_i hsz
     injection hr with hr
     subst hr
     obtain ⟨d,h1,h2⟩:=a0E hs
     rw [a0Q hy] at h1
     refine via ⟨d,[],[]⟩ ?_ (by rw [d0y];exact h2)
     have:c0Z P T (eval ts x) f=some d:=by
      unfold c0Z
      simp only [hf,hi,if_neg hsz]
      unfold offD at h1
      split at h1<;>first|cases h1|skip
      all_goals (rename_i hx;simp only [hx])
     unfold a0v
     simp only [this];rfl
   ·cases hr
  ·cases hr
 case field T x f =>
  split at hr
  ·rename_i off U y hf hy
   have key:∀ d,j0E P T (eval ts x) f=some d→K d H→OpOk P _ a w fun v w'=>∃ d H',K d H'∧LeavesW P w φ X H v w' d H':=fun d hd hk =>
    val d (Instr.field T (a.eval x) f) (by simp [execOp]) (u0W (hev x) hd) hk
   split at hr
   ·rename_i hT
    injection hr with hr
    subst hr
    obtain ⟨d,h1,h2⟩:=a0E hs
    rw [a0Q hy] at h1
    refine key d ?_ h2
    unfold fld1 at h1
    unfold j0E
    split at h1
    ·rename_i ds hx
     simp only [hf,hx,e0c,hT]
     exact h1
    ·cases h1
   ·rename_i n b z hT hi
    injection hr with hr
    subst hr
    obtain ⟨d,h1,h2⟩:=a0E hs
    rw [a0Q hy] at h1
    refine key d ?_ h2
    unfold fldA at h1
    unfold j0E
    split at h1
    ·rename_i ds hx
     simp only [hf,hx,e0c,hT,hi]
     exact h1
    ·cases h1
   ·cases hr
  ·cases hr
 case indexAddr T x i =>
  split at hr
  ·rename_i E x' i' hu hx hi
   split at hr
   ·rename_i sz b z hinf
    split at hr
    ·rename_i hsz
     injection hr with hr
     subst hr
     simp only [a0T,idxS,a0Q hx,a0Q hi] at hs
     split at hs
     ·rename_i q n hq
      split at hs
      ·rename_i r off m hx'
       obtain ⟨⟨g0,g1⟩,g2⟩:=hs
       refine via ⟨.pt r (off+n.toNat*sz),[],[]⟩ ?_ (by rw [d0y];exact g2)
       unfold a0v
       simp only [b0x,hu,hq,nat?,if_pos g0,hinf,hx']
       rw [if_pos (by omega)];rfl
      ·rename_i xs m hx'
       obtain ⟨⟨g0,g1⟩,g2⟩:=hs
       refine via ⟨.rf (xs.drop (n.toNat*sz)),[],[]⟩ ?_ (by rw [d0y];exact g2)
       unfold a0v
       simp only [b0x,hu,hq,nat?,if_pos g0,hinf,hx']
       rw [if_pos ⟨by omega,hsz⟩];rfl
      ·exact hs.elim
     ·exact hs.elim
    ·cases hr
   ·cases hr
  ·rename_i n E x' i' hu hx hi
   split at hr
   ·rename_i sz b z hinf
    injection hr with hr
    subst hr
    simp only [a0T,arrS,a0Q hx,a0Q hi] at hs
    split at hs
    ·rename_i q k hq
     split at hs
     ·rename_i r off hx'
      obtain ⟨⟨g0,g1⟩,g2⟩:=hs
      refine via ⟨.pt r (off+k.toNat*sz),[],[]⟩ ?_ (by rw [d0y];exact g2)
      unfold a0v
      simp only [b0x,hu,hq,nat?,if_pos g0,hinf,hx']
      rw [if_pos (by omega)];rfl
     ·exact hs.elim
    ·exact hs.elim
   ·cases hr
  ·cases hr
 case extract x i =>
  rw [Option.map_eq_some_iff] at hr
  obtain ⟨y,hy,rfl⟩:=hr
  obtain ⟨d,h1,h2⟩:=a0E hs
  rw [a0Q hy] at h1
  refine via ⟨d,[],[]⟩ ?_ (by rw [d0y];exact h2)
  unfold extD at h1
  unfold a0v
  dsimp only
  split at h1
  ·rename_i ds hx
   simp only [hx,h1];rfl
  ·cases h1
 case binOp op T x y U =>
  split at hr
  ·rename_i x' y' hx hy
   have rx:=hev x
   have ry:=hev y
   have bin:a0T P ts H (.bin op x' y') K→OpOk P ⟨dst,.binOp op T x y U,ty,pos,after,guard⟩ a w fun v w'=>∃ d H',K d H'∧LeavesW P w φ X H v w' d H':=by
    intro hs
    simp only [a0T,binS,a0Q hx,a0Q hy] at hs
    split at hs
    ·rename_i k n k' m ex ey
     obtain ⟨hq,hs⟩:=hs
     rw [ex] at rx;rw [ey] at ry
     obtain ⟨v,h1,h2,h3⟩:=e1c (P:=P) (w:=w) (T:=T) hq hs
     refine quiet _ v (c0F (op:=op) rfl ?_ ?_) (.f (.v h2)) h3
     ·rw [rx.v_inv,ry.v_inv,u0i];rfl
     ·rw [rx.v_inv,ry.v_inv];exact h1
    ·rename_i s t ex ey
     rw [ex] at rx;rw [ey] at ry
     obtain ⟨v,h1,h2,h3⟩:=f1K (P:=P) (w:=w) (T:=T) hs
     refine quiet _ v (c0F (op:=op) rfl ?_ ?_) (.f (.v h2)) h3
     ·rw [rx.v_inv,ry.v_inv];unfold eqGuard;cases op<;>rfl
     ·rw [rx.v_inv,ry.v_inv];exact h1
    ·exact hs.elim
   split at hr
   ·rename_i k hk
    cases op<;>dsimp only at hr<;>first|cases hr|skip
    ·simp only [a0T,a0Q hx,a0Q hy] at hs
     obtain ⟨b,g1,g2,g3,_,h2⟩:=z0W (P:=P) (w:=w) hk rx ry hs
     refine quiet (D.bool b) (.bool b) ?_ (d0W rfl) (by simpa using h2)
     simp [execOp,g2,g3,g1]
    ·simp only [a0T,a0Q hx,a0Q hy] at hs
     obtain ⟨b,g1,g2,_,g3,h2⟩:=z0W (P:=P) (w:=w) hk rx ry hs
     refine quiet (D.bool !b) (.bool !b) ?_ (d0W rfl) (by simpa using h2)
     simp [execOp,g2,g3,g1]
   ·split at hr<;>first|cases hr|skip
    ·exact bin hs
    ·exact bin hs
    ·rename_i hT
     simp only [a0T,q0Q,a0Q hx,a0Q hy] at hs
     split at hs
     ·rename_i s t ex ey
      rw [ex] at rx;rw [ey] at ry
      obtain ⟨v,h1,h2,h3⟩:=c1m (P:=P) (w:=w) (T:=T) hT hs
      refine quiet _ v (c0F (op:=op) rfl ?_ ?_) (.f (.v h2)) h3
      ·rw [rx.v_inv,ry.v_inv];unfold eqGuard;cases op<;>rfl
      ·rw [rx.v_inv,ry.v_inv];exact h1
     ·exact hs.elim
    ·rename_i fs hT
     split at hr
     case isFalse=>cases hr
     rename_i hq
     split at hr<;>first|cases hr|skip
     all_goals
      rename_i ks hk
      simp only [a0T,aeqS,a0Q hx,a0Q hy] at hs
      split at hs
      case h_2=>exact hs.elim
      rename_i dx dy ex ey
      rw [ex] at rx;rw [ey] at ry
      obtain ⟨b,hb,hK⟩:=a0E hs
      obtain ⟨h1,h2,xs,ys,e1,e2⟩:=e1D hT hk hq.1 hb rx ry
     ·refine quiet (D.bool b) (.bool b) (c0F (op:=.eql) rfl ?_ h1) (d0W rfl) (by simpa using hK)
      rw [e1,e2];exact run_eqGuard_agg w .eql T x y xs ys hq.2
     ·refine quiet (D.bool !b) (.bool !b) (c0F (op:=.neq) rfl ?_ h2) (d0W rfl) (by simpa using hK)
      rw [e1,e2];exact run_eqGuard_agg w .neq T x y xs ys hq.2
  ·cases hr
 case unOp op T x =>
  cases op<;>dsimp only at hr<;>first|cases hr|skip
  rw [Option.map_eq_some_iff] at hr
  obtain ⟨y,hy,rfl⟩:=hr
  obtain ⟨d,h1,h2⟩:=a0E hs
  rw [a0Q hy] at h1
  have rx:=hev x
  unfold notS at h1
  split at h1
  ·rename_i b hx
   injection h1 with h1
   subst h1
   rw [hx] at rx
   refine quiet _ (.bool !b) ?_ (d0W rfl) h2
   simp [execOp,rx.v_inv,Op.unary]
  ·cases h1
 case makeFunc fn first caps =>
  cases fn with
  | func f =>
   dsimp only at hr
   split at hr
   ·rename_i hf
    rw [Option.map_eq_some_iff] at hr
    obtain ⟨ys,hys,rfl⟩:=hr
    refine via ⟨.fn f (caps.toList.map (eval ts)),[],[]⟩ (by unfold a0v;simp only [if_pos hf]) ?_
    rw [d0y,←q0S hys];exact hs
   ·cases hr
  | _=>cases hr
 case makeMap T r =>
  cases r<;>dsimp only at hr<;>first|cases hr|skip
  refine via ⟨.mp H.length,[],[.map []]⟩ rfl ?_
  rw [c1d];exact hs
 case makeSlice T l c =>
  split at hr
  ·rename_i E sz b z l' c' hT hl hc
   injection hr with hr
   subst hr
   obtain ⟨hu,hi,hsz⟩:=n0R hT
   obtain ⟨n,h1,hs⟩:=a0E hs
   obtain ⟨m,h2,hs⟩:=a0E hs
   rw [a0Q hl] at h1
   rw [a0Q hc] at h2
   obtain ⟨⟨g0,g1,g2,g3,g4⟩,hk⟩:=hs
   refine via ⟨.sl H.length 0 n.toNat,[],[.data E ((List.range (n.toNat*sz)).map fun j=>F.v (z.getD (j % sz) Go.undef))]⟩ ?_ ?_
   ·unfold a0v
    simp only [d0I,hu,c0B h1,c0B h2,hi]
    rw [if_pos ⟨g0,g1,g2,g3,g4,hsz⟩]
   ·rw [c1d]
    have:∀ j,(z.map F.v).getD j (.v Go.undef)=F.v (z.getD j Go.undef):=by
     intro j
     simp [List.getD_eq_getElem?_getD]
    simpa only [this] using hk
  ·cases hr
 case build T ps =>
  split at hr
  ·rename_i fs n b z hu hi
   split at hr
   ·rename_i hall
    rw [Option.map_eq_some_iff] at hr
    obtain ⟨ys,hys,rfl⟩:=hr
    obtain ⟨ds,h1,h2⟩:=a0E hs
    refine val (.ag ds) (Instr.build T (ps.map fun (i,x)=>(i,a.eval x))) (by simp [execOp]) (u0X hts ?_) h2
    unfold q0F
    simp only [hu,hi,if_pos hall]
    exact congrArg (Option.map D.ag) (n0I hys h1)
   ·cases hr
  ·rename_i m E q b z hu hi
   split at hr
   ·rename_i sz b' z' hE
    rw [Option.map_eq_some_iff] at hr
    obtain ⟨ys,hys,rfl⟩:=hr
    obtain ⟨ds,h1,h2⟩:=a0E hs
    rw [List.map_map] at h1
    exact val (.ag ds) (Instr.build T (ps.map fun (i,x)=>(i,a.eval x))) (by simp [execOp]) (x0v hts hu hi hE (g0I hys h1)) h2
   ·cases hr
  ·cases hr
 case buildSlice T n ps =>
  split at hr
  ·rename_i E sz b z hT
   obtain ⟨hu,hi,hsz⟩:=n0R hT
   split at hr
   ·rename_i hn
    rw [Option.map_eq_some_iff] at hr
    obtain ⟨ys,hys,rfl⟩:=hr
    obtain ⟨ds,h1,hs⟩:=a0E hs
    obtain ⟨⟨xs,us⟩,h2,hk⟩:=a0E hs
    dsimp only at hk
    have hf:=g0I hys h1
    have hb:b0u P H T n (ps.toList.map fun p=>(p.1,eval ts p.2))=some ⟨.sl H.length 0 n,us,[.data E xs]⟩:=by
     unfold b0u
     simp only [hu,hi]
     rcases hn with ⟨hn1,hn2⟩|⟨rfl,hn2⟩
     ·rw [if_pos ⟨hsz,hn1,hn2⟩]
      simp only [hf,h2]
     ·have hp:ps.toList=[]:=by simpa using hn2
      rw [if_neg (by omega),if_pos ⟨hsz,rfl,by simp [hp]⟩]
      rw [hp] at hf
      simp [d0k] at hf
      subst hf
      simp [a0U] at h2
      obtain ⟨rfl,rfl⟩:=h2
      rfl
    refine yields ⟨.sl H.length 0 n,us,[.data E xs]⟩ (Instr.buildSlice T n (ps.map fun (i,x)=>(i,a.eval x))) (by simp [execOp]) (buildSlice_ok h hts hb) ?_
    simpa [Eff.heap] using hk
   ·cases hr
  ·cases hr
 case slice T x lo hi mx =>
  split at hr
  ·rename_i E sz b z x' lo' hi' mx' hT hx hlo hhi hmx
   obtain ⟨hu,hinf,hsz⟩:=n0R hT
   injection hr with hr
   subst hr
   obtain ⟨n,h1,hs⟩:=a0E hs
   obtain ⟨l,h2,hs⟩:=a0E hs
   obtain ⟨u,h3,hs⟩:=a0E hs
   obtain ⟨⟨g1,g2,g3⟩,hs⟩:=hs
   rw [a0Q hx] at h1
   have elo:lowS (lo.map (eval ts))=some l.toNat:=by
    cases lo with
    | none=>simp [svo] at hlo;subst hlo;simp at h2;subst h2;rfl
    | some v =>
     simp only [svo,Option.map_eq_some_iff] at hlo
     obtain ⟨v',hv,rfl⟩:=hlo
     simp only [a0Q hv] at h2
     simp only [lowS,Option.map_some,c0B h2,nat?,if_pos g1]
   have ehi:s0T n (hi.map (eval ts))=some u.toNat:=by
    cases hi with
    | none=>simp [svo] at hhi;subst hhi;simp at h3;subst h3;simp [s0T]
    | some v =>
     simp only [svo,Option.map_eq_some_iff] at hhi
     obtain ⟨v',hv,rfl⟩:=hhi
     simp only [a0Q hv] at h3
     simp only [s0T,Option.map_some,c0B h3,nat?,if_pos (show 0≤u by omega)]
   have opt:∀ (q:Option Operand) (y:D),q.map (eval ts)=some y→∃ v,q.map a.eval=some v∧R P w φ (Av X φ H) H.length y v:=by
    intro q y hq
    rw [Option.map_eq_some_iff] at hq
    obtain ⟨p,rfl,rfl⟩:=hq
    exact ⟨_,rfl,hev p⟩
   have non:∀ (q:Option Operand),q.map (eval ts)=none→q.map a.eval=none:=by
    intro q hq
    cases q<;>simp at hq ⊢
   have key:∀ d,d0x P H T (eval ts x) (lo.map (eval ts)) (hi.map (eval ts)) (mx.map (eval ts))=some d→K d H→OpOk P ⟨dst,.slice T x lo hi mx,ty,pos,after,guard⟩ a w fun v w'=>∃ d H',K d H'∧LeavesW P w φ X H v w' d H':=fun d hd hk =>
    val d (Instr.sliceAt T (a.eval x) (lo.map a.eval) (hi.map a.eval) (mx.map a.eval)) (by simp [execOp]) (n0V h (hev x) (opt lo) (non lo) (opt hi) (non hi) (opt mx) (non mx) hd) hk
   have hlu:l.toNat≤u.toNat∧u.toNat≤n:=by omega
   cases mx with
   | none =>
    simp only [svo,Option.some.injEq] at hmx
    subst hmx
    obtain ⟨d,k1,k2⟩:=a0E hs
    rw [a0Q hx] at k1
    refine key d ?_ k2
    rw [←k1];exact y0C hu hinf h1 elo ehi hlu
   | some v =>
    simp only [svo,Option.map_eq_some_iff] at hmx
    obtain ⟨v',hv,rfl⟩:=hmx
    dsimp only at hs
    rw [a0Q hv,a0Q hx] at hs
    obtain ⟨⟨k1,k2,k3⟩,hs⟩:=hs
    subst k2
    have k3':(hi.map (eval ts)).isSome=true:=by
     cases hi with
     | none=>simp [svo] at hhi;subst hhi;simp at k3
     | some _=>rfl
    have k4:nat? (eval ts v)=some l.toNat:=by simp only [c0B k1,nat?,if_pos g1]
    have k5:=a1K (H:=H) hu hinf h1 elo ehi hlu.2 k4 k3'
    exact key _ k5 hs
  ·rename_i x' lo' hi' _ hx hlo hhi hmx
   split at hr
   ·rename_i hu
    injection hr with hr
    subst hr
    obtain ⟨d,h1,h2⟩:=a0E hs
    rw [a0Q hx,d1Z hlo,d1Z hhi] at h1
    have opt:∀ (q:Option Operand) (y:D),q.map (eval ts)=some y→∃ v,q.map a.eval=some v∧R P w φ (Av X φ H) H.length y v:=by
     intro q y hq
     rw [Option.map_eq_some_iff] at hq
     obtain ⟨p,rfl,rfl⟩:=hq
     exact ⟨_,rfl,hev p⟩
    have non:∀ (q:Option Operand),q.map (eval ts)=none→q.map a.eval=none:=by
     intro q hq
     cases q<;>simp at hq ⊢
    have hmn:mx=none:=by
     cases mx with
     | none=>rfl
     | some v=>simp [svo] at hmx
    subst hmn
    exact val d (Instr.sliceAt T (a.eval x) (lo.map a.eval) (hi.map a.eval) ((none:Option Operand).map a.eval)) (by simp [execOp]) (n0V h (hev x) (opt lo) (non lo) (opt hi) (non hi) (opt none) (non none) (c1E hu h1)) h2
   ·cases hr
  ·cases hr
 case convert s d x =>
  split at hr
  ·rename_i k1 k x' hs' hd hx
   injection hr with hr
   subst hr
   obtain ⟨y,h1,h2⟩:=a0E hs
   rw [a0Q hx] at h1
   have rx:=hev x
   unfold z0l at h1
   split at h1
   ·rename_i q m hm
    injection h1 with h1
    subst h1
    rw [hm] at rx
    refine quiet _ (.int k (k.wrap m)) ?_ (d0W rfl) h2
    have:(convert s d (.int q m)).run P w = .ok (.int k (k.wrap m)) w:=by
     simp [convert,run_underlying hs',run_underlying hd,Conv.intToInt]
    simp [execOp,rx.v_inv,this]
   ·cases h1
  ·rename_i E x' hs' hd hx
   split at hr
   ·rename_i hE
    injection hr with hr
    subst hr
    obtain ⟨t,h1,h2,h3⟩:=a0E hs
    rw [a0Q hx] at h1
    have h1:=o0P h1
    have hc:c0r P H s d (eval ts x)=some ⟨.f (.s (t.data.toList.map fun b=>.v (.int .u8 b.toNat)) t.size),[],[]⟩:=by
     unfold c0r
     simp only [hs',hd,hE,h1,if_pos h2]
    exact yields _ (convert s d (a.eval x)) (by simp [execOp]) (f0y h (hev x) hc) (by rw [d0y];exact h3)
   ·cases hr
  ·rename_i E x' hs' hd hx
   split at hr
   ·rename_i b z hE hi
    injection hr with hr
    subst hr
    obtain ⟨⟨m,xs⟩,h1,hs⟩:=a0E hs
    dsimp only at hs
    obtain ⟨l,h2,h3,h4⟩:=a0E hs
    rw [a0Q hx] at h1
    have h5:=r0n hi h1
    have hc:c0r P H s d (eval ts x)=some ⟨.v (.string ⟨l.toArray⟩),[],[]⟩:=by
     unfold c0r
     simp only [hs',hd,hE,hi,h5,h2]
     rw [if_pos (by simpa using h3)]
    exact yields _ (convert s d (a.eval x)) (by simp [execOp]) (f0y h (hev x) hc) (by rw [d0y];exact h4)
   ·cases hr
  ·cases hr
 case index T x i =>
  split at hr
  ·rename_i x' i' hu hx hi
   injection hr with hr
   subst hr
   obtain ⟨t,h1,hs⟩:=a0E hs
   obtain ⟨n,h2,hs⟩:=a0E hs
   obtain ⟨b,h3,h4⟩:=a0E hs
   rw [a0Q hx] at h1
   rw [a0Q hi] at h2
   have rx:=hev x
   have ri:=hev i
   rw [o0P h1] at rx
   rw [c0B h2] at ri
   refine quiet _ (.int .u8 b.toNat) ?_ (d0W rfl) h4
   have hb:(if 0≤n then t[n.toNat]? else none)=some b:=by
    split at h3
    ·rename_i h0
     rw [if_pos h0,g1O,h3]
    ·cases h3
   have:(Instr.index T (.string t) (.int .i64 n)).run P w = .ok (.int .u8 b.toNat) w:=by
    simp [Instr.index,asIntOf,run_underlying hu,hb]
   simp [execOp,rx.v_inv,ri.v_inv,this]
  ·rename_i n E x' i' hu hx hi
   split at hr
   ·rename_i sz b z hT hin
    injection hr with hr
    subst hr
    have rx:=hev x
    have ri:=hev i
    simp only [a0T,a0Q hx,a0Q hi] at hs
    unfold w0e at hs
    split at hs
    ·rename_i ds k n' ex ei
     obtain ⟨h0,hs⟩:=hs
     obtain ⟨d,h1,h2⟩:=a0E hs
     rw [ex] at rx
     rw [ei] at ri
     refine val d (Instr.index T (a.eval x) (a.eval i)) (by simp [execOp]) ?_ h2
     rw [ri.v_inv]
     exact a1p hu hT hin rx h0 h1
    ·exact hs.elim
   ·cases hr
  ·cases hr
 case call c =>
  obtain ⟨callee,args,argTypes⟩:=c
  have two:∀ (p q:SV),svs args.toList=some [p,q]→∃ x y,args = #[x,y]∧sv x=some p∧sv y=some q:=by
   intro p q hq
   obtain ⟨l⟩:=args
   match l,hq with
   | [x,y],hq =>
    simp only [svs] at hq
    split at hq
    ·rename_i a1 a2 h1 h2
     injection hq with hq;injection hq with e1 e2
     subst e1;subst e2
     split at h2
     ·rename_i b1 b2 h3 h4
      simp at h2 h4
      obtain ⟨rfl,rfl⟩:=h2
      exact ⟨x,y,rfl,h1,h3⟩
     ·cases h2
    ·cases hq
   | [],hq=>simp [svs] at hq
   | [x],hq=>simp only [svs] at hq;split at hq<;>simp at hq;rename_i h2;simp [svs] at h2;subst h2;simp at hq
   | x :: y :: z :: l,hq =>
    exfalso
    have:∀ {l:List Operand} {ys:List SV},svs l=some ys→ys.length=l.length:=fun {l ys} h=>by
     have:=congrArg List.length (q0S (ts:=[]) h)
     simpa using this
    have:=this hq
    simp at this
  have one:∀ (p:SV),svs args.toList=some [p]→∃ x,args = #[x]∧sv x=some p:=by
   intro p hq
   have hl:args.toList.length=1:=by
    have:=congrArg List.length (q0S (ts:=[]) hq)
    simp at this
    simp;omega
   obtain ⟨l⟩:=args
   match l,hl with
   | [x],_ =>
    simp only [svs] at hq
    cases hx:sv x with
    | none=>rw [hx] at hq;simp at hq
    | some y=>rw [hx] at hq;simp at hq;subst hq;exact ⟨x,rfl,hx⟩
  have bi:∀ (b:Builtin) (v:Value) (w':World) (d:D) (H':List Row),callee = .builtin b→(∀ (ty:TypeId) (cs:Array Bool),(builtin b argTypes ty cs (args.map a.eval)).run P w = .ok (.value v) w')→LeavesW P w φ X H v w' d H'→K d H'→OpOk P ⟨dst,.call ⟨callee,args,argTypes⟩,ty,pos,after,guard⟩ a w fun v w'=>∃ d H',K d H'∧LeavesW P w φ X H v w' d H':=by
   rintro b v w' d H' rfl hr hl hk
   refine OpOk.value (v:=v) (w':=w') ?_ ⟨d,H',hk,hl⟩
   unfold execOp
   simp only [resolve,invoke,Sem.run_bind,Sem.run_pure,Result.andThen_ok]
   exact hr _ _
  have qu:∀ (d:D) (v:Value),R P w φ (Av X φ H) H.length d v→LeavesW P w φ X H v w d H:=by
   intro d v hd
   have:=LeavesW.of (Leaves.quiet h hd)
   rwa [d0y] at this
  split at hr
  ·rename_i m k t u hca hl hty
   simp only at hca hl hty
   split at hr
   ·rename_i K E hu
    injection hr with hr
    subst hr
    obtain ⟨p,q,rfl,hp,hq⟩:=two m k hl
    have e2:argTypes = #[t,u]:=Array.toList_inj.1 (by simpa using hty)
    subst e2
    obtain ⟨H',g1,g2⟩:=a0E hs
    rw [a0Q hp,a0Q hq] at g1
    obtain ⟨e,f1,f2,f3⟩:=c1X hu g1
    obtain ⟨v,w',h1,h2⟩:=p0b (ty:=ty) (u:=u) h (hev p) (hev q) f1
    have h3:=LeavesW.of h2
    rw [f2,f3] at h3
    refine bi .delete v w' _ _ hca (fun ty cs=>?_) h3 g2
    have h5:(Builtin.delete_ #[t,u] ty #[a.eval p,a.eval q]).run P w = .ok v w':=h1
    simp [builtin,h5]
   ·cases hr
  ·rename_i x t hca hl hty
   simp only at hca hl hty
   injection hr with hr
   subst hr
   obtain ⟨p,rfl,hp⟩:=one x hl
   have e2:argTypes = #[t]:=Array.toList_inj.1 (by simpa using hty)
   subst e2
   obtain ⟨H',g1,g2⟩:=a0E hs
   rw [a0Q hp] at g1
   obtain ⟨e,f1,f2,f3⟩:=y0y g1
   obtain ⟨v,w',h1,h2⟩:=v0o (ty:=ty) h (hev p) f1
   have h3:=LeavesW.of h2
   rw [f2,f3] at h3
   refine bi .clear v w' _ _ hca (fun ty cs=>?_) h3 g2
   have h5:(Builtin.clear_ #[t] ty #[a.eval p]).run P w = .ok v w':=h1
   simp [builtin,h5]
  ·rename_i s x t u hca hl hty
   simp only at hca hl hty
   split at hr
   ·rename_i htu
    subst htu
    split at hr
    ·rename_i E sz b z hT
     obtain ⟨hu,hi,hsz⟩:=n0R hT
     split at hr
     ·rename_i hz
      injection hr with hr
      subst hr
      obtain ⟨p,q,rfl,hp,hq⟩:=two s x hl
      have e2:argTypes = #[t,t]:=Array.toList_inj.1 (by simpa using hty)
      subst e2
      simp only [a0T,a0Q hp,a0Q hq] at hs
      obtain ⟨e,he,hk⟩:=e1e hu hi hsz hz hs
      obtain ⟨v,w',h1,h2⟩:=k0O (ty:=ty) h (hev p) (hev q) he
      refine bi .append v w' _ _ hca (fun ty cs=>?_) (LeavesW.of h2) hk
      have h5:(Builtin.append_ #[t,t] ty #[a.eval p,a.eval q]).run P w = .ok v w':=h1
      simp [builtin,h5]
     ·cases hr
    ·cases hr
   ·cases hr
  ·rename_i x t hca hl hty
   simp only at hca hl hty
   obtain ⟨p,rfl,hp⟩:=one x hl
   have e2:argTypes = #[t]:=Array.toList_inj.1 (by simpa using hty)
   subst e2
   have len:∀ n:Nat,lenD P H t (eval ts p)=some n→K (D.int n) H→OpOk P ⟨dst,.call ⟨callee,#[p],#[t]⟩,ty,pos,after,guard⟩ a w fun v w'=>∃ d H',K d H'∧LeavesW P w φ X H v w' d H':=by
    intro n hn hk
    refine bi .len (goInt n) w _ _ hca (fun ty cs=>?_) (qu (D.int n) (goInt n) (d0W rfl)) hk
    have:=d1G (ty:=ty) h (hev p) hn
    simp [builtin,this]
   split at hr
   ·rename_i E hu
    injection hr with hr
    subst hr
    obtain ⟨n,h1,h2⟩:=a0E hs
    rw [a0Q hp] at h1
    refine len n ?_ h2
    unfold lenD
    simp only [hu]
    unfold slcS at h1
    unfold c0C
    split at h1<;>first|cases h1|skip
    all_goals (rename_i hx;rw [hx];try rfl)
   ·rename_i K' E hu
    injection hr with hr
    subst hr
    obtain ⟨es,h1,h2⟩:=a0E hs
    rw [a0Q hp] at h1
    refine len es.length ?_ h2
    unfold lenD
    simp only [hu,h1,Option.map_some]
   ·rename_i hu
    injection hr with hr
    subst hr
    obtain ⟨s,h1,h2⟩:=a0E hs
    rw [a0Q hp] at h1
    have rp:=hev p
    rw [o0P h1] at rp
    refine bi .len (goInt s.size) w _ _ hca (fun ty cs=>?_) (qu (D.int s.size) (goInt s.size) (d0W rfl)) h2
    have:(Builtin.len_ #[t] ty #[a.eval p]).run P w = .ok (goInt s.size) w:=by
     rw [rp.v_inv]
     simp [Builtin.len_,run_underlying hu]
    simp [builtin,this]
   ·cases hr
  ·rename_i x y hca hl
   simp only at hca hl
   injection hr with hr
   subst hr
   obtain ⟨p,q,rfl,hp,hq⟩:=two x y hl
   obtain ⟨n,h1,hs⟩:=a0E hs
   obtain ⟨m,h2,hs⟩:=a0E hs
   rw [a0Q hp] at h1
   rw [a0Q hq] at h2
   have rp:=hev p
   have rq:=hev q
   rw [c0B h1] at rp
   rw [c0B h2] at rq
   refine bi .min (.int .i64 (min n m)) w _ _ hca (fun ty cs=>?_) (qu _ _ (d0W rfl)) hs
   have:(Builtin.min_ argTypes ty #[a.eval p,a.eval q]).run P w = .ok (.int .i64 (min n m)) w:=by
    rw [rp.v_inv,rq.v_inv]
    simp [Builtin.min_,Builtin.min2]
    split<;>omega
   simp [builtin,this]
  ·rename_i x y hca hl
   simp only at hca hl
   injection hr with hr
   subst hr
   obtain ⟨p,q,rfl,hp,hq⟩:=two x y hl
   obtain ⟨n,h1,hs⟩:=a0E hs
   obtain ⟨m,h2,hs⟩:=a0E hs
   rw [a0Q hp] at h1
   rw [a0Q hq] at h2
   have rp:=hev p
   have rq:=hev q
   rw [c0B h1] at rp
   rw [c0B h2] at rq
   refine bi .max (.int .i64 (max n m)) w _ _ hca (fun ty cs=>?_) (qu _ _ (d0W rfl)) hs
   have:(Builtin.max_ argTypes ty #[a.eval p,a.eval q]).run P w = .ok (.int .i64 (max n m)) w:=by
    rw [rp.v_inv,rq.v_inv]
    simp [Builtin.max_,Builtin.max2]
    split<;>omega
   simp [builtin,this]
  ·rename_i f xs hca hl
   simp only at hca hl
   split at hr
   ·rename_i f' hf
    injection hr with hr
    subst hr
    refine t0e hP h hts ?_
    unfold c1o
    simp only [hca]
    simp only [a0T,a0Q hf,q0S hl] at hs
    exact hs
   ·cases hr
  ·cases hr
 all_goals cases hr
theorem c1M (hP:Good P)(h:HR P w φ X H){ts:List D}{a:Act}(hts:Rs P w φ (Av X φ H) H.length ts a.tmps.toList){o:Oper}{K:D→List Row→Prop}(hs:a0T P ts H (s0p P o) K) :
  OpOk P o a w fun v w'=>∃ d H',K d H'∧LeavesW P w φ X H v w' d H':=by
 unfold s0p at hs
 split at hs
 ·exact v0h hP h hts ‹_› hs
 ·exact t0e hP h hts hs
end
end Go.Proofs.YthjgmldnegaaiaaGreatDoor.Mir
