/- Lemmas for the proof. No condition. -/
import Derived.WalkKit
import Derived.WalkSpells
import Derived.WalkLawsBesides
import Derived.WalkSmall
import Derived.Maps.AppendAt
import Derived.Deep.RegionLaw
import Derived.Lib.Hide
import Derived.KernelRfl
import Derived.ProofKit
import Derived.OpenShut
import Derived.ShutString
import Derived.ChangeOld
import Derived.Below
import Derived.SizedLaws
import Derived.Deep.Slices
import Derived.MapKept
import Derived.Laws.IdiomCopy
import Derived.ArgAppend
import Derived.Outline
import Derived.Laws.CopyRow
set_option linter.unusedVariables false
set_option linter.unusedSimpArgs false
namespace Go.Proofs.YthjgmldnegaaiaaGreatDoor
open Go Go.RowKit
structure Ch (S:Nat→Prop)(w w':World):Prop where
 os:w'.os=w.os
 tape:w'.tape=w.tape
 output:w'.output=w.output
 size:w.heap.size≤w'.heap.size
 block:∀ k,k<w.heap.size→¬ S k→w'.heap[k]?=w.heap[k]?
theorem a0g {w:World}{b:Nat}{o:Obj}(hb:w.heap[b]?=some o):b<w.heap.size:=(Array.getElem?_eq_some_iff.1 hb).1
theorem k0V {w:World}{b:Nat}{cs:Array Value}{T:TypeId}{fr:Nat × Nat}(hb:w.heap[b]?=some (.cells cs T fr))(o:Nat):w.cell? ⟨b,o,none⟩=cs[o]?:=by
 simp [World.cell?,hb]
theorem k0Z {w:World}{b:Nat}{x:Obj}(hb:w.heap[b]?=some x)(o:Obj):(w.alloc o).heap[b]?=some x:=by
 rw [Below.heap_alloc _ _ _ (a0g hb)];exact hb
def Rd (w:World)(ao:Option Addr)(xs:List Value):Prop:=xs=[]∨∃ ad,ao=some ad∧∀ j u,xs[j]?=some u→w.cell? (ad.add j)=some u
theorem Rd.nil (w:World)(ao:Option Addr):Rd w ao []:=.inl rfl
theorem add_add (ad:Addr)(i j:Nat):(ad.add i).add j=ad.add (i+j):=by
 unfold Addr.add
 by_cases hi:i=0
 ·subst hi;simp
 ·by_cases hj:j=0
  ·subst hj;simp
  ·rw [if_neg hj,if_neg hi,if_neg (by omega)];simp;omega
theorem v0n {α:Type}(f:α→List Value)(n:Nat)(hf:∀ x,(f x).length=n):∀ (xs:List α) (k:Nat) (hk:k<xs.length) (i:Nat),i<n→(xs.flatMap f)[k*n+i]?=(f xs[k])[i]?
 | [],k,hk,_,_=>by simp at hk
 | x :: xs,0,_,i,hi=>by
  rw [List.flatMap_cons,Nat.zero_mul,Nat.zero_add,List.getElem?_append_left (by rw [hf];exact hi)];rfl
 | x :: xs,k+1,hk,i,hi=>by
  rw [List.flatMap_cons,List.getElem?_append_right (by rw [hf,Nat.add_mul];omega),hf,show (k+1)*n+i-n=k*n+i by rw [Nat.add_mul];omega]
  exact v0n f n hf xs k (by simpa using hk) i hi
theorem b1v {α:Type}(f:α→List Value)(n:Nat)(hf:∀ x,(f x).length=n)(xs:List α):(xs.flatMap f).length=xs.length*n:=by
 induction xs with
 | nil=>simp
 | cons x xs ih=>rw [List.flatMap_cons,List.length_append,hf,ih,List.length_cons,Nat.add_mul];omega
section
variable {P:Program}{t e:TypeId}{z:Value}{size bytes:Nat}
end
end Go.Proofs.YthjgmldnegaaiaaGreatDoor
namespace Go.Proofs.YthjgmldnegaaiaaGreatDoor
open Go Go.RowKit Go.ChangeShapes Go.WideShapes Go.ChangeAt
section
variable {H:Type}{enc:TypeId × Value→H}{P:Program}{w:World}{held:Bool}
end
end Go.Proofs.YthjgmldnegaaiaaGreatDoor
namespace Go.Proofs.YthjgmldnegaaiaaGreatDoor
open Go Go.RowKit Go.ChangeShapes Go.WideShapes Go.ChangeAt Go.Deep
def Reader (P:Program)(W:World)(e:TypeId){α:Type}(f:α→List Value)(good:α→Prop):Prop :=
 ∀ (H:Type) (enc:TypeId × Value→H) (fuel:Nat) (cs:List Value) (x:DataW H × List MemPlace),DataW.trod enc P W 0 (fun _=>true) true fuel e cs=some x→(∀ n∈x.1.weights P e,n≤reachBytes)→∃ a,cs=f a∧good a
theorem Reader.map {P:Program}{W:World}{e:TypeId}{α β:Type}{f:α→List Value}{good:α→Prop}(h:Reader P W e f good)(g:α→β){f':β→List Value}{good':β→Prop}(hf:∀ a,good a→f' (g a)=f a)(hg:∀ a,good a→good' (g a)):Reader P W e f' good':=by
 intro H enc fuel cs x hx hw
 obtain ⟨a,h1,h2⟩:=h H enc fuel cs x hx hw
 exact ⟨g a,by rw [hf a h2];exact h1,hg a h2⟩
theorem b0L {P:Program}{W:World}{e:TypeId}{k:IntKind}(he:P.underlying e=some (.int k)):Reader P W e (fun n:Int=>[.int k n]) (fun n=>(Lit.int k n).wf=true):=by
 intro H enc fuel cs x hx _
 obtain ⟨n,h1,h2,h3⟩:=DataW.trod_int he hx
 exact ⟨n,h1,h3⟩
def h0b (x:UInt8):List Value:=[.int .u8 (x.toNat:Nat)]
theorem s0x {P:Program}{W:World}{e:TypeId}(he:P.underlying e=some (.int .u8)):Reader P W e h0b (fun _=>True) :=
 Reader.map (b0L he) (fun n=>UInt8.ofNat n.toNat) (fun n hn=>by
  have h:=bounds_u8 hn
  have:(UInt8.ofNat n.toNat).toNat=n.toNat:=by simp;omega
  simp only [h0b,this]
  rw [Int.toNat_of_nonneg h.1]) (fun _ _=>trivial)
structure InS {α:Type}(f:α→List Value)(good:α→Prop)(B:Nat)(W:World)(a:Option Addr)(c:Nat)(xs:List α):Prop where
 rd:Rd W a (xs.flatMap f)
 ok:∀ x∈xs,good x
 lc:xs.length≤c
 sz:c*B≤140737488351232
 nil:a=none→c=0
theorem k0b {H:Type}{P:Program}{e:TypeId}{ds:List (DataW H)}{d:DataW H}(hd:d∈ds){n:Nat}(hn:n∈d.weights P e):n∈DataW.weightsAll P e ds:=by
 induction ds with
 | nil=>simp at hd
 | cons x xs ih =>
  simp only [DataW.weightsAll,List.mem_append]
  rcases List.mem_cons.1 hd with rfl|h
  ·exact .inl hn
  ·exact .inr (ih h)
theorem cells_of_cells? {w:World}{a:Addr}{n:Nat}{cs:List Value}(h:w.cells? 0 a n=some cs):cs.length=n∧∀ i,i<n→w.cell? (a.add i)=cs[i]?:=by
 unfold World.cells? at h
 rw [if_pos (Nat.zero_le _)] at h
 exact ⟨by simpa using mapM_some_length h,fun i hi=>by have:=mapM_some_get h i i (by simp [hi]);exact this⟩
theorem b0j {P:Program}{W:World}{t e:TypeId}{α:Type}{f:α→List Value}{good:α→Prop}(ht:P.underlying t=some (.slice e)){n B:Nat}(hc:P.cellsOf e=n)(hB:P.bytesOf e=B)(hf:∀ a,(f a).length=n)(he:Reader P W e f good) :
  Reader P W t (fun x:Option Addr × Nat × List α=>[.slice x.1 x.2.2.length x.2.1]) (fun x=>InS f good B W x.1 x.2.1 x.2.2):=by
 intro H enc fuel cs x hx hw
 rcases open_slice ht hx with ⟨h1,h2⟩|⟨a,len,cap,m,n',D,Pl,rfl,_,hl,hm,hmm,rfl,hel⟩
 ·subst h1
  exact ⟨(none,0,[]),rfl,Rd.nil _ _,by simp,Nat.le_refl _,by simp,fun _=>rfl⟩
 ·have hmc:m=cap:=by simpa using hmm
  subst hmc
  have each:∀ i,i<len→∃ y:α,good y∧W.cells? 0 (a.add (i*n)) n=some (f y):=by
   intro i hi
   obtain ⟨cs',h1,h2⟩:=hel i (by omega)
   rw [hc] at h1
   obtain ⟨y,h3,h4⟩:=he H enc n' cs' _ h2 (fun k hk=>hw k (by
    simp only [DataW.weights,ht,List.mem_cons,List.mem_append]
    exact .inr (.inl (k0b (d:=D i) (by simpa using ⟨i,hi,rfl⟩) hk))))
   exact ⟨y,h4,by rw [h1,h3]⟩
  have hxs:∃ xs:List α,xs.length=len∧∀ i (hi:i<xs.length),good xs[i]∧W.cells? 0 (a.add (i*n)) n=some (f xs[i]):=by
   clear hel hx hw hmm hl hm
   induction len with
   | zero=>exact ⟨[],rfl,fun i hi=>by simp at hi⟩
   | succ k ih =>
    obtain ⟨xs,h1,h2⟩:=ih (fun i hi=>each i (by omega))
    obtain ⟨y,h3,h4⟩:=each k (by omega)
    refine ⟨xs++[y],by simp [h1],fun i hi=>?_⟩
    by_cases hik:i<xs.length
    ·rw [List.getElem_append_left hik];exact h2 i hik
    ·have:i=k:=by simp at hi;omega
     subst this
     rw [List.getElem_append_right (by omega)]
     simp only [List.getElem_singleton]
     exact ⟨h3,h4⟩
  obtain ⟨xs,hlen,hall⟩:=hxs
  subst hlen
  refine ⟨(some a,m,xs),rfl,?_,?_,hl,?_,by simp⟩
  ·refine .inr ⟨a,rfl,fun j u hu=>?_⟩
   have hj:j<(xs.flatMap f).length:=(List.getElem?_eq_some_iff.1 hu).1
   rw [b1v f n hf] at hj
   rcases Nat.eq_zero_or_pos n with h0|hpos
   ·subst h0;simp at hj
   ·have hq:j / n<xs.length:=Nat.div_lt_of_lt_mul (by rw [Nat.mul_comm];exact hj)
    have hr:j % n<n:=Nat.mod_lt _ hpos
    have hjj:j=j / n*n+j % n:=by rw [Nat.mul_comm];exact (Nat.div_add_mod j n).symm
    obtain ⟨_,hcell⟩:=hall (j / n) hq
    have h5:=(cells_of_cells? hcell).2 (j % n) hr
    rw [Go.Deep.add_add] at h5
    rw [hjj] at hu ⊢
    rw [h5,←v0n f n hf xs (j / n) hq (j % n) hr]
    exact hu
  ·intro y hy
   obtain ⟨i,hi,rfl⟩:=List.getElem_of_mem hy
   exact (hall i hi).1
  ·have:=hw (m*B) (by
    simp only [DataW.weights,ht,List.mem_cons,hB]
    left
    simp;congr 1;omega)
   simpa [reachBytes] using this
def n0c (P:Program)(W:World)(fs:List Field)(off total:Nat){α:Type}(f:α→List Value)(good:α→Prop):Prop :=
 ∀ (H:Type) (enc:TypeId × Value→H) (n:Nat) (cs:List Value) (xs:List (DataW H × List MemPlace)),xs.length=fs.length →
  (∀ (i:Nat) (fd:Field),fs[i]?=some fd→DataW.trod enc P W 0 (fun _=>true) true n fd.type ((cs.drop fd.offset).take (P.cellsOf fd.type))=xs[i]?) →
  (∀ m∈DataW.weightsEach P (fs.map (·.type)) (xs.map (·.1)),m≤reachBytes)→∃ a,(cs.drop off).take total=f a∧good a
theorem e0v {P:Program}{W:World}(off:Nat):n0c P W [] off 0 (fun _:Unit=>[]) (fun _=>True) :=
 fun _ _ _ _ _ _ _ _=>⟨(),by simp,trivial⟩
theorem a0f {P:Program}{W:World}{fd:Field}{fs:List Field}{off m total:Nat}{α β:Type}{f:α→List Value}{good:α→Prop}{f':β→List Value}{good':β→Prop}
  (ho:fd.offset=off) (hc:P.cellsOf fd.type=m) (h1:Reader P W fd.type f good) (h2:n0c P W fs (off+m) total f' good') :
  n0c P W (fd :: fs) off (m+total) (fun x:α × β=>f x.1++f' x.2) (fun x=>good x.1∧good' x.2):=by
 intro H enc n cs xs hl hx hw
 cases xs with
 | nil=>simp at hl
 | cons y ys =>
  have e0:=hx 0 fd rfl
  simp only [List.getElem?_cons_zero] at e0
  rw [ho,hc] at e0
  obtain ⟨a,ha,ga⟩:=h1 H enc n _ y e0 (fun k hk=>hw k (by simp only [List.map_cons,DataW.weightsEach,List.mem_append];exact .inl hk))
  obtain ⟨b,hb,gb⟩:=h2 H enc n cs ys (by simpa using hl) (fun i fd' hi=>by have:=hx (i+1) fd' (by simpa using hi);simpa using this) (fun k hk=>hw k (by simp only [List.map_cons,DataW.weightsEach,List.mem_append];exact .inr hk))
  refine ⟨(a,b),?_,ga,gb⟩
  rw [List.take_add,ha,List.drop_drop,hb]
theorem d0X {P:Program}{W:World}{t:TypeId}{fs:Array Field}{total:Nat}{α:Type}{f:α→List Value}{good:α→Prop}(ht:P.underlying t=some (.struct fs))(hc:P.cellsOf t=total)(h:n0c P W fs.toList 0 total f good):Reader P W t f good:=by
 intro H enc fuel cs x hx hw
 obtain ⟨xs,n,_,rfl,hl,hlen,hf⟩:=DataW.trod_struct ht hx
 obtain ⟨a,ha,ga⟩:=h H enc n cs xs (by simpa using hlen) (fun i fd hi=>hf i fd (by simpa using hi)) (fun k hk=>hw k (by simp only [DataW.weights,ht];exact hk))
 refine ⟨a,?_,ga⟩
 rw [List.drop_zero,List.take_of_length_le (by rw [hl,hc];exact Nat.le_refl _)] at ha
 exact ha
end Go.Proofs.YthjgmldnegaaiaaGreatDoor
namespace Go.Proofs.YthjgmldnegaaiaaGreatDoor.Mir
open Go
inductive F where
 | v (x:Value)
 | s (xs:List F) (n:Nat)
 | e
 deriving Inhabited
inductive D where
 | f (x:F)
 | sl (r off n:Nat)
 | pt (r off:Nat)
 | rf (xs:List F)
 | ag (xs:List D)
 | tp (xs:List D)
 | fn (f:FuncId) (caps:List D)
 | mp (r:Nat)
 | junk
 deriving Inhabited
inductive Row where
 | dead
 | box (T:TypeId) (xs:List D)
 | data (T:TypeId) (xs:List F)
 | froz (T:TypeId) (xs:List F)
 | map (es:List (Value × D))
 deriving Inhabited
abbrev D.v (x:Value):D:=.f (.v x)
def D.int (n:Int):D:=.f (.v (.int .i64 n))
def D.bool (b:Bool):D:=.f (.v (.bool b))
def D.undef:D:=.tp []
def D.val?:D→Option Value
 | .f (.v x)=>some x
 | .ag ds=>(go ds).map fun l=>.agg l.toArray
 | .tp ds=>(go ds).map fun l=>.tuple l.toArray
 | _=>none
where
 go:List D→Option (List Value)
  | []=>some []
  | .f (.v x) :: ds=>(go ds).map (x :: ·)
  | _ :: _=>none
def D.of:Value→D
 | .agg cs=>if cs.toList.all (·.oneCell') then .ag (cs.toList.map .v) else .junk
 | .tuple cs=>if cs.toList.all (·.oneCell') then .tp (cs.toList.map .v) else .junk
 | x=>.v x
def D.cells:D→List D
 | .ag ds=>ds
 | d=>[d]
def d0Y {α:Type}(P:Program):Sem α→Option α
 | .pure a=>some a
 | .program k=>d0Y P (k P)
 | .mark (.write _) k=>d0Y P k
 | _=>none
theorem r0x {α:Type}{P:Program}{s:Sem α}{a:α}(h:d0Y P s=some a)(w:World):s.run P w = .ok a w:=by
 induction s with
 | pure b=>simp [d0Y] at h;subst h;rfl
 | program k ih=>simp only [d0Y] at h;exact ih P h
 | mark m k ih =>
  cases m<;>simp only [d0Y] at h<;>first|cases h|exact ih h
 | _=>simp [d0Y] at h
structure Eff where
 res:D
 upd:List (Nat × Row):=[]
 news:List Row:=[]
def a0B (H:List Row):List (Nat × Row)→List Row
 | []=>H
 | (i,r) :: us=>a0B (H.set i r) us
def Eff.heap (e:Eff)(H:List Row):List Row:=a0B H e.upd++e.news
section
variable (P:Program)
def d0s (T:TypeId):Option Bool :=
 match P.underlying T with
 | some (.struct _)=>some true
 | some (.array _ _)=>some true
 | some _=>some false
 | none=>none
def inf (T:TypeId):Option (Nat × Nat × List Value) :=
 match P.info? T with
 | some i=>match i.zero with
  | some z=>if z.cells.toList.all (·.oneCell')&&z.cells.toList.length==i.size then some (i.size,i.bytes,z.cells.toList) else none
  | none=>none
 | none=>none
def e0c (T:TypeId)(xs:List D)(off:Nat):Option D :=
 match d0s P T,inf P T with
 | some true,some (n,_,_)=>if off+n≤xs.length then some (.ag ((xs.drop off).take n)) else none
 | some false,_=>xs[off]?
 | _,_=>none
def Row.cells:Row→Option (List D)
 | .box _ xs=>some xs
 | .data _ xs=>some (xs.map .f)
 | .froz _ xs=>some (xs.map .f)
 | _=>none
def h0O (H:List Row)(T:TypeId):D→Option D
 | .pt r off=>match H[r]? with
  | some row=>match row.cells with
   | some xs=>e0c P T xs off
   | none=>none
  | none=>none
 | .rf xs=>e0c P T (xs.map .f) 0
 | _=>none
def b0T (H:List Row):D→Option (F × List (Nat × Row))
 | .f x=>some (x,[])
 | .sl r off n =>
  if n=0 then some (.s [] 0,[]) else
  match H[r]? with
  | some (.data T xs)=>match inf P T with
   | some (sz,_,_)=>if off+n*sz≤xs.length∧0<sz then some (.s ((xs.drop off).take (n*sz)) n,[(r,.froz T xs)]) else none
   | none=>none
  | some (.froz T xs)=>match inf P T with
   | some (sz,_,_)=>if off+n*sz≤xs.length then some (.s ((xs.drop off).take (n*sz)) n,[]) else none
   | none=>none
  | _=>none
 | _=>none
def a0U (H:List Row):List D→Option (List F × List (Nat × Row))
 | []=>some ([],[])
 | d :: ds =>
  match b0T P H d with
  | some (x,u)=>match a0U (a0B H u) ds with
   | some (xs,us)=>some (x :: xs,u++us)
   | none=>none
  | none=>none
def splice {α:Type}(xs:List α)(off:Nat)(ys:List α):List α:=xs.take off++ys++xs.drop (off+ys.length)
def b0I:D→Bool
 | .junk=>false
 | .tp _=>false
 | _=>true
def m0j (H:List Row)(T:TypeId)(a x:D):Option Eff :=
 match a,inf P T with
 | .pt r off,some (n,_,_) =>
  match H[r]? with
  | some (.box U xs) =>
   if b0I x=true∧x.cells.length=n∧off+n≤xs.length then some ⟨D.undef,[(r,.box U (splice xs off x.cells))],[]⟩ else none
  | some (.data U xs) =>
   if b0I x=true∧x.cells.length=n∧off+n≤xs.length∧0<n then
    match a0U P H x.cells with
    | some (ys,us)=>match (a0B H us)[r]? with
     | some (.data U ws)=>some ⟨D.undef,us++[(r,.data U (splice ws off ys))],[]⟩
     | _=>none
    | none=>none
   else none
  | _=>none
 | _,_=>none
def g0P (H:List Row)(T:TypeId):D→Option (Nat × List D)
 | .f (.v (.slice none 0 0))=>some (0,[])
 | .f .e=>some (0,[])
 | .f (.s xs n)=>some (n,xs.map .f)
 | .sl r off n =>
  if n=0 then some (0,[]) else
  match H[r]?,inf P T with
  | some row,some (sz,_,_)=>match row.cells with
   | some xs=>if off+n*sz≤xs.length then some (n,(xs.drop off).take (n*sz)) else none
   | none=>none
  | _,_=>none
 | _=>none
def fs?:List D→Option (List F)
 | []=>some []
 | .f x :: ds=>(fs? ds).map (x :: ·)
 | _ :: _=>none
def most:Nat:=140737488355328
def c0u (H:List Row)(st:TypeId)(s x:D):Option Eff :=
 match P.underlying st with
 | some (.slice T)=>match inf P T,g0P P H T x with
  | some (sz,by_,z),some (m,cs) =>
   if m=0 then (match s with|.f (.v (.slice none 0 0))=>some ⟨s,[],[]⟩|.f .e=>some ⟨s,[],[]⟩|.f (.s _ _)=>some ⟨s,[],[]⟩|.sl _ _ _=>some ⟨s,[],[]⟩|_=>none) else
   match fs? cs with
   | some ys =>
    if ys.length=m*sz∧0<sz then
     match s with
     | .f (.v (.slice none 0 0))=>if m*by_≤most∧m≤most∧z.length=sz then some ⟨.sl H.length 0 m,[],[.data T ys]⟩ else none
     | .f .e=>if m*by_≤most∧m≤most∧z.length=sz then some ⟨.sl H.length 0 m,[],[.data T ys]⟩ else none
     | .sl r off n=>match H[r]? with
      | some (.data U xs) =>
       if U=T∧xs.length=off+n*sz∧(n+m)*by_≤most∧n+m≤most∧z.length=sz then some ⟨.sl H.length 0 (n+m),[(r,.dead)],[.data T (xs.drop off++ys)]⟩ else none
      | _=>none
     | _=>none
    else none
   | none=>none
  | _,_=>none
 | _=>none
def nat?:D→Option Nat
 | .f (.v (.int _ n))=>if 0≤n then some n.toNat else none
 | _=>none
def d0k (place:Nat→Option (Nat × Nat))(cells:List D):List (Nat × D)→Option (List D)
 | []=>some cells
 | (i,d) :: rest =>
  match place i with
  | none=>none
  | some (off,size)=>if b0I d=true∧d.cells.length=size∧off+size≤cells.length then d0k place (splice cells off d.cells) rest else none
def q0F (T:TypeId)(parts:List (Nat × D)):Option D :=
 match P.underlying T,inf P T with
 | some (.struct fs),some (_,_,z) =>
  if fs.toList.all fun f=>(P.info? f.type).isSome then
   (d0k (fun i=>match fs[i]? with|some f=>(P.info? f.type).map fun q=>(f.offset,q.size)|none=>none) (z.map .v) parts).map .ag
  else none
 | _,_=>none
def b0u (H:List Row)(st:TypeId)(len:Nat)(parts:List (Nat × D)):Option Eff :=
 match P.underlying st with
 | some (.slice T)=>match inf P T with
  | some (sz,_,z) =>
   if 0<sz∧0<len∧len*sz≤100000 then
    match d0k (fun i=>some (i*sz,sz)) ((List.range (len*sz)).map fun j=>D.v (z.getD (j % sz) Go.undef)) parts with
    | some cs=>match a0U P H cs with
     | some (xs,us)=>some ⟨.sl H.length 0 len,us,[.data T xs]⟩
     | none=>none
    | none=>none
   else if 0<sz∧len=0∧parts.isEmpty then some ⟨.sl H.length 0 0,[],[.data T []]⟩
   else none
  | none=>none
 | _=>none
def h0o (H:List Row)(r:Nat):Option TypeId :=
 match H[r]? with
 | some (.data U xs)=>if 0<xs.length then some U else none
 | some (.froz U _)=>some U
 | _=>none
def d0x (H:List Row)(T:TypeId)(x:D)(lo hi mx:Option D):Option D :=
 match P.underlying T with
 | some (.slice E)=>match inf P E with
  | some (sz,_,_) =>
   let n?:=match x with
    | .sl _ _ n=>some n
    | .f (.s _ n)=>some n
    | .f .e=>some 0
    | .f (.v (.slice none 0 0))=>some 0
    | _=>none
   match n? with
   | some n =>
    let l?:=match lo with|none=>some 0|some d=>nat? d
    let h?:=match hi with|none=>some n|some d=>nat? d
    match l?,h? with
    | some l,some h =>
     if l≤h∧h≤n then
      match mx with
      | none=>match x with
       | .sl r off _=>if l=h then some (.f (.s [] 0)) else if h0o H r=some E then some (.sl r (off+l*sz) (h-l)) else none
       | .f (.s xs _)=>some (.f (.s ((xs.drop (l*sz)).take ((h-l)*sz)) (h-l)))
       | y=>some y
      | some m=>if nat? m=some l∧l=h∧hi.isSome=true then (match x with|.f (.v (.slice none 0 0))=>some x|_=>some (.f .e)) else none
     else none
    | _,_=>none
   | none=>none
  | none=>none
 | some .string=>match x,mx with
  | .f (.v (.string s)),none =>
   let l?:=match lo with|none=>some 0|some d=>nat? d
   let h?:=match hi with|none=>some s.size|some d=>nat? d
   match l?,h? with
   | some l,some h=>if l≤h∧h≤s.size then some (.f (.v (.string (s.extract l h)))) else none
   | _,_=>none
  | _,_=>none
 | _=>none
def e0Q (T:TypeId)(f:Nat):Option (Nat × TypeId) :=
 match P.underlying T with
 | some (.struct fs)=>(fs[f]?).map fun x=>(x.offset,x.type)
 | _=>none
def c0Z (T:TypeId)(x:D)(f:Nat):Option D :=
 match e0Q P T f with
 | some (o,U)=>match inf P U with
  | some (sz,_,_)=>if sz=0 then none else
   match x with
   | .pt r off=>some (.pt r (off+o))
   | .rf xs=>some (.rf (xs.drop o))
   | _=>none
  | none=>none
 | none=>none
def j0E (T:TypeId)(x:D)(f:Nat):Option D :=
 match e0Q P T f,x with
 | some (o,U),.ag ds=>e0c P U ds o
 | _,_=>none
def b0x (T:TypeId)(x i:D):Option D :=
 match P.underlying T,nat? i with
 | some (.slice E),some k=>match inf P E with
  | some (sz,_,_)=>match x with
   | .sl r off n=>if k<n then some (.pt r (off+k*sz)) else none
   | .f (.s xs n)=>if k<n∧0<sz then some (.rf (xs.drop (k*sz))) else none
   | _=>none
  | none=>none
 | some (.array n E),some k=>match inf P E with
  | some (sz,_,_)=>match x with
   | .pt r off=>if k<n then some (.pt r (off+k*sz)) else none
   | _=>none
  | none=>none
 | _,_=>none
def c0K:D→Option (Nat × Bool)
 | .f (.v (.slice none 0 0))=>some (0,true)
 | .f (.v (.pointer none))=>some (1,true)
 | .f (.v (.map none))=>some (2,true)
 | .f (.s _ (_+1))=>some (0,false)
 | .sl _ _ (_+1)=>some (0,false)
 | .pt _ _=>some (1,false)
 | .rf _=>some (1,false)
 | .mp _=>some (2,false)
 | _=>none
def h0K (T:TypeId):Option Nat :=
 match P.underlying T with
 | some (.slice _)=>some 0
 | some (.pointer _)=>some 1
 | some (.map _ _)=>some 2
 | _=>none
def r0O (T:TypeId)(x y:D):Option Bool :=
 match h0K P T,c0K x,c0K y with
 | some k,some (i,a),some (j,b)=>if k=i∧k=j∧(a=true∨b=true) then some (a&&b) else none
 | _,_,_=>none
def f0g:Value→Value→Option Bool
 | .int k a,.int k' b=>if k=k' then some (a==b) else none
 | .string a,.string b=>some (a==b)
 | .bool a,.bool b=>some (a==b)
 | _,_=>none
def k0f (k:Value):List (Value × D)→Option (Option D)
 | []=>some none
 | (x,d) :: es=>match f0g k x with
  | some true=>some (some d)
  | some false=>k0f k es
  | none=>none
def putD (k:Value)(d:D):List (Value × D)→List (Value × D)
 | []=>[(k,d)]
 | (x,y) :: es=>if f0g k x=some true then (k,d) :: es else (x,y) :: putD k d es
def k0j (k:Value):List (Value × D)→List (Value × D)
 | []=>[]
 | (x,y) :: es=>if f0g k x=some true then es else (x,y) :: k0j k es
def i0Z (T:TypeId)(k:Value):Bool :=
 match P.underlying T,k with
 | some (.int a),.int b _=>a==b
 | some .string,.string _=>true
 | some .bool,.bool _=>true
 | _,_=>false
def y0t (T:TypeId):Option D :=
 match P.info? T with
 | some i=>i.zero.map D.of
 | none=>none
def f0r (H:List Row):D→Option (List (Value × D))
 | .f (.v (.map none))=>some []
 | .mp r=>match H[r]? with
  | some (.map es)=>some es
  | _=>none
 | _=>none
def f0u (H:List Row)(T:TypeId)(m k:D)(ok:Bool):Option D :=
 match P.underlying T,f0r H m,k with
 | some (.map K E),some es,.f (.v key) =>
  if i0Z P K key then
   match k0f key es,y0t P E with
   | some (some d),_=>some (if ok then .tp [d,.bool true] else d)
   | some none,some z=>some (if ok then .tp [z,.bool false] else z)
   | _,_=>none
  else none
 | _,_,_=>none
def f0s (H:List Row):D→Option (D × List (Nat × Row))
 | .ag ds=>match a0U P H ds with
  | some (xs,us)=>some (.ag (xs.map .f),us)
  | none=>none
 | .tp _=>none
 | d=>match b0T P H d with
  | some (x,us)=>some (.f x,us)
  | none=>none
def d0q (H:List Row)(T:TypeId)(m k x:D):Option Eff :=
 match P.underlying T,m,k with
 | some (.map K _),.mp r,.f (.v key) =>
  if i0Z P K key then
   match f0s P H x with
   | some (y,us)=>match (a0B H us)[r]? with
    | some (.map es)=>match k0f key es with
     | some _=>some ⟨D.undef,us++[(r,.map (putD key y es))],[]⟩
     | none=>none
    | _=>none
   | none=>none
  else none
 | _,_,_=>none
def g0F (H:List Row)(T:TypeId)(m k:D):Option Eff :=
 match P.underlying T,m,k with
 | some (.map K _),.mp r,.f (.v key) =>
  if i0Z P K key then
   match H[r]? with
   | some (.map es)=>match k0f key es with
    | some _=>some ⟨.tp [],[(r,.map (k0j key es))],[]⟩
    | none=>none
   | _=>none
  else none
 | _,_,_=>none
def c0C:D→Option Nat
 | .f (.v (.slice none 0 0))=>some 0
 | .f .e=>some 0
 | .f (.s _ n)=>some n
 | .sl _ _ n=>some n
 | _=>none
def lenD (H:List Row)(t:TypeId)(x:D):Option Nat :=
 match P.underlying t with
 | some (.slice _)=>c0C x
 | some (.map _ _)=>(f0r H x).map (·.length)
 | _=>none
def bytesOf?:List D→Option (List UInt8)
 | []=>some []
 | .f (.v (.int .u8 n)) :: ds=>(bytesOf? ds).map (UInt8.ofNat n.toNat :: ·)
 | _ :: _=>none
def c0r (H:List Row)(src dst:TypeId)(x:D):Option Eff :=
 match P.underlying src,P.underlying dst with
 | some .string,some (.slice E)=>match P.underlying E,x with
  | some (.int .u8),.f (.v (.string s))=>if s.size≤most then some ⟨.f (.s (s.data.toList.map fun b=>.v (.int .u8 b.toNat)) s.size),[],[]⟩ else none
  | _,_=>none
 | some (.slice _),some (.slice E)=>match src==dst,P.underlying E,x with
  | true,some (.int .u8),.sl r off n=>match H[r]?,inf P E with
   | some (.data U xs),some (1,_,_)=>if U=E∧0<n∧off+n≤xs.length then some ⟨.f (.s ((xs.drop off).take n) n),[(r,.froz U xs)],[]⟩ else none
   | _,_=>none
  | _,_,_=>none
 | some (.slice E),some .string=>match P.underlying E,inf P E,g0P P H E x with
  | some (.int .u8),some (1,_,_),some (m,cs)=>match bytesOf? cs with
   | some l=>if cs.length=m then some ⟨.v (.string ⟨l.toArray⟩),[],[]⟩ else none
   | none=>none
  | _,_,_=>none
 | _,_=>none
def d0I (H:List Row)(T:TypeId)(l c:D):Option Eff :=
 match P.underlying T,l,c with
 | some (.slice E),.f (.v (.int .i64 a)),.f (.v (.int .i64 b))=>match inf P E with
  | some (sz,by_,z) =>
   if (0<a∨b=0)∧0≤a∧a≤b∧by_*b≤140737488355328∧b.toNat*sz≤16777216∧0<sz then
    some ⟨.sl H.length 0 a.toNat,[],[.data E ((List.range (a.toNat*sz)).map fun j=>F.v (z.getD (j % sz) Go.undef))]⟩
   else none
  | none=>none
 | _,_,_=>none
def j0W (H:List Row)(t:TypeId)(x:D):Option Eff :=
 match P.underlying t,x with
 | some (.slice _),.f (.v (.slice none 0 0))=>some ⟨.tp [],[],[]⟩
 | some (.slice E),.sl r off n =>
  if n=0 then some ⟨.tp [],[],[]⟩ else
  match H[r]?,inf P E with
  | some (.data U xs),some (sz,_,z) =>
   if off+n*sz≤xs.length∧0<sz then some ⟨.tp [],[(r,.data U (splice xs off ((List.range (n*sz)).map fun j=>F.v (z.getD (j % sz) Go.undef))))],[]⟩ else none
  | _,_=>none
 | _,_=>none
def eval (ts:List D):Operand→D
 | .tmp t=>ts.getD t D.undef
 | .const v=>D.of v
 | .global _=>.junk
 | .func f=>.fn f []
def d0F:Op→Bool
 | .select ..=>false
 | _=>true
def f0L (ts:List D)(o:Oper):Option D :=
 let ρ:Operand→Value:=fun x=>((eval ts x).val?).getD Go.undef
 if d0F o.op&&o.op.operands.toList.all fun x=>((eval ts x).val?).isSome then
  match d0Y P (execOp ρ o) with
  | some (.value v)=>some (D.of v)
  | _=>none
 else none
abbrev a0t:=FuncId→List D→List Row→Option Eff
def p0B (call:a0t)(ts:List D)(H:List Row)(c:Call):Option Eff :=
 match c.callee,c.args.toList.map (eval ts),c.argTypes.toList with
 | .builtin .append,[s,x],[t,u]=>if t=u then c0u P H t s x else none
 | .builtin .len,[x],[t]=>(lenD P H t x).map fun (n:Nat)=>⟨D.int (n:Int),[],[]⟩
 | .builtin .delete,[m,k],[t,_]=>g0F P H t m k
 | .builtin .clear,[x],[t]=>j0W P H t x
 | .value f,args,_=>match eval ts f with
  | .fn g caps=>match P.funcs[g]? with
   | some fn=>if fn.body.isSome then call g (args++caps) H else none
   | none=>none
  | _=>none
 | _,_,_=>none
def a0v (call:a0t)(ts:List D)(H:List Row)(o:Oper):Option Eff :=
 let ρ:=eval ts
 let val (d:Option D):Option Eff:=d.map fun d=>⟨d,[],[]⟩
 match o.op with
 | .move x=>some ⟨ρ x,[],[]⟩
 | .assign x=>some ⟨ρ x,[],[]⟩
 | .pick c a b=>match ρ c with
  | .f (.v (.bool t))=>some ⟨if t then ρ a else ρ b,[],[]⟩
  | _=>none
 | .alloc T=>match inf P T with
  | some (_,_,z)=>some ⟨.pt H.length 0,[],[.box T (z.map .v)]⟩
  | none=>none
 | .box T x=>if b0I (ρ x) then some ⟨.pt H.length 0,[],[.box T (ρ x).cells]⟩ else none
 | .load T a=>val (h0O P H T (ρ a))
 | .store T a x=>m0j P H T (ρ a) (ρ x)
 | .nilCheck x=>match ρ x with
  | .pt r off=>some ⟨.pt r off,[],[]⟩
  | .rf xs=>some ⟨.rf xs,[],[]⟩
  | .fn f cs=>some ⟨.fn f cs,[],[]⟩
  | _=>none
 | .makeFunc (.func f) first captured=>if first.size=0 then some ⟨.fn f (captured.toList.map ρ),[],[]⟩ else none
 | .makeMap _ none=>some ⟨.mp H.length,[],[.map []]⟩
 | .makeSlice T l c=>d0I P H T (ρ l) (ρ c)
 | .fieldAddr T x f=>val (c0Z P T (ρ x) f)
 | .indexAddr T x i=>val (b0x P T (ρ x) (ρ i))
 | .buildSlice T n ps=>b0u P H T n (ps.toList.map fun p=>(p.1,ρ p.2))
 | .mapUpdate T m k x=>d0q P H T (ρ m) (ρ k) (ρ x)
 | .insert T m k x=>d0q P H T (ρ m) (ρ k) (ρ x)
 | .lookup T m k ok=>val (f0u P H T (ρ m) (ρ k) ok)
 | .extract x i=>match ρ x with
  | .tp ds=>(ds[i]?).map fun d=>⟨d,[],[]⟩
  | _=>none
 | op=>match f0L P ts o with
  | some d=>some ⟨d,[],[]⟩
  | none=>match op with
   | .call c=>p0B P call ts H c
   | .slice T x lo hi mx=>val (d0x P H T (ρ x) (lo.map ρ) (hi.map ρ) (mx.map ρ))
   | .field T x f=>val (j0E P T (ρ x) f)
   | .build T ps=>val (q0F P T (ps.toList.map fun p=>(p.1,ρ p.2)))
   | .convert a b x=>c0r P H a b (ρ x)
   | .binOp .eql T x y _=>(r0O P T (ρ x) (ρ y)).map fun b=>⟨D.bool b,[],[]⟩
   | .binOp .neq T x y _=>(r0O P T (ρ x) (ρ y)).map fun b=>⟨D.bool (!b),[],[]⟩
   | _=>none
end
end Go.Proofs.YthjgmldnegaaiaaGreatDoor.Mir
namespace Go.Proofs.YthjgmldnegaaiaaGreatDoor.Mir
open Go
structure St where
 ts:List D
 H:List Row
 dirty:List Nat:=[]
def putD! (ts:List D)(dst:Option Tmp)(d:D):List D :=
 match dst with
 | some t=>ts.set t d
 | none=>ts
def b0a (ops:List Oper)(ts:List D)(o:Oper):Option Bool :=
 match o.guard with
 | none=>some true
 | some (j,want)=>match ops[j]? with
  | some q=>match q.dst with
   | some t=>match ts[t]? with
    | some (.f (.v (.bool b)))=>some (b==want)
    | some (.f (.v _))=>some false
    | some (.tp _)=>some false
    | _=>none
   | none=>none
  | none=>none
section
variable (P:Program)(call:a0t)
def g0z (ops:List Oper):List Oper→St→Option St
 | [],s=>some s
 | o :: rest,s =>
  match b0a ops s.ts o with
  | some true=>match a0v P call s.ts s.H o with
   | some e=>g0z ops rest ⟨putD! s.ts o.dst e.res,e.heap s.H,e.upd.map (·.1)++s.dirty⟩
   | none=>none
  | some false=>g0z ops rest ⟨putD! s.ts o.dst D.undef,s.H,s.dirty⟩
  | none=>none
def b1u:Op→Bool
 | .move _|.assign _|.pick ..|.alloc _|.box ..|.nilCheck _|.makeFunc ..|.makeMap ..|.makeSlice ..|.fieldAddr ..|.indexAddr ..|.extract ..|.binOp ..|.unOp ..|.field ..|.build ..|.index ..=>false
 | .call { callee:=.builtin .min,.. }=>false
 | .call { callee:=.builtin .max,.. }=>false
 | _=>true
def e0A (ops:List Oper)(o:Oper):List Tmp :=
  (o.op.operands.toList.filterMap fun|.tmp t=>some t|_=>none) ++
  (match o.guard with
   | some (g,_)=>((ops[g]?).bind (·.dst)).toList
   | none=>[])
def f0h (ops:List Oper)(b:List Nat):Bool :=
 ops.zipIdx.all fun (o,i) =>
  decide (b.getD i 0<2 ^ i)&&(ops.zipIdx.all fun (q,j)=>match q.dst with
   | some t=>(!(e0A ops o).contains t||(b.getD i 0).testBit j||(b.getD j 0).testBit i||i==j)&&(i==j||o.dst != some t)
   | none=>true)
def b0g (V:List Nat)(H:List Row):List Row:=H.zipIdx.map fun p=>if V.contains p.2 then p.1 else .dead
def g0Q (m:Nat)(V U:List Nat):Nat→List (List Nat × List Nat)→Bool
 | _,[]=>true
 | j,(V',U') :: l=>(m.testBit j||((U'.all fun x=>!V.contains x)&&U.all fun x=>!V'.contains x))&&g0Q m V U (j+1) l
def D.refs:D→List Nat
 | .sl r _ _=>[r]
 | .pt r _=>[r]
 | .mp r=>[r]
 | .ag ds=>go ds
 | .tp ds=>go ds
 | .fn _ ds=>go ds
 | _=>[]
where
 go:List D→List Nat
  | []=>[]
  | d :: ds=>D.refs d++go ds
def Row.refs:Row→List Nat
 | .box _ xs=>xs.flatMap D.refs
 | _=>[]
def n0v (n0:Nat)(own:List Nat)(m base r:Nat):Bool :=
 decide (r<n0)||decide (base≤r)||(match own[r-n0]? with|some k=>m.testBit k|none=>false)
def f0f (n0:Nat)(own:List Nat)(m r:Nat):Bool :=
 decide (r<n0)||(match own[r-n0]? with|some k=>m.testBit k|none=>false)
def inOk (n0:Nat)(own:List Nat)(m:Nat)(ts:List D)(M:List Row)(o:Oper):Bool :=
 (o.op.operands.toList.all fun x=>(eval ts x).refs.all (f0f n0 own m))&&M.all fun r=>r.refs.all (f0f n0 own m)
def y0b (n0:Nat)(own:List Nat)(m base:Nat)(e:Eff):Bool :=
 e.res.refs.all (n0v n0 own m base)&&(e.upd.all fun p=>p.2.refs.all (n0v n0 own m base))&&e.news.all fun r=>r.refs.all (n0v n0 own m base)
def b1N (H:List Row)(n0:Nat):Nat→List Nat→List Nat→List Nat
 | 0,_,seen=>seen
 | _+1,[],seen=>seen
 | k+1,r :: todo,seen =>
  if r<n0∨seen.contains r then b1N H n0 k todo seen
  else b1N H n0 k (((H[r]?).map Row.refs).getD []++todo) (seen++[r])
def t0k (ts:List D)(H:List Row)(o:Oper):List Nat :=
 if b1u o.op then
  let rs:=o.op.operands.toList.flatMap fun x=>(eval ts x).refs
  match o.op with
  | .call { callee:=.value _,.. }=>b1N H 0 (1000+4*H.length) rs []
  | _=>dedupN rs
 else []
where
 dedupN:List Nat→List Nat
  | []=>[]
  | x :: xs=>if xs.contains x then dedupN xs else x :: dedupN xs
def d0d (ops:List Oper)(b:List Nat)(n0:Nat):List Oper→Nat→List Nat→List (List Nat × List Nat)→St→Option (St × List Nat)
 | [],_,own,_,s=>some (s,own)
 | o :: rest,i,own,log,s =>
  match b0a ops s.ts o with
  | some true =>
   let m:=b.getD i 0
   let V:=t0k s.ts s.H o
   let M:=b0g V s.H
   match a0v P call s.ts M o with
   | some e =>
    if V.all (f0f n0 own m)&&inOk n0 own m s.ts M o&&y0b n0 own m s.H.length e&&(e.upd.all fun p=>V.contains p.1&&decide (p.1<s.H.length))&&g0Q m V (e.upd.map (·.1)) 0 log then
     d0d ops b n0 rest (i+1) (own++e.news.map fun _=>i) (log++[(V,e.upd.map (·.1))]) ⟨putD! s.ts o.dst e.res,e.heap s.H,e.upd.map (·.1)++s.dirty⟩
    else none
   | none=>none
  | some false=>d0d ops b n0 rest (i+1) own (log++[([],[])]) ⟨putD! s.ts o.dst D.undef,s.H,s.dirty⟩
  | none=>none
def findIdx? (r:Nat):List Nat→Option Nat
 | []=>none
 | x :: xs=>if x=r then some 0 else (findIdx? r xs).map (· + 1)
def renN (n0:Nat)(seen:List Nat)(r:Nat):Option Nat :=
 if r<n0 then some r else (findIdx? r seen).map (n0 + ·)
def renD (n0:Nat)(seen:List Nat):D→Option D
 | .f x=>some (.f x)
 | .sl r o n=>(renN n0 seen r).map fun r=>.sl r o n
 | .pt r o=>(renN n0 seen r).map fun r=>.pt r o
 | .mp r=>(renN n0 seen r).map .mp
 | .rf xs=>some (.rf xs)
 | .ag ds=>(go ds).map .ag
 | .tp ds=>(go ds).map .tp
 | .fn f ds=>(go ds).map (.fn f)
 | .junk=>some .junk
where
 go:List D→Option (List D)
  | []=>some []
  | d :: ds=>match renD n0 seen d,go ds with
   | some x,some xs=>some (x :: xs)
   | _,_=>none
def d0L (n0:Nat)(seen:List Nat):Row→Option Row
 | .box T xs=>(renD.go n0 seen xs).map (.box T)
 | r=>some r
def i0s:List Nat→Bool
 | []=>true
 | x :: xs=>!xs.contains x&&i0s xs
def i0u (n0:Nat)(seen:List Nat)(H:List Row):List Nat→Option (List Row)
 | []=>some []
 | r :: rs=>match H[r]? with
  | some row=>match d0L n0 seen row,i0u n0 seen H rs with
   | some x,some xs=>some (x :: xs)
   | _,_=>none
  | none=>none
def l0e (n0:Nat)(seen:List Nat)(H:List Row):List Nat→Option (List (Nat × Row))
 | []=>some []
 | i :: is =>
  if i<n0 then
   match H[i]? with
   | some row=>match d0L n0 seen row,l0e n0 seen H is with
    | some x,some xs=>some ((i,x) :: xs)
    | _,_=>none
   | none=>none
  else l0e n0 seen H is
def n0M:List Nat→List Nat
 | []=>[]
 | x :: xs=>if xs.contains x then n0M xs else x :: n0M xs
def gather (n0:Nat)(d:D)(dirty:List Nat)(H:List Row):Option Eff :=
 let dt:=(n0M dirty).filter (· < n0)
 let seen:=b1N H n0 (1000+4*H.length) (d.refs++dt.flatMap fun i=>((H[i]?).map Row.refs).getD []) []
 if i0s seen&&seen.all (n0 ≤ ·) then
  match renD n0 seen d,l0e n0 seen H dt,i0u n0 seen H seen with
  | some x,some us,some ns=>some ⟨x,us,ns⟩
  | _,_,_=>none
 else none
def sweep (n0:Nat)(keep:List Nat)(s:St):Option St :=
 let ts:=s.ts.zipIdx.map fun p=>if keep.contains p.2 then p.1 else .junk
 match gather n0 (.tp ts) s.dirty s.H with
 | some ⟨.tp ts',us,ns⟩=>some ⟨ts',a0B (s.H.take n0) us++ns,s.dirty⟩
 | _=>none
def tidy (n0:Nat)(keep:List Nat)(s:St):Option St :=
 bif Nat.ble s.H.length (n0+40) then some s else sweep n0 keep s
inductive Out where
 | normal
 | exit (id:Nat)
 | ret
def exec (n0:Nat)(keep:List Nat):Nat→Code→St→Option (Out × St)
 | 0,_,_=>none
 | n+1,c,s =>
  match c with
  | .skip=>some (.normal,s)
  | .label _=>some (.normal,s)
  | .region _ ops false=>(g0z P call ops.toList ops.toList s).map fun s=>(.normal,s)
  | .region _ ops true =>
   let b:=(Region.before ops).toList
   if f0h ops.toList b then (d0d P call ops.toList b s.H.length ops.toList 0 [] [] s).map fun p=>(.normal,p.1) else none
  | .seq x y=>match exec n0 keep n x s with
   | some (.normal,s')=>exec n0 keep n y s'
   | r=>r
  | .cond c x y=>match eval s.ts c with
   | .f (.v (.bool t))=>exec n0 keep n (if t then x else y) s
   | _=>none
  | .block id x=>match exec n0 keep n x s with
   | some (.exit id',s')=>if id'=id then some (.normal,s') else some (.exit id',s')
   | r=>r
  | .loop x=>match exec n0 keep n x s with
   | some (.normal,s')=>match tidy n0 keep s' with
    | some s''=>exec n0 keep n (.loop x) s''
    | none=>none
   | r=>r
  | .exit id=>some (.exit id,s)
  | .ret=>some (.ret,s)
  | _=>none
def b0v (H:List Row)(ts:List D):List ResultVar→Option (List D)
 | []=>some []
 | .tmp t :: rs=>(b0v H ts rs).map (ts.getD t D.undef :: ·)
 | .cell a T :: rs=>match h0O P H T (ts.getD a D.undef),b0v H ts rs with
  | some d,some ds=>some (d :: ds)
  | _,_=>none
def one:List D→D
 | [d]=>d
 | ds=>.tp ds
end
def z0j:List Oper→List Nat→List Nat
 | [],_=>[]
 | o :: rest,w=>((o.op.operands.toList.filterMap fun|.tmp t=>some t|_=>none).filter fun t=>!w.contains t)++z0j rest (o.dst.toList++w)
def o0U:Code→List Nat
 | .region _ ops _=>z0j ops.toList []
 | .seq a b=>o0U a++o0U b
 | .cond c a b=>(match c with|.tmp t=>[t]|_=>[])++(o0U a++o0U b)
 | .block _ a=>o0U a
 | .loop a=>o0U a
 | .scope a=>o0U a
 | _=>[]
def e1n:List ResultVar→List Nat
 | []=>[]
 | .tmp t :: rs=>t :: e1n rs
 | .cell t _ :: rs=>t :: e1n rs
def y0R (fn:Func)(c:Code):List Nat:=n0M (o0U c++e1n fn.results.toList)
abbrev Ext:=FuncId→Option (List D→List Row→Option Eff)
def run (P:Program)(ext:Ext):Nat→a0t
 | 0,_,_,_=>none
 | n+1,f,args,H =>
  match ext f with
  | some g=>g args H
  | none=>match P.funcs[f]? with
   | some fn=>match fn.body with
    | some c =>
     match exec P (run P ext n) H.length (y0R fn c) 20000 c ⟨args++List.replicate (fn.ntmps-args.length) D.undef,H,[]⟩ with
     | some (.exit _,_)=>none
     | some (_,s)=>match b0v P s.H s.ts fn.results.toList with
      | some ds=>gather H.length (one ds) s.dirty s.H
      | none=>none
     | none=>none
    | none=>none
   | none=>none
end Go.Proofs.YthjgmldnegaaiaaGreatDoor.Mir
namespace Go.Proofs.YthjgmldnegaaiaaGreatDoor.Mir
open Go Go.RowKit
inductive RF (w:World)(A:Nat→Prop):F→Value→Prop
 | v {x:Value}:x.oneCell'=true→RF w A (.v x) x
 | s {xs:List F} {n cap:Nat} {a:Addr} (cs:List Value):n≤cap→cs.length=xs.length→(∀ (i:Nat) (u:Value),cs[i]?=some u→w.cell? (a.add i)=some u∧¬ A a.block) →
   (∀ (i:Nat) (x:F) (u:Value),xs[i]?=some x→cs[i]?=some u→RF w A x u)→RF w A (.s xs n) (.slice (some a) n cap)
 | s0:RF w A (.s [] 0) (.slice none 0 0)
 | e {a:Option Addr}:RF w A .e (.slice a 0 0)
theorem RF.one {w:World}{A:Nat→Prop}{x:F}{u:Value}(h:RF w A x u):u.oneCell'=true:=by
 cases h<;>first|assumption|rfl
def RFs (w:World)(A:Nat→Prop)(xs:List F)(us:List Value):Prop:=us.length=xs.length∧∀ (i:Nat) (x:F) (u:Value),xs[i]?=some x→us[i]?=some u→RF w A x u
inductive R (P:Program)(w:World)(φ:Nat→Nat × Nat)(A:Nat→Prop)(N:Nat):D→Value→Prop
 | f {x:F} {u:Value}:RF w A x u→R P w φ A N (.f x) u
 | sl {r off n cap:Nat} {cs:Array Value} {T:TypeId} {fr:Nat × Nat} {i:TypeInfo}:0<n→r<N→n≤cap→w.heap[(φ r).1]?=some (.cells cs T fr)→P.info? T=some i→(φ r).2+off+cap*i.size≤cs.size →
   R P w φ A N (.sl r off n) (.slice (some ⟨(φ r).1,(φ r).2+off,none⟩) n cap)
 | sl0 {r off:Nat} {a:Option Addr}:r<N→R P w φ A N (.sl r off 0) (.slice a 0 0)
 | pt {r off:Nat}:r<N→R P w φ A N (.pt r off) (.pointer (some ⟨(φ r).1,(φ r).2+off,none⟩))
 | rf {xs:List F} {a:Addr} (cs:List Value):cs.length=xs.length→(∀ (i:Nat) (u:Value),cs[i]?=some u→w.cell? (a.add i)=some u∧¬ A a.block) →
   (∀ (i:Nat) (x:F) (u:Value),xs[i]?=some x→cs[i]?=some u→RF w A x u)→R P w φ A N (.rf xs) (.pointer (some a))
 | ag {ds:List D} {vs:Array Value}:vs.size=ds.length→(∀ (i:Nat) (d:D) (u:Value),ds[i]?=some d→vs[i]?=some u→R P w φ A N d u)→(∀ u∈vs.toList,u.oneCell'=true)→R P w φ A N (.ag ds) (.agg vs)
 | tp {ds:List D} {vs:Array Value}:vs.size=ds.length→(∀ (i:Nat) (d:D) (u:Value),ds[i]?=some d→vs[i]?=some u→R P w φ A N d u)→R P w φ A N (.tp ds) (.tuple vs)
 | fn {f:FuncId} {ds:List D} {vs:Array Value}:vs.size=ds.length→(∀ (i:Nat) (d:D) (u:Value),ds[i]?=some d→vs[i]?=some u→R P w φ A N d u)→R P w φ A N (.fn f ds) (.func (.func f) #[] vs)
 | mp {r:Nat}:r<N→R P w φ A N (.mp r) (.map (some (φ r).1))
 | junk {u:Value}:R P w φ A N .junk u
def Rs (P:Program)(w:World)(φ:Nat→Nat × Nat)(A:Nat→Prop)(N:Nat)(ds:List D)(us:List Value):Prop:=us.length=ds.length∧∀ (i:Nat) (d:D) (u:Value),ds[i]?=some d→us[i]?=some u→R P w φ A N d u
inductive Free:D→Prop
 | f {x:F}:Free (.f x)
 | ag {ds:List D}:(∀ (i:Nat) (d:D),ds[i]?=some d→Free d)→Free (.ag ds)
def RowOk (P:Program)(w:World)(φ:Nat→Nat × Nat)(A:Nat→Prop)(N:Nat)(r:Nat):Row→Prop
 | .dead=>True
 | .box T ds=>(φ r).2=0∧∃ cs:Array Value,w.heap[(φ r).1]?=some (.cells cs T (0,0))∧Rs P w φ A N ds cs.toList∧∀ u∈cs.toList,u.oneCell'=true
 | .data T xs=>xs≠[]→∃ pre us post:List Value,w.heap[(φ r).1]?=some (.cells (pre++us++post).toArray T (0,0))∧pre.length=(φ r).2∧RFs w A xs us
 | .froz T xs=>¬ A (φ r).1∧∃ (pre us post:List Value) (fr:Nat × Nat),w.heap[(φ r).1]?=some (.cells (pre++us++post).toArray T fr)∧pre.length=(φ r).2∧RFs w A xs us
 | .map es=>∃ (en:Array MapEntry) (clock:Nat),w.heap[(φ r).1]?=some (.map en clock)∧MapKept.Stamped en clock∧en.size=es.length∧∀ (i:Nat) (k:Value) (d:D) (m:MapEntry),es[i]?=some (k,d)→en[i]?=some m→m.key=k∧R P w φ A N d m.val∧Free d
def Row.live:Row→Bool
 | .box _ _=>true
 | .data _ xs=>!xs.isEmpty
 | .map _=>true
 | _=>false
def Live (φ:Nat→Nat × Nat)(H:List Row)(b:Nat):Prop:=∃ r row,H[r]?=some row∧row.live=true∧(φ r).1=b
def Av (X:Nat→Prop)(φ:Nat→Nat × Nat)(H:List Row)(b:Nat):Prop:=X b∨Live φ H b
def glTab:List (F × Value):=[(.s [.v (.string ⟨#[97]⟩),.v (.string ⟨#[98]⟩),.v (.string ⟨#[106,111,98,45,49]⟩),.v (.string ⟨#[122,57]⟩),.v (.string ⟨#[109]⟩),.v (.string ⟨#[120,45]⟩)] 6,.slice (some ⟨0,0,none⟩) 6 6)]
structure HR (P:Program)(w:World)(φ:Nat→Nat × Nat)(X:Nat→Prop)(H:List Row):Prop where
 rows:∀ r row,H[r]?=some row→RowOk P w φ (Av X φ H) H.length r row
 apart:∀ r s row row',H[r]?=some row→H[s]?=some row'→row.live=true→row'.live=true→(φ r).1=(φ s).1→r=s
 off:∀ r row,H[r]?=some row→row.live=true→¬ X (φ r).1
 old:∀ b,X b→b<w.heap.size
 gl:∀ p∈glTab,RF w (Av X φ H) p.1 p.2
structure Keep (L:Nat→Prop)(w w':World):Prop where
 size:w.heap.size≤w'.heap.size
 block:∀ b,b<w.heap.size→¬ L b→w'.heap[b]?=w.heap[b]?
 shape:∀ (b:Nat) (cs:Array Value) (T:TypeId) (fr:Nat × Nat),w.heap[b]?=some (Obj.cells cs T fr)→∃ (cs':Array Value) (fr':Nat × Nat),w'.heap[b]?=some (Obj.cells cs' T fr')∧cs'.size=cs.size
 os:w'.os=w.os
 tape:w'.tape=w.tape
 output:w'.output=w.output
theorem Keep.refl (L:Nat→Prop)(w:World):Keep L w w:=⟨Nat.le_refl _,fun _ _ _=>rfl,fun _ cs _ fr h=>⟨cs,fr,h,rfl⟩,rfl,rfl,rfl⟩
theorem Keep.trans {L L':Nat→Prop}{a b c:World}(h:Keep L a b)(k:Keep L' b c)(hL:∀ i,i<a.heap.size→L' i→L i):Keep L a c :=
 ⟨Nat.le_trans h.size k.size,fun i hi hn=>(k.block i (Nat.lt_of_lt_of_le hi h.size) (fun h'=>hn (hL i hi h'))).trans (h.block i hi hn),
  fun i cs T fr hc=>by
   obtain ⟨c1,f1,h1,e1⟩:=h.shape i cs T fr hc
   obtain ⟨c2,f2,h2,e2⟩:=k.shape i c1 T f1 h1
   exact ⟨c2,f2,h2,e2.trans e1⟩,k.os.trans h.os,k.tape.trans h.tape,k.output.trans h.output⟩
theorem Keep.mono {L L':Nat→Prop}{a b:World}(h:Keep L a b)(hL:∀ i,i<a.heap.size→L i→L' i):Keep L' a b :=
 ⟨h.size,fun i hi hn=>h.block i hi (fun h'=>hn (hL i hi h')),h.shape,h.os,h.tape,h.output⟩
theorem Keep.cell {L:Nat→Prop}{w w':World}(h:Keep L w w'){a:Addr}{u:Value}(hc:w.cell? a=some u)(hl:¬ L a.block):w'.cell? a=some u:=by
 have hlt:a.block<w.heap.size:=World.block_lt_of_cell? w a hc
 exact (World.cell?_of_block (h.block a.block hlt hl)).trans hc
theorem Keep.alloc (L:Nat→Prop)(w:World)(o:Obj):Keep L w (w.alloc o) :=
 ⟨by simp,fun b hb _=>Below.heap_alloc _ _ _ hb,fun b cs T fr h=>⟨cs,fr,k0Z h o,rfl⟩,rfl,rfl,rfl⟩
theorem Keep.drew {L:Nat→Prop}{w w':World}(h:Keep L w w'):Keep L w w'.drew:=⟨h.size,h.block,h.shape,h.os,h.tape,h.output⟩
theorem f0N (a:Addr)(i:Nat):(a.add i).block=a.block:=by unfold Addr.add;split<;>rfl
theorem l0D {w w':World}{A A' L:Nat→Prop}(hk:Keep L w w')(hl:∀ b,L b→A b)(ha:∀ b,b<w.heap.size→A' b→A b){a:Addr}{cs:List Value}(hc:∀ (i:Nat) (u:Value),cs[i]?=some u→w.cell? (a.add i)=some u∧¬ A a.block) :
  ∀ (i:Nat) (u:Value),cs[i]?=some u→w'.cell? (a.add i)=some u∧¬ A' a.block:=by
 intro i u hu
 obtain ⟨h1,h2⟩:=hc i u hu
 have hb:=f0N a i
 refine ⟨hk.cell h1 (fun h=>h2 (hl _ (by rwa [hb] at h))),fun h=>h2 (ha _ ?_ h)⟩
 have:=World.block_lt_of_cell? w _ h1
 rwa [hb] at this
theorem RF.keep {w w':World}{A A' L:Nat→Prop}(hk:Keep L w w')(hl:∀ b,L b→A b)(ha:∀ b,b<w.heap.size→A' b→A b){x:F}{u:Value}(h:RF w A x u):RF w' A' x u:=by
 induction h with
 | v h=>exact .v h
 | s cs hn hlen hc hr ih =>
  exact .s cs hn hlen (l0D hk hl ha hc) ih
 | s0=>exact .s0
 | e=>exact .e
theorem RF.thin {w:World}{A A':Nat→Prop}{x:F}{u:Value}(h:RF w A x u)(ha:∀ b,A' b→A b):RF w A' x u:=h.keep (L:=fun _=>False) (Keep.refl _ _) (fun _ h=>h.elim) (fun b _=>ha b)
theorem RFs.keep {w w':World}{A A' L:Nat→Prop}(hk:Keep L w w')(hl:∀ b,L b→A b)(ha:∀ b,b<w.heap.size→A' b→A b){xs:List F}{us:List Value}(h:RFs w A xs us):RFs w' A' xs us :=
 ⟨h.1,fun i x u hx hu=>(h.2 i x u hx hu).keep hk hl ha⟩
theorem R.keep {P:Program}{w w':World}{φ φ':Nat→Nat × Nat}{A A' L:Nat→Prop}{N N':Nat}(hk:Keep L w w')(hl:∀ b,L b→A b)(ha:∀ b,b<w.heap.size→A' b→A b)(hφ:∀ r,r<N→φ' r=φ r)(hN:N≤N'){d:D}{u:Value}(h:R P w φ A N d u):R P w' φ' A' N' d u:=by
 induction h with
 | f h=>exact .f (h.keep hk hl ha)
 | sl hp hr hn hb hi hc =>
  rw [←hφ _ hr] at hb hc ⊢
  obtain ⟨cs',fr',h1,h2⟩:=hk.shape _ _ _ _ hb
  exact .sl hp (Nat.lt_of_lt_of_le hr hN) hn h1 hi (by rw [h2];exact hc)
 | sl0 hr=>exact .sl0 (Nat.lt_of_lt_of_le hr hN)
 | pt hr=>rw [←hφ _ hr];exact .pt (Nat.lt_of_lt_of_le hr hN)
 | rf cs hlen hc hr =>
  exact .rf cs hlen (l0D hk hl ha hc) (fun i x u hx hu=>(hr i x u hx hu).keep hk hl ha)
 | ag hs _ h1 ih=>exact .ag hs ih h1
 | tp hs _ ih=>exact .tp hs ih
 | fn hs _ ih=>exact .fn hs ih
 | mp hr=>rw [←hφ _ hr];exact .mp (Nat.lt_of_lt_of_le hr hN)
 | junk=>exact .junk
theorem Rs.keep {P:Program}{w w':World}{φ φ':Nat→Nat × Nat}{A A' L:Nat→Prop}{N N':Nat}(hk:Keep L w w')(hl:∀ b,L b→A b)(ha:∀ b,b<w.heap.size→A' b→A b)(hφ:∀ r,r<N→φ' r=φ r)(hN:N≤N'){ds:List D}{us:List Value}(h:Rs P w φ A N ds us):Rs P w' φ' A' N' ds us :=
 ⟨h.1,fun i d u hd hu=>(h.2 i d u hd hu).keep hk hl ha hφ hN⟩
def Row.void:Row→Bool
 | .dead=>true
 | .data _ xs=>xs.isEmpty
 | _=>false
theorem RowOk.void {P:Program}{w:World}{φ:Nat→Nat × Nat}{A:Nat→Prop}{N r:Nat}{row:Row}(h:row.void=true):RowOk P w φ A N r row:=by
 cases row with
 | dead=>trivial
 | data T xs=>intro hne;simp [Row.void] at h;exact absurd h hne
 | _=>simp [Row.void] at h
theorem RowOk.keep {P:Program}{w w':World}{φ φ':Nat→Nat × Nat}{A A' L:Nat→Prop}{N N':Nat}(hk:Keep L w w')(hl:∀ b,L b→A b)(ha:∀ b,b<w.heap.size→A' b→A b)(hφ:∀ r,r<N→φ' r=φ r)(hN:N≤N')
  {r:Nat} (hr:r<N) {row:Row} (h:RowOk P w φ A N r row) (hb:row.void=true∨w.heap[(φ r).1]?=w'.heap[(φ r).1]?):RowOk P w' φ' A' N' r row:=by
 rcases hb with hb|hb
 ·exact RowOk.void hb
 cases row with
 | dead=>trivial
 | box T ds =>
  obtain ⟨h0,cs,h1,h2,h3⟩:=h
  simp only [RowOk,hφ r hr]
  exact ⟨h0,cs,by rw [←hb];exact h1,h2.keep hk hl ha hφ hN,h3⟩
 | data T xs =>
  intro hne
  obtain ⟨pre,us,post,h1,h2,h3⟩:=h hne
  simp only [RowOk,hφ r hr]
  exact ⟨pre,us,post,by rw [←hb];exact h1,h2,h3.keep hk hl ha⟩
 | froz T xs =>
  obtain ⟨h0,pre,us,post,fr,h1,h2,h3⟩:=h
  simp only [RowOk,hφ r hr]
  exact ⟨fun h=>h0 (ha _ (a0g h1) h),pre,us,post,fr,by rw [←hb];exact h1,h2,h3.keep hk hl ha⟩
 | map es =>
  obtain ⟨en,clock,h1,h0,h2,h3⟩:=h
  simp only [RowOk,hφ r hr]
  exact ⟨en,clock,by rw [←hb];exact h1,h0,h2,fun i k d m hd hm=>⟨(h3 i k d m hd hm).1,(h3 i k d m hd hm).2.1.keep hk hl ha hφ hN,(h3 i k d m hd hm).2.2⟩⟩
theorem b0V {φ:Nat→Nat × Nat}{H:List Row}{r:Nat}{row:Row}(h:H[r]?=some row)(hl:row.live=true):Live φ H (φ r).1:=⟨r,row,h,hl,rfl⟩
structure Post (P:Program)(w:World)(φ:Nat→Nat × Nat)(X:Nat→Prop)(H:List Row)(e:Eff)(v:Value)(w':World)(φ':Nat→Nat × Nat):Prop where
 same:∀ r,r<H.length→φ' r=φ r
 heap:HR P w' φ' X (e.heap H)
 res:R P w' φ' (Av X φ' (e.heap H)) (e.heap H).length e.res v
 keep:Keep (Live φ H) w w'
 fresh:∀ b,Live φ' (e.heap H) b→Live φ H b∨w.heap.size≤b
def Leaves (P:Program)(w:World)(φ:Nat→Nat × Nat)(X:Nat→Prop)(H:List Row)(e:Eff)(v:Value)(w':World):Prop:=∃ φ',Post P w φ X H e v w' φ'
theorem Leaves.quiet {P:Program}{w:World}{φ:Nat→Nat × Nat}{X:Nat→Prop}{H:List Row}(h:HR P w φ X H){d:D}{v:Value}(hd:R P w φ (Av X φ H) H.length d v):Leaves P w φ X H ⟨d,[],[]⟩ v w:=by
 refine ⟨φ,fun _ _=>rfl,?_,?_,Keep.refl _ _,fun b hb=>.inl ?_⟩<;>simp only [Eff.heap,a0B,List.append_nil] at *<;>assumption
theorem HR.blk {P:Program}{w:World}{φ:Nat→Nat × Nat}{X:Nat→Prop}{H:List Row}(h:HR P w φ X H){r:Nat}{x:Row}(hx:H[r]?=some x)(hl:x.live=true):(φ r).1<w.heap.size:=by
 have:=h.rows r x hx
 cases x<;>simp [Row.live] at hl
 ·obtain ⟨_,cs,h1,_⟩:=this;exact a0g h1
 ·obtain ⟨_,_,_,h1,_⟩:=this hl;exact a0g h1
 ·obtain ⟨_,_,h1,_⟩:=this;exact a0g h1
theorem a0j {T:TypeId}{xs:List F}(h:xs≠[]):(Row.data T xs).live=true:=by cases xs with|nil=>exact absurd rfl h|cons x xs=>rfl
theorem HR.live_lt {P:Program}{w:World}{φ:Nat→Nat × Nat}{X:Nat→Prop}{H:List Row}(h:HR P w φ X H){b:Nat}(hb:Live φ H b):b<w.heap.size:=by
 obtain ⟨r,x,hx,hl,rfl⟩:=hb
 exact h.blk hx hl
theorem HR.live_off {P:Program}{w:World}{φ:Nat→Nat × Nat}{X:Nat→Prop}{H:List Row}(h:HR P w φ X H){b:Nat}(hb:Live φ H b):¬ X b:=by
 obtain ⟨r,x,hx,hl,rfl⟩:=hb
 exact h.off r x hx hl
theorem HR.step {P:Program}{w w':World}{φ φ':Nat→Nat × Nat}{X:Nat→Prop}{H H':List Row}(h:HR P w φ X H)(L:Nat→Prop)(hk:Keep L w w')(hL:∀ b,L b→Live φ H b)
  (hlen:H.length≤H'.length) (hφ:∀ r,r<H.length→φ' r=φ r)
  (hfresh:∀ r x,H'[r]?=some x→x.live=true→w.heap.size≤(φ' r).1∨Live φ H (φ' r).1)
  (hrow:∀ r x,H'[r]?=some x→(H[r]?=some x∧(x.live=true→¬ L (φ r).1))∨((∀ b,b<w.heap.size→Av X φ' H' b→Av X φ H b)→RowOk P w' φ' (Av X φ' H') H'.length r x))
  (hapart:∀ r s x y,H'[r]?=some x→H'[s]?=some y→x.live=true→y.live=true→(φ' r).1=(φ' s).1→r=s) :
  HR P w' φ' X H'∧(∀ b,Live φ' H' b→Live φ H b∨w.heap.size≤b)∧(∀ b,b<w.heap.size→Av X φ' H' b→Av X φ H b):=by
 have hlive:∀ b,Live φ' H' b→Live φ H b∨w.heap.size≤b:=by
  rintro b ⟨r,x,hx,hl,rfl⟩
  exact (hfresh r x hx hl).symm
 have hav:∀ b,b<w.heap.size→Av X φ' H' b→Av X φ H b:=by
  rintro b hb (hx|hx)
  ·exact .inl hx
  ·rcases hlive b hx with h'|h'
   ·exact .inr h'
   ·omega
 refine ⟨⟨?_,hapart,?_,fun b hb=>Nat.lt_of_lt_of_le (h.old b hb) hk.size,fun p hp=>(h.gl p hp).keep hk (fun b hb=>.inr (hL b hb)) hav⟩,hlive,hav⟩
 ·intro r x hx
  rcases hrow r x hx with ⟨h1,h2⟩|h1
  ·have hr:r<H.length:=(List.getElem?_eq_some_iff.1 h1).1
   have h3:=h.rows r x h1
   refine h3.keep hk (fun b hb=>.inr (hL b hb)) hav hφ hlen hr ?_
   cases x with
   | dead=>exact .inl rfl
   | box T ds=>obtain ⟨_,cs,h4,_⟩:=h3;exact .inr (hk.block _ (a0g h4) (h2 rfl)).symm
   | data T xs=>cases xs with|nil=>exact .inl rfl|cons y ys=>obtain ⟨_,_,_,h4,_⟩:=h3 (List.cons_ne_nil _ _);exact .inr (hk.block _ (a0g h4) (h2 rfl)).symm
   | froz T xs=>obtain ⟨h0,_,_,_,_,h4,_⟩:=h3;exact .inr (hk.block _ (a0g h4) (fun hl=>h0 (.inr (hL _ hl)))).symm
   | map es=>obtain ⟨_,_,h4,_⟩:=h3;exact .inr (hk.block _ (a0g h4) (h2 rfl)).symm
  ·exact h1 hav
 ·intro r x hx hl hX
  rcases hfresh r x hx hl with h1|h1
  ·have:=h.old _ hX;omega
  ·exact h.live_off h1 hX
theorem HR.turn {P:Program}{w w':World}{φ:Nat→Nat × Nat}{X:Nat→Prop}{H:List Row}(h:HR P w φ X H){r:Nat}{row row':Row}(hr:H[r]?=some row)(hk:Keep (fun b=>row.live=true∧b=(φ r).1) w w')(hl:row'.live=true→row.live=true)
  (hok:(∀ b,b<w.heap.size→Av X φ (H.set r row') b→Av X φ H b)→RowOk P w' φ (Av X φ (H.set r row')) H.length r row') :
  HR P w' φ X (H.set r row')∧(∀ b,Live φ (H.set r row') b→Live φ H b∨w.heap.size≤b)∧(∀ b,b<w.heap.size→Av X φ (H.set r row') b→Av X φ H b):=by
 have hlt:r<H.length:=(List.getElem?_eq_some_iff.1 hr).1
 have get:∀ s x,(H.set r row')[s]?=some x→(s=r∧x=row')∨(s≠r∧H[s]?=some x):=by
  intro s x hx
  by_cases hs:r=s
  ·subst hs
   rw [List.getElem?_set_self hlt] at hx
   exact .inl ⟨rfl,(Option.some.inj hx).symm⟩
  ·rw [List.getElem?_set_ne hs] at hx
   exact .inr ⟨fun e=>hs e.symm,hx⟩
 refine h.step (fun b=>row.live=true∧b=(φ r).1) hk ?_ (by simp) (fun _ _=>rfl) ?_ ?_ ?_
 ·rintro b ⟨h1,rfl⟩;exact b0V hr h1
 ·intro s x hx hlx
  rcases get s x hx with ⟨rfl,rfl⟩|⟨_,h1⟩
  ·exact .inr (b0V hr (hl hlx))
  ·exact .inr (b0V h1 hlx)
 ·intro s x hx
  rcases get s x hx with ⟨rfl,rfl⟩|⟨hne,h1⟩
  ·refine .inr (fun hav=>?_)
   rw [List.length_set]
   exact hok hav
  ·exact .inl ⟨h1,fun hlx ⟨hrl,e⟩=>hne (h.apart s r x row h1 hr hlx hrl e)⟩
 ·intro s t x y hx hy hlx hly e
  rcases get s x hx with ⟨rfl,rfl⟩|⟨hne,h1⟩<;>rcases get t y hy with ⟨rfl,rfl⟩|⟨hne',h2⟩
  ·rfl
  ·exact h.apart _ _ _ _ hr h2 (hl hlx) hly e
  ·exact h.apart _ _ _ _ h1 hr hlx (hl hly) e
  ·exact h.apart _ _ _ _ h1 h2 hlx hly e
def ext1 (φ:Nat→Nat × Nat)(N:Nat)(q:Nat × Nat):Nat→Nat × Nat:=fun r=>if r=N then q else φ r
theorem a0s {φ:Nat→Nat × Nat}{N:Nat}{q:Nat × Nat}{r:Nat}(h:r<N):ext1 φ N q r=φ r:=if_neg (by omega)
theorem a0R {φ:Nat→Nat × Nat}{N:Nat}{q:Nat × Nat}:ext1 φ N q N=q:=if_pos rfl
theorem HR.more {P:Program}{w w':World}{φ:Nat→Nat × Nat}{X:Nat→Prop}{H:List Row}(h:HR P w φ X H)(hk:Keep (fun _=>False) w w')(b base:Nat)(row:Row)(hb:w.heap.size≤b)
  (hok:(∀ c,c<w.heap.size→Av X (ext1 φ H.length (b,base)) (H++[row]) c→Av X φ H c)→RowOk P w' (ext1 φ H.length (b,base)) (Av X (ext1 φ H.length (b,base)) (H++[row])) (H.length+1) H.length row) :
  HR P w' (ext1 φ H.length (b,base)) X (H++[row])∧(∀ c,Live (ext1 φ H.length (b,base)) (H++[row]) c→Live φ H c∨w.heap.size≤c)∧(∀ c,c<w.heap.size→Av X (ext1 φ H.length (b,base)) (H++[row]) c→Av X φ H c):=by
 have get:∀ s x,(H++[row])[s]?=some x→(s=H.length∧x=row)∨(s<H.length∧H[s]?=some x):=by
  intro s x hx
  by_cases hs:s<H.length
  ·rw [List.getElem?_append_left hs] at hx;exact .inr ⟨hs,hx⟩
  ·have h1:=(List.getElem?_eq_some_iff.1 hx).1
   simp at h1
   obtain rfl:s=H.length:=by omega
   simp at hx
   exact .inl ⟨rfl,hx.symm⟩
 refine h.step (fun _=>False) hk (fun _ h=>h.elim) (by simp) (fun r hr=>a0s hr) ?_ ?_ ?_
 ·intro s x hx hlx
  rcases get s x hx with ⟨rfl,rfl⟩|⟨hs,h1⟩
  ·rw [a0R];exact .inl hb
  ·rw [a0s hs];exact .inr (b0V h1 hlx)
 ·intro s x hx
  rcases get s x hx with ⟨rfl,rfl⟩|⟨hs,h1⟩
  ·refine .inr (fun hav=>?_)
   rw [List.length_append]
   exact hok hav
  ·exact .inl ⟨h1,fun _ h=>h⟩
 ·intro s t x y hx hy hlx hly e
  rcases get s x hx with ⟨rfl,rfl⟩|⟨hs,h1⟩<;>rcases get t y hy with ⟨rfl,rfl⟩|⟨ht,h2⟩
  ·rfl
  ·rw [a0R,a0s ht] at e
   have:=h.blk h2 hly
   simp at e;omega
  ·rw [a0R,a0s hs] at e
   have:=h.blk h1 hlx
   simp at e;omega
  ·rw [a0s hs,a0s ht] at e
   exact h.apart _ _ _ _ h1 h2 hlx hly e
theorem HR.moved {P:Program}{w w':World}{φ:Nat→Nat × Nat}{X:Nat→Prop}{H:List Row}(h:HR P w φ X H){r:Nat}{old:Row}(hr:H[r]?=some old)(hrl:old.live=true)(hk:Keep (fun b=>b=(φ r).1) w w')(b base:Nat)(row:Row)(hb:w.heap.size≤b∨b=(φ r).1)
  (hok:(∀ c,c<w.heap.size→Av X (ext1 φ H.length (b,base)) (H.set r .dead++[row]) c→Av X φ H c)→RowOk P w' (ext1 φ H.length (b,base)) (Av X (ext1 φ H.length (b,base)) (H.set r .dead++[row])) (H.length+1) H.length row) :
  HR P w' (ext1 φ H.length (b,base)) X (H.set r .dead++[row])∧(∀ c,Live (ext1 φ H.length (b,base)) (H.set r .dead++[row]) c→Live φ H c∨w.heap.size≤c)∧(∀ c,c<w.heap.size→Av X (ext1 φ H.length (b,base)) (H.set r .dead++[row]) c→Av X φ H c):=by
 have hlt:r<H.length:=(List.getElem?_eq_some_iff.1 hr).1
 have get:∀ s x,(H.set r .dead++[row])[s]?=some x→(s=H.length∧x=row)∨(s<H.length∧s=r∧x = .dead)∨(s<H.length∧s≠r∧H[s]?=some x):=by
  intro s x hx
  by_cases hs:s<H.length
  ·rw [List.getElem?_append_left (by simpa using hs)] at hx
   by_cases e:r=s
   ·subst e
    rw [List.getElem?_set_self hlt] at hx
    exact .inr (.inl ⟨hs,rfl,(Option.some.inj hx).symm⟩)
   ·rw [List.getElem?_set_ne e] at hx
    exact .inr (.inr ⟨hs,fun e'=>e e'.symm,hx⟩)
  ·have h1:=(List.getElem?_eq_some_iff.1 hx).1
   simp at h1
   obtain rfl:s=H.length:=by omega
   rw [List.getElem?_append_right (by simp)] at hx
   simp at hx
   exact .inl ⟨rfl,hx.symm⟩
 refine h.step (fun c=>c=(φ r).1) hk (fun c e=>by subst e;exact b0V hr hrl) (by simp) (fun r hr=>a0s hr) ?_ ?_ ?_
 ·intro s x hx hlx
  rcases get s x hx with ⟨rfl,rfl⟩|⟨_,_,rfl⟩|⟨hs,_,h1⟩
  ·rw [a0R]
   rcases hb with hb|hb
   ·exact .inl hb
   ·exact .inr (by rw [hb];exact b0V hr hrl)
  ·simp [Row.live] at hlx
  ·rw [a0s hs];exact .inr (b0V h1 hlx)
 ·intro s x hx
  rcases get s x hx with ⟨rfl,rfl⟩|⟨_,_,rfl⟩|⟨hs,hne,h1⟩
  ·refine .inr (fun hav=>?_)
   simp only [List.length_append,List.length_set,List.length_singleton]
   exact hok hav
  ·exact .inr (fun _=>trivial)
  ·exact .inl ⟨h1,fun hlx e=>hne (h.apart s r x old h1 hr hlx hrl e)⟩
 ·intro s t x y hx hy hlx hly e
  rcases get s x hx with ⟨rfl,rfl⟩|⟨_,_,rfl⟩|⟨hs,hne,h1⟩
  ·rcases get t y hy with ⟨rfl,rfl⟩|⟨_,_,rfl⟩|⟨ht,hne',h2⟩
   ·rfl
   ·simp [Row.live] at hly
   ·rw [a0R,a0s ht] at e
    have h3:=h.blk h2 hly
    rcases hb with hb|hb
    ·simp at e;omega
    ·simp only [hb] at e
     exact absurd (h.apart t r y old h2 hr hly hrl e.symm) hne'
  ·simp [Row.live] at hlx
  ·rcases get t y hy with ⟨rfl,rfl⟩|⟨_,_,rfl⟩|⟨ht,hne',h2⟩
   ·rw [a0R,a0s hs] at e
    have h3:=h.blk h1 hlx
    rcases hb with hb|hb
    ·simp at e;omega
    ·simp only [hb] at e
     exact absurd (h.apart s r x old h1 hr hlx hrl e) hne
   ·simp [Row.live] at hly
   ·rw [a0s hs,a0s ht] at e
    exact h.apart _ _ _ _ h1 h2 hlx hly e
theorem HR.freeze {P:Program}{w:World}{φ:Nat→Nat × Nat}{X:Nat→Prop}{H:List Row}(h:HR P w φ X H){r:Nat}{T:TypeId}{xs:List F}(hr:H[r]?=some (.data T xs))(hne:xs≠[]) :
  HR P w φ X (H.set r (.froz T xs))∧(∀ b,b<w.heap.size→Av X φ (H.set r (.froz T xs)) b→Av X φ H b)∧¬ Av X φ (H.set r (.froz T xs)) (φ r).1∧(∀ b,Live φ (H.set r (.froz T xs)) b→Live φ H b):=by
 have hlt:r<H.length:=(List.getElem?_eq_some_iff.1 hr).1
 have hnl:¬ Av X φ (H.set r (.froz T xs)) (φ r).1:=by
  rintro (hx|⟨s,x,hx,hl,e⟩)
  ·exact h.off r _ hr (a0j hne) hx
  ·by_cases hs:r=s
   ·subst hs
    rw [List.getElem?_set_self hlt] at hx
    injection hx with hx
    subst hx
    simp [Row.live] at hl
   ·rw [List.getElem?_set_ne hs] at hx
    exact hs (h.apart s r x _ hx hr hl (a0j hne) e).symm
 have h1:=h.turn (row':=.froz T xs) hr (Keep.refl _ w) (by simp [Row.live]) (fun hav=>by
  obtain ⟨pre,us,post,h1,h2,h3⟩:=h.rows r _ hr hne
  exact ⟨hnl,pre,us,post,(0,0),h1,h2,h3.keep (L:=fun _=>False) (Keep.refl _ w) (fun _ h=>h.elim) hav⟩)
 refine ⟨h1.1,h1.2.2,hnl,?_⟩
 rintro b ⟨s,x,hx,hl,rfl⟩
 by_cases hs:r=s
 ·subst hs
  rw [List.getElem?_set_self hlt] at hx
  injection hx with hx
  subst hx
  simp [Row.live] at hl
 ·rw [List.getElem?_set_ne hs] at hx
  exact ⟨s,x,hx,hl,rfl⟩
def OpOk (P:Program)(o:Oper)(a:Act)(w:World)(T:Value→World→Prop):Prop :=
 ∀ (K:Act→World→Prop) (Q:Exit→Act→World→Prop),(∀ v w',T v w'→K (a.put o.dst v) w')→o.wp P a w K Q
theorem OpOk.value {P:Program}{o:Oper}{a:Act}{w w':World}{T:Value→World→Prop}{v:Value}(h:(execOp a.eval o).run P w = .ok (.value v) w')(ht:T v w'):OpOk P o a w T:=by
 intro K Q hK
 unfold Oper.wp
 rw [h]
 exact hK _ _ ht
theorem OpOk.skip {P:Program}{o:Oper}{a:Act}{w w':World}{T:Value→World→Prop}(h:(execOp a.eval o).run P w = .ok .skip w')(ht:T Go.undef w'):OpOk P o a w T:=by
 intro K Q hK
 unfold Oper.wp
 rw [h]
 exact hK _ _ ht
theorem OpOk.enter {P:Program}{o:Oper}{a:Act}{w w':World}{T:Value→World→Prop}{f:FuncId}{args:Array Value}(h:(execOp a.eval o).run P w = .ok (.enter f args) w')(hc:Calls P f args w' fun e w''=>∃ v,e = .returned v∧T v w''):OpOk P o a w T:=by
 intro K Q hK
 unfold Oper.wp
 rw [h]
 show Calls P f args w' _
 refine hc.mono ?_
 rintro e w'' ⟨v,rfl,ht⟩
 exact hK _ _ ht
theorem OpOk.mono {P:Program}{o:Oper}{a:Act}{w:World}{T T':Value→World→Prop}(h:OpOk P o a w T)(ht:∀ v w',T v w'→T' v w'):OpOk P o a w T' :=
 fun K Q hK=>h K Q (fun v w' hv=>hK v w' (ht v w' hv))
section
variable {P:Program}{w:World}{φ:Nat→Nat × Nat}{A:Nat→Prop}{N:Nat}
theorem d0W {x:Value}(h:x.oneCell'=true):R P w φ A N (.v x) x:=.f (.v h)
theorem Rs.nil:Rs P w φ A N [] []:=⟨rfl,fun _ _ _ h=>by simp at h⟩
theorem Rs.cons {d:D}{u:Value}{ds:List D}{us:List Value}(h:R P w φ A N d u)(k:Rs P w φ A N ds us):Rs P w φ A N (d :: ds) (u :: us) :=
 ⟨by simp [k.1],fun i x y hx hy=>by
  cases i with
  | zero=>simp at hx hy;subst hx;subst hy;exact h
  | succ i=>exact k.2 i x y (by simpa using hx) (by simpa using hy)⟩
theorem Rs.vs {us:List Value}(h:∀ u∈us,u.oneCell'=true):Rs P w φ A N (us.map D.v) us:=by
 induction us with
 | nil=>exact Rs.nil
 | cons u us ih=>exact Rs.cons (d0W (h u (by simp))) (ih (fun x hx=>h x (by simp [hx])))
theorem Rs.append {ds es:List D}{us vs:List Value}(h:Rs P w φ A N ds us)(k:Rs P w φ A N es vs):Rs P w φ A N (ds++es) (us++vs):=by
 refine ⟨by simp [h.1,k.1],fun i x y hx hy=>?_⟩
 by_cases hi:i<ds.length
 ·rw [List.getElem?_append_left hi] at hx
  rw [List.getElem?_append_left (by rw [h.1];exact hi)] at hy
  exact h.2 i x y hx hy
 ·rw [List.getElem?_append_right (by omega)] at hx
  rw [List.getElem?_append_right (by rw [h.1];omega),h.1] at hy
  exact k.2 _ x y hx hy
theorem Rs.take {ds:List D}{us:List Value}(h:Rs P w φ A N ds us)(n:Nat):Rs P w φ A N (ds.take n) (us.take n):=by
 refine ⟨by simp [h.1],fun i x y hx hy=>?_⟩
 rw [List.getElem?_take] at hx hy
 split at hx
 ·exact h.2 i x y hx (by simpa [*] using hy)
 ·simp at hx
theorem Rs.drop {ds:List D}{us:List Value}(h:Rs P w φ A N ds us)(n:Nat):Rs P w φ A N (ds.drop n) (us.drop n):=by
 refine ⟨by simp [h.1],fun i x y hx hy=>?_⟩
 rw [List.getElem?_drop] at hx hy
 exact h.2 _ x y hx hy
theorem Rs.splice {ds es:List D}{us vs:List Value}(h:Rs P w φ A N ds us)(k:Rs P w φ A N es vs)(off:Nat):Rs P w φ A N (splice ds off es) (us.take off++vs++us.drop (off+vs.length)):=by
 unfold Mir.splice
 rw [k.1]
 exact ((h.take off).append k).append (h.drop _)
theorem Rs.get {ds:List D}{us:List Value}(h:Rs P w φ A N ds us){i:Nat}{d:D}(hd:ds[i]?=some d):∃ u,us[i]?=some u∧R P w φ A N d u:=by
 have hi:i<us.length:=by rw [h.1];exact (List.getElem?_eq_some_iff.1 hd).1
 exact ⟨us[i],by simp [hi],h.2 i d _ hd (by simp [hi])⟩
theorem Rs.map {α:Type}{f:α→D}{g:α→Value}{l:List α}(h:∀ x∈l,R P w φ A N (f x) (g x)):Rs P w φ A N (l.map f) (l.map g):=by
 induction l with
 | nil=>exact Rs.nil
 | cons x l ih=>exact Rs.cons (h x (by simp)) (ih (fun y hy=>h y (by simp [hy])))
theorem R.undef:R P w φ A N D.undef Go.undef:=.tp rfl (fun i d u h=>by simp at h)
theorem R.of (v:Value):R P w φ A N (D.of v) v:=by
 cases v<;>simp only [D.of]<;>try exact d0W rfl
 ·rename_i cs
  split
  ·rename_i h
   have h1:∀ u∈cs.toList,u.oneCell'=true:=List.all_eq_true.1 h
   have hs:Rs P w φ A N (cs.toList.map D.v) cs.toList:=Rs.vs h1
   exact R.ag (by simp) (fun i d u hd hu=>hs.2 i d u hd (by simpa using hu)) h1
  ·exact R.junk
 ·rename_i cs
  split
  ·rename_i h
   have h1:∀ u∈cs.toList,u.oneCell'=true:=List.all_eq_true.1 h
   have hs:Rs P w φ A N (cs.toList.map D.v) cs.toList:=Rs.vs h1
   exact R.tp (by simp) (fun i d u hd hu=>hs.2 i d u hd (by simpa using hu))
  ·exact R.junk
theorem R.eval {ts:List D}{a:Act}(h:Rs P w φ A N ts a.tmps.toList)(x:Operand):R P w φ A N (eval ts x) (a.eval x):=by
 cases x with
 | tmp t =>
  by_cases ht:t<ts.length
  ·have h1:ts[t]?=some ts[t]:=by simp [ht]
   obtain ⟨u,hu,hr⟩:=h.get h1
   have h2:a.tmps[t]?=some u:=by simpa using hu
   have e1:Mir.eval ts (.tmp t)=ts[t]:=by simp [Mir.eval,List.getD,h1]
   have e2:a.eval (.tmp t)=u:=by simp [Act.eval,Array.getD_eq_getD_getElem?,h2]
   rw [e1,e2];exact hr
  ·have h0:=h.1
   have ht':ts.length≤t:=Nat.le_of_not_lt ht
   have h2:a.tmps[t]?=none:=Array.getElem?_eq_none (by rw [Array.length_toList] at h0;rw [h0];exact ht')
   have h1:ts[t]?=none:=List.getElem?_eq_none ht'
   have e1:Mir.eval ts (.tmp t)=D.undef:=by simp [Mir.eval,List.getD,h1]
   have e2:a.eval (.tmp t)=Go.undef:=by simp [Act.eval,Array.getD_eq_getD_getElem?,h2]
   rw [e1,e2];exact R.undef
 | const v=>exact R.of v
 | global g=>exact .junk
 | func f=>exact .fn rfl (fun i d u h=>by simp at h)
theorem y0W {ds:List D}{us l:List Value}(h:Rs P w φ A N ds us)(hg:D.val?.go ds=some l):us=l:=by
 induction ds generalizing us l with
 | nil =>
  simp [D.val?.go] at hg
  subst hg
  exact List.eq_nil_of_length_eq_zero h.1
 | cons d ds ih =>
  cases us with
  | nil=>have:=h.1;simp at this
  | cons u us =>
   have h0:=h.2 0 d u (by simp) (by simp)
   have h1:Rs P w φ A N ds us:=⟨by have:=h.1;simpa using this,fun i x y hx hy=>h.2 (i+1) x y (by simpa using hx) (by simpa using hy)⟩
   cases d with
   | f x =>
    cases x with
    | v x =>
     simp only [D.val?.go] at hg
     cases hgo:D.val?.go ds with
     | none=>rw [hgo] at hg;simp at hg
     | some l' =>
      rw [hgo] at hg
      simp at hg
      subst hg
      rw [ih h1 hgo]
      cases h0 with
      | f h0=>cases h0;rfl
    | _=>simp [D.val?.go] at hg
   | _=>simp [D.val?.go] at hg
theorem R.val {d:D}{u v:Value}(h:R P w φ A N d u)(hv:d.val?=some v):u=v:=by
 cases h with
 | f h =>
  cases h with
  | v h=>simpa [D.val?] using hv
  | _=>simp [D.val?] at hv
 | @ag ds vs hs hr _ =>
  simp only [D.val?] at hv
  cases hg:D.val?.go ds with
  | none=>rw [hg] at hv;simp at hv
  | some l =>
   rw [hg] at hv
   simp at hv
   subst hv
   have:=y0W (P:=P) (w:=w) (φ:=φ) (A:=A) (N:=N) (us:=vs.toList) ⟨by simpa using hs,fun i x y hx hy=>hr i x y hx (by simpa using hy)⟩ hg
   rw [←this]
 | @tp ds vs hs hr =>
  simp only [D.val?] at hv
  cases hg:D.val?.go ds with
  | none=>rw [hg] at hv;simp at hv
  | some l =>
   rw [hg] at hv
   simp at hv
   subst hv
   have:=y0W (P:=P) (w:=w) (φ:=φ) (A:=A) (N:=N) (us:=vs.toList) ⟨by simpa using hs,fun i x y hx hy=>hr i x y hx (by simpa using hy)⟩ hg
   rw [←this]
 | _=>simp [D.val?] at hv
def CR (P:Program)(w:World)(φ:Nat→Nat × Nat)(A:Nat→Prop)(N:Nat)(a:Addr)(xs:List D):Prop :=
 ∀ (i:Nat) (d:D),xs[i]?=some d→∃ u,w.cell? (a.add i)=some u∧R P w φ A N d u∧u.oneCell'=true
theorem CR.drop {a:Addr}{xs:List D}(h:CR P w φ A N a xs)(n:Nat):CR P w φ A N (a.add n) (xs.drop n):=by
 intro i d hd
 rw [add_add]
 exact h _ d (by rw [List.getElem?_drop] at hd;exact hd)
theorem CR.take {a:Addr}{xs:List D}(h:CR P w φ A N a xs)(n:Nat):CR P w φ A N a (xs.take n):=by
 intro i d hd
 rw [List.getElem?_take] at hd
 split at hd
 ·exact h i d hd
 ·simp at hd
theorem CR.list {a:Addr}{xs:List D}(h:CR P w φ A N a xs):∃ us:List Value,Rs P w φ A N xs us∧(∀ j v,us[j]?=some v→w.cell? (a.add j)=some v)∧∀ u∈us,u.oneCell'=true:=by
 induction xs generalizing a with
 | nil=>exact ⟨[],Rs.nil,by simp,by simp⟩
 | cons d xs ih =>
  obtain ⟨u,h1,h2,h3⟩:=h 0 d (by simp)
  obtain ⟨us,h4,h5,h6⟩:=ih (a:=a.add 1) (by have:=h.drop 1;simpa using this)
  refine ⟨u :: us,Rs.cons h2 h4,fun j v hj=>?_,?_⟩
  ·cases j with
   | zero=>simp at hj;subst hj;exact h1
   | succ j =>
    have:=h5 j v (by simpa using hj)
    rwa [add_add,Nat.add_comm 1 j] at this
  ·intro x hx
   rcases List.mem_cons.1 hx with rfl|hx
   ·exact h3
   ·exact h6 x hx
theorem f0n {T:TypeId}{b:Bool}(h:d0s P T=some b):(isAgg T).run P w = .ok b w:=by
 unfold d0s at h
 unfold isAgg
 cases hu:P.underlying T with
 | none=>rw [hu] at h;simp at h
 | some d =>
  rw [hu] at h
  simp only [Sem.run_bind,run_underlying hu,Result.andThen_ok]
  cases d<;>simp at h<;>subst h<;>rfl
theorem b0R {T:TypeId}{n b:Nat}{z:List Value}(h:inf P T=some (n,b,z)):∃ i zz,P.info? T=some i∧i.zero=some zz∧i.size=n∧i.bytes=b∧zz.cells.toList=z:=by
 unfold inf at h
 split at h
 ·rename_i i hi
  split at h
  ·rename_i zz hz
   split at h
   ·simp at h
    exact ⟨i,zz,hi,hz,h.1,h.2.1,h.2.2⟩
   ·cases h
  ·cases h
 ·cases h
theorem e0V {T:TypeId}{n b:Nat}{z:List Value}(h:inf P T=some (n,b,z)):z.length=n∧∀ u∈z,u.oneCell'=true:=by
 unfold inf at h
 split at h
 ·split at h
  ·split at h
   ·rename_i hc
    simp only [Bool.and_eq_true,beq_iff_eq,List.all_eq_true] at hc
    injection h with h
    injection h with h1 h
    injection h with h2 h3
    subst h1;subst h3
    exact ⟨hc.2,hc.1⟩
   ·cases h
  ·cases h
 ·cases h
theorem c0A {T:TypeId}{n b:Nat}{z:List Value}(h:inf P T=some (n,b,z)):(sizeOf T).run P w = .ok n w:=by
 obtain ⟨i,zz,h1,_,h3,_⟩:=b0R h
 rw [run_sizeOf w h1]
 simp [Program.cellsOf,h1,h3]
theorem m0N {T:TypeId}{xs:List D}{off:Nat}{d:D}{a:Addr}(h:e0c P T xs off=some d)(hc:CR P w φ A N a xs):∃ v,(loadVar T (a.add off)).run P w = .ok v w∧R P w φ A N d v:=by
 unfold e0c at h
 split at h
 ·rename_i n _ _ hb hi
  split at h
  ·injection h with h
   subst h
   rename_i hle
   obtain ⟨us,h1,h2,h3⟩:=((hc.drop off).take n).list
   have hlen:us.length=n:=by rw [h1.1];simp;omega
   refine ⟨.agg us.toArray,?_,.ag (by simpa using h1.1) (fun i d u hd hu=>h1.2 i d u hd (by simpa using hu)) (by simpa using h3)⟩
   unfold loadVar
   simp only [Sem.run_bind,f0n hb,Result.andThen_ok,c0A hi,if_true]
   have:=run_loadCells_list (P:=P) w (a.add off) us h2
   rw [hlen] at this
   simp [this]
  ·cases h
 ·rename_i _ hb
  obtain ⟨u,h1,h2,_⟩:=hc off d h
  refine ⟨u,?_,h2⟩
  unfold loadVar
  simp only [Sem.run_bind,f0n hb,Result.andThen_ok]
  simp [h1]
 ·cases h
theorem add_lit (b o n:Nat):Addr.add ⟨b,o,none⟩ n=⟨b,o+n,none⟩:=Addr.add_lit b o n
theorem d1N {X:Nat→Prop}{H:List Row}(h:HR P w φ X H){r:Nat}{row:Row}(hr:H[r]?=some row){xs:List D}(hx:row.cells=some xs):CR P w φ (Av X φ H) H.length ⟨(φ r).1,(φ r).2,none⟩ xs:=by
 intro i d hd
 rw [add_lit]
 have h1:=h.rows r row hr
 cases row with
 | dead=>simp [Row.cells] at hx
 | map es=>simp [Row.cells] at hx
 | box T ds =>
  simp [Row.cells] at hx
  subst hx
  obtain ⟨h0,cs,h2,h3,h4⟩:=h1
  obtain ⟨u,hu,hru⟩:=h3.get hd
  refine ⟨u,?_,hru,h4 u (List.mem_of_getElem? hu)⟩
  rw [k0V h2,h0]
  simpa using hu
 | data T ys =>
  simp [Row.cells] at hx
  subst hx
  obtain ⟨pre,us,post,h2,h3,h4⟩:=h1 (fun e=>by subst e;simp at hd)
  rw [List.getElem?_map] at hd
  cases hy:ys[i]? with
  | none=>rw [hy] at hd;simp at hd
  | some y =>
   rw [hy] at hd
   simp at hd
   subst hd
   have hi:i<us.length:=by rw [h4.1];exact (List.getElem?_eq_some_iff.1 hy).1
   have hru:=h4.2 i y us[i] hy (by simp [hi])
   refine ⟨us[i],?_,.f hru,hru.one⟩
   rw [k0V h2,←h3]
   simp [List.getElem?_append,hi]
 | froz T ys =>
  simp [Row.cells] at hx
  subst hx
  obtain ⟨_,pre,us,post,fr,h2,h3,h4⟩:=h1
  rw [List.getElem?_map] at hd
  cases hy:ys[i]? with
  | none=>rw [hy] at hd;simp at hd
  | some y =>
   rw [hy] at hd
   simp at hd
   subst hd
   have hi:i<us.length:=by rw [h4.1];exact (List.getElem?_eq_some_iff.1 hy).1
   have hru:=h4.2 i y us[i] hy (by simp [hi])
   refine ⟨us[i],?_,.f hru,hru.one⟩
   rw [k0V h2,←h3]
   simp [List.getElem?_append,hi]
theorem f1n {a:Addr}{xs:List F}{cs:List Value}(h1:cs.length=xs.length)(h2:∀ (i:Nat) (u:Value),cs[i]?=some u→w.cell? (a.add i)=some u∧¬ A a.block)(h3:∀ (i:Nat) (x:F) (u:Value),xs[i]?=some x→cs[i]?=some u→RF w A x u):CR P w φ A N a (xs.map .f):=by
 intro i d hd
 rw [List.getElem?_map] at hd
 cases hy:xs[i]? with
 | none=>rw [hy] at hd;simp at hd
 | some y =>
  rw [hy] at hd
  simp at hd
  subst hd
  have hi:i<cs.length:=by rw [h1];exact (List.getElem?_eq_some_iff.1 hy).1
  have hru:=h3 i y cs[i] hy (by simp [hi])
  exact ⟨cs[i],(h2 i _ (by simp [hi])).1,.f hru,hru.one⟩
theorem add0 (a:Addr):a.add 0=a:=by simp [Addr.add]
theorem b1Y {X:Nat→Prop}{H:List Row}(h:HR P w φ X H){T:TypeId}{x d:D}{u:Value}(hx:R P w φ (Av X φ H) H.length x u)(hd:h0O P H T x=some d):∃ v,(Instr.loadAt T u).run P w = .ok v w∧R P w φ (Av X φ H) H.length d v:=by
 cases hx with
 | @pt r off hr =>
  simp only [h0O] at hd
  split at hd
  ·rename_i row hrow
   split at hd
   ·rename_i xs hxs
    obtain ⟨v,h1,h2⟩:=m0N hd (d1N h hrow hxs)
    refine ⟨v,?_,h2⟩
    rw [add_lit] at h1
    simp [Instr.loadAt,Instr.sureAddr,h1]
   ·cases hd
  ·cases hd
 | @rf xs a cs h1 h2 h3 =>
  simp only [h0O] at hd
  obtain ⟨v,h4,h5⟩:=m0N hd (f1n h1 h2 h3)
  rw [add0] at h4
  exact ⟨v,by simp [Instr.loadAt,Instr.sureAddr,h4],h5⟩
 | _=>simp [h0O] at hd
end
end Go.Proofs.YthjgmldnegaaiaaGreatDoor.Mir
namespace Go.Proofs.YthjgmldnegaaiaaGreatDoor.Mir
open Go Go.RowKit
theorem b0E (H:List Row)(u v:List (Nat × Row)):a0B H (u++v)=a0B (a0B H u) v:=by
 induction u generalizing H with
 | nil=>rfl
 | cons p u ih=>obtain ⟨i,r⟩:=p;exact ih _
theorem a0F (H:List Row)(u:List (Nat × Row)):(a0B H u).length=H.length:=by
 induction u generalizing H with
 | nil=>rfl
 | cons p u ih=>obtain ⟨i,r⟩:=p;rw [show a0B H ((i,r) :: u)=a0B (H.set i r) u from rfl,ih];simp
theorem e0y (e:Eff)(H:List Row):(e.heap H).length=H.length+e.news.length:=by simp [Eff.heap,a0F]
section
variable {P:Program}{w:World}{φ:Nat→Nat × Nat}
theorem RFs.cons {A:Nat→Prop}{x:F}{u:Value}{xs:List F}{us:List Value}(h:RF w A x u)(k:RFs w A xs us):RFs w A (x :: xs) (u :: us) :=
 ⟨by simp [k.1],fun i y z hy hz=>by
  cases i with
  | zero=>simp at hy hz;subst hy;subst hz;exact h
  | succ i=>exact k.2 i y z (by simpa using hy) (by simpa using hz)⟩
theorem RFs.append {A:Nat→Prop}{xs ys:List F}{us vs:List Value}(h:RFs w A xs us)(k:RFs w A ys vs):RFs w A (xs++ys) (us++vs):=by
 refine ⟨by simp [h.1,k.1],fun i x y hx hy=>?_⟩
 by_cases hi:i<xs.length
 ·rw [List.getElem?_append_left hi] at hx
  rw [List.getElem?_append_left (by rw [h.1];exact hi)] at hy
  exact h.2 i x y hx hy
 ·rw [List.getElem?_append_right (by omega)] at hx
  rw [List.getElem?_append_right (by rw [h.1];omega),h.1] at hy
  exact k.2 _ x y hx hy
theorem RFs.take {A:Nat→Prop}{xs:List F}{us:List Value}(h:RFs w A xs us)(n:Nat):RFs w A (xs.take n) (us.take n):=by
 refine ⟨by simp [h.1],fun i x y hx hy=>?_⟩
 rw [List.getElem?_take] at hx hy
 split at hx
 ·exact h.2 i x y hx (by simpa [*] using hy)
 ·simp at hx
theorem RFs.drop {A:Nat→Prop}{xs:List F}{us:List Value}(h:RFs w A xs us)(n:Nat):RFs w A (xs.drop n) (us.drop n):=by
 refine ⟨by simp [h.1],fun i x y hx hy=>?_⟩
 rw [List.getElem?_drop] at hx hy
 exact h.2 _ x y hx hy
structure Froze (P:Program)(w:World)(φ:Nat→Nat × Nat)(X:Nat→Prop)(H H':List Row):Prop where
 ok:HR P w φ X H'
 len:H'.length=H.length
 av:∀ b,b<w.heap.size→Av X φ H' b→Av X φ H b
 live:∀ b,Live φ H' b→Live φ H b
 rows:∀ (r:Nat) (row:Row),H'[r]?=some row→(∀ T xs,row ≠ .froz T xs)→H[r]?=some row
theorem Froze.refl {X:Nat→Prop}{H:List Row}(h:HR P w φ X H):Froze P w φ X H H:=⟨h,rfl,fun _ _ h=>h,fun _ h=>h,fun _ _ h _=>h⟩
theorem Froze.trans {X:Nat→Prop}{H H' H'':List Row}(h:Froze P w φ X H H')(k:Froze P w φ X H' H''):Froze P w φ X H H'' :=
 ⟨k.ok,k.len.trans h.len,fun b hb hx=>h.av b hb (k.av b hb hx),fun b hx=>h.live b (k.live b hx),fun r row hr hl=>h.rows r row (k.rows r row hr hl) hl⟩
theorem e0Y {X:Nat→Prop}{H:List Row}(h:HR P w φ X H){d:D}{u:Value}{x:F}{us:List (Nat × Row)}(hd:R P w φ (Av X φ H) H.length d u)(he:b0T P H d=some (x,us)) :
  Froze P w φ X H (a0B H us)∧RF w (Av X φ (a0B H us)) x u:=by
 cases hd with
 | f hx =>
  simp [b0T] at he
  obtain ⟨rfl,rfl⟩:=he
  exact ⟨Froze.refl h,hx⟩
 | @sl0 r off a hr =>
  simp [b0T] at he
  obtain ⟨rfl,rfl⟩:=he
  refine ⟨Froze.refl h,?_⟩
  cases a with
  | none=>exact .s0
  | some a=>exact .s [] (Nat.le_refl _) rfl (fun i u hu=>by simp at hu) (fun i x u hx=>by simp at hx)
 | @sl r off n cap cs T fr i hp hr hn hb hi hc =>
  simp only [b0T] at he
  split at he
  ·rename_i h0
   subst h0
   simp at he
   obtain ⟨rfl,rfl⟩:=he
   exact ⟨Froze.refl h,.s [] (Nat.zero_le _) rfl (fun i u hu=>by simp at hu) (fun i x u hx=>by simp at hx)⟩
  ·split at he
   ·rename_i T' xs hrow
    split at he
    ·rename_i sz by_ z hinf
     split at he
     ·rename_i hle
      obtain ⟨hle,hsz⟩:=hle
      simp at he
      obtain ⟨rfl,rfl⟩:=he
      have hne:xs≠[]:=fun e=>by
       have:0<n*sz:=Nat.mul_pos hp hsz
       subst e
       simp at hle
       omega
      obtain ⟨h1,h2,h3,h4⟩:=h.freeze hrow hne
      refine ⟨⟨h1,by simp [a0B],h2,h4,?_⟩,?_⟩
      ·intro s row hs hl
       simp only [a0B] at hs
       by_cases e:r=s
       ·subst e
        rw [List.getElem?_set_self (List.getElem?_eq_some_iff.1 hrow).1] at hs
        injection hs with hs
        subst hs
        exact absurd rfl (hl _ _)
       ·rwa [List.getElem?_set_ne e] at hs
      ·obtain ⟨pre,us,post,h5,h6,h7⟩:=h.rows r _ hrow hne
       refine .s ((us.drop off).take (n*sz)) hn (by simp [h7.1]) (fun j u hu=>⟨?_,h3⟩) (fun j x u hx hu=>?_)
       ·rw [add_lit,k0V h5,←h6]
        have hj:j<n*sz:=by
         have:=(List.getElem?_eq_some_iff.1 hu).1
         simp at this;omega
        rw [List.getElem?_take,if_pos hj,List.getElem?_drop] at hu
        have hlt:off+j<us.length:=(List.getElem?_eq_some_iff.1 hu).1
        simp only [List.getElem?_toArray]
        rw [List.append_assoc,List.getElem?_append_right (by omega),List.getElem?_append_left (by omega)]
        rw [show pre.length+off+j-pre.length=off+j by omega]
        exact hu
       ·have h8:RFs w (Av X φ (a0B H [(r,.froz T' xs)])) xs us:=h7.keep (L:=fun _=>False) (Keep.refl _ w) (fun _ h=>h.elim) h2
        exact ((h8.drop off).take (n*sz)).2 j x u hx hu
     ·cases he
    ·cases he
   ·rename_i T' xs hrow
    split at he
    ·rename_i sz by_ z hinf
     split at he
     ·rename_i hle
      simp at he
      obtain ⟨rfl,rfl⟩:=he
      obtain ⟨h0,pre,us,post,fr',h5,h6,h7⟩:=h.rows r _ hrow
      refine ⟨Froze.refl h,.s ((us.drop off).take (n*sz)) hn (by simp [h7.1]) (fun j u hu=>⟨?_,h0⟩) (fun j x u hx hu=>?_)⟩
      ·rw [add_lit,k0V h5,←h6]
       have hj:j<n*sz:=by
        have:=(List.getElem?_eq_some_iff.1 hu).1
        simp at this;omega
       rw [List.getElem?_take,if_pos hj,List.getElem?_drop] at hu
       have hlt:off+j<us.length:=(List.getElem?_eq_some_iff.1 hu).1
       simp only [List.getElem?_toArray]
       rw [List.append_assoc,List.getElem?_append_right (by omega),List.getElem?_append_left (by omega)]
       rw [show pre.length+off+j-pre.length=off+j by omega]
       exact hu
      ·exact ((h7.drop off).take (n*sz)).2 j x u hx hu
     ·cases he
    ·cases he
   ·cases he
 | _=>simp [b0T] at he
theorem d0m {X:Nat→Prop}{ds:List D}{vs:List Value}{xs:List F}{us:List (Nat × Row)}:∀ {H:List Row},HR P w φ X H→Rs P w φ (Av X φ H) H.length ds vs→a0U P H ds=some (xs,us) →
  Froze P w φ X H (a0B H us)∧RFs w (Av X φ (a0B H us)) xs vs:=by
 induction ds generalizing vs xs us with
 | nil =>
  intro H h hd he
  simp [a0U] at he
  obtain ⟨rfl,rfl⟩:=he
  have hv:vs=[]:=List.eq_nil_of_length_eq_zero hd.1
  subst hv
  exact ⟨Froze.refl h,rfl,fun i x u hx=>by simp at hx⟩
 | cons d ds ih =>
  intro H h hd he
  cases vs with
  | nil=>have:=hd.1;simp at this
  | cons v vs =>
   simp only [a0U] at he
   split at he
   ·rename_i x u1 h1
    split at he
    ·rename_i xs' us' h2
     simp at he
     obtain ⟨rfl,rfl⟩:=he
     obtain ⟨f1,r1⟩:=e0Y h (hd.2 0 d v (by simp) (by simp)) h1
     have hd':Rs P w φ (Av X φ (a0B H u1)) (a0B H u1).length ds vs:=by
      have h3:Rs P w φ (Av X φ H) H.length ds vs:=⟨by have:=hd.1;simpa using this,fun i x y hx hy=>hd.2 (i+1) x y (by simpa using hx) (by simpa using hy)⟩
      exact h3.keep (L:=fun _=>False) (Keep.refl _ w) (fun _ h=>h.elim) f1.av (fun _ _=>rfl) (by rw [f1.len];exact Nat.le_refl _)
     obtain ⟨f2,r2⟩:=ih f1.ok hd' h2
     rw [b0E]
     refine ⟨f1.trans f2,RFs.cons ?_ r2⟩
     exact r1.keep (L:=fun _=>False) (Keep.refl _ w) (fun _ h=>h.elim) f2.av
    ·cases he
   ·cases he
theorem d0b {w:World}{g:Nat}{cur cs:Array Value}{t:TypeId}{fr:Nat × Nat}(hg:w.heap[g]?=some (.cells cur t fr))(hs:cs.size=cur.size):Keep (fun b=>b=g) w (w.setRow g cs):=by
 refine ⟨by simp,fun b _ hb=>setRow_other w g b cs hb,fun b cs' T fr' hb=>?_,rfl,rfl,rfl⟩
 by_cases e:b=g
 ·subst e
  rw [hg] at hb
  injection hb with hb
  injection hb with e1 e2 e3
  subst e1;subst e2;subst e3
  exact ⟨cs,fr,setRow_heap w b _ _ _ _ hg,hs⟩
 ·exact ⟨cs',fr',by rw [setRow_other w g b cs e];exact hb,rfl⟩
theorem e0T {d:D}{u:Value}{A:Nat→Prop}{N:Nat}(h:R P w φ A N d u)(hj:d ≠ .junk)(ht:∀ ds,d ≠ .tp ds):Rs P w φ A N d.cells u.cells.toList∧∀ x∈u.cells.toList,x.oneCell'=true:=by
 cases h with
 | junk=>exact absurd rfl hj
 | tp=>exact absurd rfl (ht _)
 | ag hs hr h1=>exact ⟨⟨by simpa [D.cells,Value.cells] using hs,fun i x y hx hy=>hr i x y (by simpa [D.cells] using hx) (by simpa [Value.cells] using hy)⟩,by simpa [Value.cells] using h1⟩
 | f hx =>
  have h1:=hx.one
  have hc:u.cells = #[u]:=by cases u<;>simp [Value.oneCell'] at h1<;>rfl
  rw [hc]
  exact ⟨Rs.cons (.f hx) Rs.nil,by simpa using h1⟩
 | sl p a b c d e=>exact ⟨Rs.cons (.sl p a b c d e) Rs.nil,by simp [Value.cells,Value.oneCell']⟩
 | sl0 a=>exact ⟨Rs.cons (.sl0 a) Rs.nil,by simp [Value.cells,Value.oneCell']⟩
 | pt a=>exact ⟨Rs.cons (.pt a) Rs.nil,by simp [Value.cells,Value.oneCell']⟩
 | rf cs a b c=>exact ⟨Rs.cons (.rf cs a b c) Rs.nil,by simp [Value.cells,Value.oneCell']⟩
 | fn a b=>exact ⟨Rs.cons (.fn a b) Rs.nil,by simp [Value.cells,Value.oneCell']⟩
 | mp a=>exact ⟨Rs.cons (.mp a) Rs.nil,by simp [Value.cells,Value.oneCell']⟩
theorem f0m {T:TypeId}{n b:Nat}{z:List Value}(hi:inf P T=some (n,b,z)){g off:Nat}{cur:Array Value}{t:TypeId}(hg:w.heap[g]?=some (.cells cur t (0,0))){u:Value}(hn:u.cells.toList.length=n)(hfit:off+n≤cur.size)(h1:∀ x∈u.cells.toList,x.oneCell'=true) :
  (Instr.storeAt T (.pointer (some ⟨g,off,none⟩)) u).run P w = .ok () (w.setRow g (cur.toList.take off++u.cells.toList++cur.toList.drop (off+u.cells.toList.length)).toArray):=by
 have hst:=run_storeCells_at P g off t u.cells.toList 0 cur w hg (by simpa [hn] using hfit) h1
 simp only [Nat.add_zero] at hst
 have hsz:u.cells.size=n:=by simpa using hn
 simp only [Instr.storeAt,Instr.sureAddr,Sem.run_bind,Sem.run_pure,Result.andThen_ok,storeVar,c0A hi,hsz]
 simpa using hst
end
end Go.Proofs.YthjgmldnegaaiaaGreatDoor.Mir
namespace Go.Proofs.YthjgmldnegaaiaaGreatDoor.Mir
open Go Go.RowKit
section
variable {P:Program}{w:World}{φ:Nat→Nat × Nat}{X:Nat→Prop}{H:List Row}
theorem f0b {d:D}(h:b0I d=true):d ≠ .junk∧∀ ds,d ≠ .tp ds:=by
 cases d<;>simp [b0I] at h ⊢
theorem d0V {H1:List Row}{w':World}(f:Froze P w φ X H H1){r:Nat}{row row':Row}(hr:H1[r]?=some row)(hl:row.live=true)(hk:Keep (fun b=>b=(φ r).1) w w')
  (hok:(∀ b,b<w.heap.size→Av X φ (H1.set r row') b→Av X φ H1 b)→RowOk P w' φ (Av X φ (H1.set r row')) H1.length r row') {e:Eff} {v:Value} (heq:e.heap H=H1.set r row') (hres:∀ A,R P w' φ A H.length e.res v):Leaves P w φ X H e v w':=by
 obtain ⟨h1,h2,h3⟩:=f.ok.turn hr (hk.mono (fun b _ e=>⟨hl,e⟩)) (fun _=>hl) hok
 refine ⟨φ,fun _ _=>rfl,by rw [heq];exact h1,?_,?_,?_⟩
 ·rw [heq]
  have:=hres (Av X φ (H1.set r row'))
  rw [List.length_set,f.len];exact this
 ·refine hk.mono (fun b _ e=>?_)
  subst e
  exact f.live _ (b0V hr hl)
 ·intro b hb
  rw [heq] at hb
  rcases h2 b hb with h|h
  ·exact .inl (f.live _ h)
  ·exact .inr h
theorem b1l (h:HR P w φ X H){T:TypeId}{x d:D}{ux ud:Value}{e:Eff}(hx:R P w φ (Av X φ H) H.length x ux)(hd:R P w φ (Av X φ H) H.length d ud)(he:m0j P H T x d=some e) :
  ∃ w',(Instr.storeAt T ux ud).run P w = .ok () w'∧Leaves P w φ X H e Go.undef w':=by
 unfold m0j at he
 split at he
 ·rename_i r off n b z hinf
  cases hx with
  | pt hr =>
   split at he
   ·rename_i U xs hrow
    split at he
    ·rename_i hc
     injection he with he
     subst he
     obtain ⟨hc1,hc2,hc3⟩:=hc
     obtain ⟨hj,ht⟩:=f0b hc1
     obtain ⟨hcs,hone⟩:=e0T hd hj ht
     obtain ⟨h0,cs,h1,h2,h3⟩:=h.rows r _ hrow
     have hsz:cs.size=xs.length:=by have:=h2.1;simpa using this
     have hst:=f0m (P:=P) (w:=w) (off:=(φ r).2+off) hinf h1 (u:=ud) (by rw [hcs.1];exact hc2) (by rw [h0];omega) hone
     have hlen2:(cs.toList.take ((φ r).2+off)++ud.cells.toList++cs.toList.drop ((φ r).2+off+ud.cells.toList.length)).length=cs.size:=by
      have h5:=hcs.1
      rw [hc2] at h5
      rw [h0]
      simp only [List.length_append,List.length_take,List.length_drop,h5,Array.length_toList]
      omega
     refine ⟨_,hst,?_⟩
     have hk:Keep (fun b=>b=(φ r).1) w (w.setRow (φ r).1 (cs.toList.take ((φ r).2+off)++ud.cells.toList++cs.toList.drop ((φ r).2+off+ud.cells.toList.length)).toArray):=d0b h1 (by simpa using hlen2)
     refine d0V (row':=.box U (splice xs off d.cells)) (Froze.refl h) hrow rfl hk (fun hav=>?_) (by simp [Eff.heap,a0B]) (fun A=>R.undef)
     have hlv:∀ b,b=(φ r).1→Av X φ H b:=fun b e=>by subst e;exact .inr (b0V hrow rfl)
     refine ⟨h0,_,setRow_heap w _ _ _ _ _ h1,?_,?_⟩
     ·have a1:=h2.keep (N':=H.length) hk hlv hav (fun _ _=>rfl) (Nat.le_refl _)
      have a2:=hcs.keep (N':=H.length) hk hlv hav (fun _ _=>rfl) (Nat.le_refl _)
      have a3:=a1.splice a2 off
      have e0:(φ r).2+off=off:=by rw [h0,Nat.zero_add]
      simp only [e0] at a3 ⊢
      exact a3
     ·intro u hu
      simp only [List.append_assoc,List.mem_append] at hu
      rcases hu with hu|hu|hu
      ·exact h3 u (List.mem_of_mem_take hu)
      ·exact hone u hu
      ·exact h3 u (List.mem_of_mem_drop hu)
    ·cases he
   ·rename_i U xs hrow
    split at he
    ·rename_i hc
     obtain ⟨hc1,hc2,hc3,hc4⟩:=hc
     obtain ⟨hj,ht⟩:=f0b hc1
     obtain ⟨hcs,hone⟩:=e0T hd hj ht
     split at he
     ·rename_i ys us hfr
      obtain ⟨f,hys⟩:=d0m h hcs hfr
      split at he
      ·rename_i U' ws hrow'
       injection he with he
       subst he
       have hrow2:H[r]?=some (.data U' ws):=f.rows r _ hrow' (fun _ _ e=>by cases e)
       rw [hrow] at hrow2
       injection hrow2 with hrow2
       injection hrow2 with e1 e2
       subst e1;subst e2
       have hne:xs≠[]:=fun e=>by subst e;simp at hc3;omega
       obtain ⟨pre,vs,post,h1,h2,h3⟩:=f.ok.rows r _ hrow' hne
       have hst:=f0m (P:=P) (w:=w) (off:=(φ r).2+off) hinf h1 (u:=ud) (by rw [hcs.1];exact hc2) (by rw [←h2];have:=h3.1;simp;omega) hone
       have hl5:ud.cells.toList.length=n:=by rw [hcs.1];exact hc2
       have hvl:=h3.1
       have hnew:(pre++vs++post).take ((φ r).2+off)++ud.cells.toList++(pre++vs++post).drop ((φ r).2+off+ud.cells.toList.length)=pre++(vs.take off++ud.cells.toList++vs.drop (off+ud.cells.toList.length))++post:=by
        rw [←h2,hl5,List.append_assoc pre,List.take_length_add_append,List.take_append_of_le_length (by omega),Nat.add_assoc,List.drop_length_add_append,List.drop_append_of_le_length (by omega)]
        simp
       refine ⟨_,hst,?_⟩
       simp only at *
       rw [hnew]
       have hk:Keep (fun b=>b=(φ r).1) w (w.setRow (φ r).1 (pre++(vs.take off++ud.cells.toList++vs.drop (off+ud.cells.toList.length))++post).toArray):=d0b h1 (by simp [hl5];omega)
       refine d0V (row':=.data U (splice xs off ys)) f hrow' (a0j hne) hk (fun hav=>?_) (by simp [Eff.heap,b0E,a0B]) (fun A=>R.undef)
       have hlv:∀ b,b=(φ r).1→Av X φ (a0B H us) b:=fun b e=>by subst e;exact .inr (b0V hrow' (a0j hne))
       refine fun _=>⟨pre,_,post,setRow_heap w _ _ _ _ _ h1,h2,?_⟩
       have a1:=h3.keep hk hlv hav
       have a2:=hys.keep hk hlv hav
       have a3:=((a1.take off).append a2).append (a1.drop (off+ud.cells.toList.length))
       have e0:splice xs off ys=xs.take off++ys++xs.drop (off+ud.cells.toList.length):=by unfold Mir.splice;rw [←hys.1]
       rw [e0] at a3 ⊢
       exact a3
      ·cases he
     ·cases he
    ·cases he
   ·cases he
 ·cases he
end
end Go.Proofs.YthjgmldnegaaiaaGreatDoor.Mir
