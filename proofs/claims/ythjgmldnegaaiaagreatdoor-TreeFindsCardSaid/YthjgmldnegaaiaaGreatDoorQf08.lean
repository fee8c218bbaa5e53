/- Lemmas for the proof. No condition. -/
import Derived.Test.YthjgmldnegaaiaaGreatDoorQf07
import Derived.Test.YthjgmldnegaaiaaGreatDoorRows
set_option linter.unusedVariables false
set_option linter.unusedSimpArgs false
namespace Go.Proofs.YthjgmldnegaaiaaGreatDoor.Mir
open Go Go.RowKit
theorem isHS {P:Program}{n:Nat}{c:SCode}{s:St}{Q:Out→St→Prop}(h:HS P n c s Q):HS P n c s Q:=h
theorem g1B {n:Nat}{l:List SR}{Q:D→List Row→Prop}{s:St}(h:RetS n l Q s):RetS n l Q s:=h
theorem d1k {P:Program}{f:D}{l:List D}{H:List Row}{K:D→List Row→Prop}(h:a0P P f l H K):a0P P f l H K:=h
theorem y0L {α:Type}{c:Prop}[Decidable c]{a:α}(h:c):(if c then some a else none)=some a:=if_pos h
abbrev iF (n:Int):F:=.v (.int .i64 n)
abbrev bF (b:Bool):F:=.v (.bool b)
def fI (l:List Int):F:=.s (l.map iF) l.length
def fB (l:List Bool):F:=.s (l.map bF) l.length
theorem o0Z {l:List Bool}{i:Nat}{b:Bool}:(l.map bF).set i (.v (.bool b))=(l.set i b).map bF:=by rw [List.map_set]
theorem r0Q {l:List Int}{z:Int}:l.map iF++[.v (.int .i64 z)]=(l++[z]).map iF:=by rw [List.map_append];rfl
theorem a1b:most=140737488355328:=id rfl
theorem a0u {α:Type}[Inhabited α]{cs:α→List F}{n:Nat}(hn:∀ x,(cs x).length=n){l:List α}{k j:Nat}(hk:k<l.length)(hj:j<n):(l.flatMap cs)[k*n+j]?=(cs (gt l k))[j]?:=by
 rw [b0P hk]
 exact (flat_getF cs n hn l k hk j hj)
where
 flat_getF {α:Type} (f:α→List F) (n:Nat) (hf:∀ x,(f x).length=n):∀ (xs:List α) (k:Nat) (hk:k<xs.length) (i:Nat),i<n→(xs.flatMap f)[k*n+i]?=(f xs[k])[i]?
  | [],k,hk,_,_=>by simp at hk
  | x :: xs,0,_,i,hi=>by
   rw [List.flatMap_cons,Nat.zero_mul,Nat.zero_add,List.getElem?_append_left (by rw [hf];exact hi)];rfl
  | x :: xs,k+1,hk,i,hi=>by
   rw [List.flatMap_cons,List.getElem?_append_right (by rw [hf,Nat.add_mul];omega),hf,show (k+1)*n+i-n=k*n+i by rw [Nat.add_mul];omega]
   exact flat_getF f n hf xs k (by simpa using hk) i hi
theorem b0K {α:Type}{cs:α→List F}{n:Nat}(hn:∀ x,(cs x).length=n)(l:List α):(l.flatMap cs).length=l.length*n:=by
 induction l with
 | nil=>simp
 | cons x l ih=>rw [List.flatMap_cons,List.length_append,hn,ih,List.length_cons,Nat.add_mul];omega
theorem h0v {α:Type}[Inhabited α]{cs:α→List F}{n:Nat}(hn:∀ x,(cs x).length=n){l:List α}{k:Nat}(hk:k<l.length):((l.flatMap cs).drop (k*n)).take n=cs (gt l k):=by
 apply List.ext_getElem?
 intro j
 rw [List.getElem?_take]
 split
 ·rename_i hj
  rw [List.getElem?_drop,a0u hn hk hj]
 ·rw [List.getElem?_eq_none (by rw [hn];omega)]
theorem b0l {α:Type}[Inhabited α]{cs:α→List F}{n:Nat}(hn:∀ x,(cs x).length=n){H:List Row}{l:List α}{k:Nat}(hk:k<l.length):loadA H n (.rf ((l.flatMap cs).drop (k*n)))=some (.ag ((cs (gt l k)).map .f)):=by
 have hl:=b0K hn l
 have:(k+1)*n≤l.length*n:=Nat.mul_le_mul_right n hk
 rw [Nat.add_mul] at this
 rw [a0A,if_pos (by rw [List.length_drop,hl];omega),←h0v hn hk,List.map_take]
structure Nd where
 ns:List Int
 tr:Int
 le:Int
 deriving Inhabited,DecidableEq
def Nd.cs (d:Nd):List F:=[fI d.ns,iF d.tr,iF d.le]
theorem Nd.cs_len (d:Nd):d.cs.length=3:=rfl
theorem c0U {d:Nd}:d.cs=[fI d.ns,iF d.tr,iF d.le]:=id rfl
def fG (g:List Nd):F:=.s (g.flatMap Nd.cs) g.length
theorem b0M {H:List Row}{g:List Nd}{k:Nat}(hk:k<g.length):loadA H 3 (.rf ((g.flatMap Nd.cs).drop (k*3)))=some (.ag ((Nd.cs (gt g k)).map .f)):=b0l Nd.cs_len hk
theorem b0X {g:List Nd}{k:Nat}(hk:k<g.length):(g.flatMap Nd.cs)[k*3]?=some (fI (gt g k).ns):=a0u (j:=0) Nd.cs_len hk (by omega)
theorem b0Y {g:List Nd}{k:Nat}(hk:k<g.length):(g.flatMap Nd.cs)[k*3+1]?=some (iF (gt g k).tr):=a0u (j:=1) Nd.cs_len hk (by omega)
theorem b0Q {g:List Nd}{k:Nat}(hk:k<g.length):(g.flatMap Nd.cs)[k*3+2]?=some (iF (gt g k).le):=a0u (j:=2) Nd.cs_len hk (by omega)
def OutN (P:Program)(n0:Nat){α:Type}(st:α→St)(p:α→Prop)(o:Out)(s:St):Prop:=o = .normal∧∃ y,View P n0 s (st y)∧p y
def OutS (n0:Nat)(keep:List Nat)(i:Nat){α:Type}(st:α→St)(p:α→Prop)(o:Out)(s:St):Prop:=o = .exit i∧∃ y,i0g n0 keep s=some (st y)∧p y
theorem OutS.mk {n0:Nat}{keep:List Nat}{i:Nat}{α:Type}{st:α→St}{p:α→Prop}{s:St}(y:α)(h:i0g n0 keep s=some (st y))(hp:p y):OutS n0 keep i st p (.exit i) s:=⟨rfl,y,h,hp⟩
theorem HS.cut {P:Program}{n0:Nat}{c:SCode}{s:St}{Q:Out→St→Prop}(keep:List Nat)(i:Nat){α:Type}(st:α→St)(p:α→Prop)(h1:HS P n0 c s (OutS n0 keep i st p))(h2:∀ y,p y→∀ s',View P n0 s' (st y)→Q (.exit i) s'):HS P n0 c s Q :=
 h1.mono fun o s' ⟨ho,y,hs,hp⟩=>by rw [ho];exact h2 y hp s' (View.sweep hs)
theorem e1T {P:Program}{b:List Nat}{n0 i t n:Nat}{o:SOp}{l:List SI}{own:List Nat}{log:List (List Nat × List Nat)}{e:List (Nat × D)}{H:List Row}{dr:List Nat}{K:St→Prop}
  (h:∀ N:List Nat→List (List Nat × List Nat)→D→List Row→Prop,(∀ own1 log1 d H1,wpDr P b n0 l (i+1) own1 log1 ⟨frm n ((t,d) :: e),H1,[]⟩ K→N own1 log1 d H1)→d0i P b own n0 i log o (a0Y (frm n e) H o) (frm n e) H N):wpDr P b n0 (.a t o :: l) i own log ⟨frm n e,H,dr⟩ K:=by
 rw [y0v];exact h _ fun _ _ _ _ h=>by rw [g0U];exact h
theorem e1o {P:Program}{b:List Nat}{n0 i n:Nat}{o:SOp}{l:List SI}{own:List Nat}{log:List (List Nat × List Nat)}{e:List (Nat × D)}{H:List Row}{dr:List Nat}{K:St→Prop}
  (h:∀ N:List Nat→List (List Nat × List Nat)→D→List Row→Prop,(∀ own1 log1 d H1,wpDr P b n0 l (i+1) own1 log1 ⟨frm n e,H1,[]⟩ K→N own1 log1 d H1)→d0i P b own n0 i log o (a0Y (frm n e) H o) (frm n e) H N):wpDr P b n0 (.n o :: l) i own log ⟨frm n e,H,dr⟩ K:=by
 rw [a1L];exact h _ fun _ _ _ _ h=>h
theorem e1h {P:Program}{b:List Nat}{n0 i t n u:Nat}{w:Bool}{o:SOp}{l:List SI}{own:List Nat}{log:List (List Nat × List Nat)}{e:List (Nat × D)}{H:List Row}{dr:List Nat}{K:St→Prop}
  (h:∀ (N:List Nat→List (List Nat × List Nat)→D→List Row→Prop) (M:Prop),(∀ own1 log1 r H1,wpDr P b n0 l (i+1) own1 log1 ⟨frm n ((u,r) :: e),H1,[]⟩ K→N own1 log1 r H1)→(wpDr P b n0 l (i+1) own (log++[([],[])]) ⟨frm n ((u,D.undef) :: e),H,[]⟩ K→M) →
   r0V (frm n e)[t]? w (d0i P b own n0 i log o (a0Y (frm n e) H o) (frm n e) H N) M):wpDr P b n0 (.g (some u) o t w :: l) i own log ⟨frm n e,H,dr⟩ K:=by
 rw [b1Z];exact h _ _ (fun _ _ _ _ h=>by rw [show putD! (frm n e) (some u) _=(frm n e).set u _ from rfl,g0U];exact h) fun h=>by rw [show putD! (frm n e) (some u) _=(frm n e).set u _ from rfl,g0U];exact h
abbrev Bs:=List UInt8
abbrev uF (b:UInt8):F:=.v (.int .u8 (b.toNat:Nat))
def fY (l:List UInt8):F:=.s (l.map uF) l.length
def BB (l:List UInt8):ByteArray:=⟨l.toArray⟩
theorem p0H:∀ a:List UInt8,bytesOf? ((a.map uF).map .f)=some a
 | []=>rfl
 | x :: a=>by
  have ih:=p0H a
  simp only [List.map_cons,bytesOf?,ih,Option.map_some]
  simp
theorem y0h {l:Bs}:(BB l).data.toList=l:=rfl
theorem t0o {l:Bs}:(BB l).size=l.length:=rfl
theorem z0N {a b:Bs}:(BB a=BB b)=(a=b):=by
 apply propext
 constructor
 ·intro h
  have:=congrArg (fun x:ByteArray=>x.data.toList) h
  exact this
 ·intro h;rw [h]
theorem d1T {a:Bs}:(BB a=⟨#[]⟩)=(a=[]):=z0N (b:=[])
theorem b1G {g:List Nd}:slcS (.f (fG g))=some g.length:=id rfl
theorem x0n {g:List Nd}{sz:Nat}{k:IntKind}{i:Int}{K:D→Prop}:idxS sz (.f (fG g)) (.f (.v (.int k i))) K=((0≤i∧i<g.length)∧K (.rf ((g.flatMap Nd.cs).drop (i.toNat*sz)))):=id rfl
theorem o0f {H:List Row}{g:List Nd}{sz:Nat}:b0S H sz (.f (fG g))=some (g.length,g.flatMap Nd.cs):=id rfl
theorem z0u {g:Bs}:slcS (.f (fY g))=some g.length:=id rfl
theorem y0T {g:Bs}{sz:Nat}{k:IntKind}{i:Int}{K:D→Prop}:idxS sz (.f (fY g)) (.f (.v (.int k i))) K=((0≤i∧i<g.length)∧K (.rf ((g.map uF).drop (i.toNat*sz)))):=id rfl
theorem m0f {H:List Row}{g:Bs}{sz:Nat}:b0S H sz (.f (fY g))=some (g.length,g.map uF):=id rfl
theorem y0w {g:List Int}:slcS (.f (fI g))=some g.length:=id rfl
theorem z0o {g:List Int}{sz:Nat}{k:IntKind}{i:Int}{K:D→Prop}:idxS sz (.f (fI g)) (.f (.v (.int k i))) K=((0≤i∧i<g.length)∧K (.rf ((g.map iF).drop (i.toNat*sz)))):=id rfl
theorem o0b {H:List Row}{g:List Int}{sz:Nat}:b0S H sz (.f (fI g))=some (g.length,g.map iF):=id rfl
theorem z0E {g:List Bool}:slcS (.f (fB g))=some g.length:=id rfl
theorem y0F {g:List Bool}{sz:Nat}{k:IntKind}{i:Int}{K:D→Prop}:idxS sz (.f (fB g)) (.f (.v (.int k i))) K=((0≤i∧i<g.length)∧K (.rf ((g.map bF).drop (i.toNat*sz)))):=id rfl
theorem p0y {H:List Row}{g:List Bool}{sz:Nat}:b0S H sz (.f (fB g))=some (g.length,g.map bF):=id rfl
def Nz (n:Nat)(p q:Prop):Prop:=(n=0→p)∧q
theorem y0K {k:Nat}{xs:List F}{n:Nat}{K:Bool→Prop}:d0C k (.f (.s xs n)) (.f (.v (.slice none 0 0))) K=(k=0∧Nz n (K true) (K false)):=id rfl
theorem b1g {k:Nat}{g:Bs}{K:Bool→Prop}:d0C k (.f (fY g)) (.f (.v (.slice none 0 0))) K=(k=0∧Nz g.length (K true) (K false)):=id rfl
theorem a1D {k:Nat}{g:List Nd}{K:Bool→Prop}:d0C k (.f (fG g)) (.f (.v (.slice none 0 0))) K=(k=0∧Nz g.length (K true) (K false)):=id rfl
theorem b1U {k:Nat}{g:List Int}{K:Bool→Prop}:d0C k (.f (fI g)) (.f (.v (.slice none 0 0))) K=(k=0∧Nz g.length (K true) (K false)):=id rfl
theorem v0N {k r o n:Nat}{K:Bool→Prop}:d0C k (.sl r o n) (.f (.v (.slice none 0 0))) K=(k=0∧Nz n (K true) (K false)):=id rfl
theorem LT:((((type_of% @y0L∧(type_of% @a1b∧type_of% @o0Z))∧(type_of% @r0Q∧(type_of% @y0h∧type_of% @t0o)))∧((type_of% @z0N∧(type_of% @d1T∧type_of% @b1G))∧(type_of% @x0n∧(type_of% @o0f∧type_of% @z0u))))∧(((type_of% @y0T∧(type_of% @m0f∧type_of% @y0w))∧(type_of% @z0o∧(type_of% @o0b∧type_of% @z0E)))∧((type_of% @y0F∧(type_of% @p0y∧type_of% @y0K))∧((type_of% @b1g∧type_of% @a1D)∧(type_of% @b1U∧type_of% @v0N))))) :=
 ⟨⟨⟨⟨@y0L,⟨@a1b,@o0Z⟩⟩,⟨@r0Q,⟨@y0h,@t0o⟩⟩⟩,⟨⟨@z0N,⟨@d1T,@b1G⟩⟩,⟨@x0n,⟨@o0f,@z0u⟩⟩⟩⟩,⟨⟨⟨@y0T,⟨@m0f,@y0w⟩⟩,⟨@z0o,⟨@o0b,@z0E⟩⟩⟩,⟨⟨@y0F,⟨@p0y,@y0K⟩⟩,⟨⟨@b1g,@a1D⟩,⟨@b1U,@v0N⟩⟩⟩⟩⟩
theorem View.fix {P:Program}{n0:Nat}{ts:List D}{H:List Row}{dr:List Nat}{i:Nat}{d:D}{x:F}{us:List (Nat × Row)}(ht:ts[i]?=some d)(hf:b0T P H d=some (x,us)) :
  View P n0 ⟨ts,H,dr⟩ ⟨ts.set i (.f x),a0B H us,[]⟩:=by
 intro X w0 φ0 H0 w φ a _ hr
 have hv:∃ u,a.tmps.toList[i]?=some u:=by
  have h1:=hr.sim.tmps.1
  have h2:i<ts.length:=(List.getElem?_eq_some_iff.1 ht).1
  exact ⟨a.tmps.toList[i]'(by dsimp only at h1;omega),by simp⟩
 obtain ⟨u,hu⟩:=hv
 obtain ⟨h1,h2⟩:=e0Y hr.sim.heap (hr.sim.tmps.2 i d u ht hu) hf
 refine ⟨φ,⟨⟨h1.ok,⟨?_,fun j d' u' hd hu'=>?_⟩,hr.sim.defers⟩,⟨?_,hr.ons.same,hr.ons.keep,fun b hb=>hr.ons.fresh b (h1.live b hb)⟩⟩⟩
 ·dsimp only;rw [List.length_set];exact hr.sim.tmps.1
 ·dsimp only at hd ⊢
  rw [h1.len]
  rw [List.getElem?_set] at hd
  split at hd
  ·rename_i e;subst e
   have hx:D.f x=d':=by split at hd<;>first|exact Option.some.inj hd|cases hd
   subst hx
   rw [hu] at hu'
   cases hu'
   exact .f h2
  ·exact (hr.sim.tmps.2 j d' u' hd hu').keep (L:=fun _=>False) (Keep.refl _ _) (fun _ h=>h.elim) h1.av (fun _ _=>rfl) (Nat.le_refl _)
 ·dsimp only;rw [h1.len];exact hr.ons.len
theorem b1s {P:Program}{H:List Row}{r m k b:Nat}{T:TypeId}{xs:List F}{z:List Value}(hr:H[r]?=some (.data T xs))(hi:inf P T=some (k,b,z))(hm:m≠0)(hn:xs.length=m*k)(hk:0<k) :
  b0T P H (.sl r 0 m)=some (.s xs m,[(r,.froz T xs)]):=by
 have h2:0+m*k≤xs.length∧0<k:=⟨by omega,hk⟩
 have h3:(xs.drop 0).take (m*k)=xs:=by rw [List.drop_zero,←hn,List.take_length]
 simp only [b0T,hr,hi,h3,if_neg hm,if_pos h2]
theorem c1T {P:Program}{H:List Row}{r m k b:Nat}{T:TypeId}{xs:List F}{z:List Value}(hr:H[r]?=some (.froz T xs))(hi:inf P T=some (k,b,z))(hm:m≠0)(hn:xs.length=m*k) :
  b0T P H (.sl r 0 m)=some (.s xs m,[]):=by
 have h2:0+m*k≤xs.length:=by omega
 have h3:(xs.drop 0).take (m*k)=xs:=by rw [List.drop_zero,←hn,List.take_length]
 simp only [b0T,hr,hi,h3,if_neg hm,if_pos h2]
theorem View.frz {P:Program}{n0 n:Nat}{e:List (Nat × D)}{H:List Row}{dr:List Nat}(i:Nat){r m k b:Nat}{T:TypeId}{xs:List F}{z:List Value}(ht:look i e = .sl r 0 m)(hr:H[r]?=some (.data T xs))(hi:inf P T=some (k,b,z))(hm:m≠0)(hn:xs.length=m*k)(hin:i<n)(hk:0<k) :
  View P n0 ⟨Mir.frm n e,H,dr⟩ ⟨Mir.frm n ((i,.f (.s xs m)) :: e),H.set r (.froz T xs),[]⟩:=by
 have:=View.fix (P:=P) (n0:=n0) (dr:=dr) (ts:=Mir.frm n e) (i:=i) (d:=.sl r 0 m) (by rw [c0h hin,ht]) (b1s hr hi hm hn hk)
 rw [g0U] at this
 exact this
theorem r1:type_of% @HS.seq:=@HS.seq
theorem r2:type_of% @HS.block:=@HS.block
theorem r3:type_of% @HS.exit:=@HS.exit
theorem r4:type_of% @HS.ret:=@HS.ret
theorem r5:type_of% @HS.skip:=@HS.skip
theorem s1:type_of% @isHS:=@isHS
theorem s2:type_of% @g1B:=@g1B
theorem s3:type_of% @d1k:=@d1k
theorem rK {n0:Nat}{s:St}{Q:Out→St→Prop}{l:List SI}(h:∀ K:St→Prop,(∀ s',Q .normal s'→K s')→wpS Tryz.prog l s K):HS Tryz.prog n0 (.ops l) s Q:=HS.opsK good h
theorem rL {n0:Nat}{s:St}{Q:Out→St→Prop}{l:List SI}{b:List Nat}(h:∀ K:St→Prop,(∀ s',Q .normal s'→K s')→wpDr Tryz.prog b s.H.length l 0 [] [] s K):HS Tryz.prog n0 (.drw l b) s Q:=HS.drw good h
class Wa (p:Prop)(q:outParam Prop):Prop where h:q→p
class Wr (p:Prop)(q:outParam Prop):Prop where h:q→p
class Ws (p:Prop)(q:outParam Prop):Prop where h:q→p
class Wb (p:Prop)(α:outParam Type)(a:outParam (α→Prop))(q:outParam (α→Prop)):Prop where h:(∀ x,a x→q x)→p
class We (p:Prop)(α:outParam Type)(a:outParam (α→Prop))(q:outParam (α→Prop)):Prop where h:(∀ x,a x→q x)→p
class Wd (p:Prop)(α:outParam Type)(a:outParam (α→Prop))(b:outParam (Prop→Prop))(q:outParam (α→Prop→Prop)):Prop where h:(∀ x m,a x→b m→q x m)→p
class Wt (p:Prop)(c a b:outParam Prop):Prop where h:(c→a)→(¬ c→b)→p
class Wu (p:Prop)(c:outParam Bool)(a b:outParam Prop):Prop where h:(c=true→a)→(c=false→b)→p
class Wn (p:Prop)(n:outParam Nat)(a b:outParam Prop):Prop where h:(n=0→a)→b→p
class Wz (p:Prop):Prop where h:p→p
section
variable {P:Program}{n0:Nat}{s:St}{Q:Out→St→Prop}
instance {x y:SCode}:Ws (HS P n0 (.seq x y) s Q) (HS P n0 x s (h0V (fun s'=>HS P n0 y s' Q) Q)):=⟨HS.seq⟩
instance {i:Nat}{x:SCode}:Wa (HS P n0 (.block i x) s Q) (HS P n0 x s (d0K i Q)):=⟨HS.block⟩
instance {i:Nat}:Wa (HS P n0 (.exit i) s Q) (Q (.exit i) s):=⟨HS.exit⟩
instance:Wr (HS P n0 .ret s Q) (Q .ret s):=⟨HS.ret⟩
instance:Wa (HS P n0 .skip s Q) (Q .normal s):=⟨HS.skip⟩
instance {next:St→Prop}:Wa (h0V next Q .normal s) (next s):=⟨o0G⟩
instance {i:Nat}:Wa (d0K i Q .normal s) (Q .normal s):=⟨c1N⟩
instance {next:St→Prop}:Wa (h0V next Q .ret s) (Q .ret s):=⟨e1B⟩
instance {i:Nat}:Wa (d0K i Q .ret s) (Q .ret s):=⟨b1x⟩
instance {next:St→Prop}{i:Nat}:Wa (h0V next Q (.exit i) s) (Q (.exit i) s):=⟨e1q⟩
instance {i:Nat}:Wa (d0K i Q (.exit i) s) (Q .normal s):=⟨e0W⟩
instance {rs:List SR}{R:D→List Row→Prop}:Wa (endS n0 rs R .ret s) (RetS n0 rs R s):=⟨f1z⟩
instance {rs:List SR}{R:D→List Row→Prop}:Wa (endS n0 rs R .normal s) (RetS n0 rs R s):=⟨f1k⟩
instance {l:List SI}:Wb (HS Tryz.prog n0 (.ops l) s Q) (St→Prop) (fun K=>∀ s',Q .normal s'→K s') (fun K=>wpS Tryz.prog l s K):=⟨fun h=>rK h⟩
instance {l:List SI}{b:List Nat}:Wb (HS Tryz.prog n0 (.drw l b) s Q) (St→Prop) (fun K=>∀ s',Q .normal s'→K s') (fun K=>wpDr Tryz.prog b s.H.length l 0 [] [] s K):=⟨fun h=>rL h⟩
instance {l1 l2:List SI}{K:St→Prop}:Wb (wpS P (ap l1 l2) s K) (St→Prop) (fun K'=>∀ s',wpS P l2 s' K→K' s') (fun K'=>wpS P l1 s K'):=⟨fun h=>e1E h⟩
section
variable {b:List Nat}{i n:Nat}{o:SOp}{l:List SI}{own:List Nat}{log:List (List Nat × List Nat)}{e:List (Nat × D)}{H:List Row}{dr:List Nat}{K:St→Prop}
instance {t:Nat}:We (wpDr P b n0 (.a t o :: l) i own log ⟨frm n e,H,dr⟩ K) (List Nat→List (List Nat × List Nat)→D→List Row→Prop)
  (fun N=>∀ own1 log1 d H1,wpDr P b n0 l (i+1) own1 log1 ⟨frm n ((t,d) :: e),H1,[]⟩ K→N own1 log1 d H1) (fun N=>d0i P b own n0 i log o (a0Y (frm n e) H o) (frm n e) H N):=⟨fun h=>e1T h⟩
instance:We (wpDr P b n0 (.n o :: l) i own log ⟨frm n e,H,dr⟩ K) (List Nat→List (List Nat × List Nat)→D→List Row→Prop)
  (fun N=>∀ own1 log1 d H1,wpDr P b n0 l (i+1) own1 log1 ⟨frm n e,H1,[]⟩ K→N own1 log1 d H1) (fun N=>d0i P b own n0 i log o (a0Y (frm n e) H o) (frm n e) H N):=⟨fun h=>e1o h⟩
instance {t u:Nat}{w:Bool}:Wd (wpDr P b n0 (.g (some u) o t w :: l) i own log ⟨frm n e,H,dr⟩ K) (List Nat→List (List Nat × List Nat)→D→List Row→Prop)
  (fun N=>∀ own1 log1 r H1,wpDr P b n0 l (i+1) own1 log1 ⟨frm n ((u,r) :: e),H1,[]⟩ K→N own1 log1 r H1) (fun M=>wpDr P b n0 l (i+1) own (log++[([],[])]) ⟨frm n ((u,D.undef) :: e),H,[]⟩ K→M)
  (fun N M=>r0V (frm n e)[t]? w (d0i P b own n0 i log o (a0Y (frm n e) H o) (frm n e) H N) M):=⟨fun h=>e1h h⟩
end
instance {c p q:Prop}:Wt (Two c p q) c p q:=⟨Two.mk'⟩
instance {n:Nat}{p q:Prop}:Wn (Nz n p q) n p q:=⟨And.intro⟩
instance {b:Bool}{p q:Prop}:Wu (Bsel b p q) b p q:=⟨Bsel.mk'⟩
instance {c:SCode}:Wz (HS P n0 c s Q):=⟨id⟩
instance {l:List SR}{R:D→List Row→Prop}:Wz (RetS n0 l R s):=⟨id⟩
instance {f:D}{l:List D}{H:List Row}{K:D→List Row→Prop}:Wz (a0P P f l H K):=⟨id⟩
instance {keep:List Nat}{α:Type}{st:α→St}{p:α→Prop}{m:α→Nat}{x:α}:Wz (Next n0 keep st p m x s):=⟨id⟩
instance {n:Nat}{α:Type}{st:α→List (Nat × D)}{hs:α→List Row}{p:α→Prop}{m:α→Nat}{x:α}:Wz (NextP n st hs p m x s):=⟨id⟩
instance {next:St→Prop}{o:Out}:Wz (h0V next Q o s):=⟨id⟩
instance {i:Nat}{o:Out}:Wz (d0K i Q o s):=⟨id⟩
instance {keep:List Nat}{i:Nat}{α:Type}{st:α→St}{p:α→Prop}{o:Out}:Wz (OutS n0 keep i st p o s):=⟨id⟩
instance {α:Type}{st:α→St}{p:α→Prop}{o:Out}:Wz (OutN P n0 st p o s):=⟨id⟩
end
class Wx (p:Prop)(q:outParam Prop):Prop where h:q→p
instance {p q:Prop}[w:Wa p q]:Wx p q:=⟨w.h⟩
instance {p q:Prop}[w:Ws p q]:Wx p q:=⟨w.h⟩
instance {p q:Prop}[w:Wr p q]:Wx p q:=⟨w.h⟩
class Wc (p:Prop)(c d a b:outParam Prop):Prop where
 t:c→a→p
 f:d→b→p
instance {c p q:Prop}:Wc (Two c p q) c (¬ c) p q:=⟨fun h k=>Two.mk' (fun _=>k) fun n=>absurd h n,fun n k=>Two.mk' (fun h=>absurd h n) fun _=>k⟩
instance {b:Bool}{p q:Prop}:Wc (Bsel b p q) (b=true) (b=false) p q:=⟨fun h k=>Bsel.mk' (fun _=>k) fun e=>(by rw [h] at e;cases e),fun n k=>Bsel.mk' (fun e=>(by rw [n] at e;cases e)) fun _=>k⟩
theorem wT {p c d a b:Prop}[w:Wc p c d a b](h:c)(k:a):p:=w.t h k
theorem wF {p c d a b:Prop}[w:Wc p c d a b](h:d)(k:b):p:=w.f h k
class Wq (p:Prop)(a b:outParam Prop):Prop where h:a→b→p
instance {p c a b:Prop}[w:Wt p c a b]:Wq p (c→a) (¬ c→b):=⟨w.h⟩
instance {p a b:Prop}{n:Nat}[w:Wn p n a b]:Wq p (n=0→a) (True→b):=⟨fun h k=>w.h h (k trivial)⟩
def Cb (b:Bool)(p q:Prop):Prop:=Bsel b p q
theorem Cb_t {p q:Prop}:Cb true p q=p:=c0n
theorem Cb_f {p q:Prop}:Cb false p q=q:=b0y
instance {b:Bool}{p q:Prop}:Wq (Cb b p q) (b=true→p) (b=false→q):=⟨Bsel.mk'⟩
def Cd (d:D)(p q:Prop):Prop:=match d with
 | .f (.v (.bool b))=>Cb b p q
 | _=>False
@[congr] theorem Cd_congr {d d':D} {p q:Prop} (h:d=d'):Cd d p q=Cd d' p q:=by rw [h]
theorem Cd_b {b:Bool}{p q:Prop}:Cd (.f (.v (.bool b))) p q=Cb b p q:=id rfl
theorem g1c {P:Program}{n0:Nat}{c:SV}{x y:SCode}{s:St}{Q:Out→St→Prop}(h:Cd (c.ev s.ts) (HS P n0 x s Q) (HS P n0 y s Q)):HS P n0 (.cond c x y) s Q:=by
 unfold Cd at h
 split at h
 ·rename_i b hb;exact HS.condB hb h.1 h.2
 ·exact h.elim
instance {P:Program}{n0:Nat}{c:SV}{x y:SCode}{s:St}{Q:Out→St→Prop}:Wa (HS P n0 (.cond c x y) s Q) (Cd (c.ev s.ts) (HS P n0 x s Q) (HS P n0 y s Q)):=⟨g1c⟩
theorem LA:type_of% LU∧type_of% LS∧type_of% LT∧type_of% @Cd_b∧type_of% @Cb_t∧type_of% @Cb_f:=⟨LU,LS,LT,@Cd_b,@Cb_t,@Cb_f⟩
class Wy (p:Prop)(a b:outParam Bool)(q:outParam Prop):Prop where h:a=b→q→p
instance {b:Bool}{p:Prop}:Wy (Chk b∧p) b true p:=⟨And.intro⟩
instance {i j:Nat}{Q:Out→St→Prop}{s:St}:Wy (d0K j Q (.exit i) s) (Nat.beq i j) false (Q (.exit i) s):=⟨s0t⟩
end Go.Proofs.YthjgmldnegaaiaaGreatDoor.Mir
namespace Go.Proofs.YthjgmldnegaaiaaGreatDoor.Mir
open Go Go.RowKit
def i0e:SCode :=
  (jq ([jk 4 0]) (jq ([jm 5 0,jm 6 1,jB 7 .rem 5 6,jm 0 7]) (.seq (jq ([jm 8 0,jb 9 .lss 8 0]) (jc 9 (.ops [jm 10 0,jm 11 1,jB 12 .add 10 11,jm 0
 12]) .skip)) (jq ([jm 13 0,jm 4 13]) .ret))))
theorem q0W:Fn Tryz.prog 13 14 [.t 4] i0e:=.of Tryz.func13 (by kernel_rfl)
set_option maxHeartbeats 2000000
def pick (x n:Int):Int:=if x.tmod n<0 then x.tmod n+n else x.tmod n
theorem a1B {x n:Int}(hn:0<n):x.tmod n<n:=Int.tmod_lt_of_pos x hn
theorem a1M {x n:Int}(hn:0<n) : -n<x.tmod n:=by
 have:=Int.tmod_lt_of_pos (-x) hn
 rw [Int.neg_tmod] at this;omega
theorem b0N {x n:Int}(hn:0<n):0≤pick x n∧pick x n<n:=by
 have h1:=a1B (x:=x) hn
 have h2:=a1M (x:=x) hn
 unfold pick;split<;>omega
theorem i0f (x n:Int)(hn:0<n)(hn2:n≤1000000):Con Tryz.prog 13 [D.int x,D.int n] [] fun r H'=>r=D.int (pick x n)∧H'=[]:=by
 have h1:=a1B (x:=x) hn
 have h2:=a1M (x:=x) hn
 refine Con.walk good q0W (by simp) ?_
 unfold i0e
 simp only [a0I,List.length_cons,List.length_nil,Nat.reduceAdd]
 repeat' (with_reducible first|refine Wx.h ?_|refine Wb.h fun K hK=>?_|(refine hK _ ?_;clear hK K)|refine Wq.h ?_ ?_<;>intro h|((fail_if_success refine Wz.h ?_);first|simp (disch:=omega) only [↓LD,LA,a0A,seval]|(refine And.intro ?_ ?_;omega)|fail))
 ·refine end1 rfl rfl (by kernel_rfl) .f ⟨congrArg D.int ?_,rfl⟩
  rw [pick,if_pos h]
 ·refine end1 rfl rfl (by kernel_rfl) .f ⟨congrArg D.int ?_,rfl⟩
  rw [pick,if_neg h]
theorem Con.run {P:Program}(hP:Good P){ext:Ext}(hext:∀ f g,ext f=some g→g0K P f g){n:Nat}{f:FuncId}{args:List D}{H:List Row}{e:Eff}(hf:∃ fn,P.funcs[f]?=some fn∧fn.body.isSome=true)
  (h:Mir.run P ext n f args H=some e):Con P f args H fun r H'=>r=e.res∧H'=e.heap H :=
 ⟨hf,fun w φ X vs hH ha=>(z0B hP hext n f args H e h w φ X vs hH ha).mono fun _ _ ⟨v,h1,h2⟩=>⟨v,e.res,e.heap H,h1,⟨rfl,rfl⟩,LeavesW.of h2⟩⟩
theorem Fn.has {P:Program}{f:FuncId}{n:Nat}{rs:List SR}{c:SCode}(h:Fn P f n rs c):∃ fn,P.funcs[f]?=some fn∧fn.body.isSome=true:=by
 obtain ⟨fn,k,h1,h2,_⟩:=h
 exact ⟨fn,h1,by rw [h2];try rfl⟩
def b0G:SCode→List Oper
 | .ops l=>l.filterMap fun i=>match i.op with|.raw o=>some o|_=>none
 | .drw l _=>l.filterMap fun i=>match i.op with|.raw o=>some o|_=>none
 | .seq a b=>b0G a++b0G b
 | .cond _ a b=>b0G a++b0G b
 | .block _ a=>b0G a
 | .loop a=>b0G a
 | _=>[]
def r0k (P:Program)(f:FuncId)(k:Nat):SOp:=(((P.funcs[f]?).bind fun fn=>fn.body).bind fun b=>(b0G (a0p P b))[k]?).elim (.mv (.t 0)) .raw
def s0E (P:Program):SCode :=
  (jq ([.a 2 (.mv (.c (.f (.v (.string ⟨#[]⟩)))))]) (jq ((ap [jm 3 0,.a 4 (.call (kC 13) [(.t 3),(kI 6)])] [.a 5 (r0k P 92 0),jl 6 5,jm 2
 6])) .ret))
theorem o0V:Fn Tryz.prog 92 7 [.t 2] (s0E Tryz.prog):=.of Tryz.func92 (by kernel_rfl)
end Go.Proofs.YthjgmldnegaaiaaGreatDoor.Mir
namespace Go.Proofs.YthjgmldnegaaiaaGreatDoor
open Go Go.RowKit
theorem b1t (n m:Int)(w:World)(hm:1≤m)(hm':m≤9223372036854775807) :
  Calls Tryz.prog 13 #[.int .i64 n,.int .i64 m] w fun e w'=>e = .returned (.int .i64 (n % m))∧w'=w:=by
 have h1:n % m=if n.tmod m<0 then n.tmod m+m else n.tmod m:=by
  have h2:=Int.emod_nonneg n (show m≠0 by omega)
  have h3:=Int.emod_lt_of_pos n (show 0<m by omega)
  rw [Int.tmod_eq_emod]
  split<;>split<;>omega
 have h4:=Int.tmod_lt_of_pos n (show 0<m by omega)
 have h5 : -m<n.tmod m:=Int.lt_tmod_of_pos n (show 0<m by omega)
 by_cases hlt:n.tmod m<0
 ·rw [if_pos hlt] at h1
  rw [h1];clear h1
  go_enter Tryz.func13,Tryz.ntmps13
  go_wp2
  go_ret
  exact ⟨rfl,rfl⟩
 ·rw [if_neg hlt] at h1
  rw [h1];clear h1
  go_enter Tryz.func13,Tryz.ntmps13
  go_wp2
  go_ret
  exact ⟨rfl,rfl⟩
end Go.Proofs.YthjgmldnegaaiaaGreatDoor
namespace Go.Proofs.YthjgmldnegaaiaaGreatDoor.Mir
open Go Go.RowKit
inductive Wk (N:Nat):D→D→Prop
 | refl {d:D}:Wk N d d
 | junk {d:D}:Wk N d .junk
 | ns:Wk N (.f (.v (.slice none 0 0))) (.f (.s [] 0))
 | es:Wk N (.f .e) (.f (.s [] 0))
 | ne:Wk N (.f (.v (.slice none 0 0))) (.f .e)
 | no {r:Nat}:r<N→Wk N (.f (.v (.slice none 0 0))) (.sl r 0 0)
 | eo {r:Nat}:r<N→Wk N (.f .e) (.sl r 0 0)
 | os {r o:Nat}:Wk N (.sl r o 0) (.f (.s [] 0))
theorem Wk.ok {P:Program}{w:World}{φ:Nat→Nat × Nat}{A:Nat→Prop}{N:Nat}{d d':D}(h:Wk N d d'){u:Value}(hr:R P w φ A N d u):R P w φ A N d' u:=by
 cases h with
 | refl=>exact hr
 | junk=>exact .junk
 | ns=>cases hr with|f h=>cases h with|v _=>exact .f .s0
 | es =>
  cases hr with|f h=>cases h with|@e a =>
  cases a with
  | none=>exact .f .s0
  | some a=>exact .f (.s [] (Nat.le_refl _) rfl (fun i u hu=>by simp at hu) (fun i x u hx=>by simp at hx))
 | ne=>cases hr with|f h=>cases h with|v _=>exact .f .e
 | no h=>cases hr with|f h'=>cases h' with|v _=>exact .sl0 h
 | eo h=>cases hr with|f h'=>cases h' with|e=>exact .sl0 h
 | os =>
  cases hr with
  | sl hp=>omega
  | @sl0 _ _ a _ =>
   cases a with
   | none=>exact .f .s0
   | some a=>exact .f (.s [] (Nat.le_refl _) rfl (fun i u hu=>by simp at hu) (fun i x u hx=>by simp at hx))
section
variable {P:Program}{n0:Nat}
theorem View.slot {n:Nat}{e:List (Nat × D)}{H:List Row}{dr:List Nat}(i:Nat)(d':D)(hw:Wk H.length (look i e) d'):View P n0 ⟨Mir.frm n e,H,dr⟩ ⟨Mir.frm n ((i,d') :: e),H,[]⟩:=by
 intro X w0 φ0 H0 w φ a _ hr
 refine ⟨φ,⟨⟨hr.sim.heap,⟨?_,fun j d u hd hu=>?_⟩,hr.sim.defers⟩,hr.ons⟩⟩
 ·have:=hr.sim.tmps.1;dsimp only at this ⊢;rw [this,d0R,d0R]
 ·dsimp only at hd ⊢
  have hj:j<n:=by have:=(List.getElem?_eq_some_iff.1 hd).1;rwa [d0R] at this
  rw [c0h hj] at hd
  injection hd with hd
  simp only [look] at hd
  split at hd
  ·rename_i e';subst e';subst hd
   exact hw.ok (hr.sim.tmps.2 i _ u (by dsimp only;rw [c0h hj]) hu)
  ·subst hd
   exact hr.sim.tmps.2 j _ u (by dsimp only;rw [c0h hj]) hu
theorem View.bcell {ts:List D}{H:List Row}{dr:List Nat}(r i:Nat)(c':D){T:TypeId}{xs:List D}{c:D}(hH:H[r]?=some (.box T xs))(hx:xs[i]?=some c)(hw:Wk H.length c c') :
  View P n0 ⟨ts,H,dr⟩ ⟨ts,H.set r (.box T (xs.set i c')),[]⟩:=by
 intro X w0 φ0 H0 w φ a _ hr
 have hlt:r<H.length:=(List.getElem?_eq_some_iff.1 hH).1
 have hget:∀ (q:Nat) (row:Row),(H.set r (.box T (xs.set i c')))[q]?=some row→(q=r∧row = .box T (xs.set i c'))∨H[q]?=some row:=by
  intro q row h
  rw [List.getElem?_set] at h
  split at h
  ·rename_i e;subst e
   try rw [if_pos hlt] at h
   exact .inl ⟨rfl,(Option.some.inj h).symm⟩
  ·exact .inr h
 have hback:∀ (q:Nat) (row:Row),H[q]?=some row→∃ row':Row,(H.set r (.box T (xs.set i c')))[q]?=some row'∧row'.live=row.live:=by
  intro q row h
  rw [List.getElem?_set]
  split
  ·rename_i e;subst e
   try rw [if_pos hlt]
   rw [hH] at h
   cases h
   exact ⟨_,rfl,rfl⟩
  ·exact ⟨row,h,rfl⟩
 have hlive:∀ b,Live φ (H.set r (.box T (xs.set i c'))) b↔Live φ H b:=by
  intro b
  constructor
  ·rintro ⟨q,row,h1,h2,h3⟩
   rcases hget q row h1 with ⟨rfl,rfl⟩|h
   ·exact ⟨q,_,hH,rfl,h3⟩
   ·exact ⟨q,row,h,h2,h3⟩
  ·rintro ⟨q,row,h1,h2,h3⟩
   obtain ⟨row',h4,h5⟩:=hback q row h1
   exact ⟨q,row',h4,by rw [h5];exact h2,h3⟩
 have hav:Av X φ (H.set r (.box T (xs.set i c')))=Av X φ H:=funext fun b=>propext (or_congr Iff.rfl (hlive b))
 have hlen:(H.set r (.box T (xs.set i c'))).length=H.length:=List.length_set
 refine ⟨φ,⟨⟨?_,?_,?_,hr.sim.heap.old,fun p hp=>by rw [hav];exact hr.sim.heap.gl p hp⟩,?_,hr.sim.defers⟩,⟨?_,hr.ons.same,hr.ons.keep,fun b h=>hr.ons.fresh b ((hlive b).1 h)⟩⟩
 ·intro q row h
  dsimp only at h ⊢
  rw [hav,hlen]
  rcases hget q row h with ⟨rfl,rfl⟩|h
  ·obtain ⟨h0,cs,hc,⟨hl,hg⟩,hone⟩:=hr.sim.heap.rows q _ hH
   refine ⟨h0,cs,hc,⟨by rw [List.length_set];exact hl,fun j d u hd hu=>?_⟩,hone⟩
   rw [List.getElem?_set] at hd
   split at hd
   ·rename_i e;subst e
    have hd:some c'=some d:=by first|exact hd|(split at hd<;>first|exact hd|cases hd)
    cases hd
    exact hw.ok (hg i _ u hx hu)
   ·exact hg j d u hd hu
  ·exact hr.sim.heap.rows q row h
 ·intro q s row row' h1 h2 h3 h4 h5
  have k:∀ (q:Nat) (row:Row),(H.set r (.box T (xs.set i c')))[q]?=some row→row.live=true→∃ row0,H[q]?=some row0∧row0.live=true:=by
   intro q row h hl
   rcases hget q row h with ⟨rfl,rfl⟩|h
   ·exact ⟨_,hH,rfl⟩
   ·exact ⟨row,h,hl⟩
  obtain ⟨a1,b1,c1⟩:=k q row h1 h3
  obtain ⟨a2,b2,c2⟩:=k s row' h2 h4
  exact hr.sim.heap.apart q s a1 a2 b1 b2 c1 c2 h5
 ·intro q row h1 h3
  rcases hget q row h1 with ⟨rfl,rfl⟩|h
  ·exact hr.sim.heap.off q _ hH rfl
  ·exact hr.sim.heap.off q row h h3
 ·dsimp only
  rw [hav,hlen]
  exact hr.sim.tmps
 ·dsimp only
  rw [hlen]
  exact hr.ons.len
theorem View.void {ts:List D}{H:List Row}{dr:List Nat}(U:TypeId):View P n0 ⟨ts,H,dr⟩ ⟨ts,H++[.data U []],[]⟩:=by
 intro X w0 φ0 H0 w φ a _ hr
 have get:∀ (q:Nat) (row:Row),(H++[Row.data U []])[q]?=some row→row = .data U []∨H[q]?=some row:=by
  intro q row h
  by_cases hq:q<H.length
  ·rw [List.getElem?_append_left hq] at h;exact .inr h
  ·have h1:=(List.getElem?_eq_some_iff.1 h).1
   simp at h1
   obtain rfl:q=H.length:=by omega
   simp at h
   exact .inl h.symm
 have hlive:∀ b,Live φ (H++[Row.data U []]) b↔Live φ H b:=by
  intro b
  constructor
  ·rintro ⟨q,row,h1,h2,h3⟩
   rcases get q row h1 with rfl|h
   ·simp [Row.live] at h2
   ·exact ⟨q,row,h,h2,h3⟩
  ·rintro ⟨q,row,h1,h2,h3⟩
   exact ⟨q,row,by rw [List.getElem?_append_left (List.getElem?_eq_some_iff.1 h1).1];exact h1,h2,h3⟩
 have hav:Av X φ (H++[Row.data U []])=Av X φ H:=funext fun b=>propext (or_congr Iff.rfl (hlive b))
 have hlen:H.length≤(H++[Row.data U []]).length:=by simp
 have live0:∀ (q:Nat) (row:Row),(H++[Row.data U []])[q]?=some row→row.live=true→H[q]?=some row:=by
  intro q row h hl
  rcases get q row h with rfl|h
  ·simp [Row.live] at hl
  ·exact h
 refine ⟨φ,⟨⟨fun q row h=>?_,fun q s row row' h1 h2 h3 h4 h5=>hr.sim.heap.apart q s row row' (live0 q row h1 h3) (live0 s row' h2 h4) h3 h4 h5,fun q row h hl=>hr.sim.heap.off q row (live0 q row h hl) hl,hr.sim.heap.old,fun p hp=>by rw [hav];exact hr.sim.heap.gl p hp⟩,?_,hr.sim.defers⟩,
  ⟨Nat.le_trans hr.ons.len hlen,hr.ons.same,hr.ons.keep,fun b h=>hr.ons.fresh b ((hlive b).1 h)⟩⟩
 ·dsimp only
  rw [hav]
  rcases get q row h with rfl|h
  ·exact fun hne=>absurd rfl hne
  ·exact (hr.sim.heap.rows q row h).upper hlen
 ·dsimp only
  rw [hav]
  exact ⟨hr.sim.tmps.1,fun i d u hd hu=>(hr.sim.tmps.2 i d u hd hu).upper hlen⟩
theorem View.shed {ts:List D}{H:List Row}{dr:List Nat}(r:Nat){row:Row}(hH:H[r]?=some row):View P n0 ⟨ts,H,dr⟩ ⟨ts,H.set r .dead,[]⟩:=by
 intro X w0 φ0 H0 w φ a _ hr
 obtain ⟨h1,h2,h3⟩:=hr.sim.heap.turn (row':=.dead) hH (Keep.refl _ w) (by simp [Row.live]) (fun _=>trivial)
 have hlive:∀ b,Live φ (H.set r .dead) b→Live φ H b:=by
  rintro b ⟨q,row',g1,g2,g3⟩
  rw [List.getElem?_set] at g1
  split at g1
  ·rename_i e
   have g1:some Row.dead=some row':=by first|exact g1|(split at g1<;>first|exact g1|cases g1)
   cases g1
   simp [Row.live] at g2
  ·exact ⟨q,row',g1,g2,g3⟩
 refine ⟨φ,⟨⟨h1,⟨hr.sim.tmps.1,fun i d u hd hu=>?_⟩,hr.sim.defers⟩,⟨by dsimp only;rw [List.length_set];exact hr.ons.len,hr.ons.same,hr.ons.keep,fun b h=>hr.ons.fresh b (hlive b h)⟩⟩⟩
 dsimp only at hd ⊢
 rw [List.length_set]
 exact (hr.sim.tmps.2 i d u hd hu).keep (L:=fun _=>False) (Keep.refl _ _) (fun _ h=>h.elim) (fun b _ hb=>hb.imp id (hlive b)) (fun _ _=>rfl) (Nat.le_refl _)
theorem View.wkd {ts:List D}{H:List Row}{dr:List Nat}(r:Nat){T:TypeId}{xs:List F}(ys:List F)(hH:H[r]?=some (.data T xs))(hlen:ys.length=xs.length)
  (hw:∀ (i:Nat) (x y:F),xs[i]?=some x→ys[i]?=some y→x=y∨(x = .v (.slice none 0 0)∧y = .s [] 0)) :
  View P n0 ⟨ts,H,dr⟩ ⟨ts,H.set r (.data T ys),[]⟩:=by
 intro X w0 φ0 H0 w φ a hn hr
 have hlt:r<H.length:=(List.getElem?_eq_some_iff.1 hH).1
 by_cases hne:xs=[]
 ·subst hne
  obtain rfl:ys=[]:=List.eq_nil_of_length_eq_zero hlen
  have e:H.set r (.data T [])=H:=by
   obtain ⟨hlt,he⟩:=List.getElem?_eq_some_iff.1 hH
   rw [←he,List.set_getElem_self]
  rw [e]
  exact ⟨φ,⟨⟨hr.sim.heap,hr.sim.tmps,hr.sim.defers⟩,hr.ons⟩⟩
 have hl0:(Row.data T xs).live=true:=a0j hne
 have hl1:(Row.data T ys).live=true:=a0j (fun e=>hne (by subst e;exact List.eq_nil_of_length_eq_zero hlen.symm))
 have hget:∀ (q:Nat) (row:Row),(H.set r (.data T ys))[q]?=some row→(q=r∧row = .data T ys)∨H[q]?=some row:=by
  intro q row h
  rw [List.getElem?_set] at h
  split at h
  ·rename_i e;subst e
   try rw [if_pos hlt] at h
   exact .inl ⟨rfl,(Option.some.inj h).symm⟩
  ·exact .inr h
 have hback:∀ (q:Nat) (row:Row),H[q]?=some row→∃ row':Row,(H.set r (.data T ys))[q]?=some row'∧row'.live=row.live:=by
  intro q row h
  rw [List.getElem?_set]
  split
  ·rename_i e;subst e
   try rw [if_pos hlt]
   rw [hH] at h
   cases h
   exact ⟨_,rfl,hl1.trans hl0.symm⟩
  ·exact ⟨row,h,rfl⟩
 have hlive:∀ b,Live φ (H.set r (.data T ys)) b↔Live φ H b:=by
  intro b
  constructor
  ·rintro ⟨q,row,h1,h2,h3⟩
   rcases hget q row h1 with ⟨rfl,rfl⟩|h
   ·exact ⟨q,_,hH,hl0,h3⟩
   ·exact ⟨q,row,h,h2,h3⟩
  ·rintro ⟨q,row,h1,h2,h3⟩
   obtain ⟨row',h4,h5⟩:=hback q row h1
   exact ⟨q,row',h4,by rw [h5];exact h2,h3⟩
 have hav:Av X φ (H.set r (.data T ys))=Av X φ H:=funext fun b=>propext (or_congr Iff.rfl (hlive b))
 have hlen':(H.set r (.data T ys)).length=H.length:=List.length_set
 refine ⟨φ,⟨⟨?_,?_,?_,hr.sim.heap.old,fun p hp=>by rw [hav];exact hr.sim.heap.gl p hp⟩,?_,hr.sim.defers⟩,⟨?_,hr.ons.same,hr.ons.keep,fun b h=>hr.ons.fresh b ((hlive b).1 h)⟩⟩
 ·intro q row h
  dsimp only at h ⊢
  rw [hav,hlen']
  rcases hget q row h with ⟨rfl,rfl⟩|h
  ·obtain ⟨pre,us,post,hc,hp,⟨hl,hg⟩⟩:=hr.sim.heap.rows q _ hH hne
   refine fun _=>⟨pre,us,post,hc,hp,⟨hl.trans hlen.symm,fun j d u hd hu=>?_⟩⟩
   have hj:j<xs.length:=by rw [←hlen];exact (List.getElem?_eq_some_iff.1 hd).1
   have hx:xs[j]?=some xs[j]:=List.getElem?_eq_getElem hj
   rcases hw j _ d hx hd with e|⟨e1,e2⟩
   ·rw [←e];exact hg j _ u hx hu
   ·rw [e2]
    have:=hg j _ u hx hu
    rw [e1] at this
    cases this with|v _=>exact .s0
  ·exact hr.sim.heap.rows q row h
 ·intro q s row row' h1 h2 h3 h4 h5
  have k:∀ (q:Nat) (row:Row),(H.set r (.data T ys))[q]?=some row→row.live=true→∃ row0,H[q]?=some row0∧row0.live=true:=by
   intro q row h hl
   rcases hget q row h with ⟨rfl,rfl⟩|h
   ·exact ⟨_,hH,hl0⟩
   ·exact ⟨row,h,hl⟩
  obtain ⟨a1,b1,c1⟩:=k q row h1 h3
  obtain ⟨a2,b2,c2⟩:=k s row' h2 h4
  exact hr.sim.heap.apart q s a1 a2 b1 b2 c1 c2 h5
 ·intro q row h1 h3
  rcases hget q row h1 with ⟨rfl,rfl⟩|h
  ·exact hr.sim.heap.off q _ hH hl0
  ·exact hr.sim.heap.off q row h h3
 ·dsimp only
  rw [hav,hlen']
  exact hr.sim.tmps
 ·dsimp only
  rw [hlen']
  exact hr.ons.len
theorem View.fzd {n:Nat}{e:List (Nat × D)}{H:List Row}{dr:List Nat}(i:Nat){r m k b:Nat}{T:TypeId}{xs:List F}{z:List Value}(ht:look i e = .sl r 0 m)(hr:H[r]?=some (.data T xs))(hi:inf P T=some (k,b,z))(hn:xs.length=m*k)(hin:i<n)(hk:0<k) :
  View P n0 ⟨Mir.frm n e,H,dr⟩ ⟨Mir.frm n ((i,.f (.s xs m)) :: e),H.set r .dead,[]⟩:=by
 by_cases hm:m=0
 ·subst hm
  have hx:xs=[]:=List.eq_nil_of_length_eq_zero (by omega)
  subst hx
  exact (View.slot i (.f (.s [] 0)) (by rw [ht];exact .os)).trans (View.shed r hr)
 ·have h2:=View.frz (P:=P) (n0:=n0) (dr:=dr) (n:=n) (H:=H) i ht hr hi hm hn hin hk
  have h3:=View.shed (P:=P) (n0:=n0) (ts:=Mir.frm n ((i,.f (.s xs m)) :: e)) (H:=H.set r (.froz T xs)) (dr:=[]) r (List.getElem?_set_self (List.getElem?_eq_some_iff.1 hr).1)
  rw [List.set_set] at h3
  exact h2.trans h3
end
end Go.Proofs.YthjgmldnegaaiaaGreatDoor.Mir
namespace Go.Proofs.YthjgmldnegaaiaaGreatDoor.Mir
open Go Go.RowKit
theorem a0C {P:Program}{g:FuncId}{args:List D}{H:List Row}{d0:D}{K:D→List Row→Prop}(h:Con P g args [] fun d H'=>d=d0∧H'=[])(hb:k0P [] H.length [] args=true)
  (ha:args.map (renE (ren [] H.length))=args) (hd:renE (ren [] H.length) d0=d0) (hk:K d0 H):a0P P (.fn g []) args H K:=by
 refine a0J h [] hb ?_ rfl ?_
 ·rw [List.append_nil,ha]
 ·intro d H' hq
  rw [hq.1,hq.2]
  show K (renE (ren [] H.length) d0) (H++[])
  rw [hd,List.append_nil];exact hk
class Kn (p:Prop):Prop where h:p
theorem ren0 {N:Nat}:ren [] N 0=N:=rfl
theorem x0R {P:Program}{g:FuncId}{args:List D}{H:List Row}{n:Nat}{row:Row}{K:Bool→D→List Row→Prop}(h:Con P g args [] fun d H'=>d = .sl 0 0 n∧H'=[row])(hb:k0P [] H.length [] args=true)
  (ha:args.map (renE (ren [] H.length))=args) (hr:∀ ρ,renR ρ row=row) (hk:K true (.sl H.length 0 n) (H++[row])):a0k P (.fn g []) args H K:=by
 refine c0d h [] hb ?_ rfl ?_
 ·rw [List.append_nil,ha]
 ·show K true (.sl (ren [] H.length 0) 0 n) (H++[renR (ren [] H.length) row])
  rw [ren0,hr];exact hk
theorem a0M {P:Program}{g:FuncId}{args:List D}{H:List Row}{d0:D}{K:Bool→D→List Row→Prop}(h:Con P g args [] fun d H'=>d=d0∧H'=[])(hb:k0P [] H.length [] args=true)
  (ha:args.map (renE (ren [] H.length))=args) (hd:renE (ren [] H.length) d0=d0) (hk:K true d0 H):a0k P (.fn g []) args H K:=by
 refine c0d h [] hb ?_ rfl ?_
 ·rw [List.append_nil,ha]
 ·show K true (renE (ren [] H.length) d0) (H++[])
  rw [hd,List.append_nil];exact hk
def a0o (n:Int):Bs:=gt [[97],[98],[106,111,98,45,49],[122,57],[109],[120,45]] (n % 6).toNat
theorem j0f (n:Int):Con Tryz.prog 92 [D.int n] [] fun r H'=>r = .f (.v (.string (BB (a0o n))))∧H'=[]:=by
 refine ⟨(o0V).has,fun w φ X vs hH hv=>?_⟩
 obtain ⟨h1,h2⟩:=hv
 obtain ⟨l⟩:=vs
 rcases l with _|⟨v,_|⟨v2,l⟩⟩
 ·simp at h1
 rotate_left
 ·simp at h1
 have hv:=h2 0 _ v rfl rfl
 cases hv with|f hv=>cases hv with|v _ =>
 have hg:=hH.gl _ (List.mem_singleton.2 rfl)
 have hr:=Int.emod_lt_of_pos n (show (0:Int)<6 by omega)
 have hr0:=Int.emod_nonneg n (show (6:Int)≠0 by omega)
 have hc:w.cell? { block:=0,off:=(n % 6).toNat }=some (.string (BB (a0o n))):=by
  cases hg with
  | s cs g1 g2 g3 g4 =>
   obtain ⟨k,hk⟩:∃ k,(n % 6).toNat=k:=⟨_,rfl⟩
   unfold a0o
   rw [hk]
   have hk6:k<6:=by omega
   have hlt:k<cs.length:=by rw [g2];exact hk6
   obtain ⟨u,hu⟩:∃ u,cs[k]?=some u:=⟨_,List.getElem?_eq_getElem hlt⟩
   have a1:=(g3 _ _ hu).1
   have he:(Addr.add { block:=0,off:=0 } k:Addr)={ block:=0,off:=k }:=by simp [Addr.add];intro h;omega
   rw [he] at a1
   rw [a1]
   congr 1
   rcases k with _|_|_|_|_|_|k
   ·have a2:=g4 _ _ _ rfl hu
    cases a2 with|v _=>rfl
   ·have a2:=g4 _ _ _ rfl hu
    cases a2 with|v _=>rfl
   ·have a2:=g4 _ _ _ rfl hu
    cases a2 with|v _=>rfl
   ·have a2:=g4 _ _ _ rfl hu
    cases a2 with|v _=>rfl
   ·have a2:=g4 _ _ _ rfl hu
    cases a2 with|v _=>rfl
   ·have a2:=g4 _ _ _ rfl hu
    cases a2 with|v _=>rfl
   ·omega
 go_enter Tryz.func92,Tryz.ntmps92
 go_wp2_with fail
 refine (b1t n 6 w (by omega) (by omega)).mono ?_
 rintro _ _ ⟨rfl,rfl⟩
 go_wp2_with fail
 go_ret
 exact ⟨_,_,_,rfl,⟨rfl,rfl⟩,φ,Ons.refl _ _ _ _,hH,.f (.v rfl)⟩
theorem a0w (n:Int):(a0o n).length≤5:=by
 have h1:=Int.emod_lt_of_pos n (show (0:Int)<6 by omega)
 have h2:=Int.emod_nonneg n (show (6:Int)≠0 by omega)
 unfold a0o
 obtain ⟨k,hk⟩:∃ k,(n % 6).toNat=k:=⟨_,rfl⟩
 rw [hk]
 have hk6:k<6:=by omega
 rcases k with _|_|_|_|_|_|k
 all_goals first|decide|omega
instance {n:Int}{H:List Row}{K:D→List Row→Prop}:Wa (a0P Tryz.prog (.fn 92 []) [.f (.v (.int .i64 n))] H K) (K (.f (.v (.string (BB (a0o n))))) H):=⟨fun h=>a0C (j0f n) rfl rfl rfl h⟩
instance {n:Int}{H:List Row}{K:Bool→D→List Row→Prop}:Wa (a0k Tryz.prog (.fn 92 []) [.f (.v (.int .i64 n))] H K) (K true (.f (.v (.string (BB (a0o n))))) H):=⟨fun h=>a0M (j0f n) rfl rfl rfl h⟩
def layV (V:List Nat)(H:List Row):List Row:=V.foldr (fun r H=>H.set r .dead) H
theorem h0d:∀ (V:List Nat) (H:List Row),(layV V H).length=H.length
 | [],_=>rfl
 | v :: V,H=>by rw [layV,List.foldr_cons,List.length_set];exact h0d V H
theorem n0h:∀ (V:List Nat) (H:List Row) (x:Nat),(layV V H)[x]?=if x∈V then (H[x]?).map fun _=>Row.dead else H[x]?
 | [],H,x=>by simp [layV]
 | v :: V,H,x=>by
  have ih:=n0h V H x
  have hl:=h0d V H
  rw [layV,List.foldr_cons]
  unfold layV at ih hl
  rw [List.getElem?_set,ih,hl]
  by_cases hv:v=x
  ·subst hv
   rw [if_pos rfl,if_pos List.mem_cons_self]
   by_cases hx:v<H.length
   ·rw [if_pos hx,List.getElem?_eq_getElem hx];rfl
   ·rw [if_neg hx,List.getElem?_eq_none (by omega)];rfl
  ·rw [if_neg hv]
   by_cases hm:x∈V
   ·rw [if_pos hm,if_pos (List.mem_cons_of_mem _ hm)]
   ·rw [if_neg hm,if_neg (fun e=>(List.mem_cons.1 e).elim (fun e=>hv e.symm) hm)]
section
variable {P:Program}{w:World}{φ:Nat→Nat × Nat}{X:Nat→Prop}{H:List Row}
theorem HR.shed (h:HR P w φ X H)(r:Nat):HR P w φ X (H.set r .dead):=by
 by_cases hr:r<H.length
 ·exact (h.turn (row':=.dead) (List.getElem?_eq_getElem hr) (Keep.refl _ w) (by simp [Row.live]) (fun _=>trivial)).1
 ·rw [List.set_eq_of_length_le (by omega)];exact h
theorem HR.lay (h:HR P w φ X H):∀ V:List Nat,HR P w φ X (layV V H)
 | []=>h
 | v :: V=>(HR.lay h V).shed v
theorem v0B {V:List Nat}{b:Nat}:Live φ (layV V H) b→Live φ H b:=by
 rintro ⟨r,row,hx,hl,rfl⟩
 rw [n0h] at hx
 split at hx
 ·rw [Option.map_eq_some_iff] at hx
  obtain ⟨_,_,rfl⟩:=hx
  simp [Row.live] at hl
 ·exact ⟨r,row,hx,hl,rfl⟩
theorem Con.lay {f:FuncId}{args args0:List D}{Q:D→List Row→Prop}(V:List Nat)(hv:Vws (b0g V H) args args0)(h:Con P f args0 (layV V H) Q):Con P f args H Q:=by
 refine ⟨h.1,fun w φ X vs hH hvs=>?_⟩
 have hM:HR P w φ (Rest X φ H (b0g V H)) (b0g V H):=hH.part (S:=fun r=>r<H.length) (fun r h=>by rw [f0l];exact h) (fun x row hx=>by
  rcases f0d hx with rfl|⟨h1,_⟩
  ·exact .inl rfl
  ·exact .inr ⟨h1,(hH.rows x row h1).isLow⟩)
 have hA:∀ b,Av X φ (layV V H) b→Rest X φ H (b0g V H) b:=by
  rintro b (hb|⟨r,row,hx,hl,rfl⟩)
  ·exact .inl hb
  ·rw [n0h] at hx
   split at hx
   ·rw [Option.map_eq_some_iff] at hx
    obtain ⟨_,_,rfl⟩:=hx
    simp [Row.live] at hl
   ·rename_i hV
    refine .inr ⟨r,row,hx,hl,fun e=>?_,rfl⟩
    rcases f0d e with rfl|⟨_,h⟩
    ·simp [Row.live] at hl
    ·exact hV h
 have h1:Rs P w φ (Av X φ (layV V H)) (layV V H).length args0 vs.toList:=by
  refine ⟨hvs.1.trans hv.len,fun i d0 u hd0 hu=>?_⟩
  have hi:i<args.length:=by rw [hv.len];exact (List.getElem?_eq_some_iff.1 hd0).1
  have hd:args[i]?=some args[i]:=List.getElem?_eq_getElem hi
  have h4:=hvs.2 i _ u hd hu
  have h5:R P w φ (Av (Rest X φ H (b0g V H)) φ (b0g V H)) (b0g V H).length args[i] u:=by
   rw [f0l]
   refine h4.lower (S:=fun r=>r<H.length) (fun r h=>⟨rfl,h⟩) (fun b hb=>?_) h4.isLow
   rcases hb with (hb|⟨x,row,hx,hl,_,rfl⟩)|⟨x,row,hx,hl,rfl⟩
   ·exact .inl hb
   ·exact .inr ⟨x,row,hx,hl,rfl⟩
   ·rcases f0d hx with rfl|⟨h1,_⟩
    ·simp [Row.live] at hl
    ·exact .inr ⟨x,row,h1,hl,rfl⟩
  exact ((hv.get i _ d0 hd hd0).ok (φ':=φ) hM hA u h5).upper (Nat.zero_le _)
 refine (h.2 w φ X vs (hH.lay V) h1).mono ?_
 rintro en w' ⟨v,d,H',h1,h2,φ',ho,hh,hd⟩
 refine ⟨v,d,H',h1,h2,φ',⟨?_,?_,ho.keep.mono (fun b _ hb=>v0B hb),fun b hb=>?_⟩,hh,hd⟩
 ·have:=ho.len;rw [h0d] at this;exact this
 ·intro s hs;exact ho.same s (by rw [h0d];exact hs)
 ·exact (ho.fresh b hb).imp v0B id
theorem d0J {g:FuncId}{args args0:List D}{K:D→List Row→Prop}(V:List Nat)(hv:Vws (b0g V H) args args0)(h:a0P P (.fn g []) args0 (layV V H) K):a0P P (.fn g []) args H K:=by
 obtain ⟨g',caps',e,hc⟩:=h
 injection e with e1 e2
 subst e1;subst e2
 rw [List.append_nil] at hc
 exact ⟨g,[],rfl,by rw [List.append_nil];exact hc.lay V hv⟩
end
inductive WF:F→F→Prop
 | refl {x:F}:WF x x
 | ns:WF (.v (.slice none 0 0)) (.s [] 0)
 | es:WF .e (.s [] 0)
 | s {xs ys:List F} {n:Nat}:xs.length=ys.length→(∀ (i:Nat) (x y:F),xs[i]?=some x→ys[i]?=some y→WF x y)→WF (.s xs n) (.s ys n)
theorem WF.ok {w:World}{A:Nat→Prop}{x y:F}(h:WF x y):∀ {u:Value},RF w A x u→RF w A y u:=by
 induction h with
 | refl=>exact fun h=>h
 | ns=>intro u hr;cases hr with|v _=>exact .s0
 | es =>
  intro u hr
  cases hr with
  | @e a =>
  cases a with
  | none=>exact .s0
  | some a=>exact .s [] (Nat.le_refl _) rfl (fun i u hu=>by simp at hu) (fun i x u hx=>by simp at hx)
 | @s xs ys n hl hw ih =>
  intro u hr
  cases hr with
  | s cs h1 h2 h3 h4 =>
   refine .s cs h1 (h2.trans hl) h3 (fun i y u hy hu=>?_)
   have hi:i<xs.length:=by rw [hl];exact (List.getElem?_eq_some_iff.1 hy).1
   have hx:xs[i]?=some xs[i]:=List.getElem?_eq_getElem hi
   exact ih i _ y hx hy (h4 i _ u hx hu)
  | s0 =>
   obtain rfl:ys=[]:=List.eq_nil_of_length_eq_zero (by simpa using hl.symm)
   exact .s0
inductive WFs:List F→List F→Prop
 | nil:WFs [] []
 | refl {xs:List F}:WFs xs xs
 | cons {x y:F} {xs ys:List F}:WF x y→WFs xs ys→WFs (x :: xs) (y :: ys)
theorem WFs.at {xs ys:List F}(h:WFs xs ys):xs.length=ys.length∧∀ (i:Nat) (x y:F),xs[i]?=some x→ys[i]?=some y→WF x y:=by
 induction h with
 | nil=>exact ⟨rfl,fun i x y h=>by simp at h⟩
 | refl=>exact ⟨rfl,fun i x y h k=>by rw [h] at k;cases k;exact .refl⟩
 | cons h1 _ ih =>
  refine ⟨by simp [ih.1],fun i x y hx hy=>?_⟩
  cases i with
  | zero=>simp at hx hy;subst hx;subst hy;exact h1
  | succ i=>exact ih.2 i x y (by simpa using hx) (by simpa using hy)
theorem WF.ls {xs ys:List F}{n:Nat}(h:WFs xs ys):WF (.s xs n) (.s ys n):=.s h.at.1 h.at.2
inductive WD:D→D→Prop
 | refl {d:D}:WD d d
 | f {x y:F}:WF x y→WD (.f x) (.f y)
 | ag {ds es:List D}:ds.length=es.length→(∀ (i:Nat) (d e:D),ds[i]?=some d→es[i]?=some e→WD d e)→WD (.ag ds) (.ag es)
theorem WD.ok {P:Program}{w:World}{φ:Nat→Nat × Nat}{A:Nat→Prop}{N:Nat}{d d':D}(h:WD d d'):∀ {u:Value},R P w φ A N d u→R P w φ A N d' u:=by
 induction h with
 | refl=>exact fun h=>h
 | f h=>intro u hr;cases hr with|f hr=>exact .f (h.ok hr)
 | @ag ds es hl hw ih =>
  intro u hr
  cases hr with
  | ag hs hr h1 =>
   refine .ag (by rw [hs,hl]) (fun i d' u hd hu=>?_) h1
   have hi:i<ds.length:=by rw [hl];exact (List.getElem?_eq_some_iff.1 hd).1
   have hx:ds[i]?=some ds[i]:=List.getElem?_eq_getElem hi
   exact ih i _ d' hx hd (hr i _ u hx hu)
inductive WDs:List D→List D→Prop
 | nil:WDs [] []
 | cons {x y:D} {xs ys:List D}:WD x y→WDs xs ys→WDs (x :: xs) (y :: ys)
theorem WDs.at {xs ys:List D}(h:WDs xs ys):xs.length=ys.length∧∀ (i:Nat) (x y:D),xs[i]?=some x→ys[i]?=some y→WD x y:=by
 induction h with
 | nil=>exact ⟨rfl,fun i x y h=>by simp at h⟩
 | cons h1 _ ih =>
  refine ⟨by simp [ih.1],fun i x y hx hy=>?_⟩
  cases i with
  | zero=>simp at hx hy;subst hx;subst hy;exact h1
  | succ i=>exact ih.2 i x y (by simpa using hx) (by simpa using hy)
theorem WD.ags {ds es:List D}(h:WDs ds es):WD (.ag ds) (.ag es):=.ag h.at.1 h.at.2
theorem Con.less {P:Program}{f:FuncId}{args args':List D}{H:List Row}{Q:D→List Row→Prop}(h:Con P f args H Q)(ha:WDs args' args):Con P f args' H Q :=
 ⟨h.1,fun w φ X vs hH hv=>h.2 w φ X vs hH ⟨hv.1.trans ha.at.1,fun i d' u hd hu=>by
  have hi:i<args'.length:=by rw [ha.at.1];exact (List.getElem?_eq_some_iff.1 hd).1
  have hx:args'[i]?=some args'[i]:=List.getElem?_eq_getElem hi
  exact (ha.at.2 i _ d' hx hd).ok (hv.2 i _ u hx hu)⟩⟩
theorem c0c {P:Program}{g:FuncId}{args args0:List D}{H:List Row}{K:D→List Row→Prop}(h:a0P P (.fn g []) args0 H K)(ha:WDs args args0):a0P P (.fn g []) args H K:=by
 obtain ⟨g',caps',e,hc⟩:=h
 injection e with e1 e2
 subst e1;subst e2
 rw [List.append_nil] at hc
 exact ⟨g,[],rfl,by rw [List.append_nil];exact hc.less ha⟩
end Go.Proofs.YthjgmldnegaaiaaGreatDoor.Mir
namespace Go.Proofs.YthjgmldnegaaiaaGreatDoor.Mir
open Go Go.RowKit
theorem View.cell {P:Program}{n0:Nat}{ts:List D}{H:List Row}{dr:List Nat}{r i:Nat}{T:TypeId}{xs:List D}{c:D}{x:F}(hH:H[r]?=some (.box T xs))(hx:xs[i]?=some c)(hf:b0T P H c=some (x,[])) :
  View P n0 ⟨ts,H,dr⟩ ⟨ts,H.set r (.box T (xs.set i (.f x))),[]⟩:=by
 intro X w0 φ0 H0 w φ a _ hr
 have hlt:r<H.length:=(List.getElem?_eq_some_iff.1 hH).1
 have hget:∀ (q:Nat) (row:Row),(H.set r (.box T (xs.set i (.f x))))[q]?=some row→(q=r∧row = .box T (xs.set i (.f x)))∨H[q]?=some row:=by
  intro q row h
  rw [List.getElem?_set] at h
  split at h
  ·rename_i e;subst e
   try rw [if_pos hlt] at h
   exact .inl ⟨rfl,(Option.some.inj h).symm⟩
  ·exact .inr h
 have hback:∀ (q:Nat) (row:Row),H[q]?=some row→∃ row':Row,(H.set r (.box T (xs.set i (.f x))))[q]?=some row'∧row'.live=row.live:=by
  intro q row h
  rw [List.getElem?_set]
  split
  ·rename_i e;subst e
   try rw [if_pos hlt]
   rw [hH] at h
   cases h
   exact ⟨_,rfl,rfl⟩
  ·exact ⟨row,h,rfl⟩
 have hlive:∀ b,Live φ (H.set r (.box T (xs.set i (.f x)))) b↔Live φ H b:=by
  intro b
  constructor
  ·rintro ⟨q,row,h1,h2,h3⟩
   rcases hget q row h1 with ⟨rfl,rfl⟩|h
   ·exact ⟨q,_,hH,rfl,h3⟩
   ·exact ⟨q,row,h,h2,h3⟩
  ·rintro ⟨q,row,h1,h2,h3⟩
   obtain ⟨row',h4,h5⟩:=hback q row h1
   exact ⟨q,row',h4,by rw [h5];exact h2,h3⟩
 have hav:Av X φ (H.set r (.box T (xs.set i (.f x))))=Av X φ H:=funext fun b=>propext (or_congr Iff.rfl (hlive b))
 have hlen:(H.set r (.box T (xs.set i (.f x)))).length=H.length:=List.length_set
 refine ⟨φ,⟨⟨?_,?_,?_,hr.sim.heap.old,fun p hp=>by rw [hav];exact hr.sim.heap.gl p hp⟩,?_,hr.sim.defers⟩,⟨?_,hr.ons.same,hr.ons.keep,fun b h=>hr.ons.fresh b ((hlive b).1 h)⟩⟩
 ·intro q row h
  dsimp only at h ⊢
  rw [hav,hlen]
  rcases hget q row h with ⟨rfl,rfl⟩|h
  ·obtain ⟨h0,cs,hc,⟨hl,hg⟩,hone⟩:=hr.sim.heap.rows q _ hH
   refine ⟨h0,cs,hc,⟨by rw [List.length_set];exact hl,fun j d u hd hu=>?_⟩,hone⟩
   rw [List.getElem?_set] at hd
   split at hd
   ·rename_i e;subst e
    have hd:some (D.f x)=some d:=by first|exact hd|(split at hd<;>first|exact hd|cases hd)
    cases hd
    have:=hg i _ u hx hu
    exact .f (e0Y hr.sim.heap this hf).2
   ·exact hg j d u hd hu
  ·exact hr.sim.heap.rows q row h
 ·intro q s row row' h1 h2 h3 h4 h5
  have k:∀ (q:Nat) (row:Row),(H.set r (.box T (xs.set i (.f x))))[q]?=some row→row.live=true→∃ row0,H[q]?=some row0∧row0.live=true:=by
   intro q row h hl
   rcases hget q row h with ⟨rfl,rfl⟩|h
   ·exact ⟨_,hH,rfl⟩
   ·exact ⟨row,h,hl⟩
  obtain ⟨a1,b1,c1⟩:=k q row h1 h3
  obtain ⟨a2,b2,c2⟩:=k s row' h2 h4
  exact hr.sim.heap.apart q s a1 a2 b1 b2 c1 c2 h5
 ·intro q row h1 h3
  rcases hget q row h1 with ⟨rfl,rfl⟩|h
  ·exact hr.sim.heap.off q _ hH rfl
  ·exact hr.sim.heap.off q row h h3
 ·dsimp only
  rw [hav,hlen]
  exact hr.sim.tmps
 ·dsimp only
  rw [hlen]
  exact hr.ons.len
theorem View.lay {P:Program}{n0:Nat}{ts:List D}{H:List Row}{dr:List Nat}(q:Nat){T:TypeId}{ys:List F}(hq:H[q]?=some (.data T ys))(hne:ys≠[]):View P n0 ⟨ts,H,dr⟩ ⟨ts,H.set q (.froz T ys),[]⟩:=by
 intro X w0 φ0 H0 w φ a _ hr
 obtain ⟨g1,g2,g3,g4⟩:=hr.sim.heap.freeze hq hne
 have hlen:(H.set q (.froz T ys)).length=H.length:=List.length_set
 refine ⟨φ,⟨⟨g1,⟨hr.sim.tmps.1,fun j d u hd hu=>?_⟩,hr.sim.defers⟩,⟨?_,hr.ons.same,hr.ons.keep,fun b hb=>hr.ons.fresh b (g4 b hb)⟩⟩⟩
 ·dsimp only at hd ⊢
  rw [hlen]
  exact (hr.sim.tmps.2 j d u hd hu).keep (L:=fun _=>False) (Keep.refl _ _) (fun _ h=>h.elim) g2 (fun _ _=>rfl) (Nat.le_refl _)
 ·dsimp only;rw [hlen];exact hr.ons.len
theorem View.fixb {P:Program}{n0:Nat}{ts:List D}{H:List Row}{dr:List Nat}(r i q:Nat){m k b:Nat}{T U:TypeId}{xs:List D}{ys:List F}{z:List Value}(hH:H[r]?=some (.box T xs))(hx:xs[i]?=some (.sl q 0 m))(hq:H[q]?=some (.data U ys))(hi:inf P U=some (k,b,z))(hm:m≠0)(hn:ys.length=m*k)(hk:0<k) :
  View P n0 ⟨ts,H,dr⟩ ⟨ts,(H.set q (.froz U ys)).set r (.box T (xs.set i (.f (.s ys m)))),[]⟩:=by
 have hne:q≠r:=fun e=>by subst e;rw [hH] at hq;cases hq
 have hlt:q<H.length:=(List.getElem?_eq_some_iff.1 hq).1
 refine (View.lay q hq (fun e=>by rw [e] at hn;have:=Nat.mul_pos (Nat.pos_of_ne_zero hm) hk;simp at hn;omega)).trans (View.cell (c:=.sl q 0 m) (by rw [List.getElem?_set_ne hne];exact hH) hx (c1T (by rw [List.getElem?_set_self hlt]) hi hm hn))
theorem b0o {P:Program}{g:FuncId}{args:List D}{H:List Row}{r:Nat}{row row':Row}{d0:D}{K:D→List Row→Prop}(h:Con P g (.pt 0 0 :: args) [row] fun d H'=>d=d0∧H'=[row'])(hr:H[r]?=some row)
  (hb:k0P [0] 1 [row] (.pt 0 0 :: args)=true) (ha:∀ ρ,args.map (renE ρ)=args) (h1:∀ ρ,renR ρ row=row) (h2:∀ ρ,renR ρ row'=row') (hd:∀ ρ,renE ρ d0=d0) (hk:K d0 (H.set r row')):a0P P (.fn g []) (.pt r 0 :: args) H K:=by
 have hlt:r<H.length:=(List.getElem?_eq_some_iff.1 hr).1
 refine a0J h [r] ?_ ?_ ?_ ?_
 ·unfold k0P at hb ⊢
  simp only [Bool.and_eq_true] at hb ⊢
  refine ⟨⟨⟨⟨rfl,rfl⟩,hb.1.1.2⟩,hb.1.2⟩,?_⟩
  simp [hlt]
 ·rw [List.append_nil,List.map_cons,ha];rfl
 ·simp only [List.map_cons,List.map_nil,h1]
  rw [List.getD_eq_getElem?_getD,hr];rfl
 ·intro d H' hq
  rw [hq.1,hq.2]
  show K (renE (ren [r] H.length) d0) (H.set r (renR (ren [r] H.length) row')++[])
  rw [hd,h2,List.append_nil];exact hk
theorem f0z {P:Program}{g:FuncId}{args:List D}{H:List Row}{r:Nat}{row row':Row}{d0:D}{K:Bool→D→List Row→Prop}(h:Con P g (.pt 0 0 :: args) [row] fun d H'=>d=d0∧H'=[row'])(hr:H[r]?=some row)
  (hb:k0P [0] 1 [row] (.pt 0 0 :: args)=true) (ha:∀ ρ,args.map (renE ρ)=args) (h1:∀ ρ,renR ρ row=row) (h2:∀ ρ,renR ρ row'=row') (hd:∀ ρ,renE ρ d0=d0) (hk:K true d0 (H.set r row')):a0k P (.fn g []) (.pt r 0 :: args) H K:=by
 have hlt:r<H.length:=(List.getElem?_eq_some_iff.1 hr).1
 refine c0d h [r] ?_ ?_ ?_ ?_
 ·unfold k0P at hb ⊢
  simp only [Bool.and_eq_true] at hb ⊢
  refine ⟨⟨⟨⟨rfl,rfl⟩,hb.1.1.2⟩,hb.1.2⟩,?_⟩
  simp [hlt]
 ·rw [List.append_nil,List.map_cons,ha];rfl
 ·simp only [List.map_cons,List.map_nil,h1]
  rw [List.getD_eq_getElem?_getD,hr];rfl
 ·show K true (renE (ren [r] H.length) d0) (H.set r (renR (ren [r] H.length) row')++[])
  rw [hd,h2,List.append_nil];exact hk
class StrC (d:D)(b:outParam (List UInt8)):Prop where h:d = .f (.v (.string (BB b)))
class DatC (d:D)(b:outParam (List UInt8)):Prop where h:WD d (.f (fY b))
class DefC (d:D)(b:outParam (List Nd)):Prop where h:WD d (.f (fG b))
instance {b:List UInt8}:StrC (.f (.v (.string (BB b)))) b:=⟨rfl⟩
instance:StrC (.f (.v (.string ⟨#[]⟩))) []:=⟨rfl⟩
instance {b:List UInt8}:DatC (.f (fY b)) b:=⟨.refl⟩
instance:DatC (.f (.v (.slice none 0 0))) []:=⟨.f .ns⟩
instance {b:List Nd}:DefC (.f (fG b)) b:=⟨.refl⟩
instance:DefC (.f (.v (.slice none 0 0))) []:=⟨.f .ns⟩
instance {x n:Int}{H:List Row}{K:D→List Row→Prop}:Wa (a0P Tryz.prog (.fn 13 []) [.f (.v (.int .i64 x)),.f (.v (.int .i64 n))] H K) ((0<n∧n≤1000000)∧K (.f (.v (.int .i64 (pick x n)))) H):=⟨fun h=>a0C (i0f x n h.1.1 h.1.2) rfl rfl rfl h.2⟩
instance {x n:Int}{H:List Row}{K:Bool→D→List Row→Prop}:Wa (a0k Tryz.prog (.fn 13 []) [.f (.v (.int .i64 x)),.f (.v (.int .i64 n))] H K) ((0<n∧n≤1000000)∧K true (.f (.v (.int .i64 (pick x n)))) H):=⟨fun h=>a0M (i0f x n h.1.1 h.1.2) rfl rfl rfl h.2⟩
def m0a:SCode :=
  (jq ([.a 4 (.mv kN)]) (jq ((ap [.a 5 (.bsl 5 1 0 [] []),jm 6 0,jm 7 0,je 8 7,jm 9 1,.a 10 (.mm false (.t 8) (.t 9)),.a 11 (.sub 1 5 (.t 6) none
 (some (.t 10)) none),.a 12 (.app 5 1 1 (.t 5) (.t 11))] [jm 4 12])) .ret))
theorem t0V:Fn Tryz.prog 117 13 [.t 4] m0a:=.of Tryz.func117 (by kernel_rfl)
set_option maxHeartbeats 4000000
theorem e1X {H:List Row}{E:TypeId}{b:Bs}{h:Nat}(hh:h≤b.length):subS H 1 E (.f (fY b)) 0 h=some (.f (fY (b.take h))):=by
 rw [fY,m0p,fY,List.length_take,Nat.min_eq_left hh,List.map_take]
 simp
def fewL (b:Bs)(n:Int):Bs:=b.take (min (b.length:Int) n).toNat
theorem c1a {H:List Row}{E:TypeId}{b:Bs}{n:Int}:subS H 1 E (.f (fY b)) 0 (min (b.length:Int) n).toNat=some (.f (fY (fewL b n))):=e1X (by omega)
theorem h0Z {b:Bs}{n:Int}(h:0≤n):(fewL b n).length≤n.toNat:=by
 unfold fewL;rw [List.length_take];omega
theorem w0n (b:Bs)(n:Int)(h0:0≤n)(hn:n≤1000000):Con Tryz.prog 117 [.f (fY b),D.int n] [] fun r H'=>r = .f (fY (fewL b n))∧H'=[]:=by
 refine Con.walk good t0V (by simp) ?_
 unfold m0a
 simp only [a0I]
 have hl:=h0Z (b:=b) h0
 repeat' (with_reducible first|refine Wx.h ?_|refine Wb.h fun K hK=>?_|(refine hK _ ?_;clear hK K)|refine Wq.h ?_ ?_<;>intro h|((fail_if_success refine Wz.h ?_);first|simp (disch:=omega) only [↓LD,LA,a0A,seval,c1a,List.length_map]|(refine And.intro ?_ ?_;omega)|fail))
 ·have h1:fewL b n=[]:=List.eq_nil_of_length_eq_zero (by assumption)
  exact end1 rfl rfl (by kernel_rfl) (.sl (T:=5) (xs:=[]) rfl (fun _=>rfl)) ⟨by rw [h1];rfl,rfl⟩
 ·have h1:¬ (fewL b n).length=0:=by assumption
  exact end1 rfl rfl (by kernel_rfl) (.sl (T:=5) (xs:=(fewL b n).map uF) rfl (fun e=>absurd e h1)) ⟨rfl,rfl⟩
instance {b:Bs}{n:Int}{H:List Row}{K:Bool→D→List Row→Prop}:Wa (a0k Tryz.prog (.fn 117 []) [.f (fY b),.f (.v (.int .i64 n))] H K) ((0≤n∧n≤1000000)∧K true (.f (fY (fewL b n))) H):=⟨fun h=>a0M (w0n b n h.1.1 h.1.2) rfl rfl rfl h.2⟩
def h0z:SCode :=
  (jq ([.a 6 (.mv kN)]) (jq ((ap [.a 14 (.bsl 73 9 0 [] []),jm 15 0,.a 16 (.app 73 9 112 (.t 14) (.t 15))] [jm 7 16])) (jq ([jk 8 1]) (jq ([jk 9 0])
 (.seq (jq ([jm 17 0,je 18 17,jb 19 .gtr 18 0]) (jc 19 (jq ([jm 20 0,jm 21 0,je 22 21,jb 23 .sub 22 1,jx 24 9 20 23,jo 25 1 24,jl 26 25,jm 8
 26]) (.ops [jm 27 0,jm 28 0,je 29 28,jb 30 .sub 29 1,jx 31 9 27 30,jo 32 2 31,jl 33 32,jm 9 33])) .skip)) (.seq (jq ([jk 10 0]) (.block 0 (.loop
 (.seq (jq ((ap [jm 34 10,jm 35 1,je 36 35,jB 37 .lss 34 36] (ap [jm 38 37,gM 39 10 38 true] (ap [jG 40 (.bin .lss (.t 39) (kI 30)) 38 true] (ap [.a
 41 (.pick (.t 38) (.t 40) kF),jm 42 41,gM 43 7 42 true] (ap [jG 44 (.slen (.t 43)) 42 true,jG 45 (.bin .lss (.t 44) (kI 150)) 42 true] [.a 46 (.pick
 (.t 42) (.t 45) kF)])))))) (jc 46 .skip (.exit 0))) (.seq (.block 1 (jq ([jm 49 1,jm 50 10,jx 51 6 49 50,jL 52 6 51,.a 11 (.alloc 115 [jI,jI,jI,
 jI,jI,jN]),.n (.store 6 (.t 11) (.t 52))]) (jq ((ap [jm 53 8,jo 54 4 11,jl 55 54,jb 56 .quo 55 4,jo 57 4 11,jl 58 57,jb 59 .rem 58 2,jB 60
 .mul 56 59,.a 61 (.call (kC 58) [(.t 53),(.t 60)])] [jm 8 61])) (jq ((ap [jm 62 9,jo 63 3 11,jl 64 63,.a 65 (.call (kC 13) [(.t 64),(kI 5)])] [jB
 66 .add 62 65,jm 9 66])) (jq ((ap [jm 68 7,jm 69 8,jm 70 9,.a 71 (.call (kC 72) [(.t 68),(.t 69),(.t 70)])] [jm 67 71,jE 72 0 67,jE 73 1 67,jm
 12 72,jm 13 73])) (.seq (jq ([jm 74 13,jb 75 .neq 74 0]) (jc 75 (jq ([jm 76 7,jm 6 76]) .ret) .skip)) (jq ([jm 77 12,jL 78 6 11,jm 79 2,.a 80
 (.call (kC 73) [(.t 77),(.t 78),(.t 79)])]) (.ops (ap [jm 81 7,jm 82 12,jn 83 82,jo 84 11 83,jl 85 84,.a 86 (.app 73 9 112 (.t 81) (.t 85))] [jm
 7 86]))))))))) (.ops [jm 47 10,jb 48 .add 47 1,jm 10 48])))))) (jq ([jm 87 7,jm 6 87]) .ret)))))))
theorem q0I:Fn Tryz.prog 37 88 [.t 6] h0z:=.of Tryz.func37 (by kernel_rfl)
def j0X:SCode :=
  (jq ([.a 4 (.box 115 (.t 1))]) (.seq (jq ([jm 8 0,jn 9 8,jo 10 0 9,jo 11 0 10,jl 12 11,jb 13 .eql 12 0]) (jc 13 (jq ((ap [jm 14 0,jm 15 2,.a 16
 (.call (kC 90) [(.t 15),(kI 7)])] [.a 17 (.call (kC 89) [(.t 14),(.t 16)])])) .ret) .skip)) (jq ([jo 18 0 4,jl 19 18,.a 20 (.call (kC 13) [(.t 19),
 (kI 16)])]) (.block 0 (.seq (jq ((ap [jb 34 .eql 20 0] [jm 33 34])) (jc 33 .skip (jq ((ap [jb 35 .eql 20 1] [jm 33 35])) (jc 33 .skip (jq ((ap [jb 36
 .eql 20 2] [jm 33 36])) (jc 33 .skip (jq ((ap [jb 37 .eql 20 3] [jm 33 37])) (jc 33 .skip (.ops (ap [jb 38 .eql 20 4] [jm 33 38])))))))))) (jc 33 (.ops
 [jm 39 0,.a 40 (.call (kC 115) [(.t 39)])]) (.seq (jq ((ap [jb 42 .eql 20 5] [jm 41 42])) (jc 41 .skip (jq ((ap [jb 43 .eql 20 6] [jm 41 43])) (jc 41
 .skip (jq ((ap [jb 44 .eql 20 7] [jm 41 44])) (jc 41 .skip (.ops (ap [jb 45 .eql 20 8] [jm 41 45])))))))) (jc 41 (.seq (jq ([jk 6 0]) (.block 1 (.loop
 (.seq (jq ([jm 46 6,jm 47 0,jn 48 47,jo 49 0 48,jo 50 6 49,jl 51 50,je 52 51,jB 53 .lss 46 52]) (jc 53 .skip (.exit 1))) (.seq (.block 2 (jq
 ([jm 56 0,jn 57 56,jo 58 0 57,jo 59 6 58,jl 60 59,jm 61 6,jx 62 4 60 61,jo 63 0 62,jl 64 63,jb 65 .eql 64 1]) (jc 65 (jq ([jk 7 0]) (.seq (jq
 ([jo 66 1 4,jl 67 66,jb 68 .rem 67 4,jb 69 .gtr 68 0]) (jc 69 (.ops [jk 7 40]) .skip)) (.seq (.drw [jm 70 0,jm 71 6,jm 72 0,jn 73 72,jo 74 0 73,
 jo 75 6 74,jl 76 75,jm 77 6,jx 78 4 76 77,jo 79 1 78,jl 80 79,jo 81 1 4,jl 82 81,jb 83 .rem 82 4,jb 84 .gtr 83 0,jo 85 5 4,jl 86 85,jm 87
 7,.a 88 (.call (kC 117) [(.t 86),(.t 87)]),.a 89 (.call (kC 116) [(.t 70),(.t 71),(.t 80),(.t 84),(.t 88)])] [0,0,0,4,12,28,60,0,252,
 508,1020,0,2048,6144,14336,0,32768,0,229376,524287]) .ret))) .skip))) (.ops [jm 54 6,jb 55 .add 54 1,jm 6 55])))))) (.ops [jm 90 0,.a 91
 (.call (kC 115) [(.t 90)])])) (jq ((ap [jb 93 .eql 20 9] [jm 92 93])) (jc 92 (.drw [jm 94 0,jo 95 1 4,jl 96 95,.a 97 (.call (kC 92) [(.t 96)]),jo
 98 2 4,jl 99 98,.a 100 (.call (kC 13) [(.t 99),(kI 9)]),.a 101 (.bin .add (kI 1) (.t 100)),.a 102 (.call (kC 118) [(.t 94),(.t 97),(.t 101)])]
 [0,0,2,6,0,16,62,126,255]) (.seq (jq ((ap [jb 104 .eql 20 10] [jm 103 104])) (jc 103 .skip (jq ((ap [jb 105 .eql 20 11] [jm 103 105])) (jc 103
 .skip (.ops (ap [jb 106 .eql 20 12] [jm 103 106])))))) (jc 103 (.drw [jm 107 0,jo 108 1 4,jl 109 108,.a 110 (.call (kC 92) [(.t 109)]),jo 111 2 4,
 jl 112 111,.a 113 (.call (kC 92) [(.t 112)]),jB 114 .add 110 113,jo 115 5 4,jl 116 115,.a 117 (.call (kC 117) [(.t 116),(kI 40)]),.a 118 (.call
 (kC 91) [(.t 107),(.t 114),(.t 117)])] [0,0,2,6,0,16,62,126,0,256,894,2047]) (.seq (jq ((ap [jb 120 .eql 20 13] [jm 119 120])) (jc 119
 .skip (.ops (ap [jb 121 .eql 20 14] [jm 119 121])))) (jc 119 (.ops [jm 122 0,.a 123 (.call (kC 119) [(.t 122)])]) (jq ([jo 21 2 4,jl 22 21,jb 23
 .rem 22 4,jb 24 .eql 23 0]) (jc 24 (.ops [jm 25 0,.a 26 (.call (kC 120) [(.t 25)])]) (jq ([jo 27 2 4,jl 28 27,jb 29 .rem 28 29,jb 30 .eql 29 28])
 (jc 30 (.ops [jm 31 0,.a 32 (.call (kC 121) [(.t 31)])]) .skip))))))))))))))))))
theorem q0w:Fn Tryz.prog 73 124 [] j0X:=.of Tryz.func73 (by kernel_rfl)
def f0E:SCode :=
 (jq ([.a 4 (.mv kN)]) (jq ((ap [jm 5 0,jm 6 1,.a 7 (.call (kC 37) [kN,(.t 5),(.t 6)])] [jm 4 7])) .ret))
theorem k0X:Fn Tryz.prog 9 8 [.t 4] f0E:=.of Tryz.func9 (by kernel_rfl)
def e0f:SCode :=
  (jq ([jk 4 0]) (jq ([jm 7 0,jm 5 7]) (.seq (jq ([jk 6 0]) (.block 0 (.loop (.seq (jq ((ap [jm 8 6,jm 9 1,.a 10 (.call (kC 13) [(.t 9),(kI 3)])] [jB
 11 .lss 8 10])) (jc 11 .skip (.exit 0))) (.seq (.block 1 (jq ([jm 14 5,jb 15 .add 14 1,jm 5 15]) (.block 2 (.loop (.seq (jq ((ap [jm 16 5,jb 17 .rem
 16 10,jb 18 .lss 17 1] (ap [jm 19 18,gM 20 5 19 false] (ap [jG 21 (.bin .rem (.t 20) (kI 10)) 19 false,jG 22 (.bin .gtr (.t 21) (kI 4)) 19 false]
 [.a 23 (.pick (.t 19) kT (.t 22))])))) (jc 23 .skip (.exit 2))) (.block 3 (.ops [jm 24 5,jb 25 .add 24 1,jm 5 25]))))))) (.ops [jm 12 6,jb 13 .add
 12 1,jm 6 13])))))) (jq ([jm 26 5,.a 27 (.mm true (.t 26) (kI 1)),jm 4 27]) .ret))))
theorem j0s:Fn Tryz.prog 58 28 [.t 4] e0f:=.of Tryz.func58 (by kernel_rfl)
def ownD (x:Int):Int:=if x % 10=0 then 1 else if x % 10≤4 then 0 else 11-x % 10
theorem n0b (x:Int):0≤ownD x∧ownD x≤6:=by unfold ownD;split<;>(try split)<;>omega
theorem a1n {x:Int}(h0:0≤x)(h:x.tmod 10<1∨4<x.tmod 10):ownD (x+1)=ownD x-1:=by
 rw [Int.tmod_eq_emod_of_nonneg h0] at h
 unfold ownD;split<;>(try split)<;>(try split)<;>(try split)<;>omega
structure Rw where
 what:Int
 a:Int
 b:Int
 c:Int
 v:Int
 data:Bs
 deriving Inhabited
def Rw.cs (x:Rw):List F:=[iF x.what,iF x.a,iF x.b,iF x.c,iF x.v,fY x.data]
theorem Rw.cs_len (x:Rw):x.cs.length=6:=rfl
def rwD (x:Rw):D:=.ag [D.int x.what,D.int x.a,D.int x.b,D.int x.c,D.int x.v,.f (fY x.data)]
def fRw (l:List Rw):F:=.s (l.flatMap Rw.cs) l.length
theorem v0i {g:List Rw}:slcS (.f (fRw g))=some g.length:=id rfl
theorem u0P {g:List Rw}{sz:Nat}{k:IntKind}{i:Int}{K:D→Prop}:idxS sz (.f (fRw g)) (.f (.v (.int k i))) K=((0≤i∧i<g.length)∧K (.rf ((g.flatMap Rw.cs).drop (i.toNat*sz)))):=id rfl
theorem y0u {g:List Rw}:(g.flatMap Rw.cs).length=g.length*6:=b0K Rw.cs_len g
theorem v0l {H:List Row}{g:List Rw}{k:Nat}(hk:k<g.length):loadA H 6 (.rf ((g.flatMap Rw.cs).drop (k*6)))=some (.ag ((Rw.cs (gt g k)).map .f)):=b0l Rw.cs_len hk
def h0t:SCode :=
  (jq ([.a 2 (.box 123 (.t 0)),.a 4 (.mv kF)]) (jq ([.a 5 (.mv (kI (-1)))]) (.seq (jq ([jo 8 0 2,jl 9 8,je 10 9,jk 11 0]) (.block 0 (.loop (jq ([jB
 12 .lss 11 10]) (.seq (jc 12 .skip (.exit 0)) (.seq (.block 1 (jq ([jx 13 1 9 11,jl 14 13,jm 7 14]) (.seq (jq ((ap [jm 15 7,jm 16 5,jB 17 .leq 15
 16] (ap [jm 18 17,gM 19 7 18 false] (ap [gM 20 1 18 false,jG 21 (.bin .geq (.t 19) (.t 20)) 18 false] [.a 22 (.pick (.t 18) kT (.t 21))])))) (jc 22
 (jq ([.a 4 (.mv kF)]) .ret) .skip)) (.ops [jm 23 7,jm 5 23])))) (.ops [jb 24 .add 11 1,jm 11 24]))))))) (jq ((ap [jo 25 1 2,jl 26 25,jb 27 .geq 26
 1] (ap [jm 28 27,gO 29 1 2 28 true] (ap [gL 30 29 28 true,jG 31 (.bin .leq (.t 30) (kI 5)) 28 true] (ap [.a 32 (.pick (.t 28) (.t 31) kF),jm 33 32,
 gO 34 2 2 33 true] (ap [gL 35 34 33 true,jG 36 (.bin .geq (.t 35) (kI 1)) 33 true] (ap [.a 37 (.pick (.t 33) (.t 36) kF),jm 38 37,gO 39 2 2 38 true]
 (ap [gL 40 39 38 true,jG 41 (.bin .leq (.t 40) (kI 1048576)) 38 true] [.a 42 (.pick (.t 38) (.t 41) kF),jm 4 42])))))))) .ret))))
theorem r0j:Fn Tryz.prog 177 43 [.t 4] h0t:=.of Tryz.func177 (by kernel_rfl)
def p0Z:SCode :=
  (jq ([.a 3 (.box 189 (.t 1)),.a 4 (.mv kF)]) (jq ((ap [jm 5 0,.a 6 (.fn 192 [(.t 3)]),.a 7 (.call (kC 191) [(.t 5),(.t 6)])] [.a 8 (.unot (.t 7)),
 jm 4 8])) .ret))
theorem x0P:Fn Tryz.prog 189 9 [.t 4] p0Z:=.of Tryz.func189 (by kernel_rfl)
def k0r:SCode :=
  (jq ([.a 3 (.mv kF)]) (jq ((ap [jm 4 0,jl 5 1,je 6 5,jB 7 .geq 4 6] (ap [jm 8 7,gL 9 1 8 false] [gM 10 0 8 false,jG 11 (.idx 1 (.t 9) (.t 10)) 8
 false,gL 12 11 8 false,jG 13 (.unot (.t 12)) 8 false,.a 14 (.pick (.t 8) kT (.t 13)),jm 3 14]))) .ret))
theorem t0X:Fn Tryz.prog 192 15 [.t 3] k0r:=.of Tryz.func192 (by kernel_rfl)
def c0q:SCode :=
 (jq ([.a 4 (.mv kF)]) (jq ((ap [jm 5 0,jm 6 1,.a 7 (.call (kC 193) [(.t 5),(.t 6)])] (ap [jb 8 .geq 7 0] [jm 4 8]))) .ret))
theorem e0o:Fn Tryz.prog 191 9 [.t 4] c0q:=.of Tryz.func191 (by kernel_rfl)
def e0G:SCode :=
  (jq ([jk 4 0]) (.seq (jq ([jm 6 0,je 7 6,jk 8 0]) (.block 0 (.loop (jq ([jB 9 .lss 8 7]) (.seq (jc 9 .skip (.exit 0)) (.seq (.block 1 (jq ([jm 10 8,
 jm 5 10]) (jq ([jm 11 1,jm 12 0,jm 13 5,jx 14 1 12 13,jl 15 14,.a 16 (.call (.t 11) [(.t 15)])]) (jc 16 (jq ([jm 17 5,jm 4 17]) .ret) .skip))))
 (.ops [jb 18 .add 8 1,jm 8 18]))))))) (jq ([.a 4 (.mv (kI (-1)))]) .ret)))
theorem h0T:Fn Tryz.prog 193 19 [.t 4] e0G:=.of Tryz.func193 (by kernel_rfl)
def i0T:SCode :=
  (jq ([.a 2 (.mv kN)]) (jq ([.a 3 (.mv kN)]) (jq ([jm 8 0,je 9 8,.a 10 (.mkslice 4 1 1 [(.v (.bool false))] (.t 9) (.t 9)),jm 4 10]) (.seq (jq ([jm
 11 0,je 12 11,jk 13 0]) (.block 0 (.loop (jq ([jB 14 .lss 13 12]) (.seq (jc 14 .skip (.exit 0)) (.seq (.block 1 (jq ([.a 5 (.mv (kI (-1)))]) (.seq
 (jq ([jm 15 0,je 16 15,jk 17 0]) (.block 2 (.loop (jq ([jB 18 .lss 17 16]) (.seq (jc 18 .skip (.exit 2)) (.seq (.block 3 (jq ([jm 19 17,jx 20 3 15
 17,jL 21 3 20,.a 7 (.alloc 123 [jN,jI,jI]),jm 6 19,.n (.store 3 (.t 7) (.t 21))]) (jq ((ap [jm 22 5,jb 23 .lss 22 0] (ap [jm 24 23,gM 25 4 24
 true] (ap [gM 26 6 24 true,jG 27 (.idx 1 (.t 25) (.t 26)) 24 true,gL 28 27 24 true,jG 29 (.unot (.t 28)) 24 true,.a 30 (.pick (.t 24) (.t 29) kF),
 jm 31 30,gO 32 0 7 31 true] (ap [gL 33 32 31 true,gM 34 4 31 true,jG 35 (.call (kC 189) [(.t 33),(.t 34)]) 31 true] [.a 36 (.pick (.t 31) (.t 35)
 kF)]))))) (jc 36 (.ops [jm 37 6,jm 5 37]) .skip)))) (.ops [jb 38 .add 17 1,jm 17 38]))))))) (.seq (jq ([jm 39 5,jb 40 .lss 39 0]) (jc 40 (.exit 0)
 .skip)) (jq ([jm 41 4,jm 42 5,jx 43 1 41 42,.n (.store 1 (.t 43) kT)]) (.ops (ap [jm 44 3,jm 45 5,.a 46 (.bsl 3 1 1 [jI] [(0,(.t 45))]),.a 47
 (.app 3 1 8 (.t 44) (.t 46))] [jm 3 47]))))))) (.ops [jb 48 .add 13 1,jm 13 48]))))))) (jq ([jm 49 3,jm 2 49]) .ret)))))
theorem r0C:Fn Tryz.prog 178 50 [.t 2] i0T:=.of Tryz.func178 (by kernel_rfl)
def j0g:SCode :=
  (jq ([jk 2 0]) (.seq (jq ((ap [jm 5 0,je 6 5,jb 7 .lss 6 1] (ap [jm 8 7,gM 9 0 8 false] (ap [jG 10 (.slen (.t 9)) 8 false,jG 11 (.bin .gtr (.t 10)
 (kI 8)) 8 false] [.a 12 (.pick (.t 8) kT (.t 11))])))) (jc 12 (jq ([jk 2 1]) .ret) .skip)) (.seq (jq ([jm 13 0,je 14 13,jk 15 0]) (.block 0 (.loop
 (jq ([jB 16 .lss 15 14]) (.seq (jc 16 .skip (.exit 0)) (.seq (.block 1 (jq ([jx 17 3 13 15,jL 18 3 17,.a 4 (.alloc 123 [jN,jI,jI]),.n (.store 3
 (.t 4) (.t 18))]) (jq ((ap [jL 19 3 4,jm 20 0,je 21 20,.a 22 (.call (kC 177) [(.t 19),(.t 21)])] [.a 23 (.unot (.t 22))])) (jc 23 (jq ([jk 2 1])
 .ret) .skip)))) (.ops [jb 24 .add 15 1,jm 15 24]))))))) (.seq (jq ((ap [jm 25 0,.a 26 (.call (kC 178) [(.t 25)])] [je 27 26,jm 28 0,je 29 28,jB 30
 .lss 27 29])) (jc 30 (jq ([jk 2 9]) .ret) .skip)) (jq ([jk 2 0]) .ret)))))
theorem q0D:Fn Tryz.prog 158 31 [.t 2] j0g:=.of Tryz.func158 (by kernel_rfl)
def i0l:SCode :=
  (jq ([.a 4 (.mv kN)]) (jq ([.a 5 (.mv kN)]) (.seq (jq ((ap [jm 8 0,.a 9 (.call (kC 158) [(.t 8)])] [jb 10 .neq 9 0])) (jc 10 (jq ([.a 4 (.mv kN)])
 .ret) .skip)) (.seq (jq ([jm 11 0,je 12 11,jk 13 0]) (.block 0 (.loop (jq ([jB 14 .lss 13 12]) (.seq (jc 14 .skip (.exit 0)) (.seq (.block 1 (jq ([jm
 15 13,jx 16 3 11 13,jL 17 3 16,.a 7 (.alloc 123 [jN,jI,jI]),jm 6 15,.n (.store 3 (.t 7) (.t 17))]) (jq ((ap [jm 18 6,jm 19 1,je 20 19,jB 21
 .geq 18 20] (ap [jm 22 21,gM 23 1 22 false] (ap [gM 24 6 22 false,jG 25 (.idx 1 (.t 23) (.t 24)) 22 false,gL 26 25 22 false,jG 27 (.unot (.t 26))
 22 false,.a 28 (.pick (.t 22) kT (.t 27)),jm 29 28,gO 30 0 7 29 true] (ap [gL 31 30 29 true,gM 32 1 29 true,jG 33 (.call (kC 189) [(.t 31),(.t
 32)]) 29 true] [.a 34 (.pick (.t 29) (.t 33) kF)]))))) (jc 34 (.ops (ap [jm 35 5,jm 36 6,.a 37 (.bsl 3 1 1 [jI] [(0,(.t 36))]),.a 38 (.app 3 1 8
 (.t 35) (.t 37))] [jm 5 38])) .skip)))) (.ops [jb 39 .add 13 1,jm 13 39]))))))) (jq ([jm 40 5,jm 4 40]) .ret)))))
theorem o0j:Fn Tryz.prog 180 41 [.t 4] i0l:=.of Tryz.func180 (by kernel_rfl)
def i0m:SCode :=
  (jq ([.a 2 (.mv kN)]) (.seq (jq ([jm 3 0,.a 4 (.nilq true 0 (.t 3) kN)]) (jc 4 (jq ([.a 2 (.mv kN)]) .ret) .skip)) (jq ((ap [.a 5 (.bsl 3 1 0 [] []),
 jm 6 0,.a 7 (.app 3 1 8 (.t 5) (.t 6))] [jm 2 7])) .ret)))
theorem r0B:Fn Tryz.prog 110 8 [.t 2] i0m:=.of Tryz.func110 (by kernel_rfl)
def e0k:SCode :=
 (jq ([.a 4 (.mv kF)]) (jq ((ap [jm 5 0,jm 6 1,.a 7 (.call (kC 179) [(.t 5),(.t 6)])] (ap [jb 8 .geq 7 0] [jm 4 8]))) .ret))
theorem j0Z:Fn Tryz.prog 159 9 [.t 4] e0k:=.of Tryz.func159 (by kernel_rfl)
def j0B:SCode :=
  (jq ([jk 4 0]) (.seq (jq ([jm 6 0,je 7 6,jk 8 0]) (.block 0 (.loop (jq ([jB 9 .lss 8 7]) (.seq (jc 9 .skip (.exit 0)) (.seq (.block 1 (jq ([jm 10 8,
 jm 5 10]) (jq ([jm 11 1,jm 12 0,jm 13 5,jx 14 1 12 13,jl 15 14,jB 16 .eql 11 15]) (jc 16 (jq ([jm 17 5,jm 4 17]) .ret) .skip)))) (.ops [jb 18
 .add 8 1,jm 8 18]))))))) (jq ([.a 4 (.mv (kI (-1)))]) .ret)))
theorem p0q:Fn Tryz.prog 179 19 [.t 4] j0B:=.of Tryz.func179 (by kernel_rfl)
set_option maxHeartbeats 1000000
def rise (n:Int):Int→List Int→Bool
 | _,[]=>true
 | last,x :: xs=>decide (last<x)&&decide (x<n)&&rise n x xs
def b0B (d:Nd)(n:Int):Bool:=rise n (-1) d.ns&&(decide (1≤d.tr)&&decide (d.tr≤5)&&decide (1≤d.le)&&decide (d.le≤1048576))
def ndD (d:Nd):D:=.ag [.f (fI d.ns),D.int d.tr,D.int d.le]
theorem t0O (d:Nd)(n:Int)(hl:d.ns.length<1000000):Con Tryz.prog 177 [ndD d,D.int n] [] fun r H'=>r=D.bool (b0B d n)∧H'=[]:=by
  obtain ⟨ns,tr,le⟩:=d
  dsimp only at hl
  refine Con.walk good r0j (by simp) ?_
  unfold h0t
  simp only [a0I,List.length_nil,Nat.reduceAdd]
  repeat' (with_reducible first|refine Wx.h ?_|refine Wb.h fun K hK=>?_|(refine hK _ ?_;clear hK K)|((fail_if_success refine Wz.h ?_);simp (disch:=omega) only [↓LD,LA,a0A,seval,fI,ndD]))
  refine HS.loopP (fun x:Nat × Int=>[(1,D.int n),(2,.pt 0 0),(4,D.bool false),(5,D.int x.2),(9,.f (fI ns)),(10,D.int ns.length),(11,D.int x.1)]) (fun _=>[.box 123 [.f (fI ns),D.int tr,D.int le]])
    (fun x=>x.1≤ns.length∧rise n (-1) ns=rise n x.2 (ns.drop x.1)) (fun x=>ns.length-x.1) (0,-1) rfl (by kernel_rfl) ⟨Nat.zero_le _,rfl⟩ ?_
  rintro ⟨k,z⟩ ⟨hk,hr⟩
  dsimp only at hk hr
  repeat' (with_reducible first|refine Wx.h ?_|refine Wb.h fun K hK=>?_|(refine hK _ ?_;clear hK K)|refine Wq.h ?_ ?_<;>intro h|((fail_if_success refine Wz.h ?_);first|simp (disch:=omega) only [↓LD,LA,a0A,seval,fI]|(refine And.intro ?_ ?_;omega)|fail))
  all_goals first
    | (refine end1 rfl rfl (by kernel_rfl) .f ⟨congrArg D.bool ?_,rfl⟩
       first
        | (rw [b0B,hr,a0G (by omega),rise];simp;omega)
        | (rw [b0B,hr,List.drop_of_length_le (by omega)];simp [rise];omega))
    | (refine NextP.mk (k+1,gt ns k) rfl (by kernel_rfl) ?_ ?_
       · refine ⟨by dsimp only;omega,?_⟩
         rw [hr,a0G (by omega)];simp [rise];omega
       · dsimp only;omega)
def inB (done:List Bool)(x:Int):Bool:=decide (x<done.length)&&gt done x.toNat
def metB (done:List Bool)(ns:List Int):Bool:=ns.all (inB done)
theorem x0I (done:List Bool)(x:Int)(hx:0≤x)(hl:done.length<140737488355328):Con Tryz.prog 192 [D.int x,.pt 0 0] [.box 189 [.f (fB done)]] fun r H'=>r=D.bool (!inB done x)∧H'=[.box 189 [.f (fB done)]]:=by
 refine Con.walk good t0X (by simp) ?_
 unfold k0r
 simp only [a0I,List.length_cons,List.length_nil,Nat.reduceAdd]
 repeat' (with_reducible first|refine Wx.h ?_|refine Wb.h fun K hK=>?_|(refine hK _ ?_;clear hK K)|refine Wq.h ?_ ?_<;>intro h|((fail_if_success refine Wz.h ?_);first|simp (disch:=omega) only [↓LD,LA,a0A,seval,fB]|(refine And.intro ?_ ?_;omega)|fail))
 ·refine endA rfl rfl ⟨congrArg D.bool ?_,rfl⟩
  simp [inB];omega
 ·refine endA rfl rfl ⟨congrArg D.bool ?_,rfl⟩
  have h1:x<done.length:=by omega
  simp [inB,h1]
def idxF {α:Type}(p:α→Bool):Nat→List α→Int
 | _,[]=>-1
 | i,x :: xs=>if p x then i else idxF p (i+1) xs
theorem h0W {α:Type}(p:α→Bool):∀ (i:Nat) (l:List α),decide (0≤idxF p i l)=l.any p
 | _,[]=>rfl
 | i,x :: xs=>by
  simp only [idxF,List.any_cons]
  split
  ·rename_i h;simp [h]
  ·rename_i h;rw [h0W p (i+1) xs];simp [h]
theorem a0K {α:Type}[Inhabited α]{l:List α}{k:Nat}(h:k<l.length):gt l k∈l:=by rw [b0P h];exact List.getElem_mem h
theorem i0d (l:List Int)(g:FuncId)(caps:List D)(H:List Row)(p:Int→Bool)(hl:l.length<1000000)
  (hf:∀ x∈l,Con Tryz.prog g (D.int x :: caps) H fun r H'=>r=D.bool (p x)∧H'=H):Con Tryz.prog 193 [.f (fI l),.fn g caps] H fun r H'=>r=D.int (idxF p 0 l)∧H'=H:=by
 refine Con.walk good h0T (by simp) ?_
 unfold e0G
 simp only [a0I,List.length_cons,List.length_nil,Nat.reduceAdd]
 repeat' (with_reducible first|refine Wx.h ?_|refine Wb.h fun K hK=>?_|(refine hK _ ?_;clear hK K)|((fail_if_success refine Wz.h ?_);simp (disch:=omega) only [↓LD,LA,a0A,seval,fI]))
 refine HS.loopP (fun x:Nat=>[(0,.f (fI l)),(1,.fn g caps),(7,D.int l.length),(8,D.int x)]) (fun _=>H)
  (fun x=>x≤l.length∧idxF p 0 l=idxF p x (l.drop x)) (fun x=>l.length-x) 0 rfl (by kernel_rfl) ⟨Nat.zero_le _,rfl⟩ ?_
 rintro k ⟨hk,hr⟩
 repeat' (with_reducible first|refine Wx.h ?_|refine Wb.h fun K hK=>?_|(refine hK _ ?_;clear hK K)|refine Wq.h ?_ ?_<;>intro h|((fail_if_success refine Wz.h ?_);first|simp (disch:=omega) only [↓LD,LA,a0A,seval,fI]|(refine And.intro ?_ ?_;omega)|fail))
 rotate_left
 ·refine endA rfl rfl ⟨congrArg D.int ?_,rfl⟩
  rw [hr,List.drop_of_length_le (by omega)];try rfl
 refine b0D (hf _ (a0K (by omega))) ?_
 rintro _ H' ⟨rfl,hH⟩
 rw [hH];clear hH H'
 repeat' (with_reducible first|refine Wx.h ?_|refine Wb.h fun K hK=>?_|(refine hK _ ?_;clear hK K)|refine Wq.h ?_ ?_<;>intro h|((fail_if_success refine Wz.h ?_);simp (disch:=omega) only [↓LD,LA,a0A,seval,D.bool]))
 ·refine endA rfl rfl ⟨congrArg D.int ?_,rfl⟩
  rw [hr,a0G (by omega),idxF,if_pos h]
 ·refine NextP.mk (k+1) rfl (by kernel_rfl) ?_ ?_
  ·refine ⟨by omega,?_⟩
   rw [hr,a0G (by omega),idxF,if_neg (by simp [h])]
  ·omega
theorem f0I (l:List Int)(g:FuncId)(caps:List D)(H:List Row)(p:Int→Bool)(hl:l.length<1000000)
  (hf:∀ x∈l,Con Tryz.prog g (D.int x :: caps) H fun r H'=>r=D.bool (p x)∧H'=H):Con Tryz.prog 191 [.f (fI l),.fn g caps] H fun r H'=>r=D.bool (l.any p)∧H'=H:=by
 refine Con.walk good e0o (by simp) ?_
 unfold c0q
 simp only [a0I,List.length_cons,List.length_nil,Nat.reduceAdd]
 repeat' (with_reducible first|refine Wx.h ?_|refine Wb.h fun K hK=>?_|(refine hK _ ?_;clear hK K)|((fail_if_success refine Wz.h ?_);simp (disch:=omega) only [↓LD,LA,a0A,seval,fI]))
 refine b0D (i0d l g caps H p hl hf) ?_
 rintro _ H' ⟨rfl,hH⟩
 rw [hH];clear hH H'
 repeat' (with_reducible first|refine Wx.h ?_|refine Wb.h fun K hK=>?_|(refine hK _ ?_;clear hK K)|refine Wq.h ?_ ?_<;>intro h|((fail_if_success refine Wz.h ?_);simp (disch:=omega) only [↓LD,LA,a0A,seval,D.int]))
 all_goals
  refine endA rfl rfl ⟨congrArg D.bool ?_,rfl⟩
  rw [←h0W p 0 l];simp;omega
theorem c0z (ns:List Int)(done:List Bool)(h0:∀ x∈ns,0≤x)(hl:ns.length<1000000)(hd:done.length<140737488355328):Con Tryz.prog 189 [.f (fI ns),.f (fB done)] [] fun r H'=>r=D.bool (metB done ns)∧H'=[]:=by
 refine Con.walk good x0P (by simp) ?_
 unfold p0Z
 simp only [a0I,List.length_cons,List.length_nil,Nat.reduceAdd]
 repeat' (with_reducible first|refine Wx.h ?_|refine Wb.h fun K hK=>?_|(refine hK _ ?_;clear hK K)|((fail_if_success refine Wz.h ?_);simp (disch:=omega) only [↓LD,LA,a0A,seval]))
 refine b0D (f0I ns _ _ _ (fun x=>!inB done x) hl ?_) ?_
 ·intro x hx
  exact x0I done x (h0 x hx) hd
 rintro _ H' ⟨rfl,rfl⟩
 repeat' (with_reducible first|refine Wx.h ?_|(refine hK _ ?_;clear hK K)|((fail_if_success refine Wz.h ?_);simp (disch:=omega) only [↓LD,LA,a0A,seval]))
 refine end1 rfl rfl (by kernel_rfl) .f ⟨congrArg D.bool ?_,rfl⟩
 rw [metB,List.all_eq_not_any_not]
set_option maxHeartbeats 2000000
def nxt (done:List Bool):Nat→List Nd→Int
 | _,[]=>-1
 | k,d :: ds=>if !gt done k&&metB done d.ns then k else nxt done (k+1) ds
def ordF (ds:List Nd):Nat→List Bool→List Int→List Int
 | 0,_,out=>out
 | n+1,done,out=>if nxt done 0 ds<0 then out else ordF ds n (done.set (nxt done 0 ds).toNat true) (out++[nxt done 0 ds])
def f0M (ds:List Nd):List Int:=ordF ds ds.length (List.replicate ds.length false) []
def Fit (ds:List Nd):Prop:=ds.length<1000∧∀ d∈ds,d.ns.length<1000000
def Pos (ds:List Nd):Prop:=∀ d∈ds,∀ x∈d.ns,0≤x
def outS (done:List Bool)(n:Nat):List Int→D × Nat × List Row
 | []=>(.f (.v (.slice none 0 0)),0,[.data 4 (done.map bF)])
 | x :: l=>(.sl 0 0 n,1,[.data 3 ((x :: l).map iF),.data 4 (done.map bF)])
theorem f0Z {ds:List Nd}{i:Nat}{done:List Bool}{out:List Int}(h:i<ds.length):ordF ds (ds.length-i) done out=if nxt done 0 ds<0 then out else ordF ds (ds.length-(i+1)) (done.set (nxt done 0 ds).toNat true) (out++[nxt done 0 ds]):=by
 rw [show ds.length-i=ds.length-(i+1)+1 by omega,ordF]
theorem h0e (n:Nat):(List.range n).map (fun j=>[F.v (.bool false)].getD (j % 1) (.v Go.undef))=(List.replicate n false).map bF:=by
 apply List.ext_getElem
 ·simp
 ·intro i h1 h2;simp [Nat.mod_one]
theorem t0N (ds:List Nd)(hl:Fit ds)(hp:Pos ds):Con Tryz.prog 178 [.f (fG ds)] [] fun r H'=>r = .f (fI (f0M ds))∧H'=[]:=by
 obtain ⟨hl,hn⟩:=hl
 refine Con.walk good r0C (by simp) ?_
 unfold i0T
 simp only [a0I,List.length_cons,List.length_nil,Nat.reduceAdd]
 repeat' (with_reducible first|refine Wx.h ?_|refine Wb.h fun K hK=>?_|(refine hK _ ?_;clear hK K)|((fail_if_success refine Wz.h ?_);first|simp (disch:=omega) only [↓LD,LA,a0A,seval,fG]|(refine And.intro ?_ ?_;omega)|fail))
 rw [h0e]
 refine HS.loopG [0,3,4,12,13] (fun x:Nat × List Bool × List Int=>⟨frm 50 [(0,.f (fG ds)),(3,(outS x.2.1 x.1 x.2.2).1),(4,.sl (outS x.2.1 x.1 x.2.2).2.1 0 ds.length),(12,D.int ds.length),(13,D.int x.1)],(outS x.2.1 x.1 x.2.2).2.2,[]⟩)
  (fun x=>x.1≤ds.length∧x.2.1.length=ds.length∧x.2.2.length=x.1∧f0M ds=ordF ds (ds.length-x.1) x.2.1 x.2.2) (fun x=>ds.length-x.1) (0,List.replicate ds.length false,[]) (by kernel_rfl) ⟨Nat.zero_le _,List.length_replicate,rfl,rfl⟩ ?_
 rintro ⟨i,done,out⟩ ⟨hi,hd,ho,hr⟩
 dsimp only at hi hd ho hr
 rcases out with _|⟨a,l⟩
 ·repeat' (with_reducible first|refine Wx.h ?_|refine Wb.h fun K hK=>?_|(refine hK _ ?_;clear hK K)|refine Wq.h ?_ ?_<;>intro h|((fail_if_success refine Wz.h ?_);simp (disch:=omega) only [↓LD,LA,a0A,seval,fG,outS,b0M,c0U,b0X,b0Y,b0Q,-a0A]))
  refine HS.loopG [0,3,4,5,12,13,15,16,17] (fun x:Nat × Int=>⟨frm 50 [(0,.f (fG ds)),(3,(outS done i []).1),(4,.sl (outS done i []).2.1 0 ds.length),(5,D.int x.2),(12,D.int ds.length),(13,D.int i),(15,.f (fG ds)),(16,D.int ds.length),(17,D.int x.1)],(outS done i []).2.2,[]⟩)
   (fun x=>x.1≤ds.length∧(0≤x.2→nxt done 0 ds=x.2)∧(x.2<0→x.2 = -1∧nxt done 0 ds=nxt done x.1 (ds.drop x.1))∧x.2<ds.length) (fun x=>ds.length-x.1) (0,-1) (by kernel_rfl) ⟨Nat.zero_le _,by simp,by simp,by simp;omega⟩ ?_
  rintro ⟨k,z⟩ ⟨hk,hz,hz',hzl⟩
  dsimp only at hk hz hz' hzl
  repeat' (with_reducible first|refine Wx.h ?_|refine Wb.h fun K hK=>?_|(refine hK _ ?_;clear hK K)|(refine Wy.h ?_ ?_;kernel_rfl)|refine Wq.h ?_ ?_<;>intro h|refine Wu.h ?_ ?_<;>intro h<;>try simp only [h]|((fail_if_success refine Wz.h ?_);first|simp (disch:=omega) only [↓LD,LA,a0A,seval,fG,outS,b0M,c0U,b0X,b0Y,b0Q,-a0A]|(refine And.intro ?_ ?_;omega)|fail))
  ·refine a0X (c0z (gt ds k).ns done (hp _ (a0K (by omega))) (hn _ (a0K (by omega))) (by omega)) (.cons .f (.cons (hd ▸ .sl rfl (fun e=>by simp;omega)) .nil)) ?_ ?_
   ·rintro _ _ ⟨rfl,rfl⟩
    exact ⟨.f .v,by simp⟩
   rintro _ _ ⟨rfl,rfl⟩
   repeat' (with_reducible first|refine Wx.h ?_|refine Wb.h fun K hK=>?_|(refine hK _ ?_;clear hK K)|refine Wq.h ?_ ?_<;>intro h|((fail_if_success refine Wz.h ?_);simp (disch:=omega) only [↓LD,LA,a0A,seval,fG,outS,b0M,c0U,b0X,b0Y,b0Q,-a0A,List.append_nil]))
   ·refine Next.mk (k+1,(k:Int)) (by kernel_rfl) ⟨by omega,fun _=>?_,fun h=>by omega,by omega⟩ (by omega)
    rw [(hz' (by assumption)).2,a0G (by omega),nxt,if_pos (by simp_all)]
   ·refine Next.mk (k+1,z) (by kernel_rfl) ⟨by omega,fun h=>by omega,fun h=>⟨(hz' h).1,?_⟩,hzl⟩ (by omega)
    rw [(hz' (by assumption)).2,a0G (by omega),nxt,if_neg (by simp_all)]
  ·refine Next.mk (k+1,z) (by kernel_rfl) ⟨by omega,fun h=>by omega,fun h=>⟨(hz' h).1,?_⟩,hzl⟩ (by omega)
   rw [(hz' (by assumption)).2,a0G (by omega),nxt,if_neg (by simp_all)]
  ·refine Next.mk (k+1,z) (by kernel_rfl) ⟨by omega,hz,fun h=>by omega,hzl⟩ (by omega)
  ·have hn0:nxt done 0 ds = -1:=by rw [(hz' (by assumption)).2,List.drop_of_length_le (by omega),nxt]
   refine end1 rfl rfl (by kernel_rfl) (.nil) ⟨congrArg D.f ?_,rfl⟩
   rw [hr,f0Z (by omega),if_pos (by omega)];first|rfl|(unfold fI;rw [ho];try rfl)
  ·have hn0:nxt done 0 ds=z:=hz (by omega)
   subst ho
   refine Next.mk (0+1,done.set z.toNat true,[]++[z]) (by kernel_rfl) ⟨by simp at *;omega,by simp [hd],by simp,?_⟩ (by simp at *;omega)
   rw [hr,f0Z (by omega),if_neg (by omega),hn0];try rfl
  all_goals
   refine end1 rfl rfl (by kernel_rfl) (.nil) ⟨congrArg D.f ?_,rfl⟩
   rw [hr,show ds.length-i=0 by omega];first|rfl|(unfold fI ordF;rw [ho];try rfl)
 ·repeat' (with_reducible first|refine Wx.h ?_|refine Wb.h fun K hK=>?_|(refine hK _ ?_;clear hK K)|refine Wq.h ?_ ?_<;>intro h|((fail_if_success refine Wz.h ?_);simp (disch:=omega) only [↓LD,LA,a0A,seval,fG,outS,b0M,c0U,b0X,b0Y,b0Q,-a0A]))
  refine HS.loopG [0,3,4,5,12,13,15,16,17] (fun x:Nat × Int=>⟨frm 50 [(0,.f (fG ds)),(3,(outS done i (a :: l)).1),(4,.sl (outS done i (a :: l)).2.1 0 ds.length),(5,D.int x.2),(12,D.int ds.length),(13,D.int i),(15,.f (fG ds)),(16,D.int ds.length),(17,D.int x.1)],(outS done i (a :: l)).2.2,[]⟩)
   (fun x=>x.1≤ds.length∧(0≤x.2→nxt done 0 ds=x.2)∧(x.2<0→x.2 = -1∧nxt done 0 ds=nxt done x.1 (ds.drop x.1))∧x.2<ds.length) (fun x=>ds.length-x.1) (0,-1) (by kernel_rfl) ⟨Nat.zero_le _,by simp,by simp,by simp;omega⟩ ?_
  rintro ⟨k,z⟩ ⟨hk,hz,hz',hzl⟩
  dsimp only at hk hz hz' hzl
  repeat' (with_reducible first|refine Wx.h ?_|refine Wb.h fun K hK=>?_|(refine hK _ ?_;clear hK K)|(refine Wy.h ?_ ?_;kernel_rfl)|refine Wq.h ?_ ?_<;>intro h|refine Wu.h ?_ ?_<;>intro h<;>try simp only [h]|((fail_if_success refine Wz.h ?_);first|simp (disch:=omega) only [↓LD,LA,a0A,seval,fG,outS,b0M,c0U,b0X,b0Y,b0Q,-a0A]|(refine And.intro ?_ ?_;omega)|fail))
  ·refine a0X (c0z (gt ds k).ns done (hp _ (a0K (by omega))) (hn _ (a0K (by omega))) (by omega)) (.cons .f (.cons (hd ▸ .sl rfl (fun e=>by simp;omega)) .nil)) ?_ ?_
   ·rintro _ _ ⟨rfl,rfl⟩
    exact ⟨.f .v,by simp⟩
   rintro _ _ ⟨rfl,rfl⟩
   repeat' (with_reducible first|refine Wx.h ?_|refine Wb.h fun K hK=>?_|(refine hK _ ?_;clear hK K)|refine Wq.h ?_ ?_<;>intro h|((fail_if_success refine Wz.h ?_);simp (disch:=omega) only [↓LD,LA,a0A,seval,fG,outS,b0M,c0U,b0X,b0Y,b0Q,-a0A,List.append_nil]))
   ·refine Next.mk (k+1,(k:Int)) (by kernel_rfl) ⟨by omega,fun _=>?_,fun h=>by omega,by omega⟩ (by omega)
    rw [(hz' (by assumption)).2,a0G (by omega),nxt,if_pos (by simp_all)]
   ·refine Next.mk (k+1,z) (by kernel_rfl) ⟨by omega,fun h=>by omega,fun h=>⟨(hz' h).1,?_⟩,hzl⟩ (by omega)
    rw [(hz' (by assumption)).2,a0G (by omega),nxt,if_neg (by simp_all)]
  ·refine Next.mk (k+1,z) (by kernel_rfl) ⟨by omega,fun h=>by omega,fun h=>⟨(hz' h).1,?_⟩,hzl⟩ (by omega)
   rw [(hz' (by assumption)).2,a0G (by omega),nxt,if_neg (by simp_all)]
  ·refine Next.mk (k+1,z) (by kernel_rfl) ⟨by omega,hz,fun h=>by omega,hzl⟩ (by omega)
  ·have hn0:nxt done 0 ds = -1:=by rw [(hz' (by assumption)).2,List.drop_of_length_le (by omega),nxt]
   refine end1 rfl rfl (by kernel_rfl) (.sl rfl (fun e=>by simp at ho;omega)) ⟨congrArg D.f ?_,rfl⟩
   rw [hr,f0Z (by omega),if_pos (by omega)];first|rfl|(unfold fI;rw [ho];try rfl)
  ·have hn0:nxt done 0 ds=z:=hz (by omega)
   subst ho
   refine Next.mk ((l.length+1)+1,done.set z.toNat true,(a :: l)++[z]) (by kernel_rfl) ⟨by simp at *;omega,by simp [hd],by simp,?_⟩ (by simp at *;omega)
   rw [hr,f0Z (by omega),if_neg (by omega),hn0];try rfl
  all_goals
   refine end1 rfl rfl (by kernel_rfl) (.sl rfl (fun e=>by simp at ho;omega)) ⟨congrArg D.f ?_,rfl⟩
   rw [hr,show ds.length-i=0 by omega];first|rfl|(unfold fI ordF;rw [ho];try rfl)
theorem t0v {n:Int}:∀ {l:List Int} {a:Int},rise n a l=true→∀ x∈l,a<x
 | [],_,_,x,hx=>by simp at hx
 | y :: l,a,h,x,hx=>by
  simp only [rise,Bool.and_eq_true,decide_eq_true_eq] at h
  rcases List.mem_cons.1 hx with rfl|hx
  ·exact h.1.1
  ·have:=t0v h.2 x hx;omega
theorem z0K {ds:List Nd}{n:Int}(h:ds.all (fun d=>b0B d n)=true):Pos ds:=fun d hd x hx=>by
 have:=List.all_eq_true.1 h d hd
 simp only [b0B,Bool.and_eq_true] at this
 have:=t0v this.1 x hx
 omega
def a0r (ds:List Nd):Int :=
 if ds.length<1∨8<ds.length then 1 else if ds.all (fun d=>b0B d ds.length)=false then 1 else if (f0M ds).length<ds.length then 9 else 0
theorem j0D (ds:List Nd)(hf:Fit ds):Con Tryz.prog 158 [.f (fG ds)] [] fun r H'=>r=D.int (a0r ds)∧H'=[]:=by
 obtain ⟨hl,hn⟩:=hf
 refine Con.walk good q0D (by simp) ?_
 unfold j0g
 simp only [a0I,List.length_cons,List.length_nil,Nat.reduceAdd]
 repeat' (with_reducible first|refine Wx.h ?_|refine Wb.h fun K hK=>?_|(refine hK _ ?_;clear hK K)|refine Wq.h ?_ ?_<;>intro h|((fail_if_success refine Wz.h ?_);simp (disch:=omega) only [↓LD,LA,a0A,seval,fG]))
 ·refine end1 rfl rfl (by kernel_rfl) .f ⟨congrArg D.int ?_,rfl⟩
  unfold a0r;rw [if_pos (.inl (by omega))]
 ·refine end1 rfl rfl (by kernel_rfl) .f ⟨congrArg D.int ?_,rfl⟩
  unfold a0r;rw [if_pos (.inr (by omega))]
 have hck:a0r ds=if ds.all (fun d=>b0B d ds.length)=false then 1 else if (f0M ds).length<ds.length then 9 else 0:=by
  unfold a0r;rw [if_neg (by omega)]
 refine HS.loopG [0,13,14,15] (fun k:Nat=>⟨frm 31 [(0,.f (fG ds)),(13,.f (fG ds)),(14,D.int ds.length),(15,D.int k)],[],[]⟩)
  (fun k=>k≤ds.length∧ds.all (fun d=>b0B d ds.length)=(ds.drop k).all (fun d=>b0B d ds.length)) (fun k=>ds.length-k) 0 (by kernel_rfl) ⟨Nat.zero_le _,rfl⟩ ?_
 rintro k ⟨hk,hr⟩
 repeat' (with_reducible first|refine Wx.h ?_|refine Wb.h fun K hK=>?_|(refine hK _ ?_;clear hK K)|refine Wq.h ?_ ?_<;>intro h|((fail_if_success refine Wz.h ?_);first|simp (disch:=omega) only [↓LD,LA,a0A,seval,fG,b0M,c0U,b0X,b0Y,b0Q,-a0A]|(refine And.intro ?_ ?_;omega)|fail))
 ·refine a0X (t0O (gt ds k) ds.length (hn _ (a0K (by omega)))) (.cons (.ags (.cons .f (.cons .f (.cons .f .nil)))) (.cons .f .nil)) ?_ ?_
  ·rintro _ _ ⟨rfl,rfl⟩
   exact ⟨.f .v,by simp⟩
  rintro _ _ ⟨rfl,rfl⟩
  repeat' (with_reducible first|refine Wx.h ?_|refine Wb.h fun K hK=>?_|(refine hK _ ?_;clear hK K)|refine Wq.h ?_ ?_<;>intro h|((fail_if_success refine Wz.h ?_);simp (disch:=omega) only [↓LD,LA,a0A,seval,fG,List.append_nil,Bool.not_eq_true']))
  ·refine end1 rfl rfl (by kernel_rfl) .f ⟨congrArg D.int ?_,rfl⟩
   rw [hck,if_pos]
   rw [hr,a0G (by omega),List.all_cons];simp_all
  ·refine Next.mk (k+1) (by kernel_rfl) ⟨by omega,?_⟩ (by omega)
   rw [hr,a0G (by omega),List.all_cons];simp_all
 have hall:ds.all (fun d=>b0B d ds.length)=true:=by rw [hr,List.drop_of_length_le (by omega)];try rfl
 skip
 refine b0D (t0N ds ⟨hl,hn⟩ (z0K hall)) ?_
 rintro _ _ ⟨rfl,rfl⟩
 repeat' (with_reducible first|refine Wx.h ?_|refine Wb.h fun K hK=>?_|(refine hK _ ?_;clear hK K)|refine Wq.h ?_ ?_<;>intro h|((fail_if_success refine Wz.h ?_);simp (disch:=omega) only [↓LD,LA,a0A,seval,fI]))
 ·refine end1 rfl rfl (by kernel_rfl) .f ⟨congrArg D.int ?_,rfl⟩
  rw [hck,if_neg (by simp [hall]),if_pos (by omega)]
 ·refine end1 rfl rfl (by kernel_rfl) .f ⟨congrArg D.int ?_,rfl⟩
  rw [hck,if_neg (by simp [hall]),if_neg (by omega)]
theorem v0G {ds:List Nd}(h:a0r ds=0):1≤ds.length∧ds.length≤8∧ds.all (fun d=>b0B d ds.length)=true∧ds.length≤(f0M ds).length:=by
 unfold a0r at h
 split at h
 ·cases h
 ·split at h
  ·cases h
  ·split at h
   ·cases h
   ·rename_i h1 h2 h3
    exact ⟨by omega,by omega,by simpa using h2,by omega⟩
theorem r0d {ds:List Nd}(h:a0r ds=0):Pos ds:=z0K (v0G h).2.2.1
def rdy (done:List Bool):Nat→List Nd→List Int
 | _,[]=>[]
 | k,d :: ds=>if !inB done k&&metB done d.ns then (k:Int) :: rdy done (k+1) ds else rdy done (k+1) ds
def b0q (ds:List Nd)(done:List Bool):List Int:=if a0r ds=0 then rdy done 0 ds else []
theorem o0L {done:List Bool}{k:Nat}(h:done.length≤k):inB done k=false:=by simp [inB];omega
theorem g0k {done:List Bool}{k:Nat}(h:k<done.length):inB done k=gt done k:=by simp [inB];omega
def outR (n:Nat):List Int→D × List Row
 | []=>(.f (.v (.slice none 0 0)),[])
 | x :: l=>(.sl 0 0 n,[.data 3 ((x :: l).map iF)])
theorem s0H (ds:List Nd)(done:List Bool)(hf:Fit ds)(hd:done.length<140737488355328):Con Tryz.prog 180 [.f (fG ds),.f (fB done)] [] fun r H'=>r = .f (fI (b0q ds done))∧H'=[]:=by
 refine Con.walk good o0j (by simp) ?_
 unfold i0l
 simp only [a0I,List.length_cons,List.length_nil,Nat.reduceAdd]
 repeat' (with_reducible first|refine Wx.h ?_|refine Wb.h fun K hK=>?_|(refine hK _ ?_;clear hK K)|((fail_if_success refine Wz.h ?_);simp (disch:=omega) only [↓LD,LA,a0A,seval,fG]))
 refine b0D (j0D ds hf) ?_
 rintro _ _ ⟨rfl,rfl⟩
 repeat' (with_reducible first|refine Wx.h ?_|refine Wb.h fun K hK=>?_|(refine hK _ ?_;clear hK K)|refine Wq.h ?_ ?_<;>intro h|((fail_if_success refine Wz.h ?_);simp (disch:=omega) only [↓LD,LA,a0A,seval,D.int,fB]))
 rotate_left
 ·refine end1 rfl rfl (by kernel_rfl) .nil ⟨congrArg D.f ?_,rfl⟩
  rw [b0q,if_neg h];try rfl
 have hp:=r0d h
 have hrl:b0q ds done=rdy done 0 ds:=by rw [b0q,if_pos h]
 obtain ⟨hl,hn⟩:=hf
 refine HS.loopG [0,1,5,11,12,13] (fun x:Nat × Nat × List Int=>⟨frm 41 [(0,.f (fG ds)),(1,.f (fB done)),(5,(outR x.2.1 x.2.2).1),(11,.f (fG ds)),(12,D.int ds.length),(13,D.int x.1)],(outR x.2.1 x.2.2).2,[]⟩)
  (fun x=>x.1≤ds.length∧x.2.2.length=x.2.1∧x.2.1≤x.1∧rdy done 0 ds=x.2.2++rdy done x.1 (ds.drop x.1)) (fun x=>ds.length-x.1) (0,0,[]) (by kernel_rfl) ⟨Nat.zero_le _,rfl,Nat.le_refl _,rfl⟩ ?_
 rintro ⟨k,n,out⟩ ⟨hk,ho,hnk,hr⟩
 dsimp only at hk ho hnk hr
 rcases out with _|⟨a,l⟩
 ·try simp only [List.length_cons] at ho
  repeat' (with_reducible first|refine Wx.h ?_|refine Wb.h fun K hK=>?_|(refine hK _ ?_;clear hK K)|refine Wq.h ?_ ?_<;>intro h|refine Wu.h ?_ ?_<;>intro h<;>try simp only [h]|((fail_if_success refine Wz.h ?_);first|simp (disch:=omega) only [↓LD,LA,a0A,seval,fG,fB,outR,b0M,c0U,b0X,b0Y,b0Q,-a0A]|(refine And.intro ?_ ?_;omega)|fail))
  ·have hin:inB done k=false:=o0L (by omega)
   refine a0X (c0z (gt ds k).ns done (hp _ (a0K (by omega))) (hn _ (a0K (by omega))) hd) (.cons .f (.cons .f .nil)) ?_ ?_
   ·rintro _ _ ⟨rfl,rfl⟩
    exact ⟨.f .v,by simp⟩
   rintro _ _ ⟨rfl,rfl⟩
   repeat' (with_reducible first|refine Wx.h ?_|refine Wb.h fun K hK=>?_|(refine hK _ ?_;clear hK K)|refine Wq.h ?_ ?_<;>intro h|((fail_if_success refine Wz.h ?_);simp (disch:=omega) only [↓LD,LA,a0A,seval,fG,fB,List.append_nil]))
   ·subst ho
    refine Next.mk (k+1,0+1,[]++[(k:Int)]) (by kernel_rfl) ⟨by omega,by simp,by simp at *<;>omega,?_⟩ (by omega)
    rw [hr,a0G (by omega),rdy,if_pos (by simp [hin,h])];simp
   ·refine Next.mk (k+1,n,[]) (by kernel_rfl) ⟨by omega,ho,by dsimp only;omega,?_⟩ (by omega)
    rw [hr,a0G (by omega),rdy,if_neg (by simp [hin,h])]
  ·have hin:inB done k=false:=by rw [g0k (by omega)];simpa using h
   refine a0X (c0z (gt ds k).ns done (hp _ (a0K (by omega))) (hn _ (a0K (by omega))) hd) (.cons .f (.cons .f .nil)) ?_ ?_
   ·rintro _ _ ⟨rfl,rfl⟩
    exact ⟨.f .v,by simp⟩
   rintro _ _ ⟨rfl,rfl⟩
   repeat' (with_reducible first|refine Wx.h ?_|refine Wb.h fun K hK=>?_|(refine hK _ ?_;clear hK K)|refine Wq.h ?_ ?_<;>intro h|((fail_if_success refine Wz.h ?_);simp (disch:=omega) only [↓LD,LA,a0A,seval,fG,fB,List.append_nil]))
   ·subst ho
    refine Next.mk (k+1,0+1,[]++[(k:Int)]) (by kernel_rfl) ⟨by omega,by simp,by simp at *<;>omega,?_⟩ (by omega)
    rw [hr,a0G (by omega),rdy,if_pos (by simp [hin,h])];simp
   ·refine Next.mk (k+1,n,[]) (by kernel_rfl) ⟨by omega,ho,by dsimp only;omega,?_⟩ (by omega)
    rw [hr,a0G (by omega),rdy,if_neg (by simp [hin,h])]
  ·have hin:inB done k=true:=by rw [g0k (by omega)];simpa using h
   refine Next.mk (k+1,n,[]) (by kernel_rfl) ⟨by omega,ho,by dsimp only;omega,?_⟩ (by omega)
   rw [hr,a0G (by omega),rdy,if_neg (by simp [hin])]
  ·refine end1 rfl rfl (by kernel_rfl) (.nil) ⟨congrArg D.f ?_,rfl⟩
   rw [hrl,hr,(List.drop_of_length_le (by omega):List.drop k ds=[]),rdy,List.append_nil]
   first|rfl|(unfold fI;rw [←ho];try rfl)
 ·try simp only [List.length_cons] at ho
  repeat' (with_reducible first|refine Wx.h ?_|refine Wb.h fun K hK=>?_|(refine hK _ ?_;clear hK K)|refine Wq.h ?_ ?_<;>intro h|refine Wu.h ?_ ?_<;>intro h<;>try simp only [h]|((fail_if_success refine Wz.h ?_);first|simp (disch:=omega) only [↓LD,LA,a0A,seval,fG,fB,outR,b0M,c0U,b0X,b0Y,b0Q,-a0A]|(refine And.intro ?_ ?_;omega)|fail))
  ·have hin:inB done k=false:=o0L (by omega)
   refine a0X (c0z (gt ds k).ns done (hp _ (a0K (by omega))) (hn _ (a0K (by omega))) hd) (.cons .f (.cons .f .nil)) ?_ ?_
   ·rintro _ _ ⟨rfl,rfl⟩
    exact ⟨.f .v,by simp⟩
   rintro _ _ ⟨rfl,rfl⟩
   repeat' (with_reducible first|refine Wx.h ?_|refine Wb.h fun K hK=>?_|(refine hK _ ?_;clear hK K)|refine Wq.h ?_ ?_<;>intro h|((fail_if_success refine Wz.h ?_);first|simp (disch:=omega) only [↓LD,LA,a0A,seval,fG,fB,List.append_nil]|(refine And.intro ?_ ?_;omega)|fail))
   ·subst ho
    refine Next.mk (k+1,(l.length+1)+1,(a :: l)++[(k:Int)]) (by kernel_rfl) ⟨by omega,by simp,by simp at *<;>omega,?_⟩ (by omega)
    rw [hr,a0G (by omega),rdy,if_pos (by simp [hin,h])];simp
   ·refine Next.mk (k+1,n,(a :: l)) (by kernel_rfl) ⟨by omega,ho,by dsimp only;omega,?_⟩ (by omega)
    rw [hr,a0G (by omega),rdy,if_neg (by simp [hin,h])]
  ·have hin:inB done k=false:=by rw [g0k (by omega)];simpa using h
   refine a0X (c0z (gt ds k).ns done (hp _ (a0K (by omega))) (hn _ (a0K (by omega))) hd) (.cons .f (.cons .f .nil)) ?_ ?_
   ·rintro _ _ ⟨rfl,rfl⟩
    exact ⟨.f .v,by simp⟩
   rintro _ _ ⟨rfl,rfl⟩
   repeat' (with_reducible first|refine Wx.h ?_|refine Wb.h fun K hK=>?_|(refine hK _ ?_;clear hK K)|refine Wq.h ?_ ?_<;>intro h|((fail_if_success refine Wz.h ?_);first|simp (disch:=omega) only [↓LD,LA,a0A,seval,fG,fB,List.append_nil]|(refine And.intro ?_ ?_;omega)|fail))
   ·subst ho
    refine Next.mk (k+1,(l.length+1)+1,(a :: l)++[(k:Int)]) (by kernel_rfl) ⟨by omega,by simp,by simp at *<;>omega,?_⟩ (by omega)
    rw [hr,a0G (by omega),rdy,if_pos (by simp [hin,h])];simp
   ·refine Next.mk (k+1,n,(a :: l)) (by kernel_rfl) ⟨by omega,ho,by dsimp only;omega,?_⟩ (by omega)
    rw [hr,a0G (by omega),rdy,if_neg (by simp [hin,h])]
  ·have hin:inB done k=true:=by rw [g0k (by omega)];simpa using h
   refine Next.mk (k+1,n,(a :: l)) (by kernel_rfl) ⟨by omega,ho,by dsimp only;omega,?_⟩ (by omega)
   rw [hr,a0G (by omega),rdy,if_neg (by simp [hin])]
  ·refine end1 rfl rfl (by kernel_rfl) (.sl rfl (fun e=>by omega)) ⟨congrArg D.f ?_,rfl⟩
   rw [hrl,hr,(List.drop_of_length_le (by omega):List.drop k ds=[]),rdy,List.append_nil]
   first|rfl|(unfold fI;rw [←ho];try rfl)
end Go.Proofs.YthjgmldnegaaiaaGreatDoor.Mir
