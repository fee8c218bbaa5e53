/- Lemmas for the proof. No condition. -/
import Derived.Test.YthjgmldnegaaiaaGreatDoorQg08
set_option linter.unusedVariables false
set_option linter.unusedSimpArgs false
namespace Go.Proofs.YthjgmldnegaaiaaGreatDoor.Mir
open Go Go.RowKit
def k0Z:SCode :=
  (jq ([.a 4 (.mv kN)]) (jq ([.a 5 (.mv kN)]) (.seq (jq ([jk 6 0]) (.block 0 (.loop (.seq (jq ((ap [jm 11 6,jm 12 0,je 13 12,jB 14 .lss 11 13] (ap [jm
 15 14,gM 16 6 15 true] (ap [jG 17 (.bin .lss (.t 16) (kI 6)) 15 true] [.a 18 (.pick (.t 15) (.t 17) kF)])))) (jc 18 .skip (.exit 0))) (.seq (.block 1
 (.seq (.drw [jm 21 0,jm 22 6,jx 23 3 21 22,jo 24 0 23,jl 25 24,.a 26 (.call (kC 13) [(.t 25),(kI 3)]),.a 27 (.bin .add (kI 1) (.t 26)),jm 28 0,
 jm 29 6,jx 30 3 28 29,jo 31 1 30,jl 32 31,.a 33 (.call (kC 13) [(.t 32),(kI 9)]),.a 34 (.bin .add (kI 1) (.t 33)),.a 35 (.bld [jN,jI,jI] [(1,
 1,(.t 27)),(2,1,(.t 34))]),.a 7 (.alloc 123 [jN,jI,jI]),.n (.store 3 (.t 7) (.t 35))] [0,0,3,7,15,31,63,0,0,384,896,1920,4031,
 8127,16383,0,65535]) (.seq (jq ([jk 8 0]) (.block 2 (.loop (.seq (jq ([jm 36 8,jm 37 6,jB 38 .lss 36 37]) (jc 38 .skip (.exit 2))) (.seq (.block 3
 (jq ([jk 9 0]) (.block 4 (.loop (.seq (jq ((ap [jm 41 9,jm 42 0,jm 43 6,jx 44 3 42 43,jo 45 2 44,jl 46 45,je 47 46,jB 48 .lss 41 47] (ap [jm 49
 48,gM 50 9 49 true] (ap [jG 51 (.bin .lss (.t 50) (kI 3)) 49 true] [.a 52 (.pick (.t 49) (.t 51) kF)])))) (jc 52 .skip (.exit 4))) (.seq (.block 5 (jq
 ((ap [jm 55 0,jm 56 6,jx 57 3 55 56,jo 58 2 57,jl 59 58,jm 60 9,jx 61 1 59 60,jl 62 61,jm 63 6,.a 64 (.call (kC 13) [(.t 62),(.t 63)])] (ap
 [jm 65 8,jB 66 .eql 64 65] (ap [jm 67 66,gO 68 0 7 67 true] (ap [gL 69 68 67 true,jG 70 (.slen (.t 69)) 67 true,jG 71 (.bin .eql (.t 70) (kI 0)) 67
 true] (ap [gM 72 71 67 true,gO 73 0 7 72 false] (ap [gL 74 73 72 false,gO 75 0 7 72 false,gL 76 75 72 false,jG 77 (.slen (.t 76)) 72 false,jG 78
 (.bin .sub (.t 77) (kI 1)) 72 false,jG 79 (.idx 1 (.t 74) (.t 78)) 72 false,gL 80 79 72 false,gM 81 8 72 false,jG 82 (.bin .lss (.t 80) (.t 81)) 72
 false] (ap [jG 83 (.pick (.t 72) kT (.t 82)) 67 true] [.a 84 (.pick (.t 67) (.t 83) kF)])))))))) (jc 84 (.ops (ap [jo 85 0 7,jl 86 85,jm 87 8,.a 88
 (.bsl 3 1 1 [jI] [(0,(.t 87))]),.a 89 (.app 3 1 8 (.t 86) (.t 88))] [jo 90 0 7,.n (.store 1 (.t 90) (.t 89))])) .skip))) (.ops [jm 53 9,jb 54 .add
 53 1,jm 9 54]))))))) (.ops [jm 39 8,jb 40 .add 39 1,jm 8 40])))))) (.ops (ap [jm 91 5,jL 92 3 7,.a 93 (.bsl 123 3 1 [jN,jI,jI] [(0,(.t 92))]),
 .a 94 (.app 123 3 40 (.t 91) (.t 93))] [jm 5 94]))))) (.ops [jm 19 6,jb 20 .add 19 1,jm 6 20])))))) (.seq (jq ([jm 95 5,je 96 95,jb 97 .eql 96 0])
 (jc 97 (.ops [.a 98 (.bld [jN,jI,jI] [(1,1,(kI 1)),(2,1,(kI 5))]),.a 99 (.bsl 123 3 1 [jN,jI,jI] [(0,(.t 98))]),jm 5 99]) .skip)) (jq ((ap
 [jm 100 1,jb 101 .quo 100 20,jm 102 5,je 103 102,.a 104 (.call (kC 13) [(.t 101),(.t 103)])] [jm 10 104])) (.seq (jq ([jm 105 1,.a 106 (.call (kC
 13) [(.t 105),(kI 20)])]) (.block 6 (jq ((ap [jb 108 .eql 106 0] [jm 107 108])) (jc 107 (.ops [jm 109 5,jm 110 10,jm 111 10,.a 112 (.bsl 3 1 1 [jI]
 [(0,(.t 111))]),jx 113 3 109 110,jo 114 0 113,.n (.store 1 (.t 114) (.t 112))]) (jq ((ap [jb 116 .eql 106 1] [jm 115 116])) (jc 115 (.ops [jm 117
 5,jm 118 5,je 119 118,jb 120 .sub 119 1,.a 121 (.bsl 3 1 1 [jI] [(0,(.t 120))]),.a 122 (.idx 3 (.t 117) (kI 0)),jo 123 0 122,.n (.store 1 (.t
 123) (.t 121))]) (jq ((ap [jb 125 .eql 106 2] [jm 124 125])) (jc 124 (.ops (ap [jm 126 5,jm 127 10,jm 128 1,jb 129 .quo 128 60,.a 130 (.call (kC
 13) [(.t 129),(kI 9)])] [jb 131 .sub 130 1,jx 132 3 126 127,jo 133 1 132,.n (.store 1 (.t 133) (.t 131))])) (jq ((ap [jb 135 .eql 106 3] [jm 134
 135])) (jc 134 (.ops (ap [jm 136 5,jm 137 10,jm 138 1,jb 139 .quo 138 60,.a 140 (.call (kC 13) [(.t 139),(kI 9)])] [.a 141 (.bsl 3 1 1 [jI] [(0,
 (.t 140))]),jx 142 3 136 137,jo 143 0 142,.n (.store 1 (.t 143) (.t 141))])) (jq ((ap [jb 145 .eql 106 4] [jm 144 145])) (jc 144 (.ops [jm 146 5,jm
 147 10,jx 148 3 146 147,jo 149 2 148,.n (.store 1 (.t 149) (kI 0))]) (jq ((ap [jb 151 .eql 106 5] [jm 150 151])) (jc 150 (.ops [jm 152 5,jm 153 10,
 .a 154 (.bsl 3 1 2 [jI,jI] [(0,(kI 1)),(1,(kI 0))]),jx 155 3 152 153,jo 156 0 155,.n (.store 1 (.t 156) (.t 154))]) .skip)))))))))))))) (jq ([jm
 157 5,jm 4 157]) .ret)))))))
theorem r0k:Fn Tryz.prog 90 158 [.t 4] k0Z:=.of Tryz.func90 (by kernel_rfl)
set_option maxHeartbeats 4000000
structure Rd where
 tr:Int
 le:Int
 ns:List Int
 deriving Inhabited
def Rd.cs (d:Rd):List F:=[iF d.tr,iF d.le,fI d.ns]
theorem Rd.cs_len (d:Rd):d.cs.length=3:=rfl
def fR (g:List Rd):F:=.s (g.flatMap Rd.cs) g.length
theorem e1k {g:List Rd}{k:Nat}(hk:k<g.length):(g.flatMap Rd.cs)[k*3]?=some (iF (gt g k).tr):=b0B (j:=0) Rd.cs_len hk (by omega)
theorem f1C {g:List Rd}{k:Nat}(hk:k<g.length):(g.flatMap Rd.cs)[k*3+1]?=some (iF (gt g k).le):=b0B (j:=1) Rd.cs_len hk (by omega)
theorem f1S {g:List Rd}{k:Nat}(hk:k<g.length):(g.flatMap Rd.cs)[k*3+2]?=some (fI (gt g k).ns):=b0B (j:=2) Rd.cs_len hk (by omega)
theorem c1K {g:List Rd}:slcS (.f (fR g))=some g.length:=id rfl
theorem a1F {g:List Rd}{sz:Nat}{k:IntKind}{i:Int}{K:D→Prop}:idxS sz (.f (fR g)) (.f (.v (.int k i))) K=((0≤i∧i<g.length)∧K (.rf ((g.flatMap Rd.cs).drop (i.toNat*sz)))):=id rfl
theorem LRd:(type_of% @c1K∧type_of% @a1F):=⟨@c1K,@a1F⟩
theorem e0i {n m:Int}(h:n≤m):∀ {l:List Int} {a:Int},rise n a l=true→rise m a l=true
 | [],_,_=>rfl
 | y :: l,a,hr=>by
  simp only [rise,Bool.and_eq_true,decide_eq_true_eq] at hr ⊢
  exact ⟨⟨hr.1.1,by omega⟩,e0i h hr.2⟩
theorem m0A {n z:Int}:∀ {l:List Int} {a:Int},rise n a l=true→a<z→z<n→(∀ x∈l,x<z)→rise n a (l++[z])=true
 | [],a,_,h1,h2,_=>by simp only [List.nil_append,rise,Bool.and_eq_true,decide_eq_true_eq,and_true];omega
 | y :: l,a,hr,h1,h2,h3=>by
  simp only [List.cons_append,rise,Bool.and_eq_true,decide_eq_true_eq] at hr ⊢
  exact ⟨hr.1,m0A hr.2 (h3 y (by simp)) h2 fun x hx=>h3 x (by simp [hx])⟩
theorem m0z {n z:Int}:∀ {l:List Int} {a:Int} {q:Nat},rise n a l=true→l.length=q+1→gt l q<z→∀ x∈l,x<z
 | [y],a,q,hr,hq,hl,x,hx=>by
  obtain rfl:=List.mem_singleton.1 hx
  obtain rfl:q=0:=by simpa using hq.symm
  exact hl
 | y :: w :: l,a,q,hr,hq,hl,x,hx=>by
  have hq':(w :: l).length=(q-1)+1:=by simp at hq ⊢;omega
  have hgq:gt (y :: w :: l) q=gt (w :: l) (q-1):=by
   obtain ⟨p,rfl⟩:∃ p,q=p+1:=⟨q-1,by simp at hq;omega⟩
   rfl
  have hr2:=hr
  simp only [rise,Bool.and_eq_true,decide_eq_true_eq] at hr
  have hr':rise n y (w :: l)=true:=by simp only [rise,Bool.and_eq_true,decide_eq_true_eq];exact hr.2
  have ih:=m0z hr' hq' (by rw [←hgq];exact hl)
  rcases List.mem_cons.1 hx with rfl|hx
  ·have:=ih w (by simp)
   have:=hr.2.1.1
   omega
  ·exact ih x hx
theorem f0Y {n:Int}:∀ {l:List Int} {a:Int},rise n a l=true→a<n→(l.length:Int)≤n-a-1
 | [],a,_,ha=>by simp;omega
 | y :: l,a,h,ha=>by
  simp only [rise,Bool.and_eq_true,decide_eq_true_eq] at h
  have:=f0Y h.2 (by omega)
  simp only [List.length_cons]
  omega
def OkNd (i:Nat)(d:Nd):Prop:=rise i (-1) d.ns=true∧1≤d.tr∧d.tr≤5∧1≤d.le∧d.le≤1048576
def DefOk (ds:List Nd):Prop:=∀ i,i<ds.length→OkNd i (gt ds i)
theorem h1t {ds:List Nd}{d:Nd}{i:Nat}(h:i<ds.length):gt (ds++[d]) i=gt ds i:=by
 rw [a0v (by simp;omega),a0v h,List.getElem_append_left h]
theorem t0v {ds:List Nd}{d:Nd}:gt (ds++[d]) ds.length=d:=by
 rw [a0v (by simp)];simp
theorem q0A:DefOk []:=fun i h=>by simp at h
theorem p0R {ds:List Nd}{d:Nd}(h:DefOk ds)(hd:OkNd ds.length d):DefOk (ds++[d]):=fun i hi=>by
 rw [List.length_append,List.length_singleton] at hi
 by_cases hl:i<ds.length
 ·rw [h1t hl];exact h i hl
 ·obtain rfl:i=ds.length:=by omega
  rw [t0v];exact hd
theorem b1B:DefOk [(⟨[],1,5⟩:Nd)]:=p0R (ds:=[]) q0A ⟨rfl,by decide,by decide,by decide,by decide⟩
theorem DefOk.fit {ds:List Nd}(h:DefOk ds)(hl:ds.length≤6):Fit ds:=by
 refine ⟨by omega,fun d hd=>?_⟩
 obtain ⟨i,hi,rfl⟩:=List.mem_iff_getElem.1 hd
 have h1:=h i hi
 rw [a0v hi] at h1
 have:=f0Y h1.1 (by omega)
 omega
theorem View.fzb {P:Program}{n0:Nat}{ts:List D}{H:List Row}{dr:List Nat}(r i q:Nat){m k b:Nat}{T U:TypeId}{xs:List D}{ys:List F}{z:List Value}(hH:H[r]?=some (.box T xs))(hx:xs[i]?=some (.sl q 0 m))(hq:H[q]?=some (.data U ys))(hi:inf P U=some (k,b,z))(hn:ys.length=m*k)(hk:0<k) :
  View P n0 ⟨ts,H,dr⟩ ⟨ts,(H.set q .dead).set r (.box T (xs.set i (.f (.s ys m)))),[]⟩:=by
 have hne:q≠r:=fun e=>by subst e;rw [hH] at hq;cases hq
 have hlt:q<H.length:=(List.getElem?_eq_some_iff.1 hq).1
 have hlr:r<H.length:=(List.getElem?_eq_some_iff.1 hH).1
 by_cases hm:m=0
 ·subst hm
  have hy:ys=[]:=List.eq_nil_of_length_eq_zero (by omega)
  subst hy
  have h1:=View.shed (P:=P) (n0:=n0) (ts:=ts) (dr:=dr) q hq
  have h2:=View.bcell (P:=P) (n0:=n0) (ts:=ts) (H:=H.set q .dead) (dr:=[]) r i (.f (.s [] 0)) (c:=.sl q 0 0) (by rw [List.getElem?_set_ne hne];exact hH) hx .os
  exact h1.trans h2
 ·have h1:=View.fixb (P:=P) (n0:=n0) (ts:=ts) (dr:=dr) r i q hH hx hq hi hm hn hk
  have h2:=View.shed (P:=P) (n0:=n0) (ts:=ts) (H:=(H.set q (.froz U ys)).set r (.box T (xs.set i (.f (.s ys m))))) (dr:=[]) q (row:=.froz U ys) (by rw [List.getElem?_set_ne hne.symm,List.getElem?_set_self hlt])
  rw [List.set_comm _ _ hne.symm,List.set_set] at h2
  exact h1.trans h2
theorem i1B:pick 7 20=7:=rfl
theorem i1e:inf Tryz.prog 3=some (1,8,[.int .i64 0]):=by kernel_rfl
theorem h1T {ds:List Nd}{ns:List Int}{a b:Int}:ds.flatMap Nd.cs++[fI ns,F.v (.int .i64 a),F.v (.int .i64 b)]=(ds++[(⟨ns,a,b⟩:Nd)]).flatMap Nd.cs:=by simp [Nd.cs]
theorem g1m {g:List Nd}:(g.flatMap Nd.cs).length=g.length*3:=b0E Nd.cs_len g
def ndS (i k:Nat)(qs:List Int)(y:Int):List Int:=if pick y i=k∧(qs.length=0∨gt qs (qs.length-1)<k) then qs++[(k:Int)] else qs
def ndJ (nl:List Int)(i k:Nat):Nat→Nat→List Int→List Int
 | 0,_,qs=>qs
 | f+1,m,qs=>if m<nl.length then ndJ nl i k f (m+1) (ndS i k qs (gt nl m)) else qs
def ndK (nl:List Int)(i:Nat):Nat→Nat→List Int→List Int
 | 0,_,qs=>qs
 | f+1,k,qs=>ndK nl i f (k+1) (ndJ nl i k 3 0 qs)
def dfA (l:List Rd):Nat→Nat→List Nd→List Nd
 | 0,_,ds=>ds
 | f+1,i,ds=>if i<l.length then dfA l f (i+1) (ds++[⟨ndK (gt l i).ns i i 0 [],1+pick (gt l i).tr 3,1+pick (gt l i).le 9⟩]) else ds
def c0W (l:List Rd):List Nd:=if (dfA l 6 0 []).length=0 then [⟨[],1,5⟩] else dfA l 6 0 []
theorem g1I {nl:List Int}{i k m f:Nat}{qs:List Int}(h:f=0∨¬ m<nl.length):ndJ nl i k f m qs=qs:=by
 cases f with
 | zero=>rfl
 | succ f=>rw [ndJ,if_neg (by omega)]
theorem c1z {l:List Rd}{i f:Nat}{ds:List Nd}(h:f=0∨¬ i<l.length):dfA l f i ds=ds:=by
 cases f with
 | zero=>rfl
 | succ f=>rw [dfA,if_neg (by omega)]
theorem o0P {i k:Nat}{qs:List Int}{y:Int}(h:rise (k+1:Nat) (-1) qs=true):rise (k+1:Nat) (-1) (ndS i k qs y)=true:=by
 unfold ndS
 split
 ·rename_i hc
  refine m0A h (by omega) (by omega) ?_
  rcases hc.2 with h0|h0
  ·rw [List.eq_nil_of_length_eq_zero h0];simp
  ·by_cases h1:qs.length=0
   ·rw [List.eq_nil_of_length_eq_zero h1];simp
   ·exact m0z (q:=qs.length-1) h (by omega) h0
 ·exact h
theorem v0i {nl:List Int}{i k:Nat}:∀ {f m:Nat} {qs:List Int},rise (k+1:Nat) (-1) qs=true→rise (k+1:Nat) (-1) (ndJ nl i k f m qs)=true
 | 0,_,_,h=>h
 | f+1,m,qs,h=>by
  rw [ndJ];split
  ·exact v0i (o0P h)
  ·exact h
theorem v0B {nl:List Int}{i:Nat}:∀ {f k:Nat} {qs:List Int},rise k (-1) qs=true→rise (k+f:Nat) (-1) (ndK nl i f k qs)=true
 | 0,_,_,h=>h
 | f+1,k,qs,h=>by
  rw [ndK,show k+(f+1)=k+1+f by omega]
  exact v0B (v0i (e0i (by omega) h))
theorem e1e {l:List Rd}:∀ {f i:Nat} {ds:List Nd},DefOk ds→ds.length=i→DefOk (dfA l f i ds)∧(dfA l f i ds).length≤i+f
 | 0,i,ds,h,hl=>⟨h,by rw [dfA];omega⟩
 | f+1,i,ds,h,hl=>by
  rw [dfA];split
  ·have p1:=b0Y (x:=(gt l i).tr) (n:=3) (by omega)
   have p2:=b0Y (x:=(gt l i).le) (n:=9) (by omega)
   have hr:=v0B (nl:=(gt l i).ns) (i:=i) (f:=i) (k:=0) (qs:=[]) rfl
   rw [Nat.zero_add] at hr
   have:=e1e (l:=l) (f:=f) (i:=i+1) (p0R h (d:=⟨ndK (gt l i).ns i i 0 [],1+pick (gt l i).tr 3,1+pick (gt l i).le 9⟩) ⟨by rw [hl];exact hr,by dsimp only;omega,by dsimp only;omega,by dsimp only;omega,by dsimp only;omega⟩) (by simp [hl])
   exact ⟨this.1,by have:=this.2;omega⟩
  ·exact ⟨h,by omega⟩
theorem c0O (l:List Rd):DefOk (c0W l)∧1≤(c0W l).length∧(c0W l).length≤6:=by
 have h:=e1e (l:=l) (f:=6) (i:=0) q0A rfl
 unfold c0W
 split
 ·exact ⟨b1B,by simp,by simp⟩
 ·exact ⟨h.1,by omega,by omega⟩
set_option maxRecDepth 100000 in
theorem d0f (l:List Rd):Con Tryz.prog 90 [.f (fR l),D.int 7] [] fun r H'=>r = .f (fG (c0W l))∧H'=[]:=by
 suffices hh:∀ Q:D→List Row→Prop,Q (.f (fG (c0W l))) []→Con Tryz.prog 90 [.f (fR l),D.int 7] [] Q from hh _ ⟨rfl,rfl⟩
 intro Q hQ
 refine Con.walk good r0k (by simp) ?_
 unfold k0Z
 simp only [a0J]
 repeat' (with_reducible first|refine Wx.h ?_|refine Wb.h fun K hK=>?_|(refine hK _ ?_;clear hK K)|((fail_if_success refine Wz.h ?_);simp (disch:=omega) only [↓LD,LA,a0A,seval,LRd]))
 refine HS.view (View.void 123) ?_
 refine HS.view (View.slot 5 (.sl 0 0 0) (.no (by show 0<1;omega))) ?_
 refine HS.cut [1,5] 0 (fun ds:List Nd=>⟨frm 158 [(1,D.int 7),(5,.sl 0 0 ds.length)],[.data 123 (ds.flatMap Nd.cs)],[]⟩) (fun ds=>ds.length≤6∧dfA l 6 0 []=ds) ?_ ?_
 ·refine HS.loopG [0,1,5,6] (fun x:Nat × List Nd=>⟨frm 158 [(0,.f (fR l)),(1,D.int 7),(5,.sl 0 0 x.2.length),(6,D.int x.1)],[.data 123 (x.2.flatMap Nd.cs)],[]⟩)
   (fun x=>x.1≤6∧dfA l 6 0 []=dfA l (6-x.1) x.1 x.2∧x.2.length=x.1) (fun x=>6-x.1) (0,[]) (by kernel_rfl) ⟨by omega,rfl,rfl⟩ ?_
  rintro ⟨i,ds⟩ ⟨hi,hds,hdl⟩
  dsimp only at hi hds hdl
  have p1:=b0Y (x:=(gt l i).tr) (n:=3) (by omega)
  have p2:=b0Y (x:=(gt l i).le) (n:=9) (by omega)
  repeat' (with_reducible first|refine Wx.h ?_|refine We.h fun K hK=>?_|(refine hK _ _ _ _ ?_;clear hK K;try clear hM M)|refine Wb.h fun K hK=>?_|(refine hK _ ?_;clear hK K)|(refine Wy.h ?_ ?_;kernel_rfl)|refine Wq.h ?_ ?_<;>intro h|((fail_if_success refine Wz.h ?_);first|simp (disch:=omega) only [↓LD,LA,a0A,seval,LRd,e1k,f1C,f1S,b0E Rd.cs_len]|(refine And.intro ?_ ?_;omega)|fail))
  ·refine HS.view (View.void 3) ?_
   refine HS.view (View.bcell 1 0 (.sl 2 0 0) rfl rfl (.no (by show 2<3;omega))) ?_
   refine HS.cut [0,1,5,6,7] 2 (fun ns:List Int=>⟨frm 158 [(0,.f (fR l)),(1,D.int 7),(5,.sl 0 0 ds.length),(6,D.int i),(7,.pt 1 0)],[.data 123 (ds.flatMap Nd.cs),.box 123 [.sl 2 0 ns.length,D.int (1+pick (gt l i).tr 3),D.int (1+pick (gt l i).le 9)],.data 3 (ns.map iF)],[]⟩) (fun ns=>rise i (-1) ns=true∧ndK (gt l i).ns i i 0 []=ns) ?_ ?_
   ·refine HS.loopG [0,1,5,6,7,8] (fun x:Nat × List Int=>⟨frm 158 [(0,.f (fR l)),(1,D.int 7),(5,.sl 0 0 ds.length),(6,D.int i),(7,.pt 1 0),(8,D.int x.1)],[.data 123 (ds.flatMap Nd.cs),.box 123 [.sl 2 0 x.2.length,D.int (1+pick (gt l i).tr 3),D.int (1+pick (gt l i).le 9)],.data 3 (x.2.map iF)],[]⟩)
     (fun x=>x.1≤i∧rise x.1 (-1) x.2=true∧ndK (gt l i).ns i i 0 []=ndK (gt l i).ns i (i-x.1) x.1 x.2) (fun x=>i-x.1) (0,[]) (by kernel_rfl) ⟨by omega,rfl,rfl⟩ ?_
    rintro ⟨j,ns⟩ ⟨hj,hr,hk⟩
    dsimp only at hj hr hk
    repeat' (with_reducible first|refine Wx.h ?_|refine Wb.h fun K hK=>?_|(refine hK _ ?_;clear hK K)|refine Wq.h ?_ ?_<;>intro h|((fail_if_success refine Wz.h ?_);simp (disch:=omega) only [↓LD,LA,a0A,seval,LRd]))
    ·refine HS.loopG [0,1,5,6,7,8,9] (fun x:Nat × List Int=>⟨frm 158 [(0,.f (fR l)),(1,D.int 7),(5,.sl 0 0 ds.length),(6,D.int i),(7,.pt 1 0),(8,D.int j),(9,D.int x.1)],[.data 123 (ds.flatMap Nd.cs),.box 123 [.sl 2 0 x.2.length,D.int (1+pick (gt l i).tr 3),D.int (1+pick (gt l i).le 9)],.data 3 (x.2.map iF)],[]⟩)
      (fun x=>x.1≤3∧rise (j+1:Nat) (-1) x.2=true∧ndJ (gt l i).ns i j 3 0 ns=ndJ (gt l i).ns i j (3-x.1) x.1 x.2) (fun x=>3-x.1) (0,ns) (by kernel_rfl) ⟨by omega,e0i (by omega) hr,rfl⟩ ?_
     rintro ⟨m,qs⟩ ⟨hm,hs,hJ⟩
     dsimp only at hm hs hJ
     have hql:=f0Y hs (by omega)
     have e1:((qs.length:Int)-1).toNat=qs.length-1:=by omega
     have hK:=fun (g:3-m=0∨¬ m<(gt l i).ns.length) (h2:j<i)=>show ndK (gt l i).ns i i 0 []=ndK (gt l i).ns i (i-(j+1)) (j+1) qs by
      rw [hk,show i-j=(i-(j+1))+1 by omega,ndK,hJ,g1I g]
     repeat' (with_reducible first|refine Wx.h ?_|refine Wb.h fun K hK=>?_|(refine hK _ ?_;clear hK K)|refine Wq.h ?_ ?_<;>intro h|((fail_if_success refine Wz.h ?_);first|simp (disch:=omega) only [↓LD,LA,a0A,seval,LRd,e1k,f1C,f1S,b0E Rd.cs_len,List.length_map,e1]|(refine And.intro ?_ ?_;omega)|fail))
     ·rw [show qs.length+1=(qs++[(j:Int)]).length by simp]
      have hS:ndS i j qs (gt (gt l i).ns m)=qs++[(j:Int)]:=if_pos ⟨by assumption,.inl (by omega)⟩
      exact Next.mk (m+1,qs++[(j:Int)]) (by kernel_rfl) ⟨by dsimp only;omega,by rw [←hS];exact o0P hs,by rw [hJ,show 3-m=(3-(m+1))+1 by omega,ndJ,if_pos (by omega),hS]⟩ (by dsimp only;omega)
     ·rw [show qs.length+1=(qs++[(j:Int)]).length by simp]
      have hS:ndS i j qs (gt (gt l i).ns m)=qs++[(j:Int)]:=if_pos ⟨by assumption,.inr (by assumption)⟩
      exact Next.mk (m+1,qs++[(j:Int)]) (by kernel_rfl) ⟨by dsimp only;omega,by rw [←hS];exact o0P hs,by rw [hJ,show 3-m=(3-(m+1))+1 by omega,ndJ,if_pos (by omega),hS]⟩ (by dsimp only;omega)
     ·have hS:ndS i j qs (gt (gt l i).ns m)=qs:=if_neg (by omega)
      exact Next.mk (m+1,qs) (by kernel_rfl) ⟨by dsimp only;omega,hs,by rw [hJ,show 3-m=(3-(m+1))+1 by omega,ndJ,if_pos (by omega),hS]⟩ (by dsimp only;omega)
     ·have hS:ndS i j qs (gt (gt l i).ns m)=qs:=if_neg (by omega)
      exact Next.mk (m+1,qs) (by kernel_rfl) ⟨by dsimp only;omega,hs,by rw [hJ,show 3-m=(3-(m+1))+1 by omega,ndJ,if_pos (by omega),hS]⟩ (by dsimp only;omega)
     ·exact Next.mk (j+1,qs) (by kernel_rfl) ⟨by dsimp only;omega,hs,hK (by omega) (by omega)⟩ (by dsimp only;omega)
     ·exact Next.mk (j+1,qs) (by kernel_rfl) ⟨by dsimp only;omega,hs,hK (by omega) (by omega)⟩ (by dsimp only;omega)
    ·exact OutS.mk ns (by kernel_rfl) ⟨e0i (by omega) hr,by rw [hk,show i-j=0 by omega,ndK]⟩
   ·rintro ns ⟨hr,hk⟩ s' hv
    refine e0h ?_
    refine o0Q ?_
    refine HS.view hv ?_
    clear hv
    have hnl:=f0Y hr (by omega)
    refine HS.view (View.fzb 1 0 2 rfl rfl rfl i1e (by rw [List.length_map,Nat.mul_one]) (by omega)) ?_
    rw [show F.s (ns.map iF) ns.length=fI ns from rfl]
    repeat' (with_reducible first|refine Wx.h ?_|refine Wb.h fun K hK=>?_|(refine hK _ ?_;clear hK K)|((fail_if_success refine Wz.h ?_);first|simp (disch:=omega) only [↓LD,LA,a0A,seval,LRd,g1m,h1T]|(refine And.intro ?_ ?_;omega)|fail))
    rw [show ds.length+1=(ds++[(⟨ns,1+pick (gt l i).tr 3,1+pick (gt l i).le 9⟩:Nd)]).length by simp]
    exact Next.mk (i+1,ds++[(⟨ns,1+pick (gt l i).tr 3,1+pick (gt l i).le 9⟩:Nd)]) (by kernel_rfl) ⟨by dsimp only;omega,by rw [hds,show 6-i=(6-(i+1))+1 by omega,dfA,if_pos (by omega),hk],by simp [hdl]⟩ (by dsimp only;omega)
  ·exact OutS.mk ds (by kernel_rfl) ⟨by omega,by rw [hds,c1z (by omega)]⟩
  ·exact OutS.mk ds (by kernel_rfl) ⟨by omega,by rw [hds,c1z (by omega)]⟩
 ·rintro ds ⟨hdl,hds⟩ s' hv
  unfold c0W at hQ
  rw [hds] at hQ
  refine e0h ?_
  refine o0Q ?_
  refine HS.view hv ?_
  clear hv
  by_cases hz:ds.length=0
  ·obtain rfl:=List.eq_nil_of_length_eq_zero hz
   repeat' (with_reducible first|refine Wa.h ?_|refine Ws.h ?_|refine Wb.h fun K hK=>?_|(refine hK _ ?_;clear hK K)|((fail_if_success refine Wz.h ?_);simp (disch:=omega) only [↓LD,LA,a0A,seval,i1B]))
   refine HS.view (View.wkd 1 ([(⟨[],1,5⟩:Nd)].flatMap Nd.cs) rfl rfl ?_) ?_
   ·intro i x y hx hy
    rcases i with _|_|_|i
    all_goals (simp [Nd.cs,fI] at hx hy;try (subst hx;subst hy;simp))
   repeat' (with_reducible first|refine Wx.h ?_|fail)
   exact end1 rfl rfl (by kernel_rfl) (.sl (T:=123) (xs:=[(⟨[],1,5⟩:Nd)].flatMap Nd.cs) rfl (fun e=>by cases e)) hQ
  ·repeat' (with_reducible first|refine Wx.h ?_|refine Wb.h fun K hK=>?_|(refine hK _ ?_;clear hK K)|refine Wq.h ?_ ?_<;>intro h<;>try (exfalso;omega)|((fail_if_success refine Wz.h ?_);first|simp (disch:=omega) only [↓LD,LA,a0A,seval,i1B]|(refine And.intro ?_ ?_;omega)|fail))
   exact end1 rfl rfl (by kernel_rfl) (.sl (T:=123) (xs:=ds.flatMap Nd.cs) rfl (fun e=>absurd e hz)) (by rw [if_neg hz] at hQ;exact hQ)
end Go.Proofs.YthjgmldnegaaiaaGreatDoor.Mir
namespace Go.Proofs.YthjgmldnegaaiaaGreatDoor
open Go Go.RowKit
abbrev z0U:=Int × Int × Option Addr × Nat × List Int
def rawV (x:z0U):List Value:=[.int .i64 x.1,.int .i64 x.2.1,.slice x.2.2.1 x.2.2.2.2.length x.2.2.2.1]
def g1a (W:World)(x:z0U):Prop:=InS (fun n:Int=>[Value.int .i64 n]) (fun n=>(Lit.int .i64 n).wf=true) 8 W x.2.2.1 x.2.2.2.1 x.2.2.2.2
theorem y0q (W:World):Reader Tryz.prog W 172 rawV (g1a W) :=
 Reader.map (d0b Tryz.underlying172 (by kernel_rfl) (a0h (m:=1) rfl (by kernel_rfl) (b0F Tryz.underlying3)
  (a0h (m:=1) rfl (by kernel_rfl) (b0F Tryz.underlying3) (a0h (m:=1) rfl (by kernel_rfl) (b0R (n:=1) (B:=8) Tryz.underlying24 (by kernel_rfl) (by kernel_rfl) (fun _=>rfl) (b0F Tryz.underlying3)) (f0N _)))))
  (fun x=>(x.1,x.2.1,x.2.2.1)) (fun _ _=>rfl) (fun _ h=>h.2.2.1)
def rawD (x:z0U):Mir.Rd:=⟨x.1,x.2.1,x.2.2.2.2⟩
theorem g1D {W:World}{A:Nat→Prop}(hA:∀ b,¬ A b){a:Option Addr}{c:Nat}{xs:List z0U}(h:InS rawV (g1a W) 40 W a c xs):Mir.RF W A (Mir.fR (xs.map rawD)) (.slice a xs.length c):=by
 have h1:=Mir.rf_in (A:=A) (g:=fun x=>Mir.Rd.cs (rawD x)) h hA fun x hx=>.cons (.v rfl) (.cons (.v rfl) (.cons (Mir.rf_ints hx hA) .nil))
 have e:Mir.fR (xs.map rawD) = .s (xs.flatMap fun x=>Mir.Rd.cs (rawD x)) xs.length:=by rw [Mir.fR,List.flatMap_map,List.length_map]
 rw [e];exact h1
abbrev RwIn:=Int × Int × Int × Int × Int × Option Addr × Nat × List UInt8
def rwV (x:RwIn):List Value:=[.int .i64 x.1,.int .i64 x.2.1,.int .i64 x.2.2.1,.int .i64 x.2.2.2.1,.int .i64 x.2.2.2.2.1,.slice x.2.2.2.2.2.1 x.2.2.2.2.2.2.2.length x.2.2.2.2.2.2.1]
def rwOk (W:World)(x:RwIn):Prop:=InS h0x (fun _=>True) 1 W x.2.2.2.2.2.1 x.2.2.2.2.2.2.1 x.2.2.2.2.2.2.2
theorem d1L (W:World):Reader Tryz.prog W 115 rwV (rwOk W) :=
 Reader.map (d0b Tryz.underlying115 (by kernel_rfl) (a0h (m:=1) rfl (by kernel_rfl) (b0F Tryz.underlying3)
  (a0h (m:=1) rfl (by kernel_rfl) (b0F Tryz.underlying3) (a0h (m:=1) rfl (by kernel_rfl) (b0F Tryz.underlying3) (a0h (m:=1) rfl (by kernel_rfl) (b0F Tryz.underlying3) (a0h (m:=1) rfl (by kernel_rfl) (b0F Tryz.underlying3)
  (a0h (m:=1) rfl (by kernel_rfl) (b0R (n:=1) (B:=1) Tryz.underlying71 (by kernel_rfl) (by kernel_rfl) (fun _=>rfl) (u0R Tryz.underlying5)) (f0N _))))))))
  (fun x=>(x.1,x.2.1,x.2.2.1,x.2.2.2.1,x.2.2.2.2.1,x.2.2.2.2.2.1)) (fun _ _=>rfl) (fun _ h=>h.2.2.2.2.2.1)
def rwDD (x:RwIn):Mir.Rw:=⟨x.1,x.2.1,x.2.2.1,x.2.2.2.1,x.2.2.2.2.1,x.2.2.2.2.2.2.2⟩
theorem Mir.rf_bsI {W:World}{A:Nat→Prop}(hA:∀ b,¬ A b){a:Option Addr}{c:Nat}{xs:List UInt8}(h:InS h0x (fun _=>True) 1 W a c xs):Mir.RF W A (Mir.fY xs) (.slice a xs.length c):=by
 have h1:=Mir.rf_in (A:=A) (g:=fun b=>[Mir.uF b]) h hA fun x _=>.cons (.v rfl) .nil
 have e:∀ l:List UInt8,l.flatMap (fun b=>[Mir.uF b])=l.map Mir.uF:=fun l=>by
  induction l with
  | nil=>rfl
  | cons x l ih=>rw [List.flatMap_cons,ih];rfl
 rw [e] at h1
 exact h1
theorem h1y {W:World}{A:Nat→Prop}(hA:∀ b,¬ A b){a:Option Addr}{c:Nat}{xs:List RwIn}(h:InS rwV (rwOk W) 64 W a c xs):Mir.RF W A (Mir.fRw (xs.map rwDD)) (.slice a xs.length c):=by
 have h1:=Mir.rf_in (A:=A) (g:=fun x=>Mir.Rw.cs (rwDD x)) h hA fun x hx=>.cons (.v rfl) (.cons (.v rfl) (.cons (.v rfl) (.cons (.v rfl) (.cons (.v rfl) (.cons (Mir.rf_bsI hA hx) .nil)))))
 have e:Mir.fRw (xs.map rwDD) = .s (xs.flatMap fun x=>Mir.Rw.cs (rwDD x)) xs.length:=by rw [Mir.fRw,List.flatMap_map,List.length_map]
 rw [e];exact h1
end Go.Proofs.YthjgmldnegaaiaaGreatDoor
namespace Go.Proofs.YthjgmldnegaaiaaGreatDoor
open Go Go.RowKit Go.ChangeShapes Go.WideShapes Go.ChangeAt Go.Deep
theorem k0f {H:Type}{enc:TypeId × Value→H}{P:Program}{W:World}{ts:List TypeId}{ds:List (DataW H)}(hsz:(DataW.weightsEach P ts ds).all (· ≤ reachBytes)=true){t:TypeId}{fs:Array Field}{d:DataW H}{ps:List MemPlace}(j:Nat)(htj:ts[j]?=some t)(hdj:ds[j]?=some d)
  {α:Type} {f:α→List Value} {good:α→Prop} (ht:P.underlying t=some (.struct fs)) (he:Reader P W t f good) {base:Nat} {v:Value} (hv:Value.okWide P W .any base t v)
  (h:DataW.Trod enc P W 0 (fun _=>true) true t v d ps):∃ a,v = .agg (f a).toArray∧good a:=by
 obtain ⟨cs,rfl,_⟩:=okWide_struct ht hv
 obtain ⟨fuel,hf'⟩:=h
 obtain ⟨a,h1,h2⟩:=he H enc fuel _ _ hf' (fun k hk=>by
  have:=List.all_eq_true.1 hsz _ (DataW.weights_mem_each htj hdj k hk)
  simpa using this)
 refine ⟨a,?_,h2⟩
 rw [←h1]
 simp [Value.cells]
theorem Mir.r_ag {P:Program}{W:World}{φ:Nat→Nat × Nat}{A:Nat→Prop}{N:Nat}{xs:List F}{us:List Value}(h:Mir.RFs W A xs us)(h1:∀ u∈us,u.oneCell'=true):Mir.R P W φ A N (.ag (xs.map .f)) (.agg us.toArray) :=
 .ag (by simpa using h.1) (fun i d u hd hu=>by
  rw [List.getElem?_map] at hd
  cases hx:xs[i]? with
  | none=>rw [hx] at hd;cases hd
  | some x =>
   rw [hx] at hd
   cases hd
   exact .f (h.2 i x u hx (by simpa using hu))) (by simpa using h1)
end Go.Proofs.YthjgmldnegaaiaaGreatDoor
namespace Go.Proofs.YthjgmldnegaaiaaGreatDoor.Mir
open Go Go.RowKit
def i0R:SCode :=
  (jq ([.a 2 (.mv kF)]) (.seq (jq ((ap [jm 5 0,.a 6 (.bin .eql (.t 5) (.c (.f (.v (.string ⟨#[]⟩)))))] (ap [jm 7 6,gM 8 0 7 false] (ap [jG 9 (.strlen
 (.t 8)) 7 false,jG 10 (.bin .gtr (.t 9) (kI 16)) 7 false] [.a 11 (.pick (.t 7) kT (.t 10))])))) (jc 11 (jq ([.a 2 (.mv kF)]) .ret) .skip)) (.seq (jq
 ([jm 12 0,.a 13 (.s2b (.t 12)),je 14 13,jk 15 0]) (.block 0 (.loop (jq ([jB 16 .lss 15 14]) (.seq (jc 16 .skip (.exit 0)) (.seq (.block 1 (jq ([jx
 17 1 13 15,jl 18 17,jm 4 18]) (jq ((ap [jm 19 4,.a 20 (.bin .geq (.t 19) (.c (.f (.v (.int .u8 97)))))] (ap [jm 21 20,gM 22 4 21 true] (ap [jG 23
 (.bin .leq (.t 22) (.c (.f (.v (.int .u8 122))))) 21 true] (ap [.a 24 (.pick (.t 21) (.t 23) kF),jm 25 24,gM 26 4 25 false] (ap [jG 27 (.bin .geq (.t
 26) (.c (.f (.v (.int .u8 48))))) 25 false] (ap [gM 28 27 25 false,gM 29 4 28 true] (ap [jG 30 (.bin .leq (.t 29) (.c (.f (.v (.int .u8 57))))) 28
 true] (ap [jG 31 (.pick (.t 28) (.t 30) kF) 25 false] (ap [.a 32 (.pick (.t 25) kT (.t 31)),jm 33 32,gM 34 4 33 false] (ap [jG 35 (.bin .eql (.t 34)
 (.c (.f (.v (.int .u8 45))))) 33 false] [.a 36 (.pick (.t 33) kT (.t 35)),.a 37 (.unot (.t 36))]))))))))))) (jc 37 (jq ([.a 2 (.mv kF)]) .ret)
 .skip)))) (.ops [jb 38 .add 15 1,jm 15 38]))))))) (jq ([.a 2 (.mv kT)]) .ret))))
theorem q0k:Fn Tryz.prog 142 39 [.t 2] i0R:=.of Tryz.func142 (by kernel_rfl)
def j0r:SCode :=
  (jq ([.a 6 (.mv kF)]) (jq ((ap [jm 7 0,jm 8 1,jB 9 .geq 7 8] (ap [jm 10 9,gM 11 0 10 true] (ap [gM 12 2 10 true,jG 13 (.bin .leq (.t 11) (.t 12))
 10 true] [.a 14 (.pick (.t 10) (.t 13) kF),jm 6 14])))) .ret))
theorem r0l:Fn Tryz.prog 95 15 [.t 6] j0r:=.of Tryz.func95 (by kernel_rfl)
def g0F:SCode :=
  (jq ([.a 2 (.box 123 (.t 0)),.a 4 (.mv kF)]) (jq ([.a 5 (.mv (kI (-1)))]) (.seq (jq ([jo 8 0 2,jl 9 8,je 10 9,jk 11 0]) (.block 0 (.loop (jq ([jB
 12 .lss 11 10]) (.seq (jc 12 .skip (.exit 0)) (.seq (.block 1 (jq ([jx 13 1 9 11,jl 14 13,jm 7 14]) (.seq (jq ((ap [jm 15 7,jm 16 5,jB 17 .leq 15
 16] (ap [jm 18 17,gM 19 7 18 false] (ap [gM 20 1 18 false,jG 21 (.bin .geq (.t 19) (.t 20)) 18 false] [.a 22 (.pick (.t 18) kT (.t 21))])))) (jc 22
 (jq ([.a 4 (.mv kF)]) .ret) .skip)) (.ops [jm 23 7,jm 5 23])))) (.ops [jb 24 .add 11 1,jm 11 24]))))))) (jq ((ap [jo 25 1 2,jl 26 25,.a 27 (.call
 (kC 95) [(.t 26),(kI 1),(kI 5)])] (ap [jm 28 27,gO 29 2 2 28 true] (ap [gL 30 29 28 true,jG 31 (.call (kC 95) [(.t 30),(kI 1),(kI 1048576)]) 28
 true] [.a 32 (.pick (.t 28) (.t 31) kF),jm 4 32])))) .ret))))
theorem k0t:Fn Tryz.prog 143 33 [.t 4] g0F:=.of Tryz.func143 (by kernel_rfl)
def e0v:SCode :=
  (jq ([.a 2 (.mv kF)]) (.seq (jq ([jm 5 0,je 6 5,jk 7 0]) (.block 0 (.loop (jq ([jB 8 .lss 7 6]) (.seq (jc 8 .skip (.exit 0)) (.seq (.block 1 (jq ([jx
 9 3 5 7,jL 10 3 9,.a 4 (.alloc 123 [jN,jI,jI]),.n (.store 3 (.t 4) (.t 10))]) (jq ((ap [jL 11 3 4,jm 12 0,je 13 12,.a 14 (.call (kC 143) [(.t
 11),(.t 13)])] [.a 15 (.unot (.t 14))])) (jc 15 (jq ([.a 2 (.mv kF)]) .ret) .skip)))) (.ops [jb 16 .add 7 1,jm 7 16]))))))) (jq ((ap [jm 17 0,je 18
 17,.a 19 (.call (kC 95) [(.t 18),(kI 1),(kI 8)])] [jm 2 19])) .ret)))
theorem i0X:Fn Tryz.prog 98 20 [.t 2] e0v:=.of Tryz.func98 (by kernel_rfl)
def m0v:SCode :=
  (jq ([.a 2 (.alloc 140 [jF,jF,jF,jF,jI]),.a 3 (.mv kF)]) (.seq (jq ([jm 4 0]) (.block 0 (jq ((ap [jb 6 .eql 4 1] [jm 5 6])) (jc 5 (jq ([.a 7 (.bld
 [jF,jF,jF,jF,jI] [(3,1,kT)]),.n (.store 5 (.t 2) (.t 7)),.a 3 (.mv kT)]) .ret) (.seq (jq ((ap [jb 9 .eql 4 2] [jm 8 9])) (jc 8 .skip (.ops (ap
 [jb 10 .eql 4 4] [jm 8 10])))) (jc 8 (jq ([.a 11 (.bld [jF,jF,jF,jF,jI] [(0,1,kT),(4,1,(kI 5))]),.n (.store 5 (.t 2) (.t 11)),.a 3 (.mv
 kT)]) .ret) (jq ((ap [jb 13 .eql 4 3] [jm 12 13])) (jc 12 (jq ([.a 14 (.bld [jF,jF,jF,jF,jI] [(0,1,kT),(4,1,(kI 5)),(2,1,kT)]),.n (.store
 5 (.t 2) (.t 14)),.a 3 (.mv kT)]) .ret) (jq ((ap [jb 16 .eql 4 5] [jm 15 16])) (jc 15 (jq ([.a 17 (.bld [jF,jF,jF,jF,jI] [(1,1,kT),(4,1,(kI
 1048576))]),.n (.store 5 (.t 2) (.t 17)),.a 3 (.mv kT)]) .ret) (jq ((ap [jb 19 .eql 4 6] [jm 18 19])) (jc 18 (jq ([.a 20 (.bld [jF,jF,jF,jF,jI]
 [(1,1,kT)]),.n (.store 5 (.t 2) (.t 20)),.a 3 (.mv kT)]) .ret) (jq ((ap [jb 22 .eql 4 7] [jm 21 22])) (jc 21 (jq ([.a 23 (.bld [jF,jF,jF,jF,jI]
 [(1,1,kT),(2,1,kT)]),.n (.store 5 (.t 2) (.t 23)),.a 3 (.mv kT)]) .ret) (.seq (jq ((ap [jb 25 .eql 4 8] [jm 24 25])) (jc 24 .skip (jq ((ap [jb
 26 .eql 4 9] [jm 24 26])) (jc 24 .skip (jq ((ap [jb 27 .eql 4 10] [jm 24 27])) (jc 24 .skip (jq ((ap [jb 28 .eql 4 11] [jm 24 28])) (jc 24 .skip (.ops
 (ap [jb 29 .eql 4 12] [jm 24 29])))))))))) (jc 24 (jq ([.a 30 (.bld [jF,jF,jF,jF,jI] []),.n (.store 5 (.t 2) (.t 30)),.a 3 (.mv kT)]) .ret)
 .skip)))))))))))))))) (jq ([.a 31 (.bld [jF,jF,jF,jF,jI] []),.n (.store 5 (.t 2) (.t 31)),.a 3 (.mv kF)]) .ret)))
theorem t0I:Fn Tryz.prog 94 32 [.cA 5 2,.t 3] m0v:=.of Tryz.func94 (by kernel_rfl)
def g0y:SCode :=
  (jq ([.a 2 (.box 140 (.t 0)),.a 3 (.box 73 (.t 1)),.a 4 (.mv kF)]) (.seq (jq ((ap [jo 5 0 2,jl 6 5,.a 7 (.unot (.t 6)),jm 8 7,gO 9 4 3 8 true]
 (ap [gL 10 9 8 true,jG 11 (.bin .neq (.t 10) (kI 0)) 8 true] (ap [.a 12 (.pick (.t 8) (.t 11) kF),jm 13 12,gO 14 4 2 13 false] (ap [gL 15 14 13
 false,jG 16 (.bin .eql (.t 15) (kI 0)) 13 false] (ap [gM 17 16 13 false,gO 18 5 3 17 true] (ap [gL 19 18 17 true,jG 20 (.bin .neq (.t 19) (kI 0)) 17
 true] (ap [jG 21 (.pick (.t 17) (.t 20) kF) 13 false] [.a 22 (.pick (.t 13) kT (.t 21))])))))))) (jc 22 (jq ([.a 4 (.mv kF)]) .ret) .skip)) (jq ((ap
 [jo 23 4 3,jl 24 23,.a 25 (.call (kC 95) [(.t 24),(kI 0),(kI 7)])] (ap [jm 26 25,gO 27 4 2 26 true] (ap [gL 28 27 26 true,jG 29 (.bin .eql (.t
 28) (kI 0)) 26 true] (ap [gM 30 29 26 true,gO 31 5 3 30 false] (ap [gL 32 31 30 false,gO 33 4 2 30 false,gL 34 33 30 false,jG 35 (.call (kC 95)
 [(.t 32),(kI 1),(.t 34)]) 30 false] (ap [jG 36 (.pick (.t 30) kT (.t 35)) 26 true] [.a 37 (.pick (.t 26) (.t 36) kF),jm 4 37]))))))) .ret)))
theorem n0z:Fn Tryz.prog 96 38 [.t 4] g0y:=.of Tryz.func96 (by kernel_rfl)
def m0X:SCode :=
  (jq ([.a 2 (.box 140 (.t 0)),.a 3 (.box 73 (.t 1)),.a 4 (.mv kF)]) (.seq (jq ((ap [jo 5 1 2,jl 6 5,jo 7 6 3,jl 8 7,.a 9 (.bin .neq (.t 8) (.c (.f
 (.v (.string ⟨#[]⟩)))))] (ap [.a 10 (.binb .neq (.t 6) (.t 9)),jm 11 10,gO 12 1 2 11 false] (ap [gL 13 12 11 false,gM 14 13 11 false,gO 15 6 3 14
 true] (ap [gL 16 15 14 true,jG 17 (.call (kC 142) [(.t 16)]) 14 true] (ap [jG 18 (.unot (.t 17)) 14 true,jG 19 (.pick (.t 14) (.t 18) kF) 11 false]
 [.a 20 (.pick (.t 11) kT (.t 19))])))))) (jc 20 (jq ([.a 4 (.mv kF)]) .ret) .skip)) (jq ((ap [jo 21 7 3,jl 22 21,je 23 22,jb 24 .eql 23 0] (ap [jm
 25 24,gO 26 2 2 25 false] (ap [gL 27 26 25 false,gM 28 27 25 false,gO 29 7 3 28 true] (ap [gL 30 29 28 true,jG 31 (.slen (.t 30)) 28 true,jG 32
 (.bin .leq (.t 31) (kI 40)) 28 true] (ap [jG 33 (.pick (.t 28) (.t 32) kF) 25 false] [.a 34 (.pick (.t 25) kT (.t 33)),jm 4 34])))))) .ret)))
theorem t0y:Fn Tryz.prog 97 35 [.t 4] m0X:=.of Tryz.func97 (by kernel_rfl)
def l0v:SCode :=
  (jq ([.a 1 (.box 73 (.t 0)),.a 2 (.mv kF)]) (jq ((ap [jo 6 3 1,jl 7 6,.a 8 (.call (kC 94) [(.t 7)])] [jm 5 8,jE 9 0 5,jE 10 1 5,.a 3 (.alloc 140
 [jF,jF,jF,jF,jI]),.n (.store 5 (.t 3) (.t 9)),jm 4 10])) (.seq (jq ((ap [jm 11 4,.a 12 (.unot (.t 11)),jm 13 12,gO 14 0 1 13 false] (ap [gL 15
 14 13 false,jG 16 (.call (kC 95) [(.t 15),(kI 1),(kI 200)]) 13 false] (ap [jG 17 (.unot (.t 16)) 13 false,.a 18 (.pick (.t 13) kT (.t 17)),jm 19
 18,gO 20 1 1 19 false] (ap [gL 21 20 19 false,jG 22 (.call (kC 75) [(.t 21)]) 19 false] (ap [jG 23 (.unot (.t 22)) 19 false,.a 24 (.pick (.t 19) kT
 (.t 23)),jm 25 24,gO 26 2 1 25 false] (ap [gL 27 26 25 false,jG 28 (.call (kC 95) [(.t 27),(kI 0),(kI 1099511627776)]) 25 false] (ap [jG 29 (.unot
 (.t 28)) 25 false,.a 30 (.pick (.t 25) kT (.t 29)),jm 31 30,jG 32 (.loadA 5 (.t 3)) 31 false] (ap [jG 33 (.loadA 9 (.t 1)) 31 false,jG 34 (.call
 (kC 96) [(.t 32),(.t 33)]) 31 false] (ap [jG 35 (.unot (.t 34)) 31 false,.a 36 (.pick (.t 31) kT (.t 35)),jm 37 36,jG 38 (.loadA 5 (.t 3)) 37
 false] (ap [jG 39 (.loadA 9 (.t 1)) 37 false,jG 40 (.call (kC 97) [(.t 38),(.t 39)]) 37 false] [jG 41 (.unot (.t 40)) 37 false,.a 42 (.pick (.t 37)
 kT (.t 41))]))))))))))) (jc 42 (jq ([.a 2 (.mv kF)]) .ret) .skip)) (.seq (jq ([jo 43 3 3,jl 44 43]) (jc 44 (jq ((ap [jo 45 8 1,jl 46 45,.a 47 (.call
 (kC 98) [(.t 46)])] [jm 2 47])) .ret) .skip)) (jq ((ap [jo 48 8 1,jl 49 48,je 50 49,jb 51 .eql 50 0] [jm 2 51])) .ret)))))
theorem t0O:Fn Tryz.prog 60 52 [.t 2] l0v:=.of Tryz.func60 (by kernel_rfl)
def j0F:SCode :=
  (jq ([.a 2 (.mv kF)]) (jq ((ap [jm 3 0,jb 4 .geq 3 1] (ap [jm 5 4,gM 6 0 5 true] (ap [jG 7 (.bin .leq (.t 6) (kI 1099511627776)) 5 true] (ap [.a 8
 (.pick (.t 5) (.t 7) kF),jm 9 8,gM 10 0 9 true] (ap [jG 11 (.call (kC 123) [(.t 10)]) 9 true] (ap [jG 12 (.call (kC 122) [(.t 11)]) 9 true] [.a 13
 (.pick (.t 9) (.t 12) kF),jm 2 13]))))))) .ret))
theorem p0A:Fn Tryz.prog 75 14 [.t 2] j0F:=.of Tryz.func75 (by kernel_rfl)
def w0w:SCode :=
  (jq ([.a 2 (.mv kF)]) (jq ((ap [jm 3 0,jb 4 .geq 3 1] (ap [jm 5 4,gM 6 0 5 true] (ap [jG 7 (.bin .leq (.t 6) (kI 8)) 5 true] [.a 8 (.pick (.t 5) (.t
 7) kF),jm 2 8])))) .ret))
theorem a1i:Fn Tryz.prog 122 9 [.t 2] w0w:=.of Tryz.func122 (by kernel_rfl)
def j0e:SCode :=
 (jq ([jk 2 0]) (jq ([jm 3 0,jb 4 .rem 3 10,jb 5 .add 4 10,jb 6 .rem 5 10,jm 2 6]) .ret))
theorem r0R:Fn Tryz.prog 123 7 [.t 2] j0e:=.of Tryz.func123 (by kernel_rfl)
set_option maxHeartbeats 2000000
def inI (n l m:Int):Bool:=decide (l≤n)&&decide (n≤m)
theorem s0w (n l m:Int):Con Tryz.prog 95 [D.int n,D.int l,D.int m] [] fun r H'=>r=D.bool (inI n l m)∧H'=[]:=by
 refine Con.walk good r0l (by simp) ?_
 unfold j0r
 simp only [a0J]
 repeat' (with_reducible first|refine Wx.h ?_|refine Wb.h fun K hK=>?_|(refine hK _ ?_;clear hK K)|refine Wq.h ?_ ?_<;>intro h|((fail_if_success refine Wz.h ?_);simp (disch:=omega) only [↓LD,LA,a0A,seval]))
 all_goals (refine end1 rfl rfl (by kernel_rfl) .f ⟨congrArg D.bool ?_,rfl⟩;simp [inI, *])
instance {n l m:Int}{H:List Row}{K:D→List Row→Prop}:Wa (a0T Tryz.prog (.fn 95 []) [.f (.v (.int .i64 n)),.f (.v (.int .i64 l)),.f (.v (.int .i64 m))] H K) (K (.f (.v (.bool (inI n l m)))) H) :=
 ⟨a0C (s0w n l m) rfl rfl rfl⟩
theorem e1X (n:Int):Con Tryz.prog 122 [D.int n] [] fun r H'=>r=D.bool (inI n 1 8)∧H'=[]:=by
 refine Con.walk good a1i (by simp) ?_
 unfold w0w
 simp only [a0J]
 repeat' (with_reducible first|refine Wx.h ?_|refine Wb.h fun K hK=>?_|(refine hK _ ?_;clear hK K)|refine Wq.h ?_ ?_<;>intro h|((fail_if_success refine Wz.h ?_);simp (disch:=omega) only [↓LD,LA,a0A,seval]))
 all_goals (refine end1 rfl rfl (by kernel_rfl) .f ⟨congrArg D.bool ?_,rfl⟩;simp [inI, *])
def ownI (v:Int):Int:=(v.tmod 10+10).tmod 10
theorem u0E (v:Int):Con Tryz.prog 123 [D.int v] [] fun r H'=>r=D.int (ownI v)∧H'=[]:=by
 have h1:=Int.tmod_lt_of_pos v (show (0:Int)<10 by omega)
 have h2 : -10<v.tmod 10:=by
  have:=Int.tmod_lt_of_pos (-v) (show (0:Int)<10 by omega)
  rw [Int.neg_tmod] at this;omega
 refine Con.walk good r0R (by simp) ?_
 unfold j0e
 simp only [a0J]
 repeat' (with_reducible first|refine Wx.h ?_|refine Wb.h fun K hK=>?_|(refine hK _ ?_;clear hK K)|((fail_if_success refine Wz.h ?_);simp (disch:=omega) only [↓LD,LA,a0A,seval]))
 refine end1 rfl rfl (by kernel_rfl) .f ⟨rfl,rfl⟩
def verB (v:Int):Bool:=inI v 1 1099511627776&&inI (ownI v) 1 8
instance {n:Int}{H:List Row}{K:D→List Row→Prop}:Wa (a0T Tryz.prog (.fn 122 []) [.f (.v (.int .i64 n))] H K) (K (.f (.v (.bool (inI n 1 8)))) H) :=
 ⟨a0C (e1X n) rfl rfl rfl⟩
instance {n:Int}{H:List Row}{K:D→List Row→Prop}:Wa (a0T Tryz.prog (.fn 123 []) [.f (.v (.int .i64 n))] H K) (K (.f (.v (.int .i64 (ownI n)))) H) :=
 ⟨a0C (u0E n) rfl rfl rfl⟩
theorem u0I (v:Int):Con Tryz.prog 75 [D.int v] [] fun r H'=>r=D.bool (verB v)∧H'=[]:=by
 refine Con.walk good p0A (by simp) ?_
 unfold j0F
 simp only [a0J]
 repeat' (with_reducible first|refine Wx.h ?_|refine Wb.h fun K hK=>?_|(refine hK _ ?_;clear hK K)|refine Wq.h ?_ ?_<;>intro h|((fail_if_success refine Wz.h ?_);simp (disch:=omega) only [↓LD,LA,a0A,seval]))
 all_goals (refine end1 rfl rfl (by kernel_rfl) .f ⟨congrArg D.bool ?_,rfl⟩;simp [verB,inI, *])
instance {n:Int}{H:List Row}{K:D→List Row→Prop}:Wa (a0T Tryz.prog (.fn 75 []) [.f (.v (.int .i64 n))] H K) (K (.f (.v (.bool (verB n)))) H) :=
 ⟨a0C (u0I n) rfl rfl rfl⟩
def chB (c:UInt8):Bool:=inI c.toNat 97 122||inI c.toNat 48 57||decide ((c.toNat:Int)=45)
def e0W (l:Bs):Bool:=decide (l≠[])&&decide (l.length≤16)&&l.all chB
theorem u0K (l:Bs):Con Tryz.prog 142 [.f (.v (.string (BB l)))] [] fun r H'=>r=D.bool (e0W l)∧H'=[]:=by
  refine Con.walk good q0k (by simp) ?_
  unfold i0R
  simp only [a0J]
  repeat' (with_reducible first|refine Wx.h ?_|refine Wb.h fun K hK=>?_|(refine hK _ ?_;clear hK K)|refine Wq.h ?_ ?_<;>intro h|((fail_if_success refine Wz.h ?_);first|simp (disch:=omega) only [↓LD,LA,a0A,seval]|(refine And.intro ?_ ?_;omega)|fail))
  · refine end1 rfl rfl (by kernel_rfl) .f ⟨congrArg D.bool ?_,rfl⟩
    simp [e0W,h]
  · rename_i h0
    refine end1 rfl rfl (by kernel_rfl) .f ⟨congrArg D.bool ?_,rfl⟩
    have:¬ l.length≤16:=by omega
    simp [e0W,this]
  rename_i h0
  have hn:e0W l=l.all chB:=by
    have:l.length≤16:=by omega
    simp [e0W,h0,this]
  refine HS.loopG [13,14,15] (fun k:Nat=>⟨frm 39 [(13,.f (fY l)),(14,D.int l.length),(15,D.int k)],[],[]⟩) (fun k=>k≤l.length∧l.all chB=(l.drop k).all chB) (fun k=>l.length-k) 0 (by kernel_rfl) ⟨Nat.zero_le _,rfl⟩ ?_
  rintro k ⟨hk,hr⟩
  by_cases hkl:k<l.length
  · rw [a0I hkl,List.all_cons] at hr
    repeat' (with_reducible first|refine Wx.h ?_|refine Wb.h fun K hK=>?_|(refine hK _ ?_;clear hK K)|refine Wq.h ?_ ?_<;>intro h<;>try (exfalso;omega)|((fail_if_success refine Wz.h ?_);first|simp (disch:=omega) only [↓LD,LA,a0A,seval,fY]|(refine And.intro ?_ ?_;omega)|fail))
    all_goals first
      | (refine end1 rfl rfl (by kernel_rfl) .f ⟨congrArg D.bool ?_,rfl⟩
         have hc:chB (gt l k)=false:=by simp only [chB,inI];simp [*]
         rw [hn,hr,hc];try rfl)
      | (refine Next.mk (k+1) (by kernel_rfl) ⟨by omega,?_⟩ (by omega)
         have hc:chB (gt l k)=true:=by simp only [chB,inI];simp [*]
         rw [hr,hc];try rfl)
  · repeat' (with_reducible first|refine Wx.h ?_|refine Wb.h fun K hK=>?_|(refine hK _ ?_;clear hK K)|refine Wq.h ?_ ?_<;>intro h<;>try (exfalso;omega)|((fail_if_success refine Wz.h ?_);simp (disch:=omega) only [↓LD,LA,a0A,seval]))
    refine end1 rfl rfl (by kernel_rfl) .f ⟨congrArg D.bool ?_,rfl⟩
    rw [hn,hr,List.drop_of_length_le (by omega)];try rfl
instance {l:Bs}{H:List Row}{K:D→List Row→Prop}:Wa (a0T Tryz.prog (.fn 142 []) [.f (.v (.string (BB l)))] H K) (K (.f (.v (.bool (e0W l)))) H) :=
 ⟨a0C (u0K l) rfl rfl rfl⟩
set_option maxHeartbeats 4000000
theorem n0y (d:Nd)(n:Int)(hl:d.ns.length<1000000):Con Tryz.prog 143 [ndD d,D.int n] [] fun r H'=>r=D.bool (b0C d n)∧H'=[]:=by
  obtain ⟨ns,tr,le⟩:=d
  dsimp only at hl
  refine Con.walk good k0t (by simp) ?_
  unfold g0F
  simp only [a0J]
  repeat' (with_reducible first|refine Wx.h ?_|refine Wb.h fun K hK=>?_|(refine hK _ ?_;clear hK K)|((fail_if_success refine Wz.h ?_);simp (disch:=omega) only [↓LD,LA,a0A,seval,fI,ndD]))
  refine HS.loopP (fun x:Nat × Int=>[(1,D.int n),(2,.pt 0 0),(4,D.bool false),(5,D.int x.2),(9,.f (fI ns)),(10,D.int ns.length),(11,D.int x.1)]) (fun _=>[.box 123 [.f (fI ns),D.int tr,D.int le]])
    (fun x=>x.1≤ns.length∧rise n (-1) ns=rise n x.2 (ns.drop x.1)) (fun x=>ns.length-x.1) (0,-1) rfl (by kernel_rfl) ⟨Nat.zero_le _,rfl⟩ ?_
  rintro ⟨k,z⟩ ⟨hk,hr⟩
  dsimp only at hk hr
  repeat' (with_reducible first|refine Wx.h ?_|refine Wb.h fun K hK=>?_|(refine hK _ ?_;clear hK K)|refine Wq.h ?_ ?_<;>intro h|refine Wu.h ?_ ?_<;>intro h<;>try simp only [h]|((fail_if_success refine Wz.h ?_);first|simp (disch:=omega) only [↓LD,LA,a0A,seval,fI]|(refine And.intro ?_ ?_;omega)|fail))
  all_goals first
    | (refine end1 rfl rfl (by kernel_rfl) .f ⟨congrArg D.bool ?_,rfl⟩
       first
        | (rw [b0C,hr,a0I (by omega),rise];simp;omega)
        | (rw [b0C,hr,List.drop_of_length_le (by omega)];simp_all [rise,inI];try omega))
    | (refine NextP.mk (k+1,gt ns k) rfl (by kernel_rfl) ?_ ?_
       · refine ⟨by dsimp only;omega,?_⟩
         rw [hr,a0I (by omega)];simp [rise];omega
       · dsimp only;omega)
instance {d:Nd}{n:Int}{H:List Row}{K:D→List Row→Prop}:Wa (a0T Tryz.prog (.fn 143 []) [.ag [.f (fI d.ns),.f (.v (.int .i64 d.tr)),.f (.v (.int .i64 d.le))],.f (.v (.int .i64 n))] H K) (d.ns.length<1000000∧K (.f (.v (.bool (b0C d n)))) H) :=
 ⟨fun h=>a0C (n0y d n h.1) rfl rfl rfl h.2⟩
def FitN (ds:List Nd):Prop:=∀ d∈ds,d.ns.length<1000000
def k0T (ds:List Nd):Bool:=ds.all (fun d=>b0C d ds.length)&&inI ds.length 1 8
theorem l0B (ds:List Nd)(hf:FitN ds)(hl:ds.length<1000000):Con Tryz.prog 98 [.f (fG ds)] [] fun r H'=>r=D.bool (k0T ds)∧H'=[]:=by
 refine Con.walk good i0X (by simp) ?_
 unfold e0v
 simp only [a0J]
 repeat' (with_reducible first|refine Wx.h ?_|refine Wb.h fun K hK=>?_|(refine hK _ ?_;clear hK K)|((fail_if_success refine Wz.h ?_);simp (disch:=omega) only [↓LD,LA,a0A,seval,fG]))
 refine HS.loopG [0,5,6,7] (fun k:Nat=>⟨frm 20 [(0,.f (fG ds)),(5,.f (fG ds)),(6,D.int ds.length),(7,D.int k)],[],[]⟩)
  (fun k=>k≤ds.length∧ds.all (fun d=>b0C d ds.length)=(ds.drop k).all (fun d=>b0C d ds.length)) (fun k=>ds.length-k) 0 (by kernel_rfl) ⟨Nat.zero_le _,rfl⟩ ?_
 rintro k ⟨hk,hr⟩
 by_cases hkl:k<ds.length
 ·rw [a0I hkl,List.all_cons] at hr
  have hg:=hf _ (a0M hkl)
  repeat' (with_reducible first|refine Wx.h ?_|refine Wb.h fun K hK=>?_|(refine hK _ ?_;clear hK K)|refine Wq.h ?_ ?_<;>intro h<;>try (exfalso;omega)|((fail_if_success refine Wz.h ?_);first|simp (disch:=omega) only [↓LD,LA,a0A,seval,fG,b0N,c0Y,b0o,b0p,b0V,-a0A]|(refine And.intro ?_ ?_;omega)|fail))
  ·refine end1 rfl rfl (by kernel_rfl) .f ⟨congrArg D.bool ?_,rfl⟩
   have hc:b0C (gt ds k) ds.length=false:=by simpa using h
   rw [k0T,hr,hc];try rfl
  ·refine Next.mk (k+1) (by kernel_rfl) ⟨by omega,?_⟩ (by omega)
   have hc:b0C (gt ds k) ds.length=true:=by simpa using h
   rw [hr,hc];try rfl
 ·repeat' (with_reducible first|refine Wx.h ?_|refine Wb.h fun K hK=>?_|(refine hK _ ?_;clear hK K)|refine Wq.h ?_ ?_<;>intro h<;>try (exfalso;omega)|((fail_if_success refine Wz.h ?_);simp (disch:=omega) only [↓LD,LA,a0A,seval,fG]))
  refine end1 rfl rfl (by kernel_rfl) .f ⟨congrArg D.bool ?_,rfl⟩
  rw [k0T,hr,List.drop_of_length_le (by omega)];try rfl
structure Ev where
 id:Int
 ver:Int
 time:Int
 ty:Int
 node:Int
 n:Int
 name:Bs
 data:Bs
 defs:List Nd
 deriving Inhabited,DecidableEq
def Ev.cs (e:Ev):List F:=[iF e.id,iF e.ver,iF e.time,iF e.ty,iF e.node,iF e.n,.v (.string (BB e.name)),fY e.data,fG e.defs]
theorem Ev.cs_len (e:Ev):e.cs.length=9:=rfl
def evD (e:Ev):D:=.ag [D.int e.id,D.int e.ver,D.int e.time,D.int e.ty,D.int e.node,D.int e.n,.f (.v (.string (BB e.name))),.f (fY e.data),.f (fG e.defs)]
def evB (e:Ev):Row:=.box 73 [D.int e.id,D.int e.ver,D.int e.time,D.int e.ty,D.int e.node,D.int e.n,.f (.v (.string (BB e.name))),.f (fY e.data),.f (fG e.defs)]
class Small (ds:List Nd):Prop where h:FitN ds∧ds.length<1000000
def u0Y (k:Int):Bool:=decide (k=2)||decide (k=3)||decide (k=4)
def c1m (k:Int):Bool:=decide (k=5)||decide (k=6)||decide (k=7)
def c1F (k:Int):Bool:=decide (k=3)||decide (k=7)
def b1T (k:Int):Bool:=decide (k=1)
def pN (k:Int):Int:=if u0Y k then 5 else if k=5 then 1048576 else 0
def pOk (k:Int):Bool:=inI k 1 12
def e1U (k:Int):D:=.ag [D.bool (u0Y k),D.bool (c1m k),D.bool (c1F k),D.bool (b1T k),D.int (pN k)]
theorem z0E (k:Int):Con Tryz.prog 94 [D.int k] [] fun r H'=>r = .tp [e1U k,D.bool (pOk k)]∧H'=[]:=by
  refine Con.walk good t0I (by simp) ?_
  unfold m0v
  simp only [a0J]
  repeat' (with_reducible first|refine Wx.h ?_|refine Wb.h fun K hK=>?_|(refine hK _ ?_;clear hK K)|refine Wq.h ?_ ?_<;>intro h|((fail_if_success refine Wz.h ?_);simp (disch:=omega) only [↓LD,LA,a0A,seval]))
  all_goals first
    | (subst h
       exact RetS.still (ds:=[e1U _,D.bool (pOk _)]) (by kernel_rfl) (by kernel_rfl) (.tps (.cons (.ags (.cons .f (.cons .f (.cons .f (.cons .f (.cons .f .nil)))))) (.cons .f .nil))) ⟨rfl,rfl⟩)
    | skip
  have e:e1U k = .ag [D.bool false,D.bool false,D.bool false,D.bool false,D.int 0]∧pOk k=false:=by
    have:¬ (1≤k∧k≤12):=by omega
    constructor
    · simp [e1U,u0Y,c1m,c1F,b1T,pN, *]
    · simp [pOk,inI];omega
  rw [e.1,e.2]
  exact RetS.still (ds:=[.ag [D.bool false,D.bool false,D.bool false,D.bool false,D.int 0],D.bool false]) (by kernel_rfl) (by kernel_rfl) (.tps (.cons (.ags (.cons .f (.cons .f (.cons .f (.cons .f (.cons .f .nil)))))) (.cons .f .nil))) ⟨rfl,rfl⟩
instance {k:Int}{H:List Row}{K:D→List Row→Prop}:Wa (a0T Tryz.prog (.fn 94 []) [.f (.v (.int .i64 k))] H K) (K (.tp [.ag [.f (.v (.bool (u0Y k))),.f (.v (.bool (c1m k))),.f (.v (.bool (c1F k))),.f (.v (.bool (b1T k))),.f (.v (.int .i64 (pN k)))],.f (.v (.bool (pOk k)))]) H) :=
 ⟨a0C (z0E k) rfl rfl rfl⟩
def numB (nd:Bool)(m:Int)(node n:Int):Bool:=(nd||decide (node=0))&&(decide (m≠0)||decide (n=0))&&inI node 0 7&&(decide (m=0)||inI n 1 m)
theorem q0E (nd nm da df:Bool)(m:Int)(e:Ev):Con Tryz.prog 96 [.ag [D.bool nd,D.bool nm,D.bool da,D.bool df,D.int m],evD e] [] fun r H'=>r=D.bool (numB nd m e.node e.n)∧H'=[]:=by
 refine Con.walk good n0z (by simp) ?_
 unfold g0y evD
 simp only [a0J]
 repeat' (with_reducible first|refine Wx.h ?_|refine Wb.h fun K hK=>?_|(refine hK _ ?_;clear hK K)|(refine wT ?_ ?_;assumption)|(refine wF ?_ ?_;assumption)|refine Wq.h ?_ ?_<;>intro h|refine Wu.h ?_ ?_<;>intro h<;>try simp only [h]|((fail_if_success refine Wz.h ?_);simp (disch:=omega) only [↓LD,LA,a0A,seval]))
 all_goals (refine end1 rfl rfl (by kernel_rfl) .f ⟨congrArg D.bool ?_,rfl⟩;simp_all [numB,inI])
 all_goals omega
instance {nd nm da df:Bool}{m:Int}{e:Ev}{H:List Row}{K:D→List Row→Prop}:Wa (a0T Tryz.prog (.fn 96 []) [.ag [.f (.v (.bool nd)),.f (.v (.bool nm)),.f (.v (.bool da)),.f (.v (.bool df)),.f (.v (.int .i64 m))],
  .ag [.f (.v (.int .i64 e.id)),.f (.v (.int .i64 e.ver)),.f (.v (.int .i64 e.time)),.f (.v (.int .i64 e.ty)),.f (.v (.int .i64 e.node)),.f (.v (.int .i64 e.n)),.f (.v (.string (BB e.name))),.f (fY e.data),.f (fG e.defs)]] H K) (K (.f (.v (.bool (numB nd m e.node e.n)))) H) :=
 ⟨a0C (q0E nd nm da df m e) rfl rfl rfl⟩
def a1q (nm da:Bool)(name data:Bs):Bool:=(nm==decide (name≠[]))&&(!nm||e0W name)&&(decide (data=[])||(da&&decide (data.length≤40)))
theorem y0o (nd nm da df:Bool)(m:Int)(e:Ev):Con Tryz.prog 97 [.ag [D.bool nd,D.bool nm,D.bool da,D.bool df,D.int m],evD e] [] fun r H'=>r=D.bool (a1q nm da e.name e.data)∧H'=[]:=by
 refine Con.walk good t0y (by simp) ?_
 unfold m0X evD
 simp only [a0J]
 have hz:((e.data.length:Int)=0)=(e.data=[]):=by apply propext;cases e.data<;>simp;omega
 repeat' (with_reducible first|refine Wx.h ?_|refine Wb.h fun K hK=>?_|(refine hK _ ?_;clear hK K)|refine Wq.h ?_ ?_<;>intro h|refine Wu.h ?_ ?_<;>intro h<;>try simp only [h]|((fail_if_success refine Wz.h ?_);simp (disch:=omega) only [↓LD,LA,a0A,seval,fY,hz]))
 all_goals (refine end1 rfl rfl (by kernel_rfl) .f ⟨congrArg D.bool ?_,rfl⟩;simp_all [a1q])
 all_goals omega
instance {nd nm da df:Bool}{m:Int}{e:Ev}{H:List Row}{K:D→List Row→Prop}:Wa (a0T Tryz.prog (.fn 97 []) [.ag [.f (.v (.bool nd)),.f (.v (.bool nm)),.f (.v (.bool da)),.f (.v (.bool df)),.f (.v (.int .i64 m))],
  .ag [.f (.v (.int .i64 e.id)),.f (.v (.int .i64 e.ver)),.f (.v (.int .i64 e.time)),.f (.v (.int .i64 e.ty)),.f (.v (.int .i64 e.node)),.f (.v (.int .i64 e.n)),.f (.v (.string (BB e.name))),.f (fY e.data),.f (fG e.defs)]] H K) (K (.f (.v (.bool (a1q nm da e.name e.data)))) H) :=
 ⟨a0C (y0o nd nm da df m e) rfl rfl rfl⟩
instance {ds:List Nd}{H:List Row}{K:D→List Row→Prop}[hf:Small ds]:Wa (a0T Tryz.prog (.fn 98 []) [.f (fG ds)] H K) (K (.f (.v (.bool (k0T ds)))) H) :=
 ⟨a0C (l0B ds hf.h.1 hf.h.2) rfl rfl rfl⟩
def b0K (e:Ev):Bool:=pOk e.ty&&inI e.id 1 200&&verB e.ver&&inI e.time 0 1099511627776&&numB (u0Y e.ty) (pN e.ty) e.node e.n&&a1q (c1m e.ty) (c1F e.ty) e.name e.data&&(if b1T e.ty then k0T e.defs else decide (e.defs=[]))
theorem y0W (e:Ev)(hf:FitN e.defs)(hl:e.defs.length<1000000):Con Tryz.prog 60 [evD e] [] fun r H'=>r=D.bool (b0K e)∧H'=[]:=by
 haveI:Small e.defs:=⟨⟨hf,hl⟩⟩
 refine Con.walk good t0O (by simp) ?_
 unfold l0v evD
 simp only [a0J]
 have hz:((e.defs.length:Int)=0)=(e.defs=[]):=by apply propext;cases e.defs<;>simp;omega
 repeat' (with_reducible first|refine Wx.h ?_|refine Wb.h fun K hK=>?_|(refine hK _ ?_;clear hK K)|refine Wq.h ?_ ?_<;>intro h|refine Wu.h ?_ ?_<;>intro h<;>try simp only [h]|((fail_if_success refine Wz.h ?_);simp (disch:=omega) only [↓LD,LA,a0A,seval,hz]))
 all_goals (refine end1 rfl rfl (by kernel_rfl) .f ⟨congrArg D.bool ?_,rfl⟩;simp_all [b0K])
def s0q:SCode :=
  (jq ([.a 1 (.box 73 (.t 0)),.a 2 (.alloc 73 [jI,jI,jI,jI,jI,jI,(.f (.v (.string ⟨#[]⟩))),jN,jN])]) (.seq (.drw [jo 4 7 1,jl 5 4,.a 6 (.call
 (kC 108) [(.t 5)]),jo 7 8 1,jl 8 7,.a 9 (.call (kC 109) [(.t 8)]),jo 10 7 1,.n (.store 1 (.t 10) (.t 6)),jo 11 8 1,.n (.store 1 (.t 11) (.t 9))]
 [0,1,3,0,8,31,31,127,255,511]) (.seq (jq ([jo 12 8 1,jl 13 12,je 14 13,jk 15 0]) (.block 0 (.loop (jq ([jB 16 .lss 15 14]) (.seq (jc 16
 .skip (.exit 0)) (.seq (.block 1 (jq ([jm 17 15,jm 3 17]) (.drw [jo 18 8 1,jl 19 18,jm 20 3,jo 21 8 1,jl 22 21,jm 23 3,jx 24 3 22 23,jo 25 0
 24,jl 26 25,.a 27 (.call (kC 110) [(.t 26)]),jx 28 3 19 20,jo 29 0 28,.n (.store 1 (.t 29) (.t 27))] [0,1,0,0,8,0,56,120,248,504,1023,
 2047,4095]))) (.ops [jb 30 .add 15 1,jm 15 30]))))))) (jq ([jL 31 9 1,.n (.store 9 (.t 2) (.t 31))]) .ret))))
theorem y0a:Fn Tryz.prog 68 32 [.cA 9 2] s0q:=.of Tryz.func68 (by kernel_rfl)
def k0s:SCode :=
  (jq ([.a 2 (.mv kN)]) (.seq (jq ([jm 3 0,.a 4 (.nilq true 0 (.t 3) kN)]) (jc 4 (jq ([.a 2 (.mv kN)]) .ret) .skip)) (jq ((ap [.a 5 (.bsl 123 3 0 []
 []),jm 6 0,.a 7 (.app 123 3 40 (.t 5) (.t 6))] [jm 2 7])) .ret)))
theorem s0a:Fn Tryz.prog 109 8 [.t 2] k0s:=.of Tryz.func109 (by kernel_rfl)
def i0w:SCode :=
  (jq ([jk 4 0]) (jq ([jk 5 0]) (.seq (jq ([jm 8 0,jn 9 8,jo 10 6 9,jl 11 10,je 12 11,jk 13 0]) (.block 0 (.loop (jq ([jB 14 .lss 13 12]) (.seq (jc
 14 .skip (.exit 0)) (.seq (.block 1 (jq ([jx 15 4 11 13,jL 16 4 15,.a 7 (.alloc 158 [jI,jI,jI,jN]),.n (.store 4 (.t 7) (.t 16))]) (jq ([jo 17 0
 7,jl 18 17,jm 19 1,jB 20 .eql 18 19]) (jc 20 (.ops [jm 21 5,jb 22 .add 21 1,jm 5 22]) .skip)))) (.ops [jb 23 .add 13 1,jm 13 23]))))))) (jq ([jm
 24 5,jm 4 24]) .ret))))
theorem r0P:Fn Tryz.prog 162 25 [.t 4] i0w:=.of Tryz.func162 (by kernel_rfl)
def m0K:SCode :=
  (jq ([.a 3 (.box 73 (.t 1)),jk 4 0]) (.seq (jq ((ap [jo 5 8 3,jl 6 5,.a 7 (.call (kC 158) [(.t 6)])] [jb 8 .neq 7 0])) (jc 8 (jq ([jk 4 1]) .ret)
 .skip)) (jq ((ap [jm 9 0,jL 10 9 3,.a 11 (.call (kC 68) [(.t 10)])] [.a 12 (.fld1 8 (.t 11)),jn 13 9,jo 14 5 13,.n (.store 1 (.t 14) (.t 12))]))
 (jq ([jm 15 0,jo 16 8 3,jl 17 16,je 18 17,.a 19 (.mkslice 158 4 48 [(.v (.int .i64 0)),(.v (.int .i64 0)),(.v (.int .i64 0)),(.v (.slice none 0
 0))] (.t 18) (.t 18)),jn 20 15,jo 21 6 20,.n (.store 1 (.t 21) (.t 19))]) (jq ([jk 4 0]) .ret)))))
theorem t0e:Fn Tryz.prog 134 22 [.t 4] m0K:=.of Tryz.func134 (by kernel_rfl)
def n0F:SCode :=
  (jq ([.a 3 (.box 73 (.t 1)),jk 4 0]) (.seq (.seq (.drw [jo 6 4 3,jl 7 6,jm 8 0,jn 9 8,jo 10 6 9,jl 11 10,je 12 11,jm 13 0,jn 14 13,jo 15 5
 14,jl 16 15,je 17 16,.a 18 (.mm false (.t 12) (.t 17)),jB 19 .geq 7 18] [0,1,0,4,12,28,60,0,128,384,896,1920,4092,8191]) (jc 19 (jq
 ([jk 4 1]) .ret) .skip)) (.seq (.drw [jm 20 0,jn 21 20,jo 22 6 21,jl 23 22,jo 24 4 3,jl 25 24,jx 26 4 23 25,jm 5 26] [0,1,3,7,0,16,63,
 127]) (.seq (.seq (.drw [jm 27 0,jn 28 27,jL 29 9 28,.a 30 (.call (kC 160) [(.t 29)]),jo 31 4 3,jl 32 31,.a 33 (.call (kC 159) [(.t 30),(.t
 32)]),.a 34 (.unot (.t 33)),jm 35 34,gO 36 5 3 35 false,gL 37 36 35 false,gM 38 5 35 false,gN 39 38 35 false,gO 40 1 39 35 false,gL 41 40 35
 false,jG 42 (.bin .add (.t 41) (kI 1)) 35 false,jG 43 (.bin .neq (.t 37) (.t 42)) 35 false,.a 44 (.pick (.t 35) kT (.t 43))] [0,1,3,7,0,16,63,
 127,255,511,1023,511,2559,6655,14847,31231,65535,131071]) (jc 44 (jq ([jk 4 4]) .ret) .skip)) (.seq (.drw [jm 45 5,jm 46 5,jm 47 5,jo 48 5
 3,jl 49 48,jo 50 2 3,jl 51 50,jm 52 0,jn 53 52,jo 54 5 53,jl 55 54,jo 56 4 3,jl 57 56,jx 58 3 55 57,jo 59 2 58,jl 60 59,jB 61 .add 51 60,
 jn 62 45,jo 63 0 62,.n (.store 1 (.t 63) (kI 1)),jn 64 46,jo 65 1 64,.n (.store 1 (.t 65) (.t 49)),jn 66 47,jo 67 2 66,.n (.store 1 (.t 67) (.t
 61))] [0,0,0,0,8,0,32,0,128,384,896,0,2048,8064,16256,32640,65504,65409,196481,458625,982939,2031515,4128667,8388607,16777215,
 33554431]) (jq ([jk 4 0]) .ret))))))
theorem t0B:Fn Tryz.prog 135 68 [.t 4] n0F:=.of Tryz.func135 (by kernel_rfl)
def x0R:SCode :=
  (jq ([.a 3 (.box 73 (.t 1)),jk 4 0]) (.seq (.seq (.drw [jo 6 4 3,jl 7 6,jm 8 0,jn 9 8,jo 10 6 9,jl 11 10,je 12 11,jm 13 0,jn 14 13,jo 15 5
 14,jl 16 15,je 17 16,.a 18 (.mm false (.t 12) (.t 17)),jB 19 .geq 7 18] [0,1,0,4,12,28,60,0,128,384,896,1920,4092,8191]) (jc 19 (jq
 ([jk 4 1]) .ret) .skip)) (.seq (.drw [jm 20 0,jn 21 20,jo 22 6 21,jl 23 22,jo 24 4 3,jl 25 24,jx 26 4 23 25,jm 5 26] [0,1,3,7,0,16,63,
 127]) (.seq (.seq (.drw [jm 27 5,jn 28 27,jo 29 0 28,jl 30 29,jb 31 .neq 30 1,jm 32 31,gO 33 5 3 32 false,gL 34 33 32 false,gM 35 5 32 false,
 gN 36 35 32 false,gO 37 1 36 32 false,gL 38 37 32 false,jG 39 (.bin .neq (.t 34) (.t 38)) 32 false,.a 40 (.pick (.t 32) kT (.t 39))] [0,1,3,7,
 15,31,63,127,63,319,831,1855,4095,8191]) (jc 40 (jq ([jk 4 4]) .ret) .skip)) (jq ([jm 41 5,jn 42 41,jo 43 2 42,.n (.store 1 (.t 43) (kI
 0))]) (.seq (.block 0 (jq ((ap [jo 48 3 3,jl 49 48,jb 50 .eql 49 3] [jm 47 50])) (jc 47 (.ops (ap [jm 51 5,jm 52 5,jo 53 7 3,jl 54 53,.a 55
 (.call (kC 108) [(.t 54)])] [jn 56 51,jo 57 0 56,.n (.store 1 (.t 57) (kI 2)),jn 58 52,jo 59 3 58,.n (.store 1 (.t 59) (.t 55))])) (.seq (.drw [jm
 61 5,jn 62 61,jo 63 1 62,jl 64 63,jm 65 0,jn 66 65,jo 67 5 66,jl 68 67,jo 69 4 3,jl 70 69,jx 71 3 68 70,jo 72 1 71,jl 73 72,jB 74 .eql 64
 73,jm 60 74] [0,1,3,7,0,16,48,112,0,256,1008,2032,4080,8191,16383]) (jc 60 (.ops [jm 75 5,jn 76 75,jo 77 0 76,.n (.store 1 (.t 77)
 (kI 3))]) (.ops [jm 44 5,jn 45 44,jo 46 0 45,.n (.store 1 (.t 46) (kI 0))])))))) (jq ([jk 4 0]) .ret)))))))
theorem z0Q:Fn Tryz.prog 136 78 [.t 4] x0R:=.of Tryz.func136 (by kernel_rfl)
def n0b:SCode :=
  (jq ([.a 3 (.box 9 (.t 1)),jk 4 0]) (jq ((ap [jm 5 0,jn 6 5,jo 7 7 6,jl 8 7,.a 9 (.fn 182 [(.t 3)]),.a 10 (.call (kC 181) [(.t 8),(.t 9)])] [jm
 4 10])) .ret))
theorem u0C:Fn Tryz.prog 161 11 [.t 4] n0b:=.of Tryz.func161 (by kernel_rfl)
def j0L:SCode :=
 (jq ([.a 2 (.box 180 (.t 0)),.a 3 (.mv kF)]) (jq ((ap [jo 4 0 2,jl 5 4,jl 6 1,jB 7 .eql 5 6] [jm 3 7])) .ret))
theorem q0f:Fn Tryz.prog 182 8 [.t 3] j0L:=.of Tryz.func182 (by kernel_rfl)
def e0q:SCode :=
  (jq ([jk 4 0]) (.seq (jq ([jm 6 0,je 7 6,jk 8 0]) (.block 0 (.loop (jq ([jB 9 .lss 8 7]) (.seq (jc 9 .skip (.exit 0)) (.seq (.block 1 (jq ([jm 10 8,
 jm 5 10]) (jq ([jm 11 1,jm 12 0,jm 13 5,jx 14 3 12 13,jL 15 3 14,.a 16 (.call (.t 11) [(.t 15)])]) (jc 16 (jq ([jm 17 5,jm 4 17]) .ret) .skip))))
 (.ops [jb 18 .add 8 1,jm 8 18]))))))) (jq ([.a 4 (.mv (kI (-1)))]) .ret)))
theorem i0Y:Fn Tryz.prog 181 19 [.t 4] e0q:=.of Tryz.func181 (by kernel_rfl)
def w0K:SCode :=
  (jq ([.a 3 (.box 73 (.t 1)),jk 4 0]) (.seq (.block 0 (jq ((ap [jm 6 0,jo 7 6 3,jl 8 7,.a 9 (.call (kC 161) [(.t 6),(.t 8)])] (ap [jb 10 .geq 9 0]
 [jm 5 10]))) (jc 5 (jq ([jk 4 13]) .ret) (jq ((ap [jm 12 0,jn 13 12,jo 14 7 13,jl 15 14,je 16 15,jb 17 .geq 16 8] [jm 11 17])) (jc 11 (jq ([jk 4
 4]) .ret) .skip))))) (.seq (.drw [jm 18 0,jm 19 0,jn 20 19,jo 21 7 20,jl 22 21,jo 23 6 3,jl 24 23,jo 25 2 3,jl 26 25,jo 27 5 3,jl 28 27,jB
 29 .add 26 28,.a 30 (.bld [(.f (.v (.string ⟨#[]⟩))),jI,jF] [(0,1,(.t 24)),(1,1,(.t 29))]),.a 31 (.bsl 180 3 1 [(.f (.v (.string ⟨#[]⟩))),jI,
 jF] [(0,(.t 30))]),.a 32 (.app 180 3 32 (.t 22) (.t 31)),jn 33 18,jo 34 7 33,.n (.store 1 (.t 34) (.t 32))] [0,0,2,6,14,0,32,0,128,0,
 512,1920,4064,8160,16382,32767,65535,131071]) (jq ([jk 4 0]) .ret))))
theorem b1J:Fn Tryz.prog 137 35 [.t 4] w0K:=.of Tryz.func137 (by kernel_rfl)
def q0u:SCode :=
  (jq ([.a 3 (.box 73 (.t 1)),jk 4 0]) (jq ((ap [jm 6 0,jo 7 6 3,jl 8 7,.a 9 (.call (kC 161) [(.t 6),(.t 8)])] [jm 5 9])) (.seq (.seq (.drw [jm 10
 5,jb 11 .lss 10 0,jm 12 11,gM 13 0 12 false,gN 14 13 12 false,gO 15 7 14 12 false,gL 16 15 12 false,gM 17 5 12 false,jG 18 (.idx 3 (.t 16) (.t
 17)) 12 false,gO 19 2 18 12 false,gL 20 19 12 false,.a 21 (.pick (.t 12) kT (.t 20)),jm 22 21,gO 23 2 3 22 false,gL 24 23 22 false,gM 25 0 22
 false,gN 26 25 22 false,gO 27 7 26 22 false,gL 28 27 22 false,gM 29 5 22 false,jG 30 (.idx 3 (.t 28) (.t 29)) 22 false,gO 31 1 30 22 false,gL 32
 31 22 false,jG 33 (.bin .lss (.t 24) (.t 32)) 22 false,.a 34 (.pick (.t 22) kT (.t 33))] [0,1,3,7,15,31,63,7,255,511,1023,2047,4095,
 8191,16383,8191,40959,106495,237567,8191,1023999,2072575,4169727,8388607,16777215]) (jc 34 (jq ([jk 4 4]) .ret) .skip)) (jq ([jm 35 0,jn 36
 35,jo 37 7 36,jl 38 37,jm 39 5,jx 40 3 38 39,jo 41 2 40,.n (.store 1 (.t 41) kT)]) (jq ([jk 4 0]) .ret)))))
theorem x0n:Fn Tryz.prog 138 42 [.t 4] q0u:=.of Tryz.func138 (by kernel_rfl)
def j0s:SCode :=
  (jq ([.a 3 (.box 73 (.t 1)),jk 4 0]) (.seq (.seq (.drw [jm 5 0,jn 6 5,jL 7 9 6,jo 8 6 3,jl 9 8,.a 10 (.call (kC 65) [(.t 7),(.t 9)])] [0,1,3,
 0,8,31]) (jc 10 (jq ([jk 4 13]) .ret) .skip)) (.seq (.drw [jm 11 0,jm 12 0,jn 13 12,jo 14 8 13,jl 15 14,jo 16 6 3,jl 17 16,jo 18 0 3,jl 19
 18,jo 20 7 3,jl 21 20,.a 22 (.call (kC 108) [(.t 21)]),.a 23 (.bld [(.f (.v (.string ⟨#[]⟩))),jI,jN] [(0,1,(.t 17)),(1,1,(.t 19)),(2,1,
 (.t 22))]),.a 24 (.bsl 106 3 1 [(.f (.v (.string ⟨#[]⟩))),jI,jN] [(0,(.t 23))]),.a 25 (.app 106 3 48 (.t 15) (.t 24)),jn 26 11,jo 27 8 26,.n
 (.store 1 (.t 27) (.t 25))] [0,0,2,6,14,0,32,0,128,0,512,1536,4064,8160,16382,32767,65535,131071]) (jq ([jk 4 0]) .ret))))
theorem r0T:Fn Tryz.prog 139 28 [.t 4] j0s:=.of Tryz.func139 (by kernel_rfl)
def j0f:SCode :=
  (jq ([jk 2 0]) (.seq (jq ([jm 3 0,jn 4 3,jo 5 4 4,jl 6 5]) (jc 6 (jq ([jk 2 4]) .ret) .skip)) (jq ([jm 7 0,jn 8 7,jo 9 4 8,.n (.store 1 (.t 9)
 kT)]) (jq ([jk 2 0]) .ret))))
theorem s0E:Fn Tryz.prog 140 10 [.t 2] j0f:=.of Tryz.func140 (by kernel_rfl)
def h0Y:SCode :=
  (jq ([.a 4 (.mv kF)]) (.seq (jq ([jm 5 1]) (.block 0 (jq ((ap [jb 7 .eql 5 9] [jm 6 7])) (jc 6 (.seq (.drw [jm 8 0,.a 9 (.call (kC 162) [(.t 8),(kI
 2)]),jm 10 0,jn 11 10,jo 12 6 11,jl 13 12,je 14 13,jB 15 .eql 9 14,jm 4 15] [0,1,0,4,12,28,60,127,255]) .ret) (jq ((ap [jb 17 .eql 5 10]
 [jm 16 17])) (jc 16 (jq ((ap [jm 18 0,.a 19 (.call (kC 162) [(.t 18),(kI 3)])] (ap [jb 20 .gtr 19 0] [jm 4 20]))) .ret) (jq ((ap [jb 22 .eql 5 11]
 [jm 21 22])) (jc 21 (jq ((ap [jm 23 0,jn 24 23,jo 25 4 24,jl 26 25,jm 27 26,gM 28 0 27 true] (ap [jG 29 (.call (kC 162) [(.t 28),(kI 1)]) 27
 true] (ap [jG 30 (.bin .eql (.t 29) (kI 0)) 27 true] [.a 31 (.pick (.t 27) (.t 30) kF),jm 4 31])))) .ret) .skip)))))))) (jq ([.a 4 (.mv kT)]) .ret)))
theorem o0Y:Fn Tryz.prog 141 32 [.t 4] h0Y:=.of Tryz.func141 (by kernel_rfl)
def q0F:SCode :=
  (jq ([.a 3 (.box 73 (.t 1)),jk 4 0]) (.seq (jq ([jo 5 3 3,jl 6 5]) (.block 0 (jq ((ap [jb 8 .eql 6 1] [jm 7 8])) (jc 7 (jq ((ap [jm 9 0,jL 10 9 3,
 .a 11 (.call (kC 134) [(.t 9),(.t 10)])] [jm 4 11])) .ret) (jq ((ap [jb 13 .eql 6 2] [jm 12 13])) (jc 12 (jq ((ap [jm 14 0,jL 15 9 3,.a 16 (.call
 (kC 135) [(.t 14),(.t 15)])] [jm 4 16])) .ret) (.seq (jq ((ap [jb 18 .eql 6 3] [jm 17 18])) (jc 17 .skip (.ops (ap [jb 19 .eql 6 4] [jm 17 19])))) (jc
 17 (jq ((ap [jm 20 0,jL 21 9 3,.a 22 (.call (kC 136) [(.t 20),(.t 21)])] [jm 4 22])) .ret) (jq ((ap [jb 24 .eql 6 5] [jm 23 24])) (jc 23 (jq ((ap
 [jm 25 0,jL 26 9 3,.a 27 (.call (kC 137) [(.t 25),(.t 26)])] [jm 4 27])) .ret) (jq ((ap [jb 29 .eql 6 6] [jm 28 29])) (jc 28 (jq ((ap [jm 30 0,jL
 31 9 3,.a 32 (.call (kC 138) [(.t 30),(.t 31)])] [jm 4 32])) .ret) (jq ((ap [jb 34 .eql 6 7] [jm 33 34])) (jc 33 (jq ((ap [jm 35 0,jL 36 9 3,.a 37
 (.call (kC 139) [(.t 35),(.t 36)])] [jm 4 37])) .ret) (jq ((ap [jb 39 .eql 6 8] [jm 38 39])) (jc 38 (jq ((ap [jm 40 0,.a 41 (.call (kC 140) [(.t
 40)])] [jm 4 41])) .ret) .skip)))))))))))))))) (.seq (jq ((ap [jm 42 0,jo 43 3 3,jl 44 43,.a 45 (.call (kC 141) [(.t 42),(.t 44)])] [.a 46 (.unot
 (.t 45))])) (jc 46 (jq ([jk 4 4]) .ret) .skip)) (jq ([jm 47 0,jo 48 3 3,jl 49 48,jn 50 47,jo 51 3 50,.n (.store 1 (.t 51) (.t 49))]) (jq ([jk 4
 0]) .ret)))))
theorem y0P:Fn Tryz.prog 93 52 [.t 4] q0F:=.of Tryz.func93 (by kernel_rfl)
def m0s:SCode :=
  (jq ([.a 3 (.box 73 (.t 1)),jk 4 0]) (.seq (.block 0 (.seq (.drw [jL 7 9 3,.a 8 (.call (kC 60) [(.t 7)]),.a 9 (.unot (.t 8)),jm 10 9,gO 11 0 3 10
 false,gL 12 11 10 false,gM 13 0 10 false,gN 14 13 10 false,gO 15 0 14 10 false,gL 16 15 10 false,jG 17 (.bin .add (.t 16) (kI 1)) 10 false,jG 18
 (.bin .neq (.t 12) (.t 17)) 10 false,.a 19 (.pick (.t 10) kT (.t 18)),jm 20 19,gO 21 1 3 20 false,gL 22 21 20 false,gM 23 0 20 false,gN 24 23 20
 false,gO 25 1 24 20 false,gL 26 25 20 false,jG 27 (.bin .lss (.t 22) (.t 26)) 20 false,.a 28 (.pick (.t 20) kT (.t 27)),jm 29 28,gO 30 2 3 29
 false,gL 31 30 29 false,gM 32 0 29 false,gN 33 32 29 false,gO 34 2 33 29 false,gL 35 34 29 false,jG 36 (.bin .lss (.t 31) (.t 35)) 29 false,.a
 37 (.pick (.t 29) kT (.t 36)),jm 6 37] [0,1,3,7,15,31,15,79,207,463,975,2047,4095,8191,16383,32767,16383,81919,212991,475135,
 1048575,2097151,4194303,8388607,16777215,8388607,41943039,109051903,243269631,536870911,1073741823,2147483647]) (jc 6 (jq ([jk 4 1]) .ret)
 (jq ((ap [jm 39 0,jn 40 39,jo 41 3 40,jl 42 41,jb 43 .neq 42 0] [jm 38 43])) (jc 38 (jq ([jk 4 12]) .ret) (.seq (.drw [jm 45 0,jn 46 45,jo 47 0
 46,jl 48 47,jb 49 .eql 48 0,jo 50 3 3,jl 51 50,jb 52 .eql 51 1,.a 53 (.binb .neq (.t 49) (.t 52)),jm 44 53] [0,1,3,7,15,0,32,96,255,
 511]) (jc 44 (jq ([jk 4 4]) .ret) .skip))))))) (jq ((ap [jm 54 0,jL 55 9 3,.a 56 (.call (kC 93) [(.t 54),(.t 55)])] [jm 5 56])) (.seq (.drw [jm 57
 0,jm 58 0,jm 59 0,jo 60 0 3,jl 61 60,jo 62 1 3,jl 63 62,jo 64 2 3,jl 65 64,jn 66 57,jo 67 0 66,.n (.store 1 (.t 67) (.t 61)),jn 68 58,jo
 69 1 68,.n (.store 1 (.t 69) (.t 63)),jn 70 59,jo 71 2 70,.n (.store 1 (.t 71) (.t 65))] [0,0,0,0,8,0,32,0,128,25,537,1561,3707,7803,
 15995,32767,65535,131071]) (jq ([jm 72 5,jm 4 72]) .ret)))))
theorem u0S:Fn Tryz.prog 59 73 [.t 4] m0s:=.of Tryz.func59 (by kernel_rfl)
def p0F:SCode :=
  (jq ([.a 2 (.alloc 65 [jI,jI,jI,jI,jF,jN,jN,jN,jN]),jk 3 0]) (jq ([.a 8 (.bld [jI,jI,jI,jI,jF,jN,jN,jN,jN] []),.a 4 (.alloc 65 [jI,
 jI,jI,jI,jF,jN,jN,jN,jN]),.n (.store 9 (.t 4) (.t 8))]) (.seq (jq ([jm 9 0,je 10 9,jk 11 0]) (.block 0 (.loop (jq ([jB 12 .lss 11 10]) (.seq
 (jc 12 .skip (.exit 0)) (.seq (.block 1 (jq ([jx 13 9 9 11,jL 14 9 13,.a 6 (.alloc 73 [jI,jI,jI,jI,jI,jI,(.f (.v (.string ⟨#[]⟩))),jN,jN]),
 .n (.store 9 (.t 6) (.t 14))]) (jq ((ap [jL 15 9 6,.a 16 (.call (kC 59) [(.t 4),(.t 15)])] [jm 7 16])) (jq ([jm 17 7,jb 18 .neq 17 0]) (jc 18 (jq
 ([.a 19 (.bld [jI,jI,jI,jI,jF,jN,jN,jN,jN] []),jm 20 7,.n (.store 9 (.t 2) (.t 19)),jm 3 20]) .ret) .skip))))) (.ops [jb 21 .add 11 1,jm 11
 21]))))))) (jq ([jL 22 9 4,.n (.store 9 (.t 2) (.t 22)),jk 3 0]) .ret))))
theorem x0x:Fn Tryz.prog 24 23 [.cA 9 2,.t 3] p0F:=.of Tryz.func24 (by kernel_rfl)
def g0i:SCode :=
  (jq ([.a 1 (.box 65 (.t 0)),.a 2 (.mv kN)]) (.seq (jq ((ap [jo 9 3 1,jl 10 9,jb 11 .neq 10 0] (ap [jm 12 11,gO 13 4 1 12 false] [gL 14 13 12 false,
 .a 15 (.pick (.t 12) kT (.t 14))]))) (jc 15 (jq ([.a 2 (.mv kN)]) .ret) .skip)) (jq ([jo 16 6 1,jl 17 16,je 18 17,.a 19 (.mkslice 4 1 1 [(.v (.bool
 false))] (.t 18) (.t 18)),jm 3 19]) (.seq (jq ([jo 20 6 1,jl 21 20,je 22 21,jk 23 0]) (.block 0 (.loop (jq ([jB 24 .lss 23 22]) (.seq (jc 24 .skip
 (.exit 0)) (.seq (.block 1 (jq ([jm 25 23,jx 26 4 21 23,jL 27 4 26,.a 5 (.alloc 158 [jI,jI,jI,jN]),jm 4 25,.n (.store 4 (.t 5) (.t 27))]) (.ops
 (ap [jm 28 3,jm 29 4,jo 30 0 5,jl 31 30,jb 32 .eql 31 2] [jx 33 1 28 29,.n (.store 1 (.t 33) (.t 32))])))) (.ops [jb 34 .add 23 1,jm 23
 34]))))))) (jq ([.a 6 (.mv kN)]) (.seq (jq ((ap [jo 35 5 1,jl 36 35,jm 37 3,.a 38 (.call (kC 180) [(.t 36),(.t 37)])] [je 39 38,jk 40 0])) (.block
 2 (.loop (jq ([jB 41 .lss 40 39]) (.seq (jc 41 .skip (.exit 2)) (.seq (.block 3 (jq ([jx 42 1 38 40,jl 43 42,jm 8 43]) (jq ((ap [jm 44 8,jo 45 6 1,
 jl 46 45,je 47 46,jB 48 .lss 44 47] (ap [jm 49 48,gO 50 6 1 49 true] (ap [gL 51 50 49 true,gM 52 8 49 true,jG 53 (.idx 4 (.t 51) (.t 52)) 49 true,
 gO 54 0 53 49 true,gL 55 54 49 true,jG 56 (.bin .eql (.t 55) (kI 0)) 49 true] [.a 57 (.pick (.t 49) (.t 56) kF)])))) (jc 57 (.ops (ap [jm 58 6,jm 59
 8,.a 60 (.bsl 3 1 1 [jI] [(0,(.t 59))]),.a 61 (.app 3 1 8 (.t 58) (.t 60))] [jm 6 61])) .skip)))) (.ops [jb 62 .add 40 1,jm 40 62]))))))) (jq ([jm
 63 6,jm 2 63]) .ret)))))))
theorem i0W:Fn Tryz.prog 160 64 [.t 2] g0i:=.of Tryz.func160 (by kernel_rfl)
def u0h:SCode :=
  (jq ([.a 2 (.box 65 (.t 0)),.a 3 (.box 9 (.t 1)),.a 4 (.mv kF)]) (jq ((ap [jo 5 8 2,jl 6 5,.a 7 (.fn 102 [(.t 3)]),.a 8 (.call (kC 101) [(.t 6),
 (.t 7)])] [jm 4 8])) .ret))
theorem a1b:Fn Tryz.prog 65 9 [.t 4] u0h:=.of Tryz.func65 (by kernel_rfl)
def r0W:SCode :=
 (jq ([.a 2 (.box 106 (.t 0)),.a 3 (.mv kF)]) (jq ((ap [jo 4 0 2,jl 5 4,jl 6 1,jB 7 .eql 5 6] [jm 3 7])) .ret))
theorem y0v:Fn Tryz.prog 102 8 [.t 3] r0W:=.of Tryz.func102 (by kernel_rfl)
def d0Y:SCode :=
 (jq ([.a 4 (.mv kF)]) (jq ((ap [jm 5 0,jm 6 1,.a 7 (.call (kC 144) [(.t 5),(.t 6)])] (ap [jb 8 .geq 7 0] [jm 4 8]))) .ret))
theorem f0b:Fn Tryz.prog 101 9 [.t 4] d0Y:=.of Tryz.func101 (by kernel_rfl)
def e0t:SCode :=
  (jq ([jk 4 0]) (.seq (jq ([jm 6 0,je 7 6,jk 8 0]) (.block 0 (.loop (jq ([jB 9 .lss 8 7]) (.seq (jc 9 .skip (.exit 0)) (.seq (.block 1 (jq ([jm 10 8,
 jm 5 10]) (jq ([jm 11 1,jm 12 0,jm 13 5,jx 14 3 12 13,jL 15 3 14,.a 16 (.call (.t 11) [(.t 15)])]) (jc 16 (jq ([jm 17 5,jm 4 17]) .ret) .skip))))
 (.ops [jb 18 .add 8 1,jm 8 18]))))))) (jq ([.a 4 (.mv (kI (-1)))]) .ret)))
theorem k0A:Fn Tryz.prog 144 19 [.t 4] e0t:=.of Tryz.func144 (by kernel_rfl)
def h0P:SCode :=
  (jq ([.a 2 (.mv kN)]) (.seq (jq ([jm 3 0,.a 4 (.nilq true 0 (.t 3) kN)]) (jc 4 (jq ([.a 2 (.mv kN)]) .ret) .skip)) (jq ((ap [.a 5 (.bsl 5 1 0 [] []),
 jm 6 0,.a 7 (.app 5 1 1 (.t 5) (.t 6))] [jm 2 7])) .ret)))
theorem o0t:Fn Tryz.prog 108 8 [.t 2] h0P:=.of Tryz.func108 (by kernel_rfl)
structure Nn where
 st:Int
 tr:Int
 due:Int
 data:Bs
 deriving Inhabited,DecidableEq
def Nn.cs (x:Nn):List F:=[iF x.st,iF x.tr,iF x.due,fY x.data]
structure Tm where
 name:Bs
 due:Int
 fired:Bool
 deriving Inhabited,DecidableEq
def Tm.cs (x:Tm):List F:=[.v (.string (BB x.name)),iF x.due,bF x.fired]
structure Sg where
 name:Bs
 id:Int
 data:Bs
 deriving Inhabited,DecidableEq
def Sg.cs (x:Sg):List F:=[.v (.string (BB x.name)),iF x.id,fY x.data]
def fNn (l:List Nn):F:=.s (l.flatMap Nn.cs) l.length
def fTm (l:List Tm):F:=.s (l.flatMap Tm.cs) l.length
def fSg (l:List Sg):F:=.s (l.flatMap Sg.cs) l.length
structure S12 where
 id:Int
 ver:Int
 time:Int
 closed:Int
 cancel:Bool
 defs:List Nd
 nodes:List Nn
 tms:List Tm
 sgs:List Sg
 deriving Inhabited,DecidableEq
theorem d0a (x:Nn):x.cs.length=4:=rfl
theorem v0F {g:List Nn}:slcS (.f (fNn g))=some g.length:=id rfl
theorem u0g {g:List Nn}{sz:Nat}{k:IntKind}{i:Int}{K:D→Prop}:idxS sz (.f (fNn g)) (.f (.v (.int k i))) K=((0≤i∧i<g.length)∧K (.rf ((g.flatMap Nn.cs).drop (i.toNat*sz)))):=id rfl
theorem l0l {H:List Row}{g:List Nn}{sz:Nat}:b0b H sz (.f (fNn g))=some (g.length,g.flatMap Nn.cs):=id rfl
theorem x0E {k:Nat}{g:List Nn}{K:Bool→Prop}:d0U k (.f (fNn g)) (.f (.v (.slice none 0 0))) K=(k=0∧Nz g.length (K true) (K false)):=id rfl
theorem a0k {g:List Nn}:(g.flatMap Nn.cs).length=g.length*4:=b0E d0a g
theorem c0v {H:List Row}{g:List Nn}{k:Nat}(hk:k<g.length):loadA H 4 (.rf ((g.flatMap Nn.cs).drop (k*4)))=some (.ag ((Nn.cs (gt g k)).map .f)):=b0T d0a hk
theorem b0v {g:List Nn}{k:Nat}(hk:k<g.length):(g.flatMap Nn.cs)[k*4]?=(Nn.cs (gt g k))[0]?:=b0B (j:=0) d0a hk (by omega)
theorem g0s {g:List Nn}{k:Nat}(hk:k<g.length):(g.flatMap Nn.cs)[k*4+1]?=(Nn.cs (gt g k))[1]?:=b0B (j:=1) d0a hk (by omega)
theorem h1B {g:List Nn}{k:Nat}(hk:k<g.length):(g.flatMap Nn.cs)[k*4+2]?=(Nn.cs (gt g k))[2]?:=b0B (j:=2) d0a hk (by omega)
theorem g1Y {g:List Nn}{k:Nat}(hk:k<g.length):(g.flatMap Nn.cs)[k*4+3]?=(Nn.cs (gt g k))[3]?:=b0B (j:=3) d0a hk (by omega)
theorem s0z (x:Tm):x.cs.length=3:=rfl
theorem v0T {g:List Tm}:slcS (.f (fTm g))=some g.length:=id rfl
theorem v0J {g:List Tm}{sz:Nat}{k:IntKind}{i:Int}{K:D→Prop}:idxS sz (.f (fTm g)) (.f (.v (.int k i))) K=((0≤i∧i<g.length)∧K (.rf ((g.flatMap Tm.cs).drop (i.toNat*sz)))):=id rfl
theorem m0l {H:List Row}{g:List Tm}{sz:Nat}:b0b H sz (.f (fTm g))=some (g.length,g.flatMap Tm.cs):=id rfl
theorem w0O {k:Nat}{g:List Tm}{K:Bool→Prop}:d0U k (.f (fTm g)) (.f (.v (.slice none 0 0))) K=(k=0∧Nz g.length (K true) (K false)):=id rfl
theorem f0H {g:List Tm}:(g.flatMap Tm.cs).length=g.length*3:=b0E s0z g
theorem h0v {H:List Row}{g:List Tm}{k:Nat}(hk:k<g.length):loadA H 3 (.rf ((g.flatMap Tm.cs).drop (k*3)))=some (.ag ((Tm.cs (gt g k)).map .f)):=b0T s0z hk
theorem g0g {g:List Tm}{k:Nat}(hk:k<g.length):(g.flatMap Tm.cs)[k*3]?=(Tm.cs (gt g k))[0]?:=b0B (j:=0) s0z hk (by omega)
theorem k0k {g:List Tm}{k:Nat}(hk:k<g.length):(g.flatMap Tm.cs)[k*3+1]?=(Tm.cs (gt g k))[1]?:=b0B (j:=1) s0z hk (by omega)
theorem c1i {g:List Tm}{k:Nat}(hk:k<g.length):(g.flatMap Tm.cs)[k*3+2]?=(Tm.cs (gt g k))[2]?:=b0B (j:=2) s0z hk (by omega)
theorem g1P (x:Sg):x.cs.length=3:=rfl
theorem w0Y {g:List Sg}:slcS (.f (fSg g))=some g.length:=id rfl
theorem u0s {g:List Sg}{sz:Nat}{k:IntKind}{i:Int}{K:D→Prop}:idxS sz (.f (fSg g)) (.f (.v (.int k i))) K=((0≤i∧i<g.length)∧K (.rf ((g.flatMap Sg.cs).drop (i.toNat*sz)))):=id rfl
theorem l0k {H:List Row}{g:List Sg}{sz:Nat}:b0b H sz (.f (fSg g))=some (g.length,g.flatMap Sg.cs):=id rfl
theorem x0a {k:Nat}{g:List Sg}{K:Bool→Prop}:d0U k (.f (fSg g)) (.f (.v (.slice none 0 0))) K=(k=0∧Nz g.length (K true) (K false)):=id rfl
theorem u0O {g:List Sg}:(g.flatMap Sg.cs).length=g.length*3:=b0E g1P g
theorem d1o {H:List Row}{g:List Sg}{k:Nat}(hk:k<g.length):loadA H 3 (.rf ((g.flatMap Sg.cs).drop (k*3)))=some (.ag ((Sg.cs (gt g k)).map .f)):=b0T g1P hk
theorem h1A {g:List Sg}{k:Nat}(hk:k<g.length):(g.flatMap Sg.cs)[k*3]?=(Sg.cs (gt g k))[0]?:=b0B (j:=0) g1P hk (by omega)
theorem f1m {g:List Nd}:(g.flatMap Nd.cs).length=g.length*3:=b0E Nd.cs_len g
theorem LSt:(((type_of% @v0F∧(type_of% @u0g∧type_of% @l0l))∧(type_of% @x0E∧(type_of% @v0T∧type_of% @v0J)))∧((type_of% @m0l∧(type_of% @w0O∧type_of% @w0Y))∧(type_of% @u0s∧(type_of% @l0k∧type_of% @x0a)))) :=
 ⟨⟨⟨@v0F,⟨@u0g,@l0l⟩⟩,⟨@x0E,⟨@v0T,@v0J⟩⟩⟩,⟨⟨@m0l,⟨@w0O,@w0Y⟩⟩,⟨@u0s,⟨@l0k,@x0a⟩⟩⟩⟩
theorem f0m (l:Bs)(hl:l.length≤1000000):Con Tryz.prog 108 [.f (fY l)] [] fun r H'=>r = .f (fY l)∧H'=[]:=by
 refine Con.walk good o0t (by simp) ?_
 unfold h0P
 simp only [a0J]
 repeat' (with_reducible first|refine Wx.h ?_|refine Wb.h fun K hK=>?_|(refine hK _ ?_;clear hK K)|refine Wq.h ?_ ?_<;>intro h|((fail_if_success refine Wz.h ?_);first|simp (disch:=omega) only [↓LD,LA,a0A,seval,LSt,List.length_map]|(refine And.intro ?_ ?_;omega)|fail))
 ·obtain rfl:=List.eq_nil_of_length_eq_zero h
  exact end1 rfl rfl (by kernel_rfl) .nil ⟨rfl,rfl⟩
 ·obtain rfl:=List.eq_nil_of_length_eq_zero h
  exact end1 rfl rfl (by kernel_rfl) (.sl (T:=5) (xs:=[]) rfl (fun _=>rfl)) ⟨rfl,rfl⟩
 ·exact end1 rfl rfl (by kernel_rfl) (.sl (T:=5) (xs:=l.map uF) rfl (fun e=>absurd e h)) ⟨rfl,rfl⟩
instance {l:Bs}{H:List Row}{K:D→List Row→Prop}:Wa (a0T Tryz.prog (.fn 108 []) [.f (fY l)] H K) (l.length≤1000000∧K (.f (fY l)) H):=⟨fun h=>a0C (f0m l h.1) rfl rfl rfl h.2⟩
instance {l:Bs}{H:List Row}{K:Bool→D→List Row→Prop}:Wa (a0m Tryz.prog (.fn 108 []) [.f (fY l)] H K) (l.length≤1000000∧K true (.f (fY l)) H):=⟨fun h=>a0O (f0m l h.1) rfl rfl rfl h.2⟩
theorem p0C (l:List Int)(hl:l.length≤1000000):Con Tryz.prog 110 [.f (fI l)] [] fun r H'=>r = .f (fI l)∧H'=[]:=by
 refine Con.walk good s0u (by simp) ?_
 unfold k0G
 simp only [a0J]
 repeat' (with_reducible first|refine Wx.h ?_|refine Wb.h fun K hK=>?_|(refine hK _ ?_;clear hK K)|refine Wq.h ?_ ?_<;>intro h|((fail_if_success refine Wz.h ?_);first|simp (disch:=omega) only [↓LD,LA,a0A,seval,LSt,List.length_map]|(refine And.intro ?_ ?_;omega)|fail))
 ·obtain rfl:=List.eq_nil_of_length_eq_zero h
  exact end1 rfl rfl (by kernel_rfl) .nil ⟨rfl,rfl⟩
 ·obtain rfl:=List.eq_nil_of_length_eq_zero h
  exact end1 rfl rfl (by kernel_rfl) (.sl (T:=3) (xs:=[]) rfl (fun _=>rfl)) ⟨rfl,rfl⟩
 ·exact end1 rfl rfl (by kernel_rfl) (.sl (T:=3) (xs:=l.map iF) rfl (fun e=>absurd e h)) ⟨rfl,rfl⟩
instance {l:List Int}{H:List Row}{K:Bool→D→List Row→Prop}:Wa (a0m Tryz.prog (.fn 110 []) [.f (fI l)] H K) (l.length≤1000000∧K true (.f (fI l)) H):=⟨fun h=>a0O (p0C l h.1) rfl rfl rfl h.2⟩
theorem s0S (l:List Nd)(hl:l.length≤1000000):Con Tryz.prog 109 [.f (fG l)] [] fun r H'=>r = .sl 0 0 l.length∧H'=[.data 123 (l.flatMap Nd.cs)]:=by
 refine Con.walk good s0a (by simp) ?_
 unfold k0s
 simp only [a0J]
 repeat' (with_reducible first|refine Wa.h ?_|refine Ws.h ?_|refine Wb.h fun K hK=>?_|(refine hK _ ?_;clear hK K)|refine Wq.h ?_ ?_<;>intro h|((fail_if_success refine Wz.h ?_);first|simp (disch:=omega) only [↓LD,LA,a0A,seval,LSt,f1m]|(refine And.intro ?_ ?_;omega)|fail))
 ·obtain rfl:=List.eq_nil_of_length_eq_zero h
  refine HS.view ((View.void 123).trans (View.slot 2 (.sl 0 0 0) (.no (by simp)))) ?_
  repeat' (with_reducible first|refine Wx.h ?_|fail)
  exact endA rfl rfl ⟨rfl,rfl⟩
 ·obtain rfl:=List.eq_nil_of_length_eq_zero h
  repeat' (with_reducible first|refine Wx.h ?_|fail)
  exact endA rfl rfl ⟨rfl,rfl⟩
 ·repeat' (with_reducible first|refine Wx.h ?_|fail)
  exact endG rfl rfl (ef:=⟨.sl 0 0 l.length,[],[.data 123 (l.flatMap Nd.cs)]⟩) (by kernel_rfl) ⟨rfl,rfl⟩
instance {l:List Nd}{H:List Row}{K:Bool→D→List Row→Prop}:Wa (a0m Tryz.prog (.fn 109 []) [.f (fG l)] H K) (l.length≤1000000∧K true (.sl H.length 0 l.length) (H++[.data 123 (l.flatMap Nd.cs)])):=⟨fun h=>y0B (s0S l h.1) rfl rfl (fun _=>rfl) h.2⟩
theorem d1c {α:Type}{xs:List α}{i:Nat}{x:α}(h:xs[i]?=some x):xs.set i x=xs:=by
 apply List.ext_getElem?
 intro j
 rw [List.getElem?_set]
 split
 ·rename_i e;subst e
  have:=(List.getElem?_eq_some_iff.1 h).1
  rw [if_pos this,h]
 ·rfl
def evBL (e:Ev):Row:=.box 73 [D.int e.id,D.int e.ver,D.int e.time,D.int e.ty,D.int e.node,D.int e.n,.f (.v (.string (BB e.name))),.f (fY e.data),.sl 1 0 e.defs.length]
def evN:Row:=.box 73 [jI,jI,jI,jI,jI,jI,.f (.v (.string ⟨#[]⟩)),jN,jN]
theorem p0Z (e:Ev)(hf:FitN e.defs)(hl:e.defs.length≤1000000)(hd:e.data.length≤1000000):Con Tryz.prog 68 [evD e] [] fun r H'=>r=evD e∧H'=[]:=by
 refine Con.walk good y0a (by simp) ?_
 unfold s0q evD
 simp only [a0J]
 repeat' (with_reducible first|refine Wx.h ?_|refine We.h fun K hK=>?_|(refine hK _ _ _ _ ?_;clear hK K;try clear hM M)|refine Wb.h fun K hK=>?_|(refine hK _ ?_;clear hK K)|(refine Wy.h ?_ ?_;kernel_rfl)|((fail_if_success refine Wz.h ?_);first|simp (disch:=omega) only [↓LD,LA,a0A,seval]|(refine And.intro ?_ ?_;omega)|fail))
 obtain ⟨id,ver,time,ty,node,n,name,data,defs⟩:=e
 dsimp only at hf hl hd ⊢
 refine HS.loopG [1,2,13,14,15] (fun k:Nat=>⟨frm 32 [(1,.pt 0 0),(2,.pt 2 0),(13,.sl 1 0 defs.length),(14,D.int defs.length),(15,D.int k)],[evBL ⟨id,ver,time,ty,node,n,name,data,defs⟩,.data 123 (defs.flatMap Nd.cs),evN],[]⟩)
  (fun k=>k≤defs.length) (fun k=>defs.length-k) 0 (by kernel_rfl) (Nat.zero_le _) ?_
 rintro k hk
 by_cases hkl:k<defs.length
 ·have hg:=hf _ (a0M hkl)
  repeat' (with_reducible first|refine Wx.h ?_|refine We.h fun K hK=>?_|(refine hK _ _ _ _ ?_;clear hK K;try clear hM M)|refine Wb.h fun K hK=>?_|(refine hK _ ?_;clear hK K)|(refine Wy.h ?_ ?_;kernel_rfl)|refine Wq.h ?_ ?_<;>intro h<;>try (exfalso;omega)|((fail_if_success refine Wz.h ?_);first|simp (disch:=omega) only [↓LD,LA,a0A,seval,evBL,evN,b0o,f1m]|(refine And.intro ?_ ?_;omega)|fail))
  rw [d1c (by rw [b0o hkl])]
  exact Next.mk (k+1) (by kernel_rfl) (by omega) (by omega)
 ·repeat' (with_reducible first|refine Wx.h ?_|refine Wb.h fun K hK=>?_|(refine hK _ ?_;clear hK K)|refine Wq.h ?_ ?_<;>intro h<;>try (exfalso;omega)|((fail_if_success refine Wz.h ?_);simp (disch:=omega) only [↓LD,LA,a0A,seval,evBL,evN]))
  exact RetS.still (ds:=[.ag [D.int id,D.int ver,D.int time,D.int ty,D.int node,D.int n,.f (.v (.string (BB name))),.f (fY data),.sl 1 0 defs.length]]) (by kernel_rfl) (by kernel_rfl)
   (.ags (.cons .f (.cons .f (.cons .f (.cons .f (.cons .f (.cons .f (.cons .f (.cons .f (.cons (.sl (T:=123) (xs:=defs.flatMap Nd.cs) rfl (fun e=>by rw [List.eq_nil_of_length_eq_zero e];try rfl)) .nil)))))))))) ⟨rfl,rfl⟩
instance {e:Ev}{H:List Row}{K:D→List Row→Prop}:Wa (a0T Tryz.prog (.fn 68 []) [.ag [.f (.v (.int .i64 e.id)),.f (.v (.int .i64 e.ver)),.f (.v (.int .i64 e.time)),.f (.v (.int .i64 e.ty)),.f (.v (.int .i64 e.node)),.f (.v (.int .i64 e.n)),.f (.v (.string (BB e.name))),.f (fY e.data),.f (fG e.defs)]] H K)
  ((FitN e.defs∧e.defs.length≤1000000∧e.data.length≤1000000)∧K (evD e) H) :=
 ⟨fun h=>a0C (p0Z e h.1.1 h.1.2.1 h.1.2.2) rfl rfl rfl h.2⟩
structure FitS (s:S12):Prop where
 defs:FitN s.defs∧s.defs.length≤1000000
 nodes:s.nodes.length≤1000000
 ndata:∀ x∈s.nodes,x.data.length≤1000000
 tms:s.tms.length≤1000000
 sgs:s.sgs.length≤1000000
 sdata:∀ x∈s.sgs,x.data.length≤1000000
def stD (s:S12):D:=.ag [D.int s.id,D.int s.ver,D.int s.time,D.int s.closed,D.bool s.cancel,.f (fG s.defs),.f (fNn s.nodes),.f (fTm s.tms),.f (fSg s.sgs)]
def stL (a b c:Nat)(s:S12):List D:=[D.int s.id,D.int s.ver,D.int s.time,D.int s.closed,D.bool s.cancel,.f (fG s.defs),.sl a 0 s.nodes.length,.sl b 0 s.tms.length,.sl c 0 s.sgs.length]
def rN (l:List Nn):Row:=.data 158 (l.flatMap Nn.cs)
def rT (l:List Tm):Row:=.data 180 (l.flatMap Tm.cs)
def rS (l:List Sg):Row:=.data 106 (l.flatMap Sg.cs)
def S12.cs (s:S12):List F:=[iF s.id,iF s.ver,iF s.time,iF s.closed,bF s.cancel,fG s.defs,fNn s.nodes,fTm s.tms,fSg s.sgs]
def cntL (l:List Nn)(k:Int):Nat:=l.countP fun x=>decide (x.st=k)
theorem i0J (s:S12)(k:Int)(hl:s.nodes.length≤1000000):Con Tryz.prog 162 [.rf s.cs,D.int k] [] fun r H'=>r=D.int (cntL s.nodes k)∧H'=[]:=by
 obtain ⟨id,ver,time,closed,cancel,defs,nodes,tms,sgs⟩:=s
 dsimp only at hl ⊢
 refine Con.walk good r0P (by simp) ?_
 unfold i0w
 simp only [a0J]
 repeat' (with_reducible first|refine Wx.h ?_|refine Wb.h fun K hK=>?_|(refine hK _ ?_;clear hK K)|((fail_if_success refine Wz.h ?_);simp (disch:=omega) only [↓LD,LA,a0A,seval,LSt,S12.cs]))
 refine HS.loopG [1,5,11,12,13] (fun i:Nat=>⟨frm 25 [(1,D.int k),(5,D.int (cntL (nodes.take i) k)),(11,.f (fNn nodes)),(12,D.int nodes.length),(13,D.int i)],[],[]⟩)
  (fun i=>i≤nodes.length) (fun i=>nodes.length-i) 0 (by kernel_rfl) (Nat.zero_le _) ?_
 rintro i hi
 by_cases hil:i<nodes.length
 ·have hc:(cntL (nodes.take i) k:Nat)≤i:=Nat.le_trans (List.countP_le_length) (by simp;omega)
  have hs:cntL (nodes.take (i+1)) k=cntL (nodes.take i) k+(if (gt nodes i).st=k then 1 else 0):=by
   rw [List.take_succ_eq_append_getElem hil,cntL,List.countP_append,←a0v hil]
   simp [cntL]
  repeat' (with_reducible first|refine Wx.h ?_|refine Wb.h fun K hK=>?_|(refine hK _ ?_;clear hK K)|refine Wq.h ?_ ?_<;>intro h<;>try (exfalso;omega)|((fail_if_success refine Wz.h ?_);first|simp (disch:=omega) only [↓LD,LA,a0A,seval,LSt,c0v,Nn.cs,-a0A]|(refine And.intro ?_ ?_;omega)|fail))
  ·refine Next.mk (i+1) (by rw [hs,if_pos h];kernel_rfl) (by omega) (by omega)
  ·refine Next.mk (i+1) (by rw [hs,if_neg h];kernel_rfl) (by omega) (by omega)
 ·repeat' (with_reducible first|refine Wx.h ?_|refine Wb.h fun K hK=>?_|(refine hK _ ?_;clear hK K)|refine Wq.h ?_ ?_<;>intro h<;>try (exfalso;omega)|((fail_if_success refine Wz.h ?_);simp (disch:=omega) only [↓LD,LA,a0A,seval]))
  refine end1 rfl rfl (by kernel_rfl) .f ⟨?_,rfl⟩
  rw [List.take_of_length_le (by omega)];try rfl
def strB (l:Bs):Row:=.box 9 [.f (.v (.string (BB l)))]
theorem l0N (l:List Tm)(g:FuncId)(caps:List D)(H:List Row)(p:Tm→Bool)(hl:l.length≤1000000)
  (hf:∀ x∈l,Con Tryz.prog g (.ag (x.cs.map .f) :: caps) H fun r H'=>r=D.bool (p x)∧H'=H):Con Tryz.prog 181 [.f (fTm l),.fn g caps] H fun r H'=>r=D.int (idxF p 0 l)∧H'=H:=by
 refine Con.walk good i0Y (by simp) ?_
 unfold e0q
 simp only [a0J]
 repeat' (with_reducible first|refine Wx.h ?_|refine Wb.h fun K hK=>?_|(refine hK _ ?_;clear hK K)|((fail_if_success refine Wz.h ?_);simp (disch:=omega) only [↓LD,LA,a0A,seval,LSt]))
 refine HS.loopP (fun x:Nat=>[(0,.f (fTm l)),(1,.fn g caps),(7,D.int l.length),(8,D.int x)]) (fun _=>H)
  (fun x=>x≤l.length∧idxF p 0 l=idxF p x (l.drop x)) (fun x=>l.length-x) 0 rfl (by kernel_rfl) ⟨Nat.zero_le _,rfl⟩ ?_
 rintro k ⟨hk,hr⟩
 repeat' (with_reducible first|refine Wx.h ?_|refine Wb.h fun K hK=>?_|(refine hK _ ?_;clear hK K)|refine Wq.h ?_ ?_<;>intro h|((fail_if_success refine Wz.h ?_);first|simp (disch:=omega) only [↓LD,LA,a0A,seval,LSt,h0v,-a0A]|(refine And.intro ?_ ?_;omega)|fail))
 rotate_left
 ·refine endA rfl rfl ⟨congrArg D.int ?_,rfl⟩
  rw [hr,List.drop_of_length_le (by omega)];try rfl
 refine a0s (hf _ (a0M (by omega))) ?_
 rintro _ H' ⟨rfl,hH⟩
 rw [hH];clear hH H'
 repeat' (with_reducible first|refine Wx.h ?_|refine Wb.h fun K hK=>?_|(refine hK _ ?_;clear hK K)|refine Wq.h ?_ ?_<;>intro h|((fail_if_success refine Wz.h ?_);simp (disch:=omega) only [↓LD,LA,a0A,seval,D.bool]))
 ·refine endA rfl rfl ⟨congrArg D.int ?_,rfl⟩
  rw [hr,a0I (by omega),idxF,if_pos h]
 ·refine NextP.mk (k+1) rfl (by kernel_rfl) ?_ ?_
  ·refine ⟨by omega,?_⟩
   rw [hr,a0I (by omega),idxF,if_neg (by simp [h])]
  ·omega
theorem l0K (l:List Sg)(g:FuncId)(caps:List D)(H:List Row)(p:Sg→Bool)(hl:l.length≤1000000)
  (hf:∀ x∈l,Con Tryz.prog g (.ag (x.cs.map .f) :: caps) H fun r H'=>r=D.bool (p x)∧H'=H):Con Tryz.prog 144 [.f (fSg l),.fn g caps] H fun r H'=>r=D.int (idxF p 0 l)∧H'=H:=by
 refine Con.walk good k0A (by simp) ?_
 unfold e0t
 simp only [a0J]
 repeat' (with_reducible first|refine Wx.h ?_|refine Wb.h fun K hK=>?_|(refine hK _ ?_;clear hK K)|((fail_if_success refine Wz.h ?_);simp (disch:=omega) only [↓LD,LA,a0A,seval,LSt]))
 refine HS.loopP (fun x:Nat=>[(0,.f (fSg l)),(1,.fn g caps),(7,D.int l.length),(8,D.int x)]) (fun _=>H)
  (fun x=>x≤l.length∧idxF p 0 l=idxF p x (l.drop x)) (fun x=>l.length-x) 0 rfl (by kernel_rfl) ⟨Nat.zero_le _,rfl⟩ ?_
 rintro k ⟨hk,hr⟩
 repeat' (with_reducible first|refine Wx.h ?_|refine Wb.h fun K hK=>?_|(refine hK _ ?_;clear hK K)|refine Wq.h ?_ ?_<;>intro h|((fail_if_success refine Wz.h ?_);first|simp (disch:=omega) only [↓LD,LA,a0A,seval,LSt,d1o,-a0A]|(refine And.intro ?_ ?_;omega)|fail))
 rotate_left
 ·refine endA rfl rfl ⟨congrArg D.int ?_,rfl⟩
  rw [hr,List.drop_of_length_le (by omega)];try rfl
 refine a0s (hf _ (a0M (by omega))) ?_
 rintro _ H' ⟨rfl,hH⟩
 rw [hH];clear hH H'
 repeat' (with_reducible first|refine Wx.h ?_|refine Wb.h fun K hK=>?_|(refine hK _ ?_;clear hK K)|refine Wq.h ?_ ?_<;>intro h|((fail_if_success refine Wz.h ?_);simp (disch:=omega) only [↓LD,LA,a0A,seval,D.bool]))
 ·refine endA rfl rfl ⟨congrArg D.int ?_,rfl⟩
  rw [hr,a0I (by omega),idxF,if_pos h]
 ·refine NextP.mk (k+1) rfl (by kernel_rfl) ?_ ?_
  ·refine ⟨by omega,?_⟩
   rw [hr,a0I (by omega),idxF,if_neg (by simp [h])]
  ·omega
theorem g0b (l:List Sg)(g:FuncId)(caps:List D)(H:List Row)(p:Sg→Bool)(hl:l.length≤1000000)
  (hf:∀ x∈l,Con Tryz.prog g (.ag (x.cs.map .f) :: caps) H fun r H'=>r=D.bool (p x)∧H'=H):Con Tryz.prog 101 [.f (fSg l),.fn g caps] H fun r H'=>r=D.bool (l.any p)∧H'=H:=by
 refine Con.walk good f0b (by simp) ?_
 unfold d0Y
 simp only [a0J]
 repeat' (with_reducible first|refine Wx.h ?_|refine Wb.h fun K hK=>?_|(refine hK _ ?_;clear hK K)|((fail_if_success refine Wz.h ?_);simp (disch:=omega) only [↓LD,LA,a0A,seval]))
 refine a0s (l0K l g caps H p hl hf) ?_
 rintro _ H' ⟨rfl,hH⟩
 rw [hH];clear hH H'
 repeat' (with_reducible first|refine Wx.h ?_|refine Wb.h fun K hK=>?_|(refine hK _ ?_;clear hK K)|refine Wq.h ?_ ?_<;>intro h|((fail_if_success refine Wz.h ?_);simp (disch:=omega) only [↓LD,LA,a0A,seval,D.int]))
 all_goals
  refine endA rfl rfl ⟨congrArg D.bool ?_,rfl⟩
  rw [←g0C p 0 l];simp;omega
theorem u0X (x:Tm)(nm:Bs):Con Tryz.prog 182 [.ag (x.cs.map .f),.pt 0 0] [strB nm] fun r H'=>r=D.bool (decide (x.name=nm))∧H'=[strB nm]:=by
 refine Con.walk good q0f (by simp) ?_
 unfold j0L Tm.cs strB
 simp only [a0J,List.map]
 repeat' (with_reducible first|refine Wx.h ?_|refine Wb.h fun K hK=>?_|(refine hK _ ?_;clear hK K)|refine Wq.h ?_ ?_<;>intro h|((fail_if_success refine Wz.h ?_);simp (disch:=omega) only [↓LD,LA,a0A,seval]))
 all_goals (refine end1 rfl rfl (by kernel_rfl) .f ⟨congrArg D.bool ?_,rfl⟩;simp [h])
theorem a1D (x:Sg)(nm:Bs):Con Tryz.prog 102 [.ag (x.cs.map .f),.pt 0 0] [strB nm] fun r H'=>r=D.bool (decide (x.name=nm))∧H'=[strB nm]:=by
 refine Con.walk good y0v (by simp) ?_
 unfold r0W Sg.cs strB
 simp only [a0J,List.map]
 repeat' (with_reducible first|refine Wx.h ?_|refine Wb.h fun K hK=>?_|(refine hK _ ?_;clear hK K)|refine Wq.h ?_ ?_<;>intro h|((fail_if_success refine Wz.h ?_);simp (disch:=omega) only [↓LD,LA,a0A,seval]))
 all_goals (refine end1 rfl rfl (by kernel_rfl) .f ⟨congrArg D.bool ?_,rfl⟩;simp [h])
def tmI (l:List Tm)(nm:Bs):Int:=idxF (fun x:Tm=>decide (x.name=nm)) 0 l
def c0s (l:List Sg)(nm:Bs):Bool:=l.any fun x=>decide (x.name=nm)
theorem y0w (s:S12)(nm:Bs)(hl:s.tms.length≤1000000):Con Tryz.prog 161 [.rf s.cs,.f (.v (.string (BB nm)))] [] fun r H'=>r=D.int (tmI s.tms nm)∧H'=[]:=by
 obtain ⟨id,ver,time,closed,cancel,defs,nodes,tms,sgs⟩:=s
 dsimp only at hl ⊢
 refine Con.walk good u0C (by simp) ?_
 unfold n0b
 simp only [a0J]
 repeat' (with_reducible first|refine Wx.h ?_|refine Wb.h fun K hK=>?_|(refine hK _ ?_;clear hK K)|((fail_if_success refine Wz.h ?_);simp (disch:=omega) only [↓LD,LA,a0A,seval,LSt,S12.cs]))
 refine a0s (l0N tms _ _ _ (fun x:Tm=>decide (x.name=nm)) hl (fun x _=>u0X x nm)) ?_
 rintro _ _ ⟨rfl,rfl⟩
 repeat' (with_reducible first|refine Wx.h ?_|(refine hK _ ?_;clear hK K)|((fail_if_success refine Wz.h ?_);simp (disch:=omega) only [↓LD,LA,a0A,seval]))
 exact end1 rfl rfl (by kernel_rfl) .f ⟨rfl,rfl⟩
theorem u0e (s:S12)(nm:Bs)(hl:s.sgs.length≤1000000):Con Tryz.prog 65 [stD s,.f (.v (.string (BB nm)))] [] fun r H'=>r=D.bool (c0s s.sgs nm)∧H'=[]:=by
 obtain ⟨id,ver,time,closed,cancel,defs,nodes,tms,sgs⟩:=s
 dsimp only at hl ⊢
 refine Con.walk good a1b (by simp) ?_
 unfold u0h stD
 simp only [a0J]
 repeat' (with_reducible first|refine Wx.h ?_|refine Wb.h fun K hK=>?_|(refine hK _ ?_;clear hK K)|((fail_if_success refine Wz.h ?_);simp (disch:=omega) only [↓LD,LA,a0A,seval,LSt,S12.cs]))
 refine a0D (g0b sgs _ [.pt 0 0] [strB nm] (fun x:Sg=>decide (x.name=nm)) hl (fun x _=>a1D x nm)) [1] (by kernel_rfl) rfl rfl ?_
 rintro _ _ ⟨rfl,rfl⟩
 simp (disch:=omega) only [↓LD,LA,a0A,seval]
 repeat' (with_reducible first|refine Wx.h ?_|(refine hK _ ?_;clear hK K)|((fail_if_success refine Wz.h ?_);simp (disch:=omega) only [↓LD,LA,a0A,seval]))
 exact end1 rfl rfl (by kernel_rfl) .f ⟨rfl,rfl⟩
theorem g0N {done:List Bool}:∀ {k:Nat} {ds:List Nd} {x:Int},x∈rdy done k ds→(k:Int)≤x
 | k,[],x,h=>by simp [rdy] at h
 | k,d :: ds,x,h=>by
  simp only [rdy] at h
  split at h
  ·rcases List.mem_cons.1 h with rfl|h
   ·exact Int.le_refl _
   ·have:=g0N h;omega
  ·have:=g0N h;omega
theorem p0L {ds:List Nd}{done:List Bool}{x:Int}(h:x∈b0s ds done):0≤x:=by
 unfold b0s at h
 split at h
 ·have:=g0N h;omega
 ·cases h
theorem k0d {done:List Bool}:∀ (k:Nat) (ds:List Nd),(rdy done k ds).length≤ds.length
 | _,[]=>by simp [rdy]
 | k,d :: ds=>by
  have:=k0d (done:=done) (k+1) ds
  simp only [rdy];split<;>simp<;>omega
theorem k0U (ds:List Nd)(done:List Bool):(b0s ds done).length≤ds.length:=by
 unfold b0s;split
 ·exact k0d 0 ds
 ·simp
instance {ds:List Nd}{done:List Bool}{H:List Row}{K:D→List Row→Prop}[hf:Kn (Fit ds)]:Wa (a0T Tryz.prog (.fn 180 []) [.f (fG ds),.f (fB done)] H K) (done.length<140737488355328∧K (.f (fI (b0s ds done))) H) :=
 ⟨fun h=>a0C (t0h ds done hf.h h.1) rfl rfl rfl h.2⟩
def a0n (l:List Nn):List Bool:=l.map fun x=>decide (x.st=2)
def wtB (l:List Nn)(k:Int):Bool:=decide (k<l.length)&&decide ((gt l k.toNat).st=0)
def c0I (s:S12):List Int:=if s.closed≠0∨s.cancel=true then [] else (b0s s.defs (a0n s.nodes)).filter (wtB s.nodes)
def dn (l:List Nn)(k:Nat):List Bool:=a0n (l.take k)++List.replicate (l.length-k) false
theorem f1i {l:List Nn}{k:Nat}(h:k≤l.length):(dn l k).length=l.length:=by simp [dn,a0n];omega
theorem b1y {l:List Nn}{k:Nat}(h:k<l.length):(dn l k).set k (decide ((gt l k).st=2))=dn l (k+1):=by
 unfold dn a0n
 rw [List.take_succ_eq_append_getElem h,List.map_append,show l.length-k=(l.length-(k+1))+1 by omega,List.replicate_succ,List.set_append_right _ _ (by simp;omega)]
 simp [Nat.min_eq_left (Nat.le_of_lt h),a0v h]
theorem e1r {l:List Nn}:dn l l.length=a0n l:=by simp [dn]
def stF (s:S12):Row:=.box 65 [D.int s.id,D.int s.ver,D.int s.time,D.int s.closed,D.bool s.cancel,.f (fG s.defs),.f (fNn s.nodes),.f (fTm s.tms),.f (fSg s.sgs)]
theorem e0f {g:List Nn}{k:Nat}(hk:k<g.length):((g.flatMap Nn.cs).drop (k*4)).take 4=Nn.cs (gt g k):=i0r d0a hk
theorem g1k (s:S12)(hf:Fit s.defs)(hl:s.nodes.length≤1000000):Con Tryz.prog 160 [stD s] [] fun r H'=>r = .f (fI (c0I s))∧H'=[]:=by
  obtain ⟨id,ver,time,closed,cancel,defs,nodes,tms,sgs⟩:=s
  dsimp only at hf hl ⊢
  haveI:Kn (Fit defs):=⟨hf⟩
  refine Con.walk good i0W (by simp) ?_
  unfold g0i
  simp only [stD,stL]
  simp only [a0J]
  repeat' (with_reducible first|refine Wx.h ?_|refine Wb.h fun K hK=>?_|(refine hK _ ?_;clear hK K)|refine Wq.h ?_ ?_<;>intro h|((fail_if_success refine Wz.h ?_);first|simp (disch:=omega) only [↓LD,LA,a0A,seval,LSt]|(refine And.intro ?_ ?_;omega)|fail))
  all_goals try (refine end1 rfl rfl (by kernel_rfl) .nil ⟨congrArg D.f ?_,rfl⟩;first|(rw [c0I,if_pos (.inl (by assumption))];rfl)|(rw [c0I,if_pos (.inr (by assumption))];rfl))
  have hr:c0I ⟨id,ver,time,closed,cancel,defs,nodes,tms,sgs⟩=(b0s defs (a0n nodes)).filter (wtB nodes):=by
    rw [c0I,if_neg];simp_all
  rw [h0z]
  refine HS.loopG [1,3,21,22,23] (fun k:Nat=>⟨frm 64 [(1,.pt 0 0),(3,.sl 1 0 nodes.length),(21,.f (fNn nodes)),(22,D.int nodes.length),(23,D.int k)],[]++[stF ⟨id,ver,time,closed,cancel,defs,nodes,tms,sgs⟩,.data 4 ((dn nodes k).map bF)],[]⟩)
    (fun k=>k≤nodes.length) (fun k=>nodes.length-k) 0 (by kernel_rfl) (Nat.zero_le _) ?_
  rintro k hk
  by_cases hkl:k<nodes.length
  · have hdl:=f1i hk
    repeat' (with_reducible first|refine Wx.h ?_|refine Wb.h fun K hK=>?_|(refine hK _ ?_;clear hK K)|refine Wq.h ?_ ?_<;>intro h<;>try (exfalso;omega)|((fail_if_success refine Wz.h ?_);first|simp (disch:=omega) only [↓LD,LA,a0A,seval,LSt,stF,stL,rN,c0v,e0f,b0v,a0k,Nn.cs,List.length_map,hdl,List.cons_append,List.nil_append,-a0A]|(refine And.intro ?_ ?_;omega)|fail))
    all_goals
      have hst:=b1y hkl
      first|rw [decide_eq_true h] at hst|rw [decide_eq_false h] at hst
      rw [hst]
      exact Next.mk (k+1) (by kernel_rfl) (by omega) (by omega)
  obtain rfl:k=nodes.length:=by omega
  rw [e1r]
  have hdl:(a0n nodes).length=nodes.length:=by simp [a0n]
  refine HS.view (View.fzd 3 (k:=1) (b:=1) (z:=[.bool false]) rfl rfl (by kernel_rfl) (by simp [a0n]) (by omega) (by omega)) ?_
  rw [show F.s ((a0n nodes).map bF) nodes.length=fB (a0n nodes) by rw [fB,hdl]]
  repeat' (with_reducible first|refine Wx.h ?_|refine Wb.h fun K hK=>?_|(refine hK _ ?_;clear hK K)|refine Wq.h ?_ ?_<;>intro h<;>try (exfalso;omega)|((fail_if_success refine Wz.h ?_);first|simp (disch:=omega) only [↓LD,LA,a0A,seval,LSt,stF,stL,hdl,List.cons_append,List.nil_append]|(refine And.intro ?_ ?_;omega)|fail))
  have hpos:∀ x∈b0s defs (a0n nodes),0≤x:=fun x hx=>p0L hx
  have hlen:(b0s defs (a0n nodes)).length<1000:=Nat.lt_of_le_of_lt (k0U _ _) hf.1
  generalize b0s defs (a0n nodes)=L at *
  refine HS.view (View.void 3) ?_
  refine HS.view (View.slot 6 (.sl 2 0 0) (.no (by show 2<2+1;omega))) ?_
  refine HS.loopG [1,6,38,39,40] (fun x:Nat × List Int=>⟨frm 64 [(1,.pt 0 0),(6,.sl 1 0 x.2.length),(38,.f (fI L)),(39,D.int L.length),(40,D.int x.1)],[]++[stF ⟨id,ver,time,closed,cancel,defs,nodes,tms,sgs⟩,.data 3 (x.2.map iF)],[]⟩)
    (fun x=>x.1≤L.length∧x.2.length≤x.1∧L.filter (wtB nodes)=x.2++(L.drop x.1).filter (wtB nodes)) (fun x=>L.length-x.1) (0,[]) (by kernel_rfl) ⟨Nat.zero_le _,Nat.le_refl _,rfl⟩ ?_
  rintro ⟨i,out⟩ ⟨hi,ho,hF⟩
  dsimp only at hi ho hF
  by_cases hil:i<L.length
  · have hp:=hpos _ (a0M hil)
    rw [a0I hil] at hF
    repeat' (with_reducible first|refine Wx.h ?_|refine Wb.h fun K hK=>?_|(refine hK _ ?_;clear hK K)|refine Wq.h ?_ ?_<;>intro h<;>try (exfalso;omega)|((fail_if_success refine Wz.h ?_);first|simp (disch:=omega) only [↓LD,LA,a0A,seval,LSt,stF,stL,rN,b0v,a0k,Nn.cs,List.cons_append,List.nil_append]|(refine And.intro ?_ ?_;omega)|fail))
    all_goals first
      | (have hw:wtB nodes (gt L i)=true:=by simp [wtB, *]
         rw [List.filter_cons_of_pos hw] at hF
         rw [show out.length+1=(out++[gt L i]).length by simp]
         exact Next.mk (i+1,out++[gt L i]) (by kernel_rfl) ⟨by dsimp only;omega,by simp;omega,by dsimp only;rw [hF];simp⟩ (by dsimp only;omega))
      | (have hw:¬ wtB nodes (gt L i)=true:=by simp [wtB, *]
         rw [List.filter_cons_of_neg hw] at hF
         exact Next.mk (i+1,out) (by kernel_rfl) ⟨by dsimp only;omega,by dsimp only;omega,hF⟩ (by dsimp only;omega))
  · repeat' (with_reducible first|refine Wx.h ?_|refine Wb.h fun K hK=>?_|(refine hK _ ?_;clear hK K)|refine Wq.h ?_ ?_<;>intro h<;>try (exfalso;omega)|((fail_if_success refine Wz.h ?_);simp (disch:=omega) only [↓LD,LA,a0A,seval,stF,stL,List.cons_append,List.nil_append]))
    refine end1 rfl rfl (by kernel_rfl) (.sl (T:=3) (xs:=out.map iF) rfl (fun e=>by rw [List.eq_nil_of_length_eq_zero e];try rfl)) ⟨?_,rfl⟩
    rw [hr,hF,show L.drop i=[] from List.drop_of_length_le (by omega),List.filter_nil,List.append_nil];try rfl
theorem t0H (s:S12)(hf:Fit s.defs)(hl:s.nodes.length≤1000000):Con Tryz.prog 160 [.ag (stL 0 1 2 s)] [rN s.nodes,rT s.tms,rS s.sgs] fun r H'=>r = .f (fI (c0I s))∧H'=[rN s.nodes,rT s.tms,rS s.sgs]:=by
  obtain ⟨id,ver,time,closed,cancel,defs,nodes,tms,sgs⟩:=s
  dsimp only at hf hl ⊢
  haveI:Kn (Fit defs):=⟨hf⟩
  refine Con.walk good i0W (by simp) ?_
  unfold g0i
  simp only [stD,stL]
  simp only [a0J]
  repeat' (with_reducible first|refine Wx.h ?_|refine Wb.h fun K hK=>?_|(refine hK _ ?_;clear hK K)|refine Wq.h ?_ ?_<;>intro h|((fail_if_success refine Wz.h ?_);first|simp (disch:=omega) only [↓LD,LA,a0A,seval,LSt]|(refine And.intro ?_ ?_;omega)|fail))
  all_goals try (refine end1 rfl rfl (by kernel_rfl) .nil ⟨congrArg D.f ?_,rfl⟩;first|(rw [c0I,if_pos (.inl (by assumption))];rfl)|(rw [c0I,if_pos (.inr (by assumption))];rfl))
  have hr:c0I ⟨id,ver,time,closed,cancel,defs,nodes,tms,sgs⟩=(b0s defs (a0n nodes)).filter (wtB nodes):=by
    rw [c0I,if_neg];simp_all
  rw [h0z]
  refine HS.loopG [1,3,21,22,23] (fun k:Nat=>⟨frm 64 [(1,.pt 3 0),(3,.sl 4 0 nodes.length),(21,.sl 0 0 nodes.length),(22,D.int nodes.length),(23,D.int k)],[rN nodes,rT tms,rS sgs]++[.box 65 (stL 0 1 2 ⟨id,ver,time,closed,cancel,defs,nodes,tms,sgs⟩),.data 4 ((dn nodes k).map bF)],[]⟩)
    (fun k=>k≤nodes.length) (fun k=>nodes.length-k) 0 (by kernel_rfl) (Nat.zero_le _) ?_
  rintro k hk
  by_cases hkl:k<nodes.length
  · have hdl:=f1i hk
    repeat' (with_reducible first|refine Wx.h ?_|refine Wb.h fun K hK=>?_|(refine hK _ ?_;clear hK K)|refine Wq.h ?_ ?_<;>intro h<;>try (exfalso;omega)|((fail_if_success refine Wz.h ?_);first|simp (disch:=omega) only [↓LD,LA,a0A,seval,LSt,stF,stL,rN,c0v,e0f,b0v,a0k,Nn.cs,List.length_map,hdl,List.cons_append,List.nil_append,-a0A]|(refine And.intro ?_ ?_;omega)|fail))
    all_goals
      have hst:=b1y hkl
      first|rw [decide_eq_true h] at hst|rw [decide_eq_false h] at hst
      rw [hst]
      exact Next.mk (k+1) (by kernel_rfl) (by omega) (by omega)
  obtain rfl:k=nodes.length:=by omega
  rw [e1r]
  have hdl:(a0n nodes).length=nodes.length:=by simp [a0n]
  refine HS.view (View.fzd 3 (k:=1) (b:=1) (z:=[.bool false]) rfl rfl (by kernel_rfl) (by simp [a0n]) (by omega) (by omega)) ?_
  rw [show F.s ((a0n nodes).map bF) nodes.length=fB (a0n nodes) by rw [fB,hdl]]
  repeat' (with_reducible first|refine Wx.h ?_|refine Wb.h fun K hK=>?_|(refine hK _ ?_;clear hK K)|refine Wq.h ?_ ?_<;>intro h<;>try (exfalso;omega)|((fail_if_success refine Wz.h ?_);first|simp (disch:=omega) only [↓LD,LA,a0A,seval,LSt,stF,stL,hdl,List.cons_append,List.nil_append]|(refine And.intro ?_ ?_;omega)|fail))
  have hpos:∀ x∈b0s defs (a0n nodes),0≤x:=fun x hx=>p0L hx
  have hlen:(b0s defs (a0n nodes)).length<1000:=Nat.lt_of_le_of_lt (k0U _ _) hf.1
  generalize b0s defs (a0n nodes)=L at *
  refine HS.view (View.void 3) ?_
  refine HS.view (View.slot 6 (.sl 5 0 0) (.no (by show 5<5+1;omega))) ?_
  refine HS.loopG [1,6,38,39,40] (fun x:Nat × List Int=>⟨frm 64 [(1,.pt 3 0),(6,.sl 4 0 x.2.length),(38,.f (fI L)),(39,D.int L.length),(40,D.int x.1)],[rN nodes,rT tms,rS sgs]++[.box 65 (stL 0 1 2 ⟨id,ver,time,closed,cancel,defs,nodes,tms,sgs⟩),.data 3 (x.2.map iF)],[]⟩)
    (fun x=>x.1≤L.length∧x.2.length≤x.1∧L.filter (wtB nodes)=x.2++(L.drop x.1).filter (wtB nodes)) (fun x=>L.length-x.1) (0,[]) (by kernel_rfl) ⟨Nat.zero_le _,Nat.le_refl _,rfl⟩ ?_
  rintro ⟨i,out⟩ ⟨hi,ho,hF⟩
  dsimp only at hi ho hF
  by_cases hil:i<L.length
  · have hp:=hpos _ (a0M hil)
    rw [a0I hil] at hF
    repeat' (with_reducible first|refine Wx.h ?_|refine Wb.h fun K hK=>?_|(refine hK _ ?_;clear hK K)|refine Wq.h ?_ ?_<;>intro h<;>try (exfalso;omega)|((fail_if_success refine Wz.h ?_);first|simp (disch:=omega) only [↓LD,LA,a0A,seval,LSt,stF,stL,rN,b0v,a0k,Nn.cs,List.cons_append,List.nil_append]|(refine And.intro ?_ ?_;omega)|fail))
    all_goals first
      | (have hw:wtB nodes (gt L i)=true:=by simp [wtB, *]
         rw [List.filter_cons_of_pos hw] at hF
         rw [show out.length+1=(out++[gt L i]).length by simp]
         exact Next.mk (i+1,out++[gt L i]) (by kernel_rfl) ⟨by dsimp only;omega,by simp;omega,by dsimp only;rw [hF];simp⟩ (by dsimp only;omega))
      | (have hw:¬ wtB nodes (gt L i)=true:=by simp [wtB, *]
         rw [List.filter_cons_of_neg hw] at hF
         exact Next.mk (i+1,out) (by kernel_rfl) ⟨by dsimp only;omega,by dsimp only;omega,hF⟩ (by dsimp only;omega))
  · repeat' (with_reducible first|refine Wx.h ?_|refine Wb.h fun K hK=>?_|(refine hK _ ?_;clear hK K)|refine Wq.h ?_ ?_<;>intro h<;>try (exfalso;omega)|((fail_if_success refine Wz.h ?_);simp (disch:=omega) only [↓LD,LA,a0A,seval,stF,stL,List.cons_append,List.nil_append]))
    refine end1 rfl rfl (by kernel_rfl) (.sl (T:=3) (xs:=out.map iF) rfl (fun e=>by rw [List.eq_nil_of_length_eq_zero e];try rfl)) ⟨?_,rfl⟩
    rw [hr,hF,show L.drop i=[] from List.drop_of_length_le (by omega),List.filter_nil,List.append_nil];try rfl
end Go.Proofs.YthjgmldnegaaiaaGreatDoor.Mir
