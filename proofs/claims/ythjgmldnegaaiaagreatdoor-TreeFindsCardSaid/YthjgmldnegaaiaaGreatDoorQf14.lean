/- Lemmas for the proof. No condition. -/
import Derived.Test.YthjgmldnegaaiaaGreatDoorQf13
import Derived.Lib.LaidTab
import Derived.MakeChecks
set_option linter.unusedVariables false
set_option linter.unusedSimpArgs false
namespace Go.Proofs.YthjgmldnegaaiaaGreatDoor.Mir
open Go Go.RowKit
set_option maxHeartbeats 4000000
abbrev Br:=List (List Ev)
def fBr (t:Br):F:=.s (t.map fEv) t.length
theorem w0A {g:Br}:slcS (.f (fBr g))=some g.length:=id rfl
theorem v0f {g:Br}{sz:Nat}{k:IntKind}{i:Int}{K:D→Prop}:idxS sz (.f (fBr g)) (.f (.v (.int k i))) K=((0≤i∧i<g.length)∧K (.rf ((g.map fEv).drop (i.toNat*sz)))):=id rfl
theorem m0M {P:Program}{H:List Row}{r off:Nat}{ds:List D}:c0o P H 1 (.pt r off) (.ag ds)=c0k P H 1 r off (.ag ds) H[r]?:=c0I
theorem k0m {H:List Row}{g:Br}{sz:Nat}:b0S H sz (.f (fBr g))=some (g.length,g.map fEv):=id rfl
theorem g1R:inf Tryz.prog 25=some (1,24,[.slice none 0 0]):=by kernel_rfl
theorem u0M {H:List Row}{E:TypeId}{t:Br}{h:Nat}(hh:h≤t.length):subS H 1 E (.f (fBr t)) 0 h=some (.f (fBr (t.take h))):=by
 rw [fBr,m0p,fBr,List.length_take,Nat.min_eq_left hh]
 simp [List.map_take]
theorem b1T {H:List Row}{E:TypeId}{t:Br}{h:Nat}:subS H 1 E (.f (fBr t)) h t.length=some (.f (fBr (t.drop h))):=by
 rw [fBr,m0p,fBr,List.length_drop,Nat.mul_one,Nat.mul_one,←List.map_drop,List.take_of_length_le (by simp)]
theorem LBr:type_of% @w0A∧type_of% @v0f∧type_of% @m0M:=⟨@w0A,@v0f,@m0M⟩
theorem d1j {l:Br}{x:List Ev}:l.map fEv++[fEv x]=(l++[x]).map fEv:=by rw [List.map_append];rfl
def a0i (l:List Im):Im:=if l.length=0 then ⟨0,0⟩ else gt l (l.length-1)
theorem z0A (l:List Im)(hl:l.length≤1000000):Con Tryz.prog 130 [.f (fIm l)] [] fun r H'=>r = .ag [D.int (a0i l).id,D.int (a0i l).ver]∧H'=[]:=by
 refine Con.walk good w0g (by simp) ?_
 unfold p0w
 simp only [a0I]
 have e1:((l.length:Int)-1).toNat=l.length-1:=by omega
 by_cases h:l.length=0
 ·rw [a0i,if_pos h]
  repeat' (with_reducible first|refine Wx.h ?_|refine Wb.h fun K hK=>?_|(refine hK _ ?_;clear hK K)|refine Wq.h ?_ ?_<;>intro h<;>try (exfalso;omega)|((fail_if_success refine Wz.h ?_);simp (disch:=omega) only [↓LD,LA,a0A,seval,LIm]))
  exact RetS.still (ds:=[.ag [jI,jI]]) (by kernel_rfl) (by kernel_rfl) (.ags (.cons .f (.cons .f .nil))) ⟨rfl,rfl⟩
 ·rw [a0i,if_neg h]
  have hk:l.length-1<l.length:=by omega
  repeat' (with_reducible first|refine Wx.h ?_|refine Wb.h fun K hK=>?_|(refine hK _ ?_;clear hK K)|refine Wq.h ?_ ?_<;>intro h<;>try (exfalso;omega)|((fail_if_success refine Wz.h ?_);first|simp (disch:=omega) only [↓LD,LA,a0A,seval,LIm,b0p,h0c,e1,Im.cs,List.map_cons,List.map_nil,-a0A]|(refine And.intro ?_ ?_;omega)|fail))
  generalize gt l (l.length-1)=x
  exact RetS.still (ds:=[.ag [D.int x.id,D.int x.ver]]) (by kernel_rfl) (by kernel_rfl) (.ags (.cons .f (.cons .f .nil))) ⟨rfl,rfl⟩
instance {l:List Im}{H:List Row}{K:D→List Row→Prop}[hl:Kn (l.length≤1000000)]:Wa (a0P Tryz.prog (.fn 130 []) [.f (fIm l)] H K) (K (.ag [.f (.v (.int .i64 (a0i l).id)),.f (.v (.int .i64 (a0i l).ver))]) H):=⟨fun h=>a0C (z0A l hl.h) rfl rfl rfl h⟩
def cmpI (a b:List Im):Int:=if (a0i a).ver<(a0i b).ver then -1 else if (a0i a).ver≠(a0i b).ver then 1 else if (a0i a).id<(a0i b).id then -1 else if (a0i b).id<(a0i a).id then 1 else 0
theorem r0l (a b:List Im)(ha:a.length≤1000000)(hb:b.length≤1000000):Con Tryz.prog 87 [.f (fIm a),.f (fIm b)] [] fun r H'=>r=D.int (cmpI a b)∧H'=[]:=by
 haveI:Kn (a.length≤1000000):=⟨ha⟩
 haveI:Kn (b.length≤1000000):=⟨hb⟩
 refine Con.walk good o0I (by simp) ?_
 unfold g0c
 simp only [a0I]
 repeat' (with_reducible first|refine Wx.h ?_|refine Wb.h fun K hK=>?_|(refine hK _ ?_;clear hK K)|(refine wT ?_ ?_;assumption)|(refine wF ?_ ?_;assumption)|refine Wq.h ?_ ?_<;>intro h|((fail_if_success refine Wz.h ?_);simp (disch:=omega) only [↓LD,LA,a0A,seval]))
 all_goals
  refine end1 rfl rfl (by kernel_rfl) .f ⟨congrArg (fun i:Int=>D.f (.v (.int .i64 i))) ?_,rfl⟩
  unfold cmpI
  (repeat' split)<;>omega
instance {a b:List Im}{H:List Row}{K:D→List Row→Prop}[ha:Kn (a.length≤1000000)][hb:Kn (b.length≤1000000)]:Wa (a0P Tryz.prog (.fn 87 []) [.f (fIm a),.f (fIm b)] H K) (K (.f (.v (.int .i64 (cmpI a b)))) H):=⟨fun h=>a0C (r0l a b ha.h hb.h) rfl rfl rfl h⟩
theorem n0P:Con Tryz.prog 83 [jN] [] fun r H'=>r=D.bool true∧H'=[]:=by
 refine Con.walk good h0Q (by simp) ?_
 unfold d0z
 simp only [a0I]
 repeat' (with_reducible first|refine Wx.h ?_|refine Wb.h fun K hK=>?_|(refine hK _ ?_;clear hK K)|((fail_if_success refine Wz.h ?_);simp (disch:=omega) only [↓LD,LA,a0A,seval]))
 refine HS.loopG [0,2,3,4,5] (fun _:Unit=>⟨frm 55 [(5,jI),(4,jI),(3,jI),(2,D.bool false),(0,jN)],[],[]⟩) (fun _=>True) (fun _=>0) () (by kernel_rfl) trivial ?_
 rintro - -
 repeat' (with_reducible first|refine Wx.h ?_|refine Wb.h fun K hK=>?_|(refine hK _ ?_;clear hK K)|((fail_if_success refine Wz.h ?_);simp (disch:=omega) only [↓LD,LA,a0A,seval]))
 exact end1 rfl rfl (by kernel_rfl) .f ⟨rfl,rfl⟩
theorem o0Y (t:Br):Con Tryz.prog 84 [.ag [.f (fBr t)],jN] [] fun r H'=>r = .tp [jN,D.bool true]∧H'=[]:=by
 refine Con.walk good x0A (by simp) ?_
 unfold q0y
 simp only [a0I]
 repeat' (with_reducible first|refine Wx.h ?_|refine Wb.h fun K hK=>?_|(refine hK _ ?_;clear hK K)|((fail_if_success refine Wz.h ?_);simp (disch:=omega) only [↓LD,LA,a0A,seval,LBr]))
 refine RetS.still (ds:=[jN,D.bool true]) (by kernel_rfl) (by kernel_rfl) (.tps (.cons .f (.cons .f .nil))) ⟨rfl,rfl⟩
instance {H:List Row}{K:D→List Row→Prop}:Wa (a0P Tryz.prog (.fn 83 []) [jN] H K) (K (.f (.v (.bool true))) H):=⟨fun h=>a0C n0P rfl rfl rfl h⟩
instance {t:Br}{H:List Row}{K:D→List Row→Prop}:Wa (a0P Tryz.prog (.fn 84 []) [.ag [.f (fBr t)],jN] H K) (K (.tp [jN,.f (.v (.bool true))]) H):=⟨fun h=>a0C (o0Y t) rfl rfl rfl h⟩
abbrev jS:D:=.f (.v (.string ⟨#[]⟩))
structure TrK (t:Br):Prop where
 len:t.length≤8
 ok:∀ b∈t,BrOk b∧b≠[]
theorem BrOk.fitL {l:List Ev}(h:BrOk l):FitL l:=⟨by have:=h.len;omega,h.fit⟩
theorem g0q {H:List Row}{r n:Nat}{xs:List F}{A B:Br}{l:List Ev}(hr:H[r]?=some (.data 25 xs))(hx:xs=(A++l :: B).map fEv)(hn:n=(A++l :: B).length):Vw H (.tp [.ag [.sl r 0 n],D.bool true,jI]) (.tp [.ag [.f (fBr (A++l :: B))],D.bool true,jI]):=by
 subst hx;subst hn
 exact .tps (.cons (.ags (.cons (.sl hr (fun e=>absurd e (by simp))) .nil)) (.cons .f (.cons .f .nil)))
theorem BrOk.idL {l:List Ev}(h:BrOk l):IdL l:=⟨by have:=h.len;omega,fun ne=>by
 have:=(rightE_iff.1 (h.right (a0K (Nat.pos_of_ne_zero fun e=>ne (List.eq_nil_of_length_eq_zero e))))).2.1
 omega⟩
theorem BrOk.ofK {l:List Ev}(h:BrOk l):(ofL l).length≤1000000:=by have:=h.len;have:=e1x l;omega
theorem TrK.nil:TrK []:=⟨by decide,fun b h=>by simp at h⟩
theorem TrK.gt {t:Br}(h:TrK t){i:Nat}(hi:i<t.length):BrOk (gt t i)∧gt t i≠[]:=h.ok _ (a0K hi)
theorem v0x {H:List Row}{b e:D}(hb:Vw H b b)(he:Vw H e e):Vw H (.tp [.ag [jN],b,e]) (.tp [.ag [.f (fBr [])],b,e]):=.tps (.cons (.ags (.cons .nil .nil)) (.cons hb (.cons he .nil)))
theorem a1r {t:Br}{k:Nat}(hk:k<t.length):(t.map fEv)[k*1]?=some (fEv (gt t k)):=by rw [Nat.mul_one,List.getElem?_map,List.getElem?_eq_getElem hk,←b0P hk];rfl
noncomputable def badB (l b:List Ev):Bool:=!eqB (l.take (b0J l b)) (b.take (b0J l b))
def a0W (b:List Ev):Int:=(gt b (b.length-1)).ver
def posK (l:List Ev):Br→Nat
 | []=>0
 | b :: t=>if 0<cmpI (ofL b) (ofL l) then posK l t+1 else 0
theorem b1L {l:List Ev}:∀ {t:Br},posK l t≤t.length
 | []=>Nat.le_refl _
 | b :: t=>by
  have:=b1L (l:=l) (t:=t)
  rw [posK,List.length_cons];split<;>omega
noncomputable def addR (t:Br)(l:List Ev):Br × Bool × Int :=
 if l.length=0 then ([],false,1) else if t.any (badB l)=true then ([],false,1) else if t.any (begB l)=true then (t,false,0)
 else if (t.filter fun b=>!begB b l).any (fun b=>decide (a0W b=a0W l))=true then ([],false,1)
 else if 8≤(t.filter fun b=>!begB b l).length then ([],false,2)
 else ((t.filter fun b=>!begB b l).take (posK l (t.filter fun b=>!begB b l))++l :: (t.filter fun b=>!begB b l).drop (posK l (t.filter fun b=>!begB b l)),true,0)
theorem e1F {t:Br}{l:List Ev}(ht:TrK t)(hl:BrOk l):TrK (addR t l).1:=by
 unfold addR
 split
 ·exact TrK.nil
 split
 ·exact TrK.nil
 split
 ·exact ht
 split
 ·exact TrK.nil
 split
 ·exact TrK.nil
 ·rename_i hz _ _ _ h8
  have hk:=b1L (l:=l) (t:=t.filter fun b=>!begB b l)
  have hm:∀ b∈t.filter (fun b=>!begB b l),BrOk b∧b≠[]:=fun b hb=>ht.ok b (List.mem_filter.1 hb).1
  generalize (t.filter fun b=>!begB b l)=o at *
  refine ⟨by dsimp only;rw [List.length_append,List.length_cons,List.length_take,List.length_drop];omega,fun b hb=>?_⟩
  rcases List.mem_append.1 hb with hb|hb
  ·exact hm b (List.mem_of_mem_take hb)
  ·rcases List.mem_cons.1 hb with rfl|hb
   ·exact ⟨hl,fun e=>hz (by rw [e];rfl)⟩
   ·exact hm b (List.mem_of_mem_drop hb)
theorem i0i {α:Type}[Inhabited α]{t:List α}{p:α→Bool}{i:Nat}(hi:i<t.length)(h:t.any p=(t.drop i).any p):(p (gt t i)=true→t.any p=true)∧(p (gt t i)=false→t.any p=(t.drop (i+1)).any p):=by
 rw [a0G hi,List.any_cons] at h
 exact ⟨fun e=>by rw [h,e];rfl,fun e=>by rw [h,e];rfl⟩
set_option maxRecDepth 100000 in
theorem b1q (t:Br)(l:List Ev)(ht:TrK t)(hl:BrOk l):Con Tryz.prog 52 [.ag [.f (fBr t)],.ag [jS,jS,jN,.f (fEv l)]] [] fun r H'=>r = .tp [.ag [.f (fBr (addR t l).1)],D.bool (addR t l).2.1,D.int (addR t l).2.2]∧H'=[]:=by
 suffices hh:∀ Q:D→List Row→Prop,(∀ o b e,addR t l=(o,b,e)→Q (.tp [.ag [.f (fBr o)],D.bool b,D.int e]) [])→Con Tryz.prog 52 [.ag [.f (fBr t)],.ag [jS,jS,jN,.f (fEv l)]] [] Q from hh _ fun o b e h=>⟨by rw [h],rfl⟩
 intro Q hQ
 haveI:Kn (FitL l):=⟨hl.fitL⟩
 have hll:=hl.len
 have htl:=ht.len
 unfold addR at hQ
 refine Con.walk good a1W (by simp) ?_
 unfold w0C
 simp only [a0I]
 by_cases hz:(l.length:Int)=0
 ·have h1:=hQ [] false 1 (if_pos (by omega))
  repeat' (with_reducible first|refine Wx.h ?_|refine Wb.h fun K hK=>?_|(refine hK _ ?_;clear hK K)|(refine wT ?_ ?_;assumption)|((fail_if_success refine Wz.h ?_);simp (disch:=omega) only [↓LD,LA,a0A,seval,LEv,LBr,a0L]))
  exact RetS.still (ds:=[.ag [jN],D.bool false,D.int 1]) (by kernel_rfl) (by kernel_rfl) (v0x .f .f) h1
 rw [if_neg (by omega)] at hQ
 repeat' (with_reducible first|refine Wx.h ?_|refine Wb.h fun K hK=>?_|(refine hK _ ?_;clear hK K)|(refine wF ?_ ?_;assumption)|(refine Wy.h ?_ ?_;kernel_rfl)|refine Wq.h ?_ ?_<;>intro h<;>try (exfalso;omega)|((fail_if_success refine Wz.h ?_);first|simp (disch:=omega) only [↓LD,LA,a0A,seval,LEv,LBr,a0L]|(refine And.intro ?_ ?_;omega)|fail))
 refine a0J (j0M l hl.fitL.1 hl.fit) [4] (by kernel_rfl) rfl rfl ?_
 rintro _ _ ⟨rfl,rfl⟩
 simp (disch:=omega) only [↓LD,LA,a0A,seval,ren,List.getElem?_nil,rEv]
 rw [hl.fold]
 generalize (a0N s0 l).2=s
 obtain ⟨b1,b2,b3,b4,b5,b6,b7,b8,b9⟩:=s
 repeat' (with_reducible first|refine Wx.h ?_|refine Wb.h fun K hK=>?_|(refine hK _ ?_;clear hK K)|((fail_if_success refine Wz.h ?_);simp (disch:=omega) only [↓LD,LA,a0A,seval,LEv,LBr,a0L,rEv,stD]))
 refine HS.view (View.fzd 9 rfl rfl r0o a0L (by decide) (by decide)) ?_
 rw [show F.s (l.flatMap Ev.cs) l.length=fEv l from rfl]
 refine HS.loopG [2,4,5,6,9,12] (fun i:Nat=>⟨frm 176 [(2,.pt 0 0),(4,.pt 1 0),(5,D.bool false),(6,jI),(9,.f (fEv l)),(12,D.int i)],[.box 50 [.f (fBr t)],.box 50 [jN]],[]⟩) (fun i=>i≤t.length∧t.any (badB l)=(t.drop i).any (badB l)) (fun i=>t.length-i) 0 (by kernel_rfl) ⟨Nat.zero_le _,rfl⟩ ?_
 rintro i ⟨hi,hx⟩
 by_cases hil:i<t.length
 ·obtain ⟨ok,ne⟩:=ht.gt hil
  have hak:=f0q l (gt t i)
  haveI:Kn (FitL (gt t i)):=⟨ok.fitL⟩
  haveI:Kn (FitL ((gt t i).take (b0J l (gt t i)))):=⟨ok.fitL.take _⟩
  haveI:Kn (FitL (l.take (b0J l (gt t i)))):=⟨hl.fitL.take _⟩
  have hs1:∀ H:List Row,subS H 9 73 (.f (fEv l)) 0 (b0J l (gt t i))=some (.f (fEv (l.take (b0J l (gt t i))))):=fun H=>c0x hak.1
  have hs2:∀ H:List Row,subS H 9 73 (.f (fEv (gt t i))) 0 (b0J l (gt t i))=some (.f (fEv ((gt t i).take (b0J l (gt t i))))):=fun H=>c0x hak.2
  repeat' (with_reducible first|refine Wx.h ?_|refine Wb.h fun K hK=>?_|(refine hK _ ?_;clear hK K)|(refine Wy.h ?_ ?_;kernel_rfl)|refine Wq.h ?_ ?_<;>intro h<;>try (exfalso;omega)|((fail_if_success refine Wz.h ?_);first|simp (disch:=omega) only [↓LD,LA,a0A,seval,LEv,LBr,a0L,hs1,hs2,Int.toNat_natCast]|(refine And.intro ?_ ?_;omega)|fail))
  ·exact RetS.still (ds:=[.ag [jN],D.bool false,D.int 1]) (by kernel_rfl) (by kernel_rfl) (v0x .f .f) (hQ [] false 1 (if_pos ((i0i hil hx).1 (by unfold badB;assumption))))
  ·exact Next.mk (i+1) (by kernel_rfl) ⟨by omega,(i0i hil hx).2 (by unfold badB;assumption)⟩ (by omega)
 rw [hx,List.drop_of_length_le (by omega),if_neg (by simp)] at hQ
 repeat' (with_reducible first|refine Wx.h ?_|refine Wb.h fun K hK=>?_|(refine hK _ ?_;clear hK K)|refine Wq.h ?_ ?_<;>intro h<;>try (exfalso;omega)|((fail_if_success refine Wz.h ?_);simp (disch:=omega) only [↓LD,LA,a0A,seval,LBr]))
 clear hi hil hx
 refine HS.view (View.void 25) ?_
 refine HS.view (View.slot 14 (.sl 2 0 0) (.no (Nat.lt_succ_self 2))) ?_
 refine HS.loopG [2,4,5,6,9,14,15] (fun x:Nat × Br=>⟨frm 176 [(2,.pt 0 0),(4,.pt 1 0),(5,D.bool false),(6,jI),(9,.f (fEv l)),(14,.sl 2 0 x.2.length),(15,D.int x.1)],[.box 50 [.f (fBr t)],.box 50 [jN],.data 25 (x.2.map fEv)],[]⟩) (fun x=>x.1≤t.length∧x.2.length≤x.1∧t.any (begB l)=(t.drop x.1).any (begB l)∧(t.filter fun b=>!begB b l)=x.2++(t.drop x.1).filter fun b=>!begB b l) (fun x=>t.length-x.1) (0,[]) (by kernel_rfl) ⟨Nat.zero_le _,Nat.le_refl _,rfl,rfl⟩ ?_
 rintro ⟨i,out⟩ ⟨hi,ho,hx,hm⟩
 dsimp only at hi ho hx hm
 by_cases hil:i<t.length
 ·obtain ⟨ok,ne⟩:=ht.gt hil
  haveI:Kn (FitL (gt t i)):=⟨ok.fitL⟩
  have ha:=d1j (l:=out) (x:=gt t i)
  repeat' (with_reducible first|refine Wx.h ?_|refine Wb.h fun K hK=>?_|(refine hK _ ?_;clear hK K)|refine Wq.h ?_ ?_<;>intro h<;>try (exfalso;omega)|((fail_if_success refine Wz.h ?_);first|simp (disch:=omega) only [↓LD,LA,a0A,seval,LEv,LBr,a0L,List.length_map,ha]|(refine And.intro ?_ ?_;omega)|fail))
  ·exact RetS.still (ds:=[.ag [.f (fBr t)],D.bool false,jI]) (by kernel_rfl) (by kernel_rfl) (.tps (.cons (.ags (.cons .f .nil)) (.cons .f (.cons .f .nil)))) (hQ t false 0 (if_pos ((i0i hil hx).1 (by assumption))))
  ·exact Next.mk (i+1,out++[gt t i]) (by rw [show (out++[gt t i]).length=out.length+1 by simp];kernel_rfl) ⟨by dsimp only;omega,by simp;omega,(i0i hil hx).2 (by assumption),by rw [hm,a0G hil,List.filter_cons,if_pos (by assumption),List.append_assoc];rfl⟩ (by dsimp only;omega)
  ·exact Next.mk (i+1,out) (by kernel_rfl) ⟨by dsimp only;omega,by dsimp only;omega,(i0i hil hx).2 (by assumption),by rw [hm,a0G hil,List.filter_cons,if_neg (by rw [show (!begB (gt t i) l)=false by assumption];simp)]⟩ (by dsimp only;omega)
 rw [List.drop_of_length_le (by omega),List.filter_nil,List.append_nil] at hm
 rw [hx,List.drop_of_length_le (by omega),if_neg (by simp),hm] at hQ
 have htk:∀ b∈out,BrOk b∧b≠[]:=fun b hb=>ht.ok b (List.mem_filter.1 (hm ▸ hb)).1
 have hol:out.length≤8:=by omega
 repeat' (with_reducible first|refine Wx.h ?_|refine Wb.h fun K hK=>?_|(refine hK _ ?_;clear hK K)|refine Wq.h ?_ ?_<;>intro h<;>try (exfalso;omega)|((fail_if_success refine Wz.h ?_);simp (disch:=omega) only [↓LD,LA,a0A,seval,LBr]))
 clear hi hil ho hm hx
 refine HS.loopG [4,5,6,9,14,16] (fun i:Nat=>⟨frm 176 [(4,.pt 0 0),(5,D.bool false),(6,jI),(9,.f (fEv l)),(14,.sl 1 0 out.length),(16,D.int i)],[.box 50 [jN],.data 25 (out.map fEv)],[]⟩) (fun i=>i≤out.length∧out.any (fun b=>decide (a0W b=a0W l))=(out.drop i).any (fun b=>decide (a0W b=a0W l))) (fun i=>out.length-i) 0 (by kernel_rfl) ⟨Nat.zero_le _,rfl⟩ ?_
 rintro i ⟨hi,hx⟩
 by_cases hil:i<out.length
 ·obtain ⟨ok,ne⟩:=htk _ (a0K hil)
  have hbl:=ok.len
  have hb0:0<(gt out i).length:=Nat.pos_of_ne_zero fun e=>ne (List.eq_nil_of_length_eq_zero e)
  have e1:(((gt out i).length:Int)-1).toNat=(gt out i).length-1:=by omega
  have e2:((l.length:Int)-1).toNat=l.length-1:=by omega
  have e3:=a1r hil
  have e4:((i:Int)).toNat=i:=by omega
  have c1:=d0f (g:=gt out i) (k:=(gt out i).length-1) (by omega)
  have c2:=d0f (g:=l) (k:=l.length-1) (by omega)
  repeat' (with_reducible first|refine Wx.h ?_|refine Wb.h fun K hK=>?_|(refine hK _ ?_;clear hK K)|(refine Wy.h ?_ ?_;kernel_rfl)|refine Wq.h ?_ ?_<;>intro h<;>try (exfalso;omega)|((fail_if_success refine Wz.h ?_);first|simp (disch:=omega) only [↓LD,LA,a0A,seval,LEv,LBr,a0L,List.length_map,e1,e2,e3,e4,c1,c2,Ev.cs]|(refine And.intro ?_ ?_;omega)|fail))
  ·exact RetS.still (ds:=[.ag [jN],D.bool false,D.int 1]) (by kernel_rfl) (by kernel_rfl) (v0x .f .f) (hQ [] false 1 (if_pos ((i0i hil hx).1 (decide_eq_true (by assumption)))))
  ·exact Next.mk (i+1) (by kernel_rfl) ⟨by omega,(i0i hil hx).2 (decide_eq_false (by assumption))⟩ (by omega)
 rw [hx,List.drop_of_length_le (by omega),if_neg (by simp)] at hQ
 clear hx
 repeat' (with_reducible first|refine Wx.h ?_|refine Wb.h fun K hK=>?_|(refine hK _ ?_;clear hK K)|refine Wq.h ?_ ?_<;>intro h<;>try (exfalso;omega)|((fail_if_success refine Wz.h ?_);simp (disch:=omega) only [↓LD,LA,a0A,seval,LBr]))
 ·exact RetS.still (ds:=[.ag [jN],D.bool false,D.int 2]) (by kernel_rfl) (by kernel_rfl) (v0x .f .f) (hQ [] false 2 (if_pos (by omega)))
 rw [if_neg (by omega)] at hQ
 haveI:Kn (IdL l):=⟨hl.idL⟩
 haveI:Kn ((ofL l).length≤1000000):=⟨hl.ofK⟩
 clear hi hil
 refine HS.view (View.fzd 14 rfl rfl g1R (by simp) (by decide) (by decide)) ?_
 rw [show F.s (out.map fEv) out.length=fBr out from rfl]
 refine HS.loopG [4,5,6,9,14,17] (fun i:Nat=>⟨frm 176 [(4,.pt 0 0),(5,D.bool false),(6,jI),(9,.f (fEv l)),(14,.f (fBr out)),(17,D.int i)],[.box 50 [jN]],[]⟩) (fun i=>i≤out.length∧posK l out=i+posK l (out.drop i)) (fun i=>out.length-i) 0 (by kernel_rfl) ⟨Nat.zero_le _,(Nat.zero_add _).symm⟩ ?_
 rintro k ⟨hk,hP⟩
 have hs1:∀ H:List Row,subS H 1 25 (.f (fBr out)) 0 k=some (.f (fBr (out.take k))):=fun H=>u0M hk
 have hs2:∀ H:List Row,subS H 1 25 (.f (fBr out)) k out.length=some (.f (fBr (out.drop k))):=fun H=>b1T
 have hA:(out.take k).length=k:=by rw [List.length_take];omega
 have hB:(out.drop k).length=out.length-k:=List.length_drop
 have hfin:posK l out=k→Q (.tp [.ag [.f (fBr (out.take k++l :: out.drop k))],D.bool true,D.int 0]) []:=fun e=>hQ _ true 0 (by rw [e])
 have hP1:k<out.length→0<cmpI (ofL (gt out k)) (ofL l)→posK l out=k+1+posK l (out.drop (k+1)):=fun h e=>by rw [hP,a0G h,posK,if_pos e];omega
 have hP2:¬ k<out.length∨¬ 0<cmpI (ofL (gt out k)) (ofL l)→posK l out=k:=fun h=>by
  by_cases h1:k<out.length
  ·rw [hP,a0G h1,posK,if_neg (h.elim (fun e=>absurd h1 e) id)];rfl
  ·rw [hP,List.drop_of_length_le (by omega)];rfl
 clear hP
 generalize out.take k=A at *
 generalize out.drop k=B at *
 have hAl:(A.map fEv++[fEv l]).length=A.length+1:=by simp
 by_cases hil:k<out.length
 ·obtain ⟨ok,ne⟩:=htk _ (a0K hil)
  haveI:Kn (IdL (gt out k)):=⟨ok.idL⟩
  haveI:Kn ((ofL (gt out k)).length≤1000000):=⟨ok.ofK⟩
  have e3:=a1r hil
  repeat' (with_reducible first|refine Wx.h ?_|refine Wb.h fun K hK=>?_|(refine hK _ ?_;clear hK K)|refine Wq.h ?_ ?_<;>intro h<;>try (exfalso;omega)|((fail_if_success refine Wz.h ?_);first|simp (disch:=omega) only [↓LD,LA,a0A,seval,LEv,LBr,a0L,k0m,hs1,hs2,hAl]|(refine And.intro ?_ ?_;omega)|fail))
  ·exact Next.mk (k+1) (by kernel_rfl) ⟨by omega,hP1 hil (by assumption)⟩ (by omega)
  all_goals
   have hfin:=hfin (hP2 (.inr (by assumption)))
   (first
    | exact RetS.still (ds:=[.ag [.sl 3 0 1],D.bool true,jI]) (by kernel_rfl) (by kernel_rfl) (g0q rfl (by rw [List.eq_nil_of_length_eq_zero (show A.length=0 by assumption),List.eq_nil_of_length_eq_zero (show B.length=0 by assumption)];rfl) (by rw [List.length_append,List.length_cons];omega)) hfin
    | exact RetS.still (ds:=[.ag [.sl 4 0 (1+B.length)],D.bool true,jI]) (by kernel_rfl) (by kernel_rfl) (g0q rfl (by rw [List.eq_nil_of_length_eq_zero (show A.length=0 by assumption)];rfl) (by rw [List.length_append,List.length_cons];omega)) hfin
    | exact RetS.still (ds:=[.ag [.sl 5 0 (A.length+1+B.length)],D.bool true,jI]) (by kernel_rfl) (by kernel_rfl) (g0q rfl (by simp) (by rw [List.length_append,List.length_cons];omega)) hfin
    | exact RetS.still (ds:=[.ag [.sl 4 0 (A.length+1)],D.bool true,jI]) (by kernel_rfl) (by kernel_rfl) (g0q rfl (by rw [List.eq_nil_of_length_eq_zero (show B.length=0 by assumption)];simp) (by rw [List.length_append,List.length_cons];omega)) hfin)
 repeat' (with_reducible first|refine Wx.h ?_|refine Wb.h fun K hK=>?_|(refine hK _ ?_;clear hK K)|refine Wq.h ?_ ?_<;>intro h<;>try (exfalso;omega)|((fail_if_success refine Wz.h ?_);first|simp (disch:=omega) only [↓LD,LA,a0A,seval,LEv,LBr,a0L,k0m,hs1,hs2,hAl]|(refine And.intro ?_ ?_;omega)|fail))
 all_goals
  have hfin:=hfin (hP2 (.inl hil))
  (first
   | exact RetS.still (ds:=[.ag [.sl 3 0 1],D.bool true,jI]) (by kernel_rfl) (by kernel_rfl) (g0q rfl (by rw [List.eq_nil_of_length_eq_zero (show A.length=0 by assumption),List.eq_nil_of_length_eq_zero (show B.length=0 by assumption)];rfl) (by rw [List.length_append,List.length_cons];omega)) hfin
   | exact RetS.still (ds:=[.ag [.sl 4 0 (1+B.length)],D.bool true,jI]) (by kernel_rfl) (by kernel_rfl) (g0q rfl (by rw [List.eq_nil_of_length_eq_zero (show A.length=0 by assumption)];rfl) (by rw [List.length_append,List.length_cons];omega)) hfin
   | exact RetS.still (ds:=[.ag [.sl 5 0 (A.length+1+B.length)],D.bool true,jI]) (by kernel_rfl) (by kernel_rfl) (g0q rfl (by simp) (by rw [List.length_append,List.length_cons];omega)) hfin
   | exact RetS.still (ds:=[.ag [.sl 4 0 (A.length+1)],D.bool true,jI]) (by kernel_rfl) (by kernel_rfl) (g0q rfl (by rw [List.eq_nil_of_length_eq_zero (show B.length=0 by assumption)];simp) (by rw [List.length_append,List.length_cons];omega)) hfin)
instance {t:Br}{l:List Ev}{H:List Row}{K:Bool→D→List Row→Prop}[ht:Kn (TrK t)][hl:Kn (BrOk l)]:Wa (a0k Tryz.prog (.fn 52 []) [.ag [.f (fBr t)],.ag [.f (.v (.string ⟨#[]⟩)),.f (.v (.string ⟨#[]⟩)),.f (.v (.slice none 0 0)),.f (fEv l)]] H K) (K true (.tp [.ag [.f (fBr (addR t l).1)],.f (.v (.bool (addR t l).2.1)),.f (.v (.int .i64 (addR t l).2.2))]) H):=⟨fun h=>a0M (b1q t l ht.h hl.h) rfl rfl rfl h⟩
def f0V:SCode :=
  (jq ([.a 10 (.mv kN)]) (jq ((ap [.a 15 (.bsl 73 9 0 [] []),jm 16 0,jm 17 1,jm 18 0,je 19 18,jb 20 .add 19 1,.a 21 (.call (kC 13) [(.t 17),(.t
 20)])] (ap [.a 22 (.sub 9 73 (.t 16) none (some (.t 21)) none),.a 23 (.app 73 9 112 (.t 15) (.t 22))] [jm 11 23]))) (jq ([jk 12 0]) (.seq (jq ([jm 24
 11,je 25 24,jb 26 .gtr 25 0]) (jc 26 (.ops [jm 27 11,jm 28 11,je 29 28,jb 30 .sub 29 1,jx 31 9 27 30,jo 32 2 31,jl 33 32,jm 12 33]) .skip))
 (jq ((ap [jm 35 11,jm 36 2,jm 37 12,.a 38 (.call (kC 72) [(.t 35),(.t 36),(.t 37)])] [jm 34 38,jE 39 0 34,jE 40 1 34,jm 13 39,jm 14 40]))
 (.seq (jq ([jm 41 14,jb 42 .neq 41 0]) (jc 42 (jq ([jm 43 11,jm 10 43]) .ret) .skip)) (.seq (jq ([jm 44 13,jn 45 44,jo 46 0 45,jo 47 0 46,jl 48
 47,jb 49 .eql 48 0]) (jc 49 (.ops (ap [jm 50 13,jm 51 4,.a 52 (.call (kC 90) [(.t 51),(kI 7)])] [.a 53 (.call (kC 89) [(.t 50),(.t 52)])])) (.ops
 (ap [jm 54 13,jm 55 2,.a 56 (.call (kC 92) [(.t 55)])] (ap [jm 57 1,.a 58 (.call (kC 92) [(.t 57)])] [jB 59 .add 56 58,.a 60 (.call (kC 91) [(.t
 54),(.t 59),kN])]))))) (.seq (jq ([jm 61 13,jn 62 61,jo 63 11 62,jl 64 63,je 65 64,jb 66 .eql 65 0]) (jc 66 (jq ([jm 67 11,jm 10 67]) .ret)
 .skip)) (jq ((ap [jm 68 11,jm 69 13,jn 70 69,jo 71 11 70,jl 72 71,.a 73 (.app 73 9 112 (.t 68) (.t 72))] (ap [jm 74 3,jm 75 4,.a 76 (.call (kC
 37) [(.t 73),(.t 74),(.t 75)])] [jm 10 76]))) .ret)))))))))
theorem k0e:Fn Tryz.prog 57 77 [.t 10] f0V:=.of Tryz.func57 (by kernel_rfl)
def e0I:SCode :=
  (jq ([.a 1 (.box 48 (.t 0)),.a 2 (.mv kN)]) (jq ([.a 3 (.mv kN)]) (jq ([jk 4 0]) (.seq (jq ([jk 5 0]) (.block 0 (.loop (.seq (jq ((ap [jm 9 5,jo 10 0
 1,jl 11 10,je 12 11,jB 13 .lss 9 12] (ap [jm 14 13,gM 15 5 14 true] (ap [jG 16 (.bin .lss (.t 15) (kI 5)) 14 true] [.a 17 (.pick (.t 14) (.t 16)
 kF)])))) (jc 17 .skip (.exit 0))) (.seq (.block 1 (.seq (jq ([jm 20 5,jb 21 .eql 20 0]) (jc 21 (.drw [jm 22 3,jo 23 0 1,jl 24 23,.a 25 (.idx 1 (.t
 24) (kI 0)),jl 26 25,jo 27 2 1,jl 28 27,.a 29 (.call (kC 9) [(.t 26),(.t 28)]),.a 30 (.bsl 25 1 1 [jN] [(0,(.t 29))]),.a 31 (.app 25 1 24 (.t
 22) (.t 30)),jm 3 31] [0,0,2,6,14,0,32,126,254,511,1023]) (jq ((ap [jm 32 3,jm 33 5,jb 34 .mul 33 7,jo 35 1 1,jl 36 35,je 37 36,jB 38
 .add 34 37,jm 39 3,je 40 39,.a 41 (.call (kC 13) [(.t 38),(.t 40)])] [jx 42 1 32 41,jl 43 42,jm 6 43])) (jq ([jk 7 0]) (.seq (jq ([jm 44 5,jo 45
 1 1,jl 46 45,je 47 46,jB 48 .lss 44 47]) (jc 48 (.ops [jo 49 1 1,jl 50 49,jm 51 5,jx 52 1 50 51,jl 53 52,jm 7 53]) .skip)) (.drw [jm 54 3,jm
 55 6,jm 56 7,jm 57 4,jm 58 5,jb 59 .rem 58 2,.a 60 (.bin .add (kI 1) (.t 59)),.a 61 (.call (kC 58) [(.t 57),(.t 60)]),jo 62 0 1,jl 63 62,jm
 64 5,jx 65 1 63 64,jl 66 65,jo 67 2 1,jl 68 67,.a 69 (.call (kC 57) [(.t 55),(.t 56),(.t 61),(.t 66),(.t 68)]),.a 70 (.bsl 25 1 1 [jN] [(0,
 (.t 69))]),.a 71 (.app 25 1 24 (.t 54) (.t 70)),jm 3 71] [0,0,0,0,0,16,48,120,0,256,0,1792,3840,0,8192,32766,65534,131071,
 262143])))))) (jq ([jm 72 3,jm 73 3,je 74 73,jb 75 .sub 74 1,jx 76 1 72 75,jl 77 76,jm 8 77]) (jq ([jm 78 8,je 79 78,jb 80 .gtr 79 0]) (jc 80
 (.ops [jm 81 4,jm 82 8,jm 83 8,je 84 83,jb 85 .sub 84 1,jx 86 9 82 85,jo 87 1 86,jl 88 87,.a 89 (.mm true (.t 81) (.t 88)),jm 4 89])
 .skip))))) (.ops [jm 18 5,jb 19 .add 18 1,jm 5 19])))))) (jq ([jm 90 3,jm 2 90]) .ret)))))
theorem h0N:Fn Tryz.prog 23 91 [.t 2] e0I:=.of Tryz.func23 (by kernel_rfl)
def i0J:SCode :=
  (jq ([.a 1 (.box 48 (.t 0)),.a 2 (.alloc 50 [jN])]) (jq ([.a 3 (.alloc 50 [jN])]) (jq ((ap [jL 9 3 1,.a 10 (.call (kC 23) [(.t 9)])] [jm 4 10]))
 (.seq (jq ([jk 5 0]) (.block 0 (.loop (.seq (jq ([jm 11 5,jm 12 4,je 13 12,jB 14 .lss 11 13]) (jc 14 .skip (.exit 0))) (.seq (.block 1 (.seq (jq
 ([jm 17 4,jm 18 5,jx 19 1 17 18,jl 20 19,je 21 20,jb 22 .eql 21 0]) (jc 22 (.exit 1) .skip)) (.seq (.drw [jL 24 1 3,jm 25 4,jm 26 5,jx 27 1 25
 26,jl 28 27,.a 29 (.bld [(.f (.v (.string ⟨#[]⟩))),(.f (.v (.string ⟨#[]⟩))),jN,jN] [(3,1,(.t 28))]),.a 30 (.call (kC 52) [(.t 24),(.t 29)]),
 jm 23 30,jE 31 0 23,jE 32 1 23,jE 33 2 23,.a 6 (.alloc 50 [jN]),.n (.store 1 (.t 6) (.t 31)),jm 7 32,jm 8 33] [0,0,0,6,14,30,63,127,255,
 255,255,0,2559,7167,16383]) (jq ([jm 34 8,jb 35 .eql 34 0]) (jc 35 (.ops [jL 36 1 6,.n (.store 1 (.t 3) (.t 36))]) .skip))))) (.ops [jm 15 5,jb
 16 .add 15 1,jm 5 16])))))) (jq ([jL 37 1 3,.n (.store 1 (.t 2) (.t 37))]) .ret)))))
theorem r0Y:Fn Tryz.prog 19 38 [.cA 1 2] i0J:=.of Tryz.func19 (by kernel_rfl)
theorem BrOk.take {l:List Ev}(h:BrOk l)(n:Nat):BrOk (l.take n):=⟨l0f h.fold,fun e he=>h.fit e (List.mem_of_mem_take he),fun e he=>h.sig e (List.mem_of_mem_take he)⟩
theorem c0t (l:List Ev)(hbr:BrOk l)(steps:List Rw)(defs:List Rd):Con Tryz.prog 37 [.f (fEv l),.f (fRw steps),.f (fR defs)] [] fun r H'=>r = .f (fEv (e0B l steps defs))∧H'=[]:=h0B l hbr steps defs
theorem y0X {H:List Row}{r n:Nat}{xs:List F}{l:List Ev}(hr:H[r]?=some (.data 73 xs))(hx:xs=l.flatMap Ev.cs)(hn:n=l.length):Vw H (.sl r 0 n) (.f (fEv l)):=by
 subst hx;subst hn
 exact .sl hr (fun e=>by rw [List.eq_nil_of_length_eq_zero e];rfl)
def hdT (hd:List Ev):Int:=if hd.length=0 then 0 else (gt hd (hd.length-1)).time
def f0B (hd:List Ev)(at' v:Int)(defs:List Rd):Pn :=
 if (a0N s0 hd).2.id=0 then (b0k ⟨(a0N s0 hd).2,v,hdT hd,[]⟩ (c0Q defs)).2 else (a0q ⟨(a0N s0 hd).2,v,hdT hd,[]⟩ (a0o v++a0o at') []).2
def o0k (hd:List Ev)(at' v:Int)(steps:List Rw)(defs:List Rd):List Ev :=
 if newE hd v (hdT hd)=0 then (if (f0B hd at' v defs).out.length=0 then hd else e0B (hd++(f0B hd at' v defs).out) steps defs) else hd
def o0F (l:List Ev)(at' v:Int)(steps:List Rw)(defs:List Rd):List Ev:=o0k (l.take (pick at' (l.length+1)).toNat) at' v steps defs
theorem o0E {hd:List Ev}{at' v:Int}{defs:List Rd}(h:BrOk hd):PnT (a0N s0 hd).2 (f0B hd at' v defs):=by
 unfold f0B
 split
 ·exact u0p (h.pen _ _) ((c0G defs).1.fit (c0G defs).2.2)
 ·exact r0I (h.pen _ _) (a1Y _ _) (by simp)
theorem b1z {hd:List Ev}{at' v:Int}{steps:List Rw}{defs:List Rd}(h:BrOk hd):BrOk (o0k hd at' v steps defs):=by
 unfold o0k
 split
 ·split
  ·exact h
  ·exact w0Z (h.app (o0E h))
 ·exact h
theorem c1D {l:List Ev}{at' v:Int}{steps:List Rw}{defs:List Rd}(h:BrOk l):BrOk (o0F l at' v steps defs):=b1z (h.take _)
set_option maxRecDepth 100000 in
theorem n0T (l:List Ev)(hbr:BrOk l)(at' v:Int)(steps:List Rw)(defs:List Rd):Con Tryz.prog 57 [.f (fEv l),D.int at',D.int v,.f (fRw steps),.f (fR defs)] [] fun r H'=>r = .f (fEv (o0F l at' v steps defs))∧H'=[]:=by
 suffices hh:∀ Q:D→List Row→Prop,(∀ out,o0F l at' v steps defs=out→Q (.f (fEv out)) [])→Con Tryz.prog 57 [.f (fEv l),D.int at',D.int v,.f (fRw steps),.f (fR defs)] [] Q from hh _ fun out h=>⟨by rw [h],rfl⟩
 intro Q hQ
 have hF:o0F l at' v steps defs=o0k (l.take (pick at' (l.length+1)).toNat) at' v steps defs:=rfl
 have hll:=hbr.len
 have pk:=b0N (x:=at') (n:=l.length+1) (by omega)
 obtain ⟨c,hc⟩:∃ c:Nat,pick at' (l.length+1)=c:=⟨(pick at' (l.length+1)).toNat,by omega⟩
 have hcl:c≤l.length:=by omega
 have hs:∀ H:List Row,subS H 9 73 (.f (fEv l)) 0 c=some (.f (fEv (l.take c))):=fun H=>c0x hcl
 have hh:=hbr.take c
 rw [show (pick at' ((l.length:Int)+1)).toNat=c by omega] at hF
 generalize l.take c=hd at hs hh hF
 have hhl:=hh.len
 refine Con.walk good k0e (by simp) ?_
 unfold f0V
 simp only [a0I]
 have e1:((hd.length:Int)-1).toNat=hd.length-1:=by omega
 have htm:0<hd.length→0≤(gt hd (hd.length-1)).time∧(gt hd (hd.length-1)).time≤1099511627776:=fun hk=>by
  have:=rightE_iff.1 (hh.right (a0K (l:=hd) (k:=hd.length-1) (by omega)))
  exact ⟨this.2.2.2.1.1,this.2.2.2.1.2⟩
 have hname:(a0o v++a0o at').length≤1000000:=by have:=a0w v;have:=a0w at';rw [List.length_append];omega
 have hsz:(a0o v).length+(a0o at').length≤1000:=by have:=a0w v;have:=a0w at';omega
 refine HS.seq ?_
 repeat' (with_reducible first|refine Wa.h ?_|refine Wb.h fun K hK=>?_|(refine hK _ ?_;clear hK K)|((fail_if_success refine Wz.h ?_);simp (disch:=omega) only [↓LD,LA,a0A,seval]))
 refine HS.seq ?_
 repeat' (with_reducible first|refine Wa.h ?_|refine Wb.h fun K hK=>?_|(refine hK _ ?_;clear hK K)|refine Wq.h ?_ ?_<;>intro h|((fail_if_success refine Wz.h ?_);first|simp (disch:=omega) only [↓LD,LA,a0A,seval,LEv,hc,hs,a0L,Int.toNat_natCast]|(refine And.intro ?_ ?_;omega)|fail))
 ·(obtain rfl:=List.eq_nil_of_length_eq_zero h)
  have hnw:hdT ([]:List Ev)=0:=rfl
  unfold o0k at hF
  rw [hnw] at hF
  refine HS.view (View.sweep (keep:=[1,2,3,4,10,11]) (s':=⟨frm 77 [(1,D.int at'),(2,D.int v),(3,.f (fRw steps)),(4,.f (fR defs)),(10,jN),(11,.sl 0 0 (List.length ([]:List Ev)))],[rEv ([]:List Ev)],[]⟩) (by kernel_rfl)) ?_
  repeat' (with_reducible first|refine Wx.h ?_|refine Wb.h fun K hK=>?_|(refine hK _ ?_;clear hK K)|((fail_if_success refine Wz.h ?_);simp (disch:=omega) only [↓LD,LA,a0A,seval,rEv,n0x,e1,a0L,Ev.cs]))
  refine a0J (e0X ([]:List Ev) v 0 (by omega) hh.fit) [0] (by kernel_rfl) rfl rfl ?_
  rintro _ _ ⟨hq1,hq2⟩
  by_cases hn:newE ([]:List Ev) v 0=0
  rotate_left
  ·obtain ⟨rfl,rfl⟩:=hq1 hn
   simp (disch:=omega) only [↓LD,LA,a0A,seval,ren,List.getElem?_nil,rEv]
   repeat' (with_reducible first|refine Wx.h ?_|refine Wb.h fun K hK=>?_|(refine hK _ ?_;clear hK K)|(refine wF ?_ ?_;assumption)|((fail_if_success refine Wz.h ?_);simp (disch:=omega) only [↓LD,LA,a0A,seval,rEv]))
   exact end1 rfl rfl (by kernel_rfl) (.sl (T:=73) (xs:=List.flatMap Ev.cs ([]:List Ev)) rfl (fun e=>by first|rfl|(rw [List.eq_nil_of_length_eq_zero e];rfl))) (hQ ([]:List Ev) (by rw [hF,if_neg hn]))
  obtain ⟨rfl,rfl⟩:=hq2 hn
  have hp':=o0E (at':=at') (v:=v) (defs:=defs) hh
  rw [if_pos hn] at hF
  have hok:=hh.ok
  by_cases hz:(a0N s0 ([]:List Ev)).2.id=0
  ·simp (disch:=omega) only [↓LD,LA,a0A,seval,ren,List.getElem?_nil,rEv,pnB,pnD]
   repeat' (with_reducible first|refine Wx.h ?_|refine Wb.h fun K hK=>?_|(refine hK _ ?_;clear hK K)|(refine wT ?_ ?_;assumption)|((fail_if_success refine Wz.h ?_);simp (disch:=omega) only [↓LD,LA,a0A,seval,rEv,pnB,pnD]))
   have hfp:f0B ([]:List Ev) at' v defs=(b0k ⟨(a0N s0 ([]:List Ev)).2,v,0,[]⟩ (c0Q defs)).2:=by unfold f0B;rw [if_pos hz,hnw]
   rw [hfp] at hF hp'
   refine a0J (d0Z defs) [] (by kernel_rfl) rfl rfl ?_
   rintro _ _ ⟨rfl,rfl⟩
   simp (disch:=omega) only [↓LD,LA,a0A,seval,ren,List.getElem?_nil]
   repeat' (with_reducible first|(refine hK _ ?_;clear hK K)|((fail_if_success refine Wz.h ?_);simp (disch:=omega) only [↓LD,LA,a0A,seval,rEv]))
   refine a0J (e0p ⟨(a0N s0 ([]:List Ev)).2,v,0,[]⟩ (c0Q defs) hok (by simp) ((c0G defs).1.fit (c0G defs).2.2)) [1] (by kernel_rfl) rfl rfl ?_
   rintro _ _ ⟨rfl,rfl⟩
   generalize b0k ⟨(a0N s0 ([]:List Ev)).2,v,0,[]⟩ (c0Q defs)=p at *
   obtain ⟨x,p'⟩:=p
   dsimp only at hp' hF ⊢
   clear hfp
   have hpl:=hp'.ok.len
   have hap:=hh.app hp'
   simp (disch:=omega) only [↓LD,LA,a0A,seval,ren,List.getElem?_nil,rEv,pnB,pnD]
   repeat' (with_reducible first|refine Wx.h ?_|refine Wb.h fun K hK=>?_|(refine hK _ ?_;clear hK K)|refine Wq.h ?_ ?_<;>intro h<;>try (exfalso;omega)|((fail_if_success refine Wz.h ?_);first|simp (disch:=omega) only [↓LD,LA,a0A,seval,rEv,LEv,a0L]|(refine And.intro ?_ ?_;omega)|fail))
   ·exact end1 rfl rfl (by kernel_rfl) (.sl (T:=73) (xs:=List.flatMap Ev.cs ([]:List Ev)) rfl (fun e=>by first|rfl|(rw [List.eq_nil_of_length_eq_zero e];rfl))) (hQ ([]:List Ev) (by rw [hF,if_pos (by omega)]))
   refine d0J [2] (args0:=[.f (fEv (([]:List Ev)++p'.out)),.f (fRw steps),.f (fR defs)]) (.cons ?_ (.cons .f (.cons .f .nil))) ?_
   ·exact y0X rfl (by rw [List.flatMap_append]) (by simp)
   refine a0J (c0t (([]:List Ev)++p'.out) hap steps defs) [] (by kernel_rfl) rfl rfl ?_
   rintro _ _ ⟨rfl,rfl⟩
   simp (disch:=omega) only [↓LD,LA,a0A,seval,ren,List.getElem?_nil]
   repeat' (with_reducible first|refine Wx.h ?_|(refine hK _ ?_;clear hK K)|((fail_if_success refine Wz.h ?_);simp (disch:=omega) only [↓LD,LA,a0A,seval]))
   exact end1 rfl rfl (by kernel_rfl) .f (hQ _ (by rw [hF,if_neg (by omega)];try rfl))
  ·have hfp:f0B ([]:List Ev) at' v defs=(a0q ⟨(a0N s0 ([]:List Ev)).2,v,0,[]⟩ (a0o v++a0o at') []).2:=by unfold f0B;rw [if_neg hz,hnw]
   rw [hfp] at hF hp'
   simp (disch:=omega) only [↓LD,LA,a0A,seval,ren,List.getElem?_nil,rEv,pnB,pnD]
   repeat' (with_reducible first|refine Wx.h ?_|refine Wb.h fun K hK=>?_|(refine hK _ ?_;clear hK K)|(refine wF ?_ ?_;assumption)|((fail_if_success refine Wz.h ?_);first|simp (disch:=omega) only [↓LD,LA,a0A,seval,rEv,pnB,pnD,z0s]|(refine And.intro ?_ ?_;omega)|fail))
   refine c0c (args0:=[.pt 1 0,.f (.v (.string (BB (a0o v++a0o at')))),.f (fY [])]) ?_ (.cons .refl (.cons .refl (.cons (.f .ns) .nil)))
   refine a0J (e0M ⟨(a0N s0 ([]:List Ev)).2,v,0,[]⟩ (a0o v++a0o at') [] hok (by simp) hname (by simp)) [1] (by kernel_rfl) rfl rfl ?_
   rintro _ _ ⟨rfl,rfl⟩
   generalize a0q ⟨(a0N s0 ([]:List Ev)).2,v,0,[]⟩ (a0o v++a0o at') []=p at *
   obtain ⟨x,p'⟩:=p
   dsimp only at hp' hF ⊢
   clear hfp
   have hpl:=hp'.ok.len
   have hap:=hh.app hp'
   simp (disch:=omega) only [↓LD,LA,a0A,seval,ren,List.getElem?_nil,rEv,pnB,pnD,duo]
   repeat' (with_reducible first|refine Wx.h ?_|refine Wb.h fun K hK=>?_|(refine hK _ ?_;clear hK K)|refine Wq.h ?_ ?_<;>intro h<;>try (exfalso;omega)|((fail_if_success refine Wz.h ?_);first|simp (disch:=omega) only [↓LD,LA,a0A,seval,rEv,LEv,a0L]|(refine And.intro ?_ ?_;omega)|fail))
   ·exact end1 rfl rfl (by kernel_rfl) (.sl (T:=73) (xs:=List.flatMap Ev.cs ([]:List Ev)) rfl (fun e=>by first|rfl|(rw [List.eq_nil_of_length_eq_zero e];rfl))) (hQ ([]:List Ev) (by rw [hF,if_pos (by omega)]))
   refine d0J [2] (args0:=[.f (fEv (([]:List Ev)++p'.out)),.f (fRw steps),.f (fR defs)]) (.cons ?_ (.cons .f (.cons .f .nil))) ?_
   ·exact y0X rfl (by rw [List.flatMap_append]) (by simp)
   refine a0J (c0t (([]:List Ev)++p'.out) hap steps defs) [] (by kernel_rfl) rfl rfl ?_
   rintro _ _ ⟨rfl,rfl⟩
   simp (disch:=omega) only [↓LD,LA,a0A,seval,ren,List.getElem?_nil]
   repeat' (with_reducible first|refine Wx.h ?_|(refine hK _ ?_;clear hK K)|((fail_if_success refine Wz.h ?_);simp (disch:=omega) only [↓LD,LA,a0A,seval]))
   exact end1 rfl rfl (by kernel_rfl) .f (hQ _ (by rw [hF,if_neg (by omega)];try rfl))
 ·(have htm:=htm (by omega))
  have hnw:hdT hd=(gt hd (hd.length-1)).time:=if_neg h
  unfold o0k at hF
  rw [hnw] at hF
  refine HS.view (View.sweep (keep:=[1,2,3,4,10,11]) (s':=⟨frm 77 [(1,D.int at'),(2,D.int v),(3,.f (fRw steps)),(4,.f (fR defs)),(10,jN),(11,.sl 0 0 (List.length hd))],[rEv hd],[]⟩) (by kernel_rfl)) ?_
  repeat' (with_reducible first|refine Wx.h ?_|refine Wb.h fun K hK=>?_|(refine hK _ ?_;clear hK K)|refine Wq.h ?_ ?_<;>intro h<;>try (exfalso;omega)|((fail_if_success refine Wz.h ?_);first|simp (disch:=omega) only [↓LD,LA,a0A,seval,rEv,n0x,e1,a0L,Ev.cs]|(refine And.intro ?_ ?_;omega)|fail))
  refine a0J (e0X hd v (gt hd (hd.length-1)).time (by omega) hh.fit) [0] (by kernel_rfl) rfl rfl ?_
  rintro _ _ ⟨hq1,hq2⟩
  by_cases hn:newE hd v (gt hd (hd.length-1)).time=0
  rotate_left
  ·obtain ⟨rfl,rfl⟩:=hq1 hn
   simp (disch:=omega) only [↓LD,LA,a0A,seval,ren,List.getElem?_nil,rEv]
   repeat' (with_reducible first|refine Wx.h ?_|refine Wb.h fun K hK=>?_|(refine hK _ ?_;clear hK K)|(refine wF ?_ ?_;assumption)|((fail_if_success refine Wz.h ?_);simp (disch:=omega) only [↓LD,LA,a0A,seval,rEv]))
   exact end1 rfl rfl (by kernel_rfl) (.sl (T:=73) (xs:=List.flatMap Ev.cs hd) rfl (fun e=>by first|rfl|(rw [List.eq_nil_of_length_eq_zero e];rfl))) (hQ hd (by rw [hF,if_neg hn]))
  obtain ⟨rfl,rfl⟩:=hq2 hn
  have hp':=o0E (at':=at') (v:=v) (defs:=defs) hh
  rw [if_pos hn] at hF
  have hok:=hh.ok
  by_cases hz:(a0N s0 hd).2.id=0
  ·simp (disch:=omega) only [↓LD,LA,a0A,seval,ren,List.getElem?_nil,rEv,pnB,pnD]
   repeat' (with_reducible first|refine Wx.h ?_|refine Wb.h fun K hK=>?_|(refine hK _ ?_;clear hK K)|(refine wT ?_ ?_;assumption)|((fail_if_success refine Wz.h ?_);simp (disch:=omega) only [↓LD,LA,a0A,seval,rEv,pnB,pnD]))
   have hfp:f0B hd at' v defs=(b0k ⟨(a0N s0 hd).2,v,(gt hd (hd.length-1)).time,[]⟩ (c0Q defs)).2:=by unfold f0B;rw [if_pos hz,hnw]
   rw [hfp] at hF hp'
   refine a0J (d0Z defs) [] (by kernel_rfl) rfl rfl ?_
   rintro _ _ ⟨rfl,rfl⟩
   simp (disch:=omega) only [↓LD,LA,a0A,seval,ren,List.getElem?_nil]
   repeat' (with_reducible first|(refine hK _ ?_;clear hK K)|((fail_if_success refine Wz.h ?_);simp (disch:=omega) only [↓LD,LA,a0A,seval,rEv]))
   refine a0J (e0p ⟨(a0N s0 hd).2,v,(gt hd (hd.length-1)).time,[]⟩ (c0Q defs) hok (by simp) ((c0G defs).1.fit (c0G defs).2.2)) [1] (by kernel_rfl) rfl rfl ?_
   rintro _ _ ⟨rfl,rfl⟩
   generalize b0k ⟨(a0N s0 hd).2,v,(gt hd (hd.length-1)).time,[]⟩ (c0Q defs)=p at *
   obtain ⟨x,p'⟩:=p
   dsimp only at hp' hF ⊢
   clear hfp
   have hpl:=hp'.ok.len
   have hap:=hh.app hp'
   simp (disch:=omega) only [↓LD,LA,a0A,seval,ren,List.getElem?_nil,rEv,pnB,pnD]
   repeat' (with_reducible first|refine Wx.h ?_|refine Wb.h fun K hK=>?_|(refine hK _ ?_;clear hK K)|refine Wq.h ?_ ?_<;>intro h<;>try (exfalso;omega)|((fail_if_success refine Wz.h ?_);first|simp (disch:=omega) only [↓LD,LA,a0A,seval,rEv,LEv,a0L]|(refine And.intro ?_ ?_;omega)|fail))
   ·exact end1 rfl rfl (by kernel_rfl) (.sl (T:=73) (xs:=List.flatMap Ev.cs hd) rfl (fun e=>by first|rfl|(rw [List.eq_nil_of_length_eq_zero e];rfl))) (hQ hd (by rw [hF,if_pos (by omega)]))
   refine d0J [2] (args0:=[.f (fEv (hd++p'.out)),.f (fRw steps),.f (fR defs)]) (.cons ?_ (.cons .f (.cons .f .nil))) ?_
   ·exact y0X rfl (by rw [List.flatMap_append]) (by simp)
   refine a0J (c0t (hd++p'.out) hap steps defs) [] (by kernel_rfl) rfl rfl ?_
   rintro _ _ ⟨rfl,rfl⟩
   simp (disch:=omega) only [↓LD,LA,a0A,seval,ren,List.getElem?_nil]
   repeat' (with_reducible first|refine Wx.h ?_|(refine hK _ ?_;clear hK K)|((fail_if_success refine Wz.h ?_);simp (disch:=omega) only [↓LD,LA,a0A,seval]))
   exact end1 rfl rfl (by kernel_rfl) .f (hQ _ (by rw [hF,if_neg (by omega)];try rfl))
  ·have hfp:f0B hd at' v defs=(a0q ⟨(a0N s0 hd).2,v,(gt hd (hd.length-1)).time,[]⟩ (a0o v++a0o at') []).2:=by unfold f0B;rw [if_neg hz,hnw]
   rw [hfp] at hF hp'
   simp (disch:=omega) only [↓LD,LA,a0A,seval,ren,List.getElem?_nil,rEv,pnB,pnD]
   repeat' (with_reducible first|refine Wx.h ?_|refine Wb.h fun K hK=>?_|(refine hK _ ?_;clear hK K)|(refine wF ?_ ?_;assumption)|((fail_if_success refine Wz.h ?_);first|simp (disch:=omega) only [↓LD,LA,a0A,seval,rEv,pnB,pnD,z0s]|(refine And.intro ?_ ?_;omega)|fail))
   refine c0c (args0:=[.pt 1 0,.f (.v (.string (BB (a0o v++a0o at')))),.f (fY [])]) ?_ (.cons .refl (.cons .refl (.cons (.f .ns) .nil)))
   refine a0J (e0M ⟨(a0N s0 hd).2,v,(gt hd (hd.length-1)).time,[]⟩ (a0o v++a0o at') [] hok (by simp) hname (by simp)) [1] (by kernel_rfl) rfl rfl ?_
   rintro _ _ ⟨rfl,rfl⟩
   generalize a0q ⟨(a0N s0 hd).2,v,(gt hd (hd.length-1)).time,[]⟩ (a0o v++a0o at') []=p at *
   obtain ⟨x,p'⟩:=p
   dsimp only at hp' hF ⊢
   clear hfp
   have hpl:=hp'.ok.len
   have hap:=hh.app hp'
   simp (disch:=omega) only [↓LD,LA,a0A,seval,ren,List.getElem?_nil,rEv,pnB,pnD,duo]
   repeat' (with_reducible first|refine Wx.h ?_|refine Wb.h fun K hK=>?_|(refine hK _ ?_;clear hK K)|refine Wq.h ?_ ?_<;>intro h<;>try (exfalso;omega)|((fail_if_success refine Wz.h ?_);first|simp (disch:=omega) only [↓LD,LA,a0A,seval,rEv,LEv,a0L]|(refine And.intro ?_ ?_;omega)|fail))
   ·exact end1 rfl rfl (by kernel_rfl) (.sl (T:=73) (xs:=List.flatMap Ev.cs hd) rfl (fun e=>by first|rfl|(rw [List.eq_nil_of_length_eq_zero e];rfl))) (hQ hd (by rw [hF,if_pos (by omega)]))
   refine d0J [2] (args0:=[.f (fEv (hd++p'.out)),.f (fRw steps),.f (fR defs)]) (.cons ?_ (.cons .f (.cons .f .nil))) ?_
   ·exact y0X rfl (by rw [List.flatMap_append]) (by simp)
   refine a0J (c0t (hd++p'.out) hap steps defs) [] (by kernel_rfl) rfl rfl ?_
   rintro _ _ ⟨rfl,rfl⟩
   simp (disch:=omega) only [↓LD,LA,a0A,seval,ren,List.getElem?_nil]
   repeat' (with_reducible first|refine Wx.h ?_|(refine hK _ ?_;clear hK K)|((fail_if_success refine Wz.h ?_);simp (disch:=omega) only [↓LD,LA,a0A,seval]))
   exact end1 rfl rfl (by kernel_rfl) .f (hQ _ (by rw [hF,if_neg (by omega)];try rfl))
instance {steps:List Rw}{defs:List Rd}{H:List Row}{K:Bool→D→List Row→Prop}:Wa (a0k Tryz.prog (.fn 9 []) [.f (fRw steps),.f (fR defs)] H K) (K true (.f (fEv (e0B [] steps defs))) H):=⟨fun h=>a0M (k0S steps defs) rfl rfl rfl h⟩
instance {l:List Ev}{at' v:Int}{steps:List Rw}{defs:List Rd}{H:List Row}{K:Bool→D→List Row→Prop}[hl:Kn (BrOk l)]:Wa (a0k Tryz.prog (.fn 57 []) [.f (fEv l),.f (.v (.int .i64 at')),.f (.v (.int .i64 v)),.f (fRw steps),.f (fR defs)] H K) (K true (.f (fEv (o0F l at' v steps defs))) H):=⟨fun h=>a0M (n0T l hl.h at' v steps defs) rfl rfl rfl h⟩
def fSs (s:List (List Rw)):F:=.s (s.map fRw) s.length
theorem v0j {g:List (List Rw)}:slcS (.f (fSs g))=some g.length:=id rfl
theorem v0W {g:List (List Rw)}{sz:Nat}{k:IntKind}{i:Int}{K:D→Prop}:idxS sz (.f (fSs g)) (.f (.v (.int k i))) K=((0≤i∧i<g.length)∧K (.rf ((g.map fRw).drop (i.toNat*sz)))):=id rfl
theorem LSs:type_of% @v0j∧type_of% @v0W:=⟨@v0j,@v0W⟩
def lnD (s:List (List Rw))(a:List Int)(d:List Rd):D:=.ag [.f (fSs s),.f (fI a),.f (fR d)]
def brI (s:List (List Rw))(a:List Int)(d:List Rd)(i:Nat)(out:Br)(v:Int):List Ev :=
 if i=0 then e0B [] (gt s 0) d else o0F (gt out (pick (IntKind.i64.wrap (i*7+a.length)) out.length).toNat) (if i<a.length then gt a i else 0) (verL v (IntKind.i64.wrap (1+(i:Int).tmod 2))) (gt s i) d
def brV (v:Int)(b:List Ev):Int:=if 0<b.length then max v (gt b (b.length-1)).ver else v
def brA (s:List (List Rw))(a:List Int)(d:List Rd):Nat→Nat→Br→Int→Br
 | 0,_,out,_=>out
 | f+1,i,out,v=>if i<s.length then brA s a d f (i+1) (out++[brI s a d i out v]) (brV v (brI s a d i out v)) else out
def a0x (s:List (List Rw))(a:List Int)(d:List Rd):Br:=brA s a d 5 0 [] 0
theorem e1b {s:List (List Rw)}{a:List Int}{d:List Rd}{f i:Nat}{out:Br}{v:Int}(h:f=0∨¬ i<s.length):brA s a d f i out v=out:=by
 cases f with
 | zero=>rfl
 | succ f=>rw [brA,if_neg (by omega)]
theorem t0c {s:List (List Rw)}{a:List Int}{d:List Rd}{i:Nat}{out:Br}{v:Int}(ho:out.length=i)(hb:∀ b∈out,BrOk b):BrOk (brI s a d i out v):=by
 unfold brI
 split
 ·exact w0Z BrOk.nil
 ·have pk:=b0N (x:=IntKind.i64.wrap (i*7+a.length)) (n:=out.length) (by omega)
  exact c1D (hb _ (a0K (by omega)))
theorem d1S {s:List (List Rw)}{a:List Int}{d:List Rd}:∀ {f i:Nat} {out:Br} {v:Int},out.length=i→(∀ b∈out,BrOk b)→(∀ b∈brA s a d f i out v,BrOk b)∧(brA s a d f i out v).length≤i+f
 | 0,i,out,v,ho,hb=>⟨hb,by rw [brA];omega⟩
 | f+1,i,out,v,ho,hb=>by
  rw [brA]
  split
  ·have:=d1S (s:=s) (a:=a) (d:=d) (f:=f) (i:=i+1) (out:=out++[brI s a d i out v]) (v:=brV v (brI s a d i out v)) (by simp [ho]) (fun b h=>by
    rcases List.mem_append.1 h with h|h
    ·exact hb b h
    ·rw [List.mem_singleton.1 h];exact t0c ho hb)
   exact ⟨this.1,by omega⟩
  ·exact ⟨hb,by omega⟩
theorem d0l (s:List (List Rw))(a:List Int)(d:List Rd):(∀ b∈a0x s a d,BrOk b)∧(a0x s a d).length≤5:=by
 have:=d1S (s:=s) (a:=a) (d:=d) (f:=5) (i:=0) (out:=[]) (v:=0) rfl (fun b h=>by simp at h)
 exact ⟨this.1,by have:=this.2;unfold a0x;omega⟩
theorem g1E {H:List Row}{r n:Nat}{xs:List F}{t:Br}(hr:H[r]?=some (.data 25 xs))(hx:xs=t.map fEv)(hn:n=t.length):Vw H (.sl r 0 n) (.f (fBr t)):=by
 subst hx;subst hn
 exact .sl hr (fun e=>by rw [List.eq_nil_of_length_eq_zero e];rfl)
set_option maxRecDepth 100000 in
theorem k0J (s:List (List Rw))(a:List Int)(d:List Rd):Con Tryz.prog 23 [lnD s a d] [] fun r H'=>r = .f (fBr (a0x s a d))∧H'=[]:=by
 suffices hh:∀ Q:D→List Row→Prop,(∀ o,a0x s a d=o→Q (.f (fBr o)) [])→Con Tryz.prog 23 [lnD s a d] [] Q from hh _ fun o h=>⟨by rw [h],rfl⟩
 intro Q hQ
 refine Con.walk good h0N (by simp) ?_
 unfold e0I
 simp only [a0I,lnD]
 refine HS.seq ?_
 repeat' (with_reducible first|refine Wa.h ?_|refine Wb.h fun K hK=>?_|(refine hK _ ?_;clear hK K)|((fail_if_success refine Wz.h ?_);simp (disch:=omega) only [↓LD,LA,a0A,seval]))
 refine HS.seq ?_
 repeat' (with_reducible first|refine Wa.h ?_|refine Wb.h fun K hK=>?_|(refine hK _ ?_;clear hK K)|((fail_if_success refine Wz.h ?_);simp (disch:=omega) only [↓LD,LA,a0A,seval]))
 refine HS.view (View.void 25) ?_
 refine HS.view (View.slot 3 (.sl 1 0 0) (.no (Nat.lt_succ_self 1))) ?_
 repeat' (with_reducible first|refine Wx.h ?_|refine Wb.h fun K hK=>?_|(refine hK _ ?_;clear hK K)|((fail_if_success refine Wz.h ?_);simp (disch:=omega) only [↓LD,LA,a0A,seval]))
 refine HS.loopG [1,3,4,5] (fun x:Nat × Br × Int=>⟨frm 91 [(1,.pt 0 0),(3,.sl 1 0 x.2.1.length),(4,D.int x.2.2),(5,D.int x.1)],[.box 48 [.f (fSs s),.f (fI a),.f (fR d)],.data 25 (x.2.1.map fEv)],[]⟩) (fun x=>x.1≤5∧x.2.1.length=x.1∧(∀ b∈x.2.1,BrOk b)∧(0≤x.2.2∧x.2.2≤1099511627776)∧a0x s a d=brA s a d (5-x.1) x.1 x.2.1 x.2.2) (fun x=>5-x.1) (0,[],0) (by kernel_rfl) ⟨Nat.zero_le _,rfl,fun b h=>by simp at h,⟨by decide,by decide⟩,rfl⟩ ?_
 rintro ⟨i,out,v⟩ ⟨hi,ho,hb,hv,hE⟩
 dsimp only at hi ho hb hv hE
 by_cases hil:i<s.length∧i<5
 rotate_left
 ·have hx:a0x s a d=out:=by rw [hE,e1b (by omega)]
  by_cases hil2:i<s.length
  ·have h5:i=5:=by omega
   subst h5
   repeat' (with_reducible first|refine Wx.h ?_|refine Wb.h fun K hK=>?_|(refine hK _ ?_;clear hK K)|refine Wq.h ?_ ?_<;>intro h<;>try (exfalso;omega)|((fail_if_success refine Wz.h ?_);simp (disch:=omega) only [↓LD,LA,a0A,seval,LSs,LBr]))
   exact end1 rfl rfl (by kernel_rfl) (g1E rfl rfl rfl) (hQ out hx)
  ·repeat' (with_reducible first|refine Wx.h ?_|refine Wb.h fun K hK=>?_|(refine hK _ ?_;clear hK K)|refine Wq.h ?_ ?_<;>intro h<;>try (exfalso;omega)|((fail_if_success refine Wz.h ?_);simp (disch:=omega) only [↓LD,LA,a0A,seval,LSs,LBr]))
   exact end1 rfl rfl (by kernel_rfl) (g1E rfl rfl rfl) (hQ out hx)
 obtain ⟨hil,hi5⟩:=hil
 have hbk:BrOk (brI s a d i out v):=t0c ho hb
 rw [show 5-i=(5-(i+1))+1 by omega,brA,if_pos hil] at hE
 have hbr:brI s a d i out v=brI s a d i out v:=rfl
 conv at hbr=>rhs;unfold brI
 have e2:(((out.length+1:Nat):Int)-1).toNat=out.length:=by omega
 generalize hbe:brI s a d i out v=b at *
 clear hbe
 have e3:(out.map fEv++[fEv b])[out.length]?=some (fEv b):=by rw [List.getElem?_append_right (by simp)];simp
 have e4:=d1j (l:=out) (x:=b)
 have hbl:=hbk.len
 have e1:((b.length:Int)-1).toNat=b.length-1:=by omega
 have hba:∀ x∈out++[b],BrOk x:=fun x h=>by
  rcases List.mem_append.1 h with h|h
  ·exact hb x h
  ·rw [List.mem_singleton.1 h];exact hbk
 have hvb:0<b.length→1≤(gt b (b.length-1)).ver∧(gt b (b.length-1)).ver≤1099511627776:=fun hk=>h0f (rightE_iff.1 (hbk.right (a0K (l:=b) (k:=b.length-1) (by omega)))).2.2.1
 have c1:=fun hk=>d0f (g:=b) (k:=b.length-1) hk
 unfold brV at hE
 by_cases hz:i=0
 ·rw [if_pos hz] at hbr
  subst hz
  repeat' (with_reducible first|refine Wx.h ?_|refine We.h fun K hK=>?_|(refine hK _ _ _ _ ?_;clear hK K;try clear hM M)|refine Wb.h fun K hK=>?_|(refine hK _ ?_;clear hK K)|(refine Wy.h ?_ ?_;kernel_rfl)|refine Wq.h ?_ ?_<;>intro h<;>try (exfalso;omega)|((fail_if_success refine Wz.h ?_);first|simp (disch:=omega) only [↓LD,LA,a0A,seval,LSs,LBr,←hbr,LEv,a0L,Ev.cs,List.length_map,e1,e2,e3,c1]|(refine And.intro ?_ ?_;omega)|fail))
  ·rw [if_pos (by omega)] at hE
   have:=hvb (by omega)
   rw [e4,show out.length+1=(out++[b]).length by simp]
   exact Next.mk (0+1,out++[b],max v (gt b (b.length-1)).ver) (by kernel_rfl) ⟨by dsimp only;omega,by simp [ho],hba,⟨by dsimp only;omega,by dsimp only;omega⟩,hE⟩ (by dsimp only;omega)
  ·rw [if_neg (by omega)] at hE
   rw [e4,show out.length+1=(out++[b]).length by simp]
   exact Next.mk (0+1,out++[b],v) (by kernel_rfl) ⟨by dsimp only;omega,by simp [ho],hba,hv,hE⟩ (by dsimp only;omega)
 rw [if_neg hz] at hbr
 have pk:=b0N (x:=IntKind.i64.wrap (i*7+a.length)) (n:=out.length) (by omega)
 haveI:Kn (BrOk (gt out (pick (IntKind.i64.wrap (i*7+a.length)) out.length).toNat)):=⟨hb _ (a0K (by omega))⟩
 by_cases hia:i<a.length
 ·rw [if_pos hia] at hbr
  repeat' (with_reducible first|refine Wx.h ?_|refine We.h fun K hK=>?_|(refine hK _ _ _ _ ?_;clear hK K;try clear hM M)|refine Wb.h fun K hK=>?_|(refine hK _ ?_;clear hK K)|(refine Wy.h ?_ ?_;kernel_rfl)|refine Wq.h ?_ ?_<;>intro h<;>try (exfalso;omega)|((fail_if_success refine Wz.h ?_);first|simp (disch:=omega) only [↓LD,LA,a0A,seval,LSs,LBr,←hbr,LEv,a0L,Ev.cs,List.length_map,e1,e2,e3,c1]|(refine And.intro ?_ ?_;omega)|fail))
  ·rw [if_pos (by omega)] at hE
   have:=hvb (by omega)
   rw [e4,show out.length+1=(out++[b]).length by simp]
   exact Next.mk (i+1,out++[b],max v (gt b (b.length-1)).ver) (by kernel_rfl) ⟨by dsimp only;omega,by simp [ho],hba,⟨by dsimp only;omega,by dsimp only;omega⟩,hE⟩ (by dsimp only;omega)
  ·rw [if_neg (by omega)] at hE
   rw [e4,show out.length+1=(out++[b]).length by simp]
   exact Next.mk (i+1,out++[b],v) (by kernel_rfl) ⟨by dsimp only;omega,by simp [ho],hba,hv,hE⟩ (by dsimp only;omega)
 have hw:IntKind.i64.wrap ((i:Int)*7+a.length)=(i:Int)*7+a.length:=s0k (by omega) (by omega)
 rw [if_neg hia,hw] at hbr
 rw [hw] at pk
 rw [hw] at this
 repeat' (with_reducible first|refine Wx.h ?_|refine We.h fun K hK=>?_|(refine hK _ _ _ _ ?_;clear hK K;try clear hM M)|refine Wb.h fun K hK=>?_|(refine hK _ ?_;clear hK K)|(refine Wy.h ?_ ?_;kernel_rfl)|refine Wq.h ?_ ?_<;>intro h<;>try (exfalso;omega)|((fail_if_success refine Wz.h ?_);first|simp (disch:=omega) only [↓LD,LA,a0A,seval,LSs,LBr,←hbr,LEv,a0L,Ev.cs,List.length_map,e1,e2,e3,c1]|(refine And.intro ?_ ?_;omega)|fail))
 ·rw [if_pos (by omega)] at hE
  have:=hvb (by omega)
  rw [e4,show out.length+1=(out++[b]).length by simp]
  exact Next.mk (i+1,out++[b],max v (gt b (b.length-1)).ver) (by kernel_rfl) ⟨by dsimp only;omega,by simp [ho],hba,⟨by dsimp only;omega,by dsimp only;omega⟩,hE⟩ (by dsimp only;omega)
 ·rw [if_neg (by omega)] at hE
  rw [e4,show out.length+1=(out++[b]).length by simp]
  exact Next.mk (i+1,out++[b],v) (by kernel_rfl) ⟨by dsimp only;omega,by simp [ho],hba,hv,hE⟩ (by dsimp only;omega)
end Go.Proofs.YthjgmldnegaaiaaGreatDoor.Mir
namespace Go.Proofs.YthjgmldnegaaiaaGreatDoor
open Go Go.RowKit
abbrev x0O:=Option Addr × Nat × List RwIn
def rwsV (x:x0O):List Value:=[.slice x.1 x.2.2.length x.2.1]
def e1S (W:World)(x:x0O):Prop:=InS rwV (rwOk W) 64 W x.1 x.2.1 x.2.2
theorem x0G (W:World):Reader Tryz.prog W 22 rwsV (e1S W) :=
 b0j (n:=6) (B:=64) Tryz.underlying22 (by kernel_rfl) (by kernel_rfl) (fun _=>rfl) (y0p W)
abbrev LnIn:=(Option Addr × Nat × List x0O) × (Option Addr × Nat × List Int) × (Option Addr × Nat × List z0Y)
def lnV (x:LnIn):List Value:=[.slice x.1.1 x.1.2.2.length x.1.2.1,.slice x.2.1.1 x.2.1.2.2.length x.2.1.2.1,.slice x.2.2.1 x.2.2.2.2.length x.2.2.2.1]
def lnOk (W:World)(x:LnIn):Prop:=InS rwsV (e1S W) 24 W x.1.1 x.1.2.1 x.1.2.2∧InS (fun n:Int=>[Value.int .i64 n]) (fun n=>(Lit.int .i64 n).wf=true) 8 W x.2.1.1 x.2.1.2.1 x.2.1.2.2∧InS rawV (e1p W) 40 W x.2.2.1 x.2.2.2.1 x.2.2.2.2
theorem z0i (W:World):Reader Tryz.prog W 48 lnV (lnOk W) :=
 Reader.map (d0X Tryz.underlying48 (by kernel_rfl) (a0f (m:=1) rfl (by kernel_rfl) (b0j (n:=1) (B:=24) Tryz.underlying46 (by kernel_rfl) (by kernel_rfl) (fun _=>rfl) (x0G W))
  (a0f (m:=1) rfl (by kernel_rfl) (b0j (n:=1) (B:=8) Tryz.underlying24 (by kernel_rfl) (by kernel_rfl) (fun _=>rfl) (b0L Tryz.underlying3))
  (a0f (m:=1) rfl (by kernel_rfl) (b0j (n:=3) (B:=40) Tryz.underlying23 (by kernel_rfl) (by kernel_rfl) (fun _=>rfl) (x0B W)) (e0v _)))))
  (fun x=>(x.1,x.2.1,x.2.2.1)) (fun _ _=>rfl) (fun _ h=>⟨h.1,h.2.1,h.2.2.1⟩)
set_option maxRecDepth 100000 in
theorem open_S_lines {H:Type}{enc:TypeId × Value→H}{W:World}{ts:List TypeId}{ds:List (DataW H)}(hsz:(DataW.weightsEach Tryz.prog ts ds).all (· ≤ reachBytes)=true){d:DataW H}{ps:List MemPlace}(j:Nat)(htj:ts[j]?=some 48)(hdj:ds[j]?=some d)
  {base:Nat} {v:Value} (hv:Value.okWide Tryz.prog W .any base 48 v) (h:DataW.Trod enc Tryz.prog W 0 (fun _=>true) true 48 v d ps):∃ x:LnIn,v = .agg (lnV x).toArray∧lnOk W x :=
 i0Q hsz j htj hdj Tryz.underlying48 (z0i W) hv h
def lnS (x:LnIn):List (List Mir.Rw):=x.1.2.2.map fun y=>y.2.2.map rwDD
def lnA (x:LnIn):List Int:=x.2.1.2.2
def lnR (x:LnIn):List Mir.Rd:=x.2.2.2.2.map rawD
theorem g1Q {W:World}{A:Nat→Prop}(hA:∀ b,¬ A b){a:Option Addr}{c:Nat}{xs:List x0O}(h:InS rwsV (e1S W) 24 W a c xs):Mir.RF W A (Mir.fSs (xs.map fun y=>y.2.2.map rwDD)) (.slice a xs.length c):=by
 have h1:=Mir.rf_in (A:=A) (g:=fun x:x0O=>[Mir.fRw (x.2.2.map rwDD)]) h hA fun x hx=>.cons (g1V hA hx) .nil
 have e:∀ l:List x0O,(l.flatMap fun x=>[Mir.fRw (x.2.2.map rwDD)])=(l.map fun y=>y.2.2.map rwDD).map Mir.fRw:=fun l=>by
  induction l with
  | nil=>rfl
  | cons x l ih=>rw [List.flatMap_cons,ih];rfl
 rw [e] at h1
 rw [Mir.fSs,List.length_map];exact h1
theorem r_ln {W:World}{φ:Nat→Nat × Nat}{A:Nat→Prop}{N:Nat}(hA:∀ b,¬ A b){x:LnIn}(h:lnOk W x):Mir.R Tryz.prog W φ A N (Mir.lnD (lnS x) (lnA x) (lnR x)) (.agg (lnV x).toArray) :=
 Mir.r_ag (xs:=[Mir.fSs (lnS x),Mir.fI (lnA x),Mir.fR (lnR x)]) (.cons (g1Q hA h.1) (.cons (Mir.rf_ints h.2.1 hA) (.cons (f1G hA h.2.2) .nil))) (by intro u hu;simp [lnV] at hu;rcases hu with rfl|rfl|rfl<;>rfl)
theorem n0S {H:Type}{enc:TypeId × Value→H}{P:Program}{w:World}{base:Nat}{sp:Nat→Bool}{held:Bool}{fuel:Nat}{t e:TypeId}{n:Nat}{cs:List Value}{ss:List (List UInt8)}{p:List MemPlace}
  (ht:P.underlying t=some (.array n e)) (he:P.underlying e=some .string) (hce:P.cellsOf e=1) (hct:P.cellsOf t=n)
  (h:DataW.trod enc P w base sp held fuel t cs=some (.agg (ss.map fun s=>.lit (.string s)),p)):cs=ss.map fun s=>Value.string ⟨s.toArray⟩:=by
 cases fuel with
 | zero=>simp [DataW.trod] at h
 | succ fuel =>
  simp only [DataW.trod,ht,hce,hct,Nat.mul_one] at h
  split at h
  ·rename_i hl
   obtain ⟨xs,hm,hx⟩:=Option.map_eq_some_iff.1 h
   have hxs:xs.map (·.1)=ss.map fun s=>(DataW.lit (.string s):DataW H):=by
    have:=congrArg Prod.fst hx
    simpa using this
   have hxl:xs.length=n:=by simpa using Lib.mapM_length hm
   have hzl:ss.length=n:=by
    have:=congrArg List.length hxs
    simp at this
    omega
   apply List.ext_getElem?
   intro i
   by_cases hi:i<n
   ·obtain ⟨b,hb,hf⟩:=Lib.mapM_at hm i i (by simp [hi])
    obtain ⟨z,hc,rfl,_⟩:=DataW.trod_string he hf
    have h1:cs[i]?=some (.string z):=by
     have:=congrArg (·[0]?) hc
     simpa [List.getElem?_take,List.getElem?_drop] using this
    have h2:(xs.map (·.1))[i]?=some (DataW.lit (.string z.data.toList):DataW H):=by simp [hb]
    rw [hxs] at h2
    simp only [List.getElem?_map,Option.map_eq_some_iff,DataW.lit.injEq,Lit.string.injEq] at h2
    obtain ⟨z',hz',e1⟩:=h2
    rw [h1,List.getElem?_map,hz',Option.map_some,e1]
   ·rw [List.getElem?_eq_none (by omega),List.getElem?_eq_none (by simp;omega)]
  ·cases h
def nameTab:List (List UInt8):=[[97],[98],[106,111,98,45,49],[122,57],[109],[120,45]]
theorem gNames : Tryz.prog.globalNamed "cutover/cutoverhand.names" = some 0 := by kernel_rfl
theorem gNamesType:(Tryz.prog.globals[0]?).map (·.type)=some 173:=by kernel_rfl
theorem names_gl {W : World} (h : laidMetH Tryz.prog [("cutover/cutoverhand.names", Rows.laid_cutover_cutoverhand_names)] W) : ∀ p ∈ Mir.glTab, Mir.RF W (fun _ => False) p.1 p.2 := by
 rw [MakeChecks.laidMetH_plain _ _ _ (by kernel_rfl)] at h
 obtain ⟨ps,⟨g',t',cs,fuel,p,q,hg',ht',hvar,hd,_,_⟩,_⟩:=h
 obtain rfl:=Option.some.inj (gNames.symm.trans hg')
 obtain rfl:=Option.some.inj (gNamesType.symm.trans ht')
 have hcs:=n0S (ss:=nameTab) Tryz.underlying173 Tryz.underlying9 (by kernel_rfl) (by kernel_rfl) hd
 intro x hx
 obtain rfl:=List.mem_singleton.1 hx
 refine .s (nameTab.map fun s=>Value.string ⟨s.toArray⟩) (Nat.le_refl _) rfl ?_ ?_
 ·intro i u hu
  refine ⟨?_,fun hf=>hf⟩
  have h1:=World.var?_cell gNames hvar i
  rw [←hu,←hcs]
  rw [show (Addr.add { block:=0,off:=0 } i:Addr)=⟨0,i,none⟩ by simp [Addr.add];intro h;omega]
  rw [h1,Array.getElem?_toList]
 ·intro i y u hy hu
  rcases i with _|_|_|_|_|_|i
  all_goals (simp [nameTab] at hy hu;try (subst hy;subst hu;exact .v rfl))
end Go.Proofs.YthjgmldnegaaiaaGreatDoor
namespace Go.Proofs.YthjgmldnegaaiaaGreatDoor.Mir
open Go Go.RowKit
set_option maxHeartbeats 4000000
noncomputable def e0d (t:Br)(b:List Ev):Br:=if b.length=0 then t else if (addR t b).2.2=0 then (addR t b).1 else t
noncomputable def s0e (s:List (List Rw))(a:List Int)(d:List Rd):Br:=(a0x s a d).foldl e0d []
theorem w0B {t:Br}{b:List Ev}(ht:TrK t)(hb:BrOk b):TrK (e0d t b):=by
 unfold e0d
 split
 ·exact ht
 split
 ·exact e1F ht hb
 ·exact ht
theorem t0w:∀ {l:Br} {t:Br},TrK t→(∀ b∈l,BrOk b)→TrK (l.foldl e0d t)
 | [],t,ht,_=>ht
 | b :: l,t,ht,hb=>t0w (l:=l) (w0B ht (hb b (by simp))) fun x hx=>hb x (by simp [hx])
theorem c1P (s:List (List Rw))(a:List Int)(d:List Rd):TrK (s0e s a d):=t0w TrK.nil (d0l s a d).1
set_option maxRecDepth 100000 in
theorem t0A (s:List (List Rw))(a:List Int)(d:List Rd):Con Tryz.prog 19 [lnD s a d] [] fun r H'=>r = .ag [.f (fBr (s0e s a d))]∧H'=[]:=by
 have hT:s0e s a d=(a0x s a d).foldl e0d []:=rfl
 have hB:=d0l s a d
 suffices hh:∀ Q:D→List Row→Prop,Q (.ag [.f (fBr (s0e s a d))]) []→Con Tryz.prog 19 [lnD s a d] [] Q from hh _ ⟨rfl,rfl⟩
 intro Q hQ
 have hc:=k0J s a d
 rw [lnD] at hc ⊢
 generalize a0x s a d=L at *
 refine Con.walk good r0Y (by simp) ?_
 unfold i0J
 simp only [a0I]
 repeat' (with_reducible first|refine Wx.h ?_|refine Wb.h fun K hK=>?_|(refine hK _ ?_;clear hK K)|((fail_if_success refine Wz.h ?_);simp (disch:=omega) only [↓LD,LA,a0A,seval,LBr]))
 refine a0C hc rfl rfl rfl ?_
 repeat' (with_reducible first|refine Wx.h ?_|refine Wb.h fun K hK=>?_|(refine hK _ ?_;clear hK K)|((fail_if_success refine Wz.h ?_);simp (disch:=omega) only [↓LD,LA,a0A,seval,LBr]))
 refine HS.view (View.bcell 2 0 (.f (.s [] 0)) rfl rfl .ns) ?_
 refine HS.loopG [2,3,4,5] (fun x:Nat × Br=>⟨frm 38 [(2,.pt 0 0),(3,.pt 1 0),(4,.f (fBr L)),(5,D.int x.1)],[.box 50 [jN],.box 50 [.f (fBr x.2)]],[]⟩) (fun x=>x.1≤L.length∧TrK x.2∧L.foldl e0d []=(L.drop x.1).foldl e0d x.2) (fun x=>L.length-x.1) (0,[]) (by kernel_rfl) ⟨Nat.zero_le _,TrK.nil,rfl⟩ ?_
 rintro ⟨i,t⟩ ⟨hi,ht,hF⟩
 dsimp only at hi ht hF
 by_cases hil:i<L.length
 rotate_left
 ·rw [List.drop_of_length_le (by omega)] at hF
  repeat' (with_reducible first|refine Wx.h ?_|refine Wb.h fun K hK=>?_|(refine hK _ ?_;clear hK K)|refine Wq.h ?_ ?_<;>intro h<;>try (exfalso;omega)|((fail_if_success refine Wz.h ?_);simp (disch:=omega) only [↓LD,LA,a0A,seval,LBr]))
  exact RetS.still (ds:=[.ag [.f (fBr t)]]) (by kernel_rfl) (by kernel_rfl) (.ags (.cons .f .nil)) (by rw [hT,hF] at hQ;exact hQ)
 rw [a0G hil,List.foldl_cons] at hF
 haveI:Kn (TrK t):=⟨ht⟩
 haveI:Kn (BrOk (gt L i)):=⟨hB.1 _ (a0K hil)⟩
 have hg:=w0B ht (hB.1 _ (a0K hil))
 have e3:=a1r hil
 repeat' (with_reducible first|refine Wx.h ?_|refine We.h fun K hK=>?_|(refine hK _ _ _ _ ?_;clear hK K;try clear hM M)|refine Wb.h fun K hK=>?_|(refine hK _ ?_;clear hK K)|(refine Wy.h ?_ ?_;kernel_rfl)|refine Wq.h ?_ ?_<;>intro h<;>try (exfalso;omega)|((fail_if_success refine Wz.h ?_);first|simp (disch:=omega) only [↓LD,LA,a0A,seval,LBr,LEv,e3]|(refine And.intro ?_ ?_;omega)|fail))
 ·have g:e0d t (gt L i)=t:=if_pos (by omega)
  rw [g] at hF
  exact Next.mk (i+1,t) (by kernel_rfl) ⟨by dsimp only;omega,ht,hF⟩ (by dsimp only;omega)
 ·have g:e0d t (gt L i)=(addR t (gt L i)).1:=by unfold e0d;rw [if_neg (by omega),if_pos (by assumption)]
  rw [g] at hF hg
  exact Next.mk (i+1,(addR t (gt L i)).1) (by kernel_rfl) ⟨by dsimp only;omega,hg,hF⟩ (by dsimp only;omega)
 ·have g:e0d t (gt L i)=t:=by unfold e0d;rw [if_neg (by omega),if_neg (by assumption)]
  rw [g] at hF
  exact Next.mk (i+1,t) (by kernel_rfl) ⟨by dsimp only;omega,ht,hF⟩ (by dsimp only;omega)
instance {s:List (List Rw)}{a:List Int}{d:List Rd}{H:List Row}{K:D→List Row→Prop}:Wa (a0P Tryz.prog (.fn 19 []) [.ag [.f (fSs s),.f (fI a),.f (fR d)]] H K) (K (.ag [.f (fBr (s0e s a d))]) H):=⟨fun h=>a0C (t0A s a d) rfl rfl rfl h⟩
theorem begB_iff {a b:List Ev}:begB a b=true↔a <+: b:=by
 unfold begB
 rw [Bool.and_eq_true,decide_eq_true_eq,List.prefix_iff_eq_take]
 constructor
 ·rintro ⟨_,h⟩;exact n0s h
 ·intro h;exact ⟨by rw [h,List.length_take];omega,f0p h⟩
theorem f1X {a b:List Ev}:begB a b=false↔¬ a <+: b:=by rw [←begB_iff,Bool.not_eq_true]
theorem h0m {α:Type}{l:List α}{n:Nat}(h0:0<n)(hn:n≤l.length):l.take n≠[]:=fun e=>by
 have:=congrArg List.length e
 rw [List.length_take,List.length_nil] at this;omega
theorem d0M {b:List Ev}{n:Nat}(h0:0<n)(hn:n≤b.length):a0W (b.take n)=(gt b (n-1)).ver:=by
 unfold a0W
 rw [List.length_take,Nat.min_eq_left hn,b0P (by rw [List.length_take];omega),b0P (by omega),List.getElem_take]
theorem q0q:∀ {l m:List Ev} {k:Nat},k<b0J l m→(gt l k).ver=(gt m k).ver
 | a :: l,b :: m,k,h=>by
  rw [b0J] at h
  split at h
  ·rename_i hb
   cases k with
   | zero =>
    have:a.id=b.id∧a.ver=b.ver:=by simpa [alkB] using hb
    simpa [gt] using this.2
   | succ k =>
    have:=q0q (l:=l) (m:=m) (k:=k) (by omega)
    simpa [gt] using this
  ·omega
 | [],m,k,h=>by simp [b0J] at h
 | a :: l,[],k,h=>by simp [b0J] at h
structure Uni (U:List Ev→Prop):Prop where
 ok:∀ {p},U p→BrOk p∧p≠[]
 down:∀ {p q},U p→q <+: p→q≠[]→U q
 comp:∀ {p q},U p→U q→a0W p=a0W q→p <+: q∨q <+: p
theorem Uni.badF {U:List Ev→Prop}(hu:Uni U){x b:List Ev}(hx:U x)(hb:U b):badB x b=false:=by
 unfold badB
 have hle:=f0q x b
 have hat:=fun k=>@q0q x b k
 generalize b0J x b=n at *
 have:x.take n=b.take n:=by
  by_cases h0:n=0
  ·subst h0;simp
  ·have hp:U (x.take n):=hu.down hx (List.take_prefix n x) (h0m (by omega) hle.1)
   have hq:U (b.take n):=hu.down hb (List.take_prefix n b) (h0m (by omega) hle.2)
   have hv:a0W (x.take n)=a0W (b.take n):=by rw [d0M (by omega) hle.1,d0M (by omega) hle.2];exact hat _ (by omega)
   have hl:(x.take n).length=(b.take n).length:=by rw [List.length_take,List.length_take];omega
   rcases hu.comp hp hq hv with h|h
   ·exact h.eq_of_length hl
   ·exact (h.eq_of_length hl.symm).symm
 rw [this,d0a];rfl
theorem w0c {l:List Im}{id v:Int}:a0i (b0n l id v)=⟨id,v⟩:=by
 unfold b0n
 split
 ·rename_i h
  unfold a0i
  rw [List.length_set,if_neg (by omega),b0P (by rw [List.length_set];omega),List.getElem_set_self]
 ·unfold a0i
  rw [if_neg (by simp),b0P (by simp)]
  simp
theorem u0L {first:Int}:∀ {vs:List Int} {i:Nat} {acc:List Im},vs≠[]→a0i (ofA first i vs acc)=⟨first+i+vs.length-1,gt vs (vs.length-1)⟩
 | [],i,acc,h=>absurd rfl h
 | [v],i,acc,_=>by
  rw [ofA,ofA,w0c]
  simp [gt]
 | v :: w :: vs,i,acc,_=>by
  rw [ofA,u0L (vs:=w :: vs) (by simp)]
  have e:gt (v :: w :: vs) ((v :: w :: vs).length-1)=gt (w :: vs) ((w :: vs).length-1):=by simp [gt]
  rw [e]
  congr 1
  simp only [List.length_cons];omega
theorem c0E {b:List Ev}(h:b≠[]):a0i (ofL b)=⟨(gt b 0).id+b.length-1,a0W b⟩:=by
 have hp:0<b.length:=List.length_pos_iff.2 h
 unfold ofL h0L
 rw [if_neg h,u0L (by simpa using h),List.length_map,Int.natCast_zero,Int.add_zero]
 congr 1
 unfold a0W
 rw [b0P (by rw [List.length_map];omega),b0P (by omega),List.getElem_map]
theorem n0j {a b:List Ev}(ha:a≠[])(hb:b≠[])(hn:a0W a≠a0W b):0<cmpI (ofL a) (ofL b)↔a0W b<a0W a:=by
 unfold cmpI
 rw [c0E ha,c0E hb]
 dsimp only
 (repeat' split)<;>omega
theorem r0T {x:List Ev}(hx:x≠[]):∀ {o:Br},(∀ b∈o,b≠[]∧a0W b≠a0W x)→o.Pairwise (fun a b=>a0W b<a0W a)→(∀ b∈o.take (posK x o),a0W x<a0W b)∧(∀ b∈o.drop (posK x o),a0W b<a0W x)
 | [],_,_=>⟨fun b h=>by simp at h,fun b h=>by simp at h⟩
 | c :: o,hm,hp=>by
  obtain ⟨hc,hcv⟩:=hm c (by simp)
  obtain ⟨h1,h2⟩:=List.pairwise_cons.1 hp
  have ih:=r0T hx (o:=o) (fun b hb=>hm b (by simp [hb])) h2
  rw [posK]
  by_cases h:0<cmpI (ofL c) (ofL x)
  ·rw [if_pos h,List.take_succ_cons,List.drop_succ_cons]
   have hv:=(n0j hc hx hcv).1 h
   refine ⟨fun b hb=>?_,ih.2⟩
   rcases List.mem_cons.1 hb with rfl|hb
   ·exact hv
   ·exact ih.1 b hb
  ·rw [if_neg h,List.take_zero,List.drop_zero]
   have hv:a0W c<a0W x:=by have:=mt (n0j hc hx hcv).2 h;omega
   refine ⟨fun b hb=>by simp at hb,fun b hb=>?_⟩
   rcases List.mem_cons.1 hb with rfl|hb
   ·exact hv
   ·have:=h1 b hb;omega
noncomputable def insU (x:List Ev)(o:Br):Br:=o.take (posK x o)++x :: o.drop (posK x o)
theorem c1c {x b:List Ev}{o:Br}:b∈insU x o↔b=x∨b∈o:=by
 unfold insU
 rw [List.mem_append,List.mem_cons]
 conv=>rhs;rw [←List.take_append_drop (posK x o) o,List.mem_append]
 constructor
 ·rintro (h|h|h)
  ·exact .inr (.inl h)
  ·exact .inl h
  ·exact .inr (.inr h)
 ·rintro (h|h|h)
  ·exact .inr (.inl h)
  ·exact .inl h
  ·exact .inr (.inr h)
theorem e1g {x:List Ev}{o:Br}(hx:x≠[])(hm:∀ b∈o,b≠[]∧a0W b≠a0W x)(hp:o.Pairwise fun a b=>a0W b<a0W a):(insU x o).Pairwise fun a b=>a0W b<a0W a:=by
 obtain ⟨h1,h2⟩:=r0T hx hm hp
 unfold insU
 generalize posK x o=k at *
 rw [List.pairwise_append,List.pairwise_cons]
 have hp':=hp
 rw [←List.take_append_drop k o,List.pairwise_append] at hp'
 refine ⟨hp'.1,⟨h2,hp'.2.1⟩,fun a ha b hb=>?_⟩
 rcases List.mem_cons.1 hb with rfl|hb
 ·exact h1 a ha
 ·exact hp'.2.2 a ha b hb
noncomputable def addU (t:Br)(x:List Ev):Br:=if t.any (begB x)=true then t else insU x (t.filter fun b=>!begB b x)
structure TrU (U:List Ev→Prop)(t:Br):Prop where
 mem:∀ b∈t,U b
 lt:t.Pairwise fun a b=>a0W b<a0W a
 anti:∀ a∈t,∀ b∈t,a <+: b→a=b
theorem TrU.nil {U:List Ev→Prop}:TrU U []:=⟨fun b h=>by simp at h,.nil,fun a h=>by simp at h⟩
theorem any_beg {t:Br}{x:List Ev}:t.any (begB x)=true↔∃ b∈t,x <+: b:=by
 rw [List.any_eq_true]
 constructor
 ·rintro ⟨b,h1,h2⟩;exact ⟨b,h1,begB_iff.1 h2⟩
 ·rintro ⟨b,h1,h2⟩;exact ⟨b,h1,begB_iff.2 h2⟩
theorem mem_fil {t:Br}{x b:List Ev}:b∈t.filter (fun b=>!begB b x)↔b∈t∧¬ b <+: x:=by
 rw [List.mem_filter,Bool.not_eq_true',f1X]
theorem n0e {t:Br}{x b:List Ev}(hk:¬ t.any (begB x)=true):b∈addU t x↔b=x∨(b∈t∧¬ b <+: x):=by
 unfold addU
 rw [if_neg hk,c1c,mem_fil]
theorem Uni.tip {U:List Ev→Prop}(hu:Uni U){t:Br}(ht:TrU U t){x:List Ev}(hx:U x)(hk:¬ t.any (begB x)=true):∀ b∈t.filter (fun b=>!begB b x),b≠[]∧a0W b≠a0W x:=fun b hb=>by
 obtain ⟨h1,h2⟩:=mem_fil.1 hb
 refine ⟨(hu.ok (ht.mem b h1)).2,fun e=>?_⟩
 rcases hu.comp (ht.mem b h1) hx e with h|h
 ·exact h2 h
 ·exact hk (any_beg.2 ⟨b,h1,h⟩)
theorem e1H {U:List Ev→Prop}(hu:Uni U){t:Br}(ht:TrU U t){x:List Ev}(hx:U x):TrU U (addU t x):=by
 by_cases hk:t.any (begB x)=true
 ·unfold addU;rw [if_pos hk];exact ht
 refine ⟨fun b hb=>?_,?_,fun a ha b hb hab=>?_⟩
 ·rcases (n0e hk).1 hb with rfl|⟨h,_⟩
  ·exact hx
  ·exact ht.mem b h
 ·unfold addU
  rw [if_neg hk]
  exact e1g (hu.ok hx).2 (hu.tip ht hx hk) (ht.lt.sublist List.filter_sublist)
 ·rcases (n0e hk).1 ha with rfl|⟨h1,h2⟩<;>rcases (n0e hk).1 hb with rfl|⟨h3,h4⟩
  ·rfl
  ·exact absurd (any_beg.2 ⟨b,h3,hab⟩) hk
  ·exact absurd hab h2
  ·exact ht.anti a h1 b h3 hab
def Dn (t:Br)(p:List Ev):Prop:=∃ b∈t,p <+: b
theorem y0B {α:Type}{p:α→Bool}:∀ {l:List α},l.length=(l.filter p).length+(l.filter fun b=>!p b).length
 | []=>rfl
 | a :: l=>by
  have:=y0B (p:=p) (l:=l)
  cases h:p a<;>simp [h]<;>omega
theorem d1v:∀ {L:Br} {t:Br},t.Nodup→(∀ a∈t,∀ b∈t,a <+: b→a=b)→(∀ b∈t,∃ l∈L,b <+: l)→t.length≤L.length
 | [],t,_,_,h=>by
  cases t with
  | nil=>simp
  | cons b t=>obtain ⟨l,hl,_⟩:=h b (by simp);simp at hl
 | l :: L,t,hn,ha,h=>by
  have h1:(t.filter fun b=>begB b l).length≤1:=by
   have hn':=hn.sublist (List.filter_sublist (p:=fun b=>begB b l) (l:=t))
   have hm:∀ b∈t.filter (fun b=>begB b l),b∈t∧b <+: l:=fun b hb=>by rw [List.mem_filter,begB_iff] at hb;exact hb
   generalize t.filter (fun b=>begB b l)=f at *
   match f with
   | []=>simp
   | [_]=>simp
   | a :: b :: f =>
    obtain ⟨a1,a2⟩:=hm a (by simp)
    obtain ⟨b1,b2⟩:=hm b (by simp)
    have:a=b:=(List.prefix_or_prefix_of_prefix a2 b2).elim (ha a a1 b b1) fun h=>(ha b b1 a a1 h).symm
    subst this
    simp at hn'
  have h2:=d1v (L:=L) (t:=t.filter fun b=>!begB b l) (hn.sublist List.filter_sublist) (fun a h1 b h2=>ha a (List.mem_filter.1 h1).1 b (List.mem_filter.1 h2).1) (fun b hb=>by
   obtain ⟨k1,k2⟩:=mem_fil.1 hb
   obtain ⟨m,hm,hb2⟩:=h b k1
   rcases List.mem_cons.1 hm with rfl|hm
   ·exact absurd hb2 k2
   ·exact ⟨m,hm,hb2⟩)
  have h3:=y0B (l:=t) (p:=fun b=>begB b l)
  rw [List.length_cons];omega
theorem TrU.nd {U:List Ev→Prop}{t:Br}(ht:TrU U t):t.Nodup:=ht.lt.imp fun h e=>by subst e;omega
theorem b1j {U:List Ev→Prop}(hu:Uni U){t:Br}(ht:TrU U t){x:List Ev}(hx:U x)(h8:t.length<8):addR t x=(addU t x,!t.any (begB x),0):=by
 have hne:=(hu.ok hx).2
 unfold addR
 rw [if_neg (fun e=>hne (List.eq_nil_of_length_eq_zero e)),if_neg (by
  rw [Bool.not_eq_true,List.any_eq_false]
  intro b hb
  rw [hu.badF hx (ht.mem b hb)];simp)]
 by_cases hk:t.any (begB x)=true
 ·rw [if_pos hk,addU,if_pos hk,hk];rfl
 ·have hl:(t.filter fun b=>!begB b x).length≤t.length:=List.length_filter_le _ _
  rw [if_neg hk,if_neg (by
   rw [Bool.not_eq_true,List.any_eq_false]
   intro b hb
   simpa using (hu.tip ht hx hk b hb).2),if_neg (by omega),addU,if_neg hk]
  have:t.any (begB x)=false:=by simpa using hk
  rw [this];rfl
theorem j0L:∀ {l:List Ev} {s:S12},(a0N s l).1=0→(∀ e,l.head?=some e→e.id=s.id+1∧s.ver≤e.ver∧s.time≤e.time)∧∀ i,i+1<l.length→(gt l (i+1)).id=(gt l i).id+1∧(gt l i).ver≤(gt l (i+1)).ver∧(gt l i).time≤(gt l (i+1)).time
 | [],_,_=>⟨by simp,by simp⟩
 | e :: l,s,h=>by
  rw [a0N] at h
  by_cases a:(a0H s e).1=0
  ·rw [if_pos a] at h
   obtain ⟨a1,a2,a3,a4,a5,a6,a7,a8⟩:=b0r a
   have ih:=j0L h
   refine ⟨fun e' he=>?_,fun i hi=>?_⟩
   ·cases he;exact ⟨a2,a3,a4⟩
   ·cases i with
    | zero =>
     cases l with
     | nil=>simp at hi
     | cons x l =>
      have:=ih.1 x rfl
      rw [a8] at this
      simpa [gt] using this
    | succ i =>
     have:=ih.2 i (by simpa using hi)
     simpa [gt] using this
  ·rw [if_neg a] at h;exact absurd h a
def PnV (v:Int)(p:Pn):Prop:=p.ver=v∧∀ e∈p.out,e.ver=v
theorem c0V {v:Int}{p:Pn}{e:Ev}(h:PnV v p):PnV v (a0O p e).2:=by
 rcases e0L p e with ⟨_,h2⟩|⟨_,_,h2,_,h3⟩|⟨_,_,h2,_,f,hf,h3,h4⟩
 ·rw [h2];exact h
 ·rw [h3]
  refine ⟨h.1,fun x hx=>?_⟩
  rcases List.mem_append.1 hx with hx|hx
  ·exact h.2 x hx
  ·obtain rfl:=List.mem_singleton.1 hx;exact h.1
 ·rw [h4]
  refine ⟨h.1,fun x hx=>?_⟩
  rcases List.mem_append.1 hx with hx|hx
  ·exact h.2 x hx
  ·rcases List.mem_cons.1 hx with rfl|hx
   ·exact h.1
   ·obtain rfl:=List.mem_singleton.1 hx;rw [hf];exact h.1
theorem u0e {v:Int}{p:Pn}{ds:List Nd}(h:PnV v p):PnV v (b0k p ds).2:=by
 unfold b0k;repeat' split
 all_goals first|exact h|exact c0V h
theorem v0M {v:Int}{p:Pn}(h:PnV v p):PnV v (b0s p).2:=by
 unfold b0s;repeat' split
 all_goals first|exact h|exact c0V h
theorem y0k {v:Int}{p:Pn}{i t:Int}{ok:Bool}{d:Bs}(h:PnV v p):PnV v (b0O p i t ok d).2:=by
 unfold b0O;repeat' split
 all_goals first|exact h|exact c0V h
theorem f1y {v:Int}{p:Pn}{nm:Bs}{t:Int}(h:PnV v p):PnV v (armP p nm t).2:=by
 unfold armP;repeat' split
 all_goals first|exact h|exact c0V h
theorem o0g {v:Int}{p:Pn}{nm d:Bs}(h:PnV v p):PnV v (a0q p nm d).2:=by
 unfold a0q;repeat' split
 all_goals first|exact h|exact c0V h
theorem z0g {v:Int}{p:Pn}(h:PnV v p):PnV v (b0b p).2:=by
 unfold b0b;repeat' split
 all_goals first|exact h|exact c0V h
theorem e1U {v:Int}{p:Pn}(h:PnV v p):PnV v (e0Z p).2:=by
 unfold e0Z;repeat' split
 all_goals first|exact h|exact c0V h
theorem n0i {v now:Int}:∀ {k i:Nat} {p:Pn} {n:Int},PnV v p→PnV v (d0H now k i p n).2.1
 | 0,_,_,_,h=>h
 | k+1,i,p,n,h=>by
  rw [d0H]
  have hw:=c0V (e:=⟨0,0,0,4,i,(gt p.s.nodes i).tr,[],[],[]⟩) h
  repeat' split
  all_goals first|exact h|exact hw|exact n0i h|exact n0i hw
theorem y0g {v now:Int}:∀ {f:Nat} {p:Pn} {n:Int},PnV v p→PnV v (e0q now f p n).2
 | 0,_,_,h=>h
 | f+1,p,n,h=>by
  rw [e0q]
  have hw:=c0V (e:=⟨0,0,0,6,0,0,(gt p.s.tms (d0O now p.s.tms 0 (-1) p.s.tms).toNat).name,[],[]⟩) h
  repeat' split
  all_goals first|exact h|exact hw|exact y0g hw
theorem f1Q {v:Int}{p:Pn}(h:PnV v p):PnV v (e0z p).2:=by
 unfold e0z;split
 ·exact n0i h
 ·exact y0g (n0i h)
theorem d1m {v:Int}{p:Pn}{x:Rw}(h:PnV v p):∀ {f i:Nat},PnV v (finA p x f i)
 | 0,_=>v0M h
 | f+1,i=>by
  rw [finA];repeat' split
  all_goals first|exact y0k h|exact d1m h
theorem e1L {v:Int}{p:Pn}{x:Rw}{l:List Rd}(h:PnV v p):PnV v (e0u p x l):=by
 unfold e0u;repeat' split
 all_goals first|exact h|exact u0e h|exact v0M h|exact d1m h|exact f1y h|exact o0g h|exact f1Q h|exact z0g h|exact e1U h
def Gw (lo hi:Int)(l m:List Ev):Prop:=∃ w,m=l++w∧∀ e∈w,lo≤e.ver∧e.ver≤hi
theorem Gw.refl {lo hi:Int}{l:List Ev}:Gw lo hi l l:=⟨[],by simp,fun e h=>by simp at h⟩
theorem h0i {steps:List Rw}{defs:List Rd}:∀ {f i:Nat} {out:List Ev} {v now:Int},0≤v→Gw v (v+22*f) out (g0O steps defs f i out v now)
 | 0,_,_,_,_,_=>Gw.refl
 | f+1,i,out,v,now,h0=>by
  rw [g0O]
  split
  ·split
   ·have hv:=n0o v (mvA (gt steps i))
    generalize verL v (mvA (gt steps i))=v' at *
    have hs:=e1L (x:=gt steps i) (l:=defs) (p:=⟨(a0N s0 out).2,v',now+pick (gt steps i).c 5,[]⟩) (v:=v') ⟨rfl,fun e he=>by simp at he⟩
    obtain ⟨w,hw,hv2⟩:=h0i (steps:=steps) (defs:=defs) (f:=f) (i:=i+1) (out:=out++(e0u ⟨(a0N s0 out).2,v',now+pick (gt steps i).c 5,[]⟩ (gt steps i) defs).out) (v:=v') (now:=now+pick (gt steps i).c 5) (by omega)
    refine ⟨(e0u ⟨(a0N s0 out).2,v',now+pick (gt steps i).c 5,[]⟩ (gt steps i) defs).out++w,by rw [hw,List.append_assoc],fun e he=>?_⟩
    rcases List.mem_append.1 he with he|he
    ·have:=hs.2 e he
     rw [this]
     refine ⟨hv.1,?_⟩
     omega
    ·have:=hv2 e he
     omega
   ·exact Gw.refl
  ·exact Gw.refl
theorem BrOk.ver0 {l:List Ev}(h:BrOk l){e:Ev}(he:e∈l):1≤e.ver:=by
 have:=(rightE_iff.1 (h.right he)).2.2.1
 exact (h0f this).1
theorem j0N {l:List Ev}{steps:List Rw}{defs:List Rd}(h:BrOk l):Gw (if l.length=0 then 1 else a0W l) ((if l.length=0 then 1 else a0W l)+660) l (e0B l steps defs):=by
 unfold e0B
 by_cases hz:l.length=0
 ·rw [if_pos hz,if_pos hz]
  obtain rfl:=List.eq_nil_of_length_eq_zero hz
  exact h0i (by omega)
 ·rw [if_neg hz,if_neg hz]
  have:=h.ver0 (a0K (l:=l) (k:=l.length-1) (by omega))
  exact h0i (f:=30) (v:=(gt l (l.length-1)).ver) (by omega)
theorem e1l {hd:List Ev}{at' v:Int}{defs:List Rd}:∀ e∈(f0B hd at' v defs).out,e.ver=v:=by
 have h0:PnV v ⟨(a0N s0 hd).2,v,hdT hd,[]⟩:=⟨rfl,fun e he=>by simp at he⟩
 unfold f0B
 split
 ·exact (u0e h0).2
 ·exact (o0g h0).2
theorem r0c {l w:List Ev}(h:w≠[]):a0W (l++w)=a0W w:=by
 have hp:0<w.length:=List.length_pos_iff.2 h
 unfold a0W
 rw [List.length_append,b0P (by rw [List.length_append];omega),b0P (by omega),List.getElem_append_right (by omega)]
 congr 2;omega
theorem r0N {l:List Ev}(h:l≠[]):∃ e∈l,a0W l=e.ver:=⟨_,a0K (l:=l) (k:=l.length-1) (by have:=List.length_pos_iff.2 h;omega),rfl⟩
theorem p0i {hd:List Ev}{at' v:Int}{steps:List Rw}{defs:List Rd}(h:BrOk hd):Gw v (v+660) hd (o0k hd at' v steps defs):=by
 unfold o0k
 split
 ·split
  ·exact Gw.refl
  ·rename_i hz
   have hok:=h.app (o0E (at':=at') (v:=v) (defs:=defs) h)
   have hv:=e1l (hd:=hd) (at':=at') (v:=v) (defs:=defs)
   generalize (f0B hd at' v defs).out=w at *
   have hw:w≠[]:=fun e=>hz (by rw [e];rfl)
   have hlv:a0W (hd++w)=v:=by
    rw [r0c hw]
    obtain ⟨e,he,h1⟩:=r0N hw
    rw [h1];exact hv e he
   obtain ⟨x,hx,hxv⟩:=j0N (steps:=steps) (defs:=defs) hok
   rw [if_neg (by rw [List.length_append];have:=List.length_pos_iff.2 hw;omega),hlv] at hxv
   refine ⟨w++x,by rw [hx,List.append_assoc],fun e he=>?_⟩
   rcases List.mem_append.1 he with he|he
   ·rw [hv e he];omega
   ·exact hxv e he
 ·exact Gw.refl
theorem b1O {l:List Ev}(h:BrOk l):∀ (j i:Nat),i≤j→j<l.length→(gt l i).ver≤(gt l j).ver
 | 0,i,hi,hj=>by (obtain rfl:i=0:=by omega);exact Int.le_refl _
 | j+1,i,hi,hj=>by
  by_cases e:i=j+1
  ·subst e;exact Int.le_refl _
  ·have h1:=b1O h j i (by omega) (by omega)
   have h2:=((j0L h.fold).2 j hj).2.1
   omega
theorem t0j {α:Type}{p l:List α}(hp:p <+: l):∃ n,n≤l.length∧p=l.take n:=⟨p.length,hp.length_le,List.prefix_iff_eq_take.1 hp⟩
theorem f1d {p l:List Ev}(h:BrOk l)(hp:p <+: l)(hne:p≠[]):a0W p≤a0W l:=by
 obtain ⟨n,h1,rfl⟩:=t0j hp
 have h0:=List.length_pos_iff.2 hne
 rw [List.length_take] at h0
 rw [d0M (by omega) (by omega)]
 exact b1O h _ _ (by omega) (by omega)
theorem BrOk.pfx {p l:List Ev}(h:BrOk l)(hp:p <+: l):BrOk p:=by
 obtain ⟨n,_,rfl⟩:=t0j hp
 exact h.take _
def Bg (L:Br)(p:List Ev):Prop:=p≠[]∧∃ l∈L,p <+: l
structure LnOk (L:Br)(v:Int):Prop where
 uni:Uni (Bg L)
 le:∀ p,Bg L p→a0W p≤v
theorem LnOk.nil:LnOk [] 0:=⟨⟨fun h=>by obtain ⟨_,l,h,_⟩:=h;simp at h,fun h=>by obtain ⟨_,l,h,_⟩:=h;simp at h,fun h=>by obtain ⟨_,l,h,_⟩:=h;simp at h⟩,fun p h=>by obtain ⟨_,l,h,_⟩:=h;simp at h⟩
theorem bg_app {L:Br}{b p:List Ev}:Bg (L++[b]) p↔Bg L p∨(p≠[]∧p <+: b):=by
 unfold Bg
 constructor
 ·rintro ⟨h1,l,h2,h3⟩
  rcases List.mem_append.1 h2 with h2|h2
  ·exact .inl ⟨h1,l,h2,h3⟩
  ·obtain rfl:=List.mem_singleton.1 h2;exact .inr ⟨h1,h3⟩
 ·rintro (⟨h1,l,h2,h3⟩|⟨h1,h2⟩)
  ·exact ⟨h1,l,by simp [h2],h3⟩
  ·exact ⟨h1,b,by simp,h2⟩
theorem LnOk.add {L:Br}{v lo hi:Int}{h b:List Ev}(hl:LnOk L v)(hh:h=[]∨Bg L h)(hb:BrOk b)(he:Gw lo hi h b)(hv:v<lo):LnOk (L++[b]) (brV v b):=by
 obtain ⟨w,hw,hwv⟩:=he
 have key:∀ p,p≠[]→p <+: b→Bg L p∨v<a0W p:=by
  intro p hp hpb
  by_cases hph:p <+: h
  ·rcases hh with rfl|⟨_,l,h1,h2⟩
   ·exact absurd (List.prefix_nil.1 hph) hp
   ·exact .inl ⟨hp,l,h1,hph.trans h2⟩
  ·right
   have hhp:h <+: p:=((List.prefix_or_prefix_of_prefix hpb (by rw [hw];exact List.prefix_append h w)).resolve_left hph)
   obtain ⟨x,rfl⟩:=hhp
   have hx:x≠[]:=fun e=>hph (by rw [e,List.append_nil];exact List.prefix_refl h)
   rw [hw,List.prefix_append_right_inj] at hpb
   rw [r0c hx]
   obtain ⟨e,he,h1⟩:=r0N hx
   have:=(hwv e (hpb.subset he)).1
   omega
 have okb:∀ p,p≠[]→p <+: b→BrOk p:=fun p _ hp=>hb.pfx hp
 refine ⟨⟨fun {p} hp=>?_,fun {p q} hp hq hne=>?_,fun {p q} hp hq e=>?_⟩,fun p hp=>?_⟩
 ·rcases bg_app.1 hp with h1|⟨h1,h2⟩
  ·exact hl.uni.ok h1
  ·exact ⟨hb.pfx h2,h1⟩
 ·rcases bg_app.1 hp with h1|⟨h1,h2⟩
  ·exact bg_app.2 (.inl (hl.uni.down h1 hq hne))
  ·exact bg_app.2 (.inr ⟨hne,hq.trans h2⟩)
 ·rcases bg_app.1 hp with h1|⟨h1,h2⟩<;>rcases bg_app.1 hq with h3|⟨h3,h4⟩
  ·exact hl.uni.comp h1 h3 e
  ·rcases key q h3 h4 with h5|h5
   ·exact hl.uni.comp h1 h5 e
   ·have:=hl.le p h1;omega
  ·rcases key p h1 h2 with h5|h5
   ·exact hl.uni.comp h5 h3 e
   ·have:=hl.le q h3;omega
  ·exact List.prefix_or_prefix_of_prefix h2 h4
 ·unfold brV
  rcases bg_app.1 hp with h1|⟨h1,h2⟩
  ·have:=hl.le p h1
   split<;>omega
  ·have h3:=f1d hb h2 h1
   have h4:=h2.length_le
   have h5:=List.length_pos_iff.2 h1
   rw [if_pos (by omega)]
   unfold a0W at h3 ⊢
   omega
theorem e1N {n:Nat}{v:Int}(h:0<n):v<verN n v:=by
 cases n with
 | zero=>omega
 | succ n =>
  have h1:=s0o n (o0T v)
  have h2:=o0J v
  rw [verN];omega
theorem q0v {s:List (List Rw)}{a:List Int}{d:List Rd}:∀ {f i:Nat} {out:Br} {v:Int},i+f≤1000→out.length=i→(∀ b∈out,BrOk b)→LnOk out v→0≤v→(i=0→v=0)→∃ v',LnOk (brA s a d f i out v) v'
 | 0,i,out,v,hf,ho,hb,hl,h0,hv0=>⟨v,hl⟩
 | f+1,i,out,v,hf,ho,hb,hl,h0,hv0=>by
  rw [brA]
  split
  ·have hbi:=t0c (s:=s) (a:=a) (d:=d) (v:=v) ho hb
   refine q0v (by omega) (by simp [ho]) (fun b h=>?_) ?_ (by unfold brV;split<;>omega) (by omega)
   ·rcases List.mem_append.1 h with h|h
    ·exact hb b h
    ·rw [List.mem_singleton.1 h];exact hbi
   ·by_cases hi:i=0
    ·have e:brI s a d i out v=e0B [] (gt s 0) d:=by unfold brI;rw [if_pos hi]
     rw [e] at hbi ⊢
     have hx:=j0N (steps:=gt s 0) (defs:=d) BrOk.nil
     rw [if_pos (show ([]:List Ev).length=0 from rfl)] at hx
     exact hl.add (.inl rfl) hbi hx (by rw [hv0 hi];omega)
    ·have e:brI s a d i out v=o0F (gt out (pick (IntKind.i64.wrap (i*7+a.length)) out.length).toNat) (if i<a.length then gt a i else 0) (verL v (IntKind.i64.wrap (1+(i:Int).tmod 2))) (gt s i) d:=by unfold brI;rw [if_neg hi]
     have pk:=b0N (x:=IntKind.i64.wrap (i*7+a.length)) (n:=out.length) (by omega)
     have hgt:v<verL v (IntKind.i64.wrap (1+(i:Int).tmod 2)):=by
      have hm:(i:Int).tmod 2=0∨(i:Int).tmod 2=1:=by rw [Int.tmod_eq_emod_of_nonneg (by omega)];omega
      have hp:0<(pick (IntKind.i64.wrap (1+(i:Int).tmod 2)) 3).toNat:=by
       rcases hm with h|h<;>rw [h]<;>decide
      have:=e1N (v:=v) hp
      unfold verL;omega
     rw [e] at hbi ⊢
     have hgm:gt out (pick (IntKind.i64.wrap (i*7+a.length)) out.length).toNat∈out:=a0K (by omega)
     generalize gt out (pick (IntKind.i64.wrap (i*7+a.length)) out.length).toNat=l0 at *
     unfold o0F at hbi ⊢
     generalize (pick (if i<a.length then gt a i else 0) (l0.length+1)).toNat=c at *
     refine hl.add ?_ hbi (p0i ((hb l0 hgm).take c)) hgt
     by_cases hn:l0.take c=[]
     ·exact .inl hn
     ·exact .inr ⟨hn,l0,hgm,List.take_prefix c l0⟩
  ·exact ⟨v,hl⟩
theorem n0n (s:List (List Rw))(a:List Int)(d:List Rd):Uni (Bg (a0x s a d)):=by
 obtain ⟨v,h⟩:=q0v (s:=s) (a:=a) (d:=d) (f:=5) (i:=0) (out:=[]) (v:=0) (by omega) rfl (fun b h=>by simp at h) LnOk.nil (by omega) (fun _=>rfl)
 exact h.uni
def okI (y x:Im):Bool:=decide (y.id<x.id)&&decide (x.id≤200)&&decide (y.ver<x.ver)&&verB x.ver
def b1W:Im→List Im→Bool
 | _,[]=>true
 | y,x :: l=>okI y x&&b1W x l
def f1v (l:List Im):Bool:=b1W ⟨0,0⟩ l
theorem BrOk.id0 {l:List Ev}(h:BrOk l)(hn:l≠[]):(gt l 0).id=1:=by
 cases l with
 | nil=>exact absurd rfl hn
 | cons e l =>
  have:=((j0L h.fold).1 e rfl).1
  simpa [gt,s0] using this
noncomputable def e0b (pre:List Im)(b:List Ev):Bool:=decide (1≤(a0i pre).id)&&decide ((a0i pre).id≤b.length)&&eqB (ofL (b.take (a0i pre).id.toNat)) pre
noncomputable def d0n (t:Br)(pre:List Im):Option (List Ev) :=
 if pre.length=0 then some [] else (t.find? (e0b pre)).map fun b=>b.take (a0i pre).id.toNat
theorem b1f {l:List Ev}(h:ofL l=[]):l=[]:=by
 refine Classical.byContradiction fun hn=>?_
 have h1:=c0E hn
 rw [h] at h1
 have h0:=List.length_pos_iff.2 hn
 have:(ofL l).length≠0:=by
  unfold ofL h0L
  rw [if_neg hn]
  cases hm:l.map (·.ver) with
  | nil=>rw [List.map_eq_nil_iff] at hm;exact absurd hm hn
  | cons v vs =>
   rw [ofA]
   have:∀ (vs:List Int) (i:Nat) (acc:List Im),0<acc.length→0<(ofA (gt l 0).id i vs acc).length:=by
    intro vs
    induction vs with
    | nil=>intro i acc h;exact h
    | cons v vs ih =>
     intro i acc h
     rw [ofA]
     refine ih _ _ ?_
     unfold b0n;split
     ·rw [List.length_set];exact h
     ·simp
   exact Nat.ne_of_gt (this vs 1 (b0n [] ((gt l 0).id+(0:Nat)) v) (by unfold b0n;rw [if_neg (by simp)];simp))
 rw [h] at this
 exact this rfl
theorem a1J {U:List Ev→Prop}(hu:Uni U){t:Br}(ht:∀ b∈t,U b){hd:List Ev}(hh:U hd):d0n t (ofL hd)=some hd∧Dn t hd∨d0n t (ofL hd)=none∧¬ Dn t hd:=by
 obtain ⟨ok,ne⟩:=hu.ok hh
 have h0:=List.length_pos_iff.2 ne
 have hid:(a0i (ofL hd)).id=hd.length:=by rw [c0E ne,ok.id0 ne];dsimp only;omega
 have hz:¬ (ofL hd).length=0:=fun e=>ne (b1f (List.eq_nil_of_length_eq_zero e))
 have key:∀ b∈t,e0b (ofL hd) b=true↔hd <+: b:=by
  intro b hb
  unfold e0b
  rw [hid,Int.toNat_natCast,Bool.and_eq_true,Bool.and_eq_true,decide_eq_true_eq,decide_eq_true_eq]
  constructor
  ·rintro ⟨⟨_,h1⟩,h2⟩
   have h2:=n0s h2
   have hp:U (b.take hd.length):=hu.down (ht b hb) (List.take_prefix _ _) (h0m h0 (by omega))
   have hv:a0W (b.take hd.length)=a0W hd:=by
    have h3:=c0E (hu.ok hp).2
    rw [h2,c0E ne] at h3
    exact (Im.mk.inj h3).2.symm
   have hl:(b.take hd.length).length=hd.length:=by rw [List.length_take];omega
   have:b.take hd.length=hd:=(hu.comp hp hh hv).elim (fun h=>h.eq_of_length hl) fun h=>(h.eq_of_length hl.symm).symm
   exact List.prefix_iff_eq_take.2 this.symm
  ·intro h
   have hl:=h.length_le
   refine ⟨⟨by omega,by omega⟩,f0p ?_⟩
   rw [←List.prefix_iff_eq_take.1 h]
 unfold d0n
 rw [if_neg hz]
 cases hf:t.find? (e0b (ofL hd)) with
 | none =>
  refine .inr ⟨rfl,?_⟩
  rintro ⟨b,hb,h⟩
  exact List.find?_eq_none.1 hf b hb ((key b hb).2 h)
 | some b =>
  have hb:=List.mem_of_find?_eq_some hf
  have h1:=(key b hb).1 (List.find?_some hf)
  refine .inl ⟨?_,b,hb,h1⟩
  rw [Option.map_some,hid,Int.toNat_natCast,←List.prefix_iff_eq_take.1 h1]
def z0U:SCode :=
  (jq ([.a 2 (.mv kN)]) (jq ([.a 3 (.mv kN)]) (.seq (jq ([jm 6 0,je 7 6,jk 8 0]) (.block 0 (.loop (jq ([jB 9 .lss 8 7]) (.seq (jc 9 .skip (.exit 0))
 (.seq (.block 1 (jq ([jm 10 8,jx 11 9 6 8,jL 12 9 11,.a 5 (.alloc 73 [jI,jI,jI,jI,jI,jI,(.f (.v (.string ⟨#[]⟩))),jN,jN]),jm 4 10,.n
 (.store 9 (.t 5) (.t 12))]) (.drw [jm 13 3,jm 14 0,.a 15 (.idx 9 (.t 14) (kI 0)),jo 16 0 15,jl 17 16,jm 18 4,jB 19 .add 17 18,jo 20 1 5,jl 21
 20,.a 22 (.call (kC 56) [(.t 13),(.t 19),(.t 21)]),jm 3 22] [0,0,2,6,14,0,62,0,128,511,1023]))) (.ops [jb 23 .add 8 1,jm 8 23])))))))
 (jq ([jm 24 3,jm 2 24]) .ret))))
theorem c1J:Fn Tryz.prog 22 25 [.t 2] z0U:=.of Tryz.func22 (by kernel_rfl)
def g0H:SCode :=
  (jq ([.a 6 (.mv kN)]) (.seq (jq ([jm 8 0,je 9 8,jm 7 9]) (jq ((ap [jm 10 7,jb 11 .gtr 10 0] (ap [jm 12 11,gM 13 0 12 true] (ap [gM 14 7 12 true,jG
 15 (.bin .sub (.t 14) (kI 1)) 12 true,jG 16 (.idx 2 (.t 13) (.t 15)) 12 true,gO 17 1 16 12 true,gL 18 17 12 true,gM 19 2 12 true,jG 20 (.bin .eql
 (.t 18) (.t 19)) 12 true] [.a 21 (.pick (.t 12) (.t 20) kF)])))) (jc 21 (jq ([jm 22 0,jm 23 7,jb 24 .sub 23 1,jm 25 1,jx 26 2 22 24,jo 27 0 26,.n
 (.store 1 (.t 27) (.t 25))]) (jq ([jm 28 0,jm 6 28]) .ret)) .skip))) (jq ((ap [jm 29 0,jm 30 1,jm 31 2,.a 32 (.bld [jI,jI] [(0,1,(.t 30)),(1,
 1,(.t 31))]),.a 33 (.bsl 57 2 1 [jI,jI] [(0,(.t 32))]),.a 34 (.app 57 2 16 (.t 29) (.t 33))] [jm 6 34])) .ret)))
theorem j0u:Fn Tryz.prog 56 35 [.t 6] g0H:=.of Tryz.func56 (by kernel_rfl)
def r0P:SCode :=
  (jq ([.a 2 (.alloc 57 [jI,jI])]) (.seq (jq ([jm 3 0,je 4 3,jb 5 .eql 4 0]) (jc 5 (jq ([.a 6 (.bld [jI,jI] []),.n (.store 2 (.t 2) (.t 6))]) .ret)
 .skip)) (jq ([jm 7 0,jm 8 0,je 9 8,jb 10 .sub 9 1,jx 11 2 7 10,jL 12 2 11,.n (.store 2 (.t 2) (.t 12))]) .ret)))
theorem x0J:Fn Tryz.prog 54 13 [.cA 2 2] r0P:=.of Tryz.func54 (by kernel_rfl)
def j0P:SCode :=
  (jq ([.a 4 (.alloc 57 [jI,jI])]) (jq ([.a 7 (.bld [jI,jI] []),.a 5 (.alloc 57 [jI,jI]),.n (.store 2 (.t 5) (.t 7))]) (.seq (jq ([jm 8 0,je 9 8,
 jm 10 1,je 11 10,.a 12 (.mm false (.t 9) (.t 11)),jk 13 0]) (.block 0 (.loop (jq ([jB 14 .lss 13 12]) (.seq (jc 14 .skip (.exit 0)) (.seq (.block 1
 (jq ([jm 15 13,jm 6 15]) (.seq (.seq (.drw [jm 16 0,jm 17 6,jx 18 2 16 17,jo 19 1 18,jl 20 19,jm 21 1,jm 22 6,jx 23 2 21 22,jo 24 1 23,jl 25
 24,jB 26 .neq 20 25] [0,0,3,7,15,0,0,96,224,480,1023]) (jc 26 (.exit 0) .skip)) (.seq (.drw [jm 27 0,jm 28 6,jx 29 2 27 28,jo 30 0 29,jl
 31 30,jm 32 1,jm 33 6,jx 34 2 32 33,jo 35 0 34,jl 36 35,.a 37 (.mm false (.t 31) (.t 36)),jm 38 0,jm 39 6,jx 40 2 38 39,jo 41 1 40,jl 42 41,
 .a 43 (.bld [jI,jI] [(0,1,(.t 37)),(1,1,(.t 42))]),.n (.store 2 (.t 5) (.t 43))] [0,0,3,7,15,0,0,96,224,480,1023,0,0,6144,14336,
 30720,65535,131071]) (.seq (.drw [jm 44 0,jm 45 6,jx 46 2 44 45,jo 47 0 46,jl 48 47,jm 49 1,jm 50 6,jx 51 2 49 50,jo 52 0 51,jl 53 52,jB 54
 .neq 48 53] [0,0,3,7,15,0,0,96,224,480,1023]) (jc 54 (.exit 0) .skip)))))) (.ops [jb 55 .add 13 1,jm 13 55]))))))) (jq ([jL 56 2 5,.n
 (.store 2 (.t 4) (.t 56))]) .ret))))
theorem p0G:Fn Tryz.prog 88 57 [.cA 2 4] j0P:=.of Tryz.func88 (by kernel_rfl)
def g0i:SCode :=
  (jq ([jk 4 0]) (jq ((ap [jm 7 0,.a 8 (.call (kC 54) [(.t 7)])] (ap [jm 9 1,.a 10 (.call (kC 54) [(.t 9)])] [.a 5 (.alloc 57 [jI,jI]),.a 6 (.alloc
 57 [jI,jI]),.n (.store 2 (.t 5) (.t 8)),.n (.store 2 (.t 6) (.t 10))]))) (.seq (.drw [jo 11 1 5,jl 12 11,jo 13 1 6,jl 14 13,.a 15 (.call (kC 62)
 [(.t 12),(.t 14)]),jo 16 0 5,jl 17 16,jo 18 0 6,jl 19 18,.a 20 (.call (kC 62) [(.t 17),(.t 19)]),.a 21 (.bsl 3 1 2 [jI,jI] [(0,(.t 15)),(1,
 (.t 20))]),.a 22 (.call (kC 61) [(.t 21)]),jm 4 22] [0,1,0,4,15,0,32,0,128,511,1023,2047,4095]) .ret)))
theorem n0w:Fn Tryz.prog 26 23 [.t 4] g0i:=.of Tryz.func26 (by kernel_rfl)
def q0Y:SCode :=
  (jq ([jk 4 0]) (jq ((ap [jm 7 0,.a 8 (.call (kC 99) [(.t 7)])] [jm 5 8])) (jq ((ap [jm 9 1,.a 10 (.call (kC 99) [(.t 9)])] [jm 6 10])) (.seq (jq ([jm
 11 5]) (jc 11 (.seq (jq ([jm 12 6]) (jc 12 (jq ([jk 4 0]) .ret) .skip)) (jq ([.a 4 (.mv (kI (-1)))]) .ret)) .skip)) (.seq (jq ([jm 13 6]) (jc 13 (jq
 ([jk 4 1]) .ret) .skip)) (.seq (jq ([jm 14 0,jm 15 1,jB 16 .lss 14 15]) (jc 16 (jq ([.a 4 (.mv (kI (-1)))]) .ret) .skip)) (.seq (jq ([jm 17 0,jm 18
 1,jB 19 .gtr 17 18]) (jc 19 (jq ([jk 4 1]) .ret) .skip)) (jq ([jk 4 0]) .ret))))))))
theorem x0S:Fn Tryz.prog 62 20 [.t 4] q0Y:=.of Tryz.func62 (by kernel_rfl)
def p0v:SCode :=
  (jq ([jk 2 0]) (jq ([jk 3 0]) (.seq (jq ([jm 6 0,je 7 6,jk 8 0]) (.block 0 (.loop (jq ([jB 9 .lss 8 7]) (.seq (jc 9 .skip (.exit 0)) (.seq (.block 1
 (jq ([jx 10 1 6 8,jl 11 10,jm 5 11]) (jq ([jm 12 5,jm 13 3,jB 14 .neq 12 13]) (jc 14 (jq ([jm 15 5,jm 2 15]) .ret) .skip)))) (.ops [jb 16 .add 8
 1,jm 8 16]))))))) (jq ([jm 17 3,jm 2 17]) .ret))))
theorem x0i:Fn Tryz.prog 61 18 [.t 2] p0v:=.of Tryz.func61 (by kernel_rfl)
def o0x:SCode :=
 (jq ([.a 2 (.mv kF)]) (jq ((ap [jm 3 0,jm 4 0,jB 5 .neq 3 4] [jm 2 5])) .ret))
theorem w0r:Fn Tryz.prog 99 6 [.t 2] o0x:=.of Tryz.func99 (by kernel_rfl)
def rIm (l:List Im):Row:=.data 57 (l.flatMap Im.cs)
set_option maxRecDepth 100000 in
theorem s0w (l:List Im)(id v:Int)(h0:0<l.length)(hl:l.length≤1000000)(hv:(gt l (l.length-1)).ver=v):Con Tryz.prog 56 [.sl 0 0 l.length,D.int id,D.int v] [rIm l] fun r H'=>r = .sl 0 0 l.length∧H'=[rIm (b0n l id v)]:=by
 have hg:b0n l id v=l.set (l.length-1) ⟨id,(gt l (l.length-1)).ver⟩:=by unfold b0n;rw [if_pos ⟨h0,hv⟩,hv]
 rw [hg]
 refine Con.walk good j0u (by simp) ?_
 unfold g0H rIm
 simp only [a0I]
 have e1:((l.length:Int)-1).toNat=l.length-1:=by omega
 have e2:=e0D (g:=l) (k:=l.length-1) (by omega)
 have e3:=fun a=>a1X (l:=l) (k:=l.length-1) (a:=a) (by omega)
 repeat' (with_reducible first|refine Wx.h ?_|refine Wb.h fun K hK=>?_|(refine hK _ ?_;clear hK K)|refine Wq.h ?_ ?_<;>intro h<;>try (exfalso;omega)|((fail_if_success refine Wz.h ?_);first|simp (disch:=omega) only [↓LD,LA,a0A,seval,b0p,e1,e2,e3,hv]|(refine And.intro ?_ ?_;omega)|fail))
 exact endA rfl rfl ⟨rfl,rfl⟩
set_option maxRecDepth 100000 in
theorem t0R (l:List Im)(id v:Int)(hl:l.length≤1000000)(hv:¬ (0<l.length∧(gt l (l.length-1)).ver=v)):Con Tryz.prog 56 [.sl 0 0 l.length,D.int id,D.int v] [rIm l] fun r H'=>r = .sl 1 0 (l.length+1)∧H'=[.dead,rIm (b0n l id v)]:=by
 have hg:b0n l id v=l++[⟨id,v⟩]:=by unfold b0n;rw [if_neg hv]
 rw [hg]
 refine Con.walk good j0u (by simp) ?_
 unfold g0H rIm
 simp only [a0I]
 have e1:((l.length:Int)-1).toNat=l.length-1:=by omega
 by_cases h0:0<l.length
 ·have hv:¬ (gt l (l.length-1)).ver=v:=fun e=>hv ⟨h0,e⟩
  have e2:=e0D (g:=l) (k:=l.length-1) (by omega)
  repeat' (with_reducible first|refine Wx.h ?_|refine Wb.h fun K hK=>?_|(refine hK _ ?_;clear hK K)|(refine wF ?_ ?_;assumption)|refine Wq.h ?_ ?_<;>intro h<;>try (exfalso;omega)|((fail_if_success refine Wz.h ?_);first|simp (disch:=omega) only [↓LD,LA,a0A,seval,b0p,e1,e2,u0j]|(refine And.intro ?_ ?_;omega)|fail))
  exact endG rfl rfl (ef:=⟨.sl 1 0 (l.length+1),[(0,.dead)],[.data 57 ((l++[(⟨id,v⟩:Im)]).flatMap Im.cs)]⟩) (by kernel_rfl) ⟨rfl,rfl⟩
 ·repeat' (with_reducible first|refine Wx.h ?_|refine Wb.h fun K hK=>?_|(refine hK _ ?_;clear hK K)|refine Wq.h ?_ ?_<;>intro h<;>try (exfalso;omega)|((fail_if_success refine Wz.h ?_);first|simp (disch:=omega) only [↓LD,LA,a0A,seval,b0p,e1,u0j]|(refine And.intro ?_ ?_;omega)|fail))
  exact endG rfl rfl (ef:=⟨.sl 1 0 (l.length+1),[(0,.dead)],[.data 57 ((l++[(⟨id,v⟩:Im)]).flatMap Im.cs)]⟩) (by kernel_rfl) ⟨rfl,rfl⟩
set_option maxRecDepth 100000 in
theorem x0p (l:List Ev)(hl:IdL l):Con Tryz.prog 22 [.f (fEv l)] [] fun r H'=>r = .f (fIm (ofL l))∧H'=[]:=by
 obtain ⟨hl,hid⟩:=hl
 refine Con.walk good c1J (by simp) ?_
 unfold z0U
 simp only [a0I]
 refine HS.seq ?_
 repeat' (with_reducible first|refine Wa.h ?_|refine Wb.h fun K hK=>?_|(refine hK _ ?_;clear hK K)|((fail_if_success refine Wz.h ?_);simp (disch:=omega) only [↓LD,LA,a0A,seval]))
 refine HS.seq ?_
 repeat' (with_reducible first|refine Wa.h ?_|refine Wb.h fun K hK=>?_|(refine hK _ ?_;clear hK K)|((fail_if_success refine Wz.h ?_);simp (disch:=omega) only [↓LD,LA,a0A,seval]))
 refine HS.view (View.void 57) ?_
 refine HS.view (View.slot 3 (.sl 0 0 0) (.no (by decide))) ?_
 repeat' (with_reducible first|refine Wx.h ?_|refine Wb.h fun K hK=>?_|(refine hK _ ?_;clear hK K)|((fail_if_success refine Wz.h ?_);simp (disch:=omega) only [↓LD,LA,a0A,seval,LEv]))
 refine HS.loopG [0,3,6,7,8] (fun x:Nat × List Im=>⟨frm 25 [(0,.f (fEv l)),(3,.sl 0 0 x.2.length),(6,.f (fEv l)),(7,D.int l.length),(8,D.int x.1)],[rIm x.2],[]⟩) (fun x=>x.1≤l.length∧x.2.length≤x.1∧(l=[]∧x.2=[]∨l≠[]∧ofL l=ofA (gt l 0).id x.1 ((l.drop x.1).map (·.ver)) x.2)) (fun x=>l.length-x.1) (0,[]) (by kernel_rfl) ⟨Nat.zero_le _,Nat.zero_le _,by
  by_cases h:l=[]
  ·exact .inl ⟨h,rfl⟩
  ·exact .inr ⟨h,by unfold ofL h0L;rw [if_neg h];rfl⟩⟩ ?_
 rintro ⟨i,o⟩ ⟨hi,ho,hF⟩
 dsimp only at hi ho hF
 by_cases hil:i<l.length
 ·obtain ⟨hne,hF⟩:=hF.resolve_left (fun h=>by rw [h.1] at hil;simp at hil)
  rw [a0G hil,List.map_cons,ofA] at hF
  obtain ⟨d1,d2⟩:=hid hne
  have ea:=k0G (g:=l) (k:=0) (by omega)
  rw [Nat.zero_mul] at ea
  have hw:ofL l=ofA (gt l 0).id (i+1) ((l.drop (i+1)).map (·.ver)) (b0n o ((gt l 0).id+i) (gt l i).ver):=hF
  clear hF hid
  by_cases hc:0<o.length∧(gt o (o.length-1)).ver=(gt l i).ver
  ·have hgl:(b0n o ((gt l 0).id+i) (gt l i).ver).length=o.length:=by unfold b0n;rw [if_pos hc,List.length_set]
   repeat' (with_reducible first|refine Wx.h ?_|refine We.h fun K hK=>?_|(refine hK _ _ _ _ ?_;clear hK K;try clear hM M)|refine Wb.h fun K hK=>?_|(refine hK _ ?_;clear hK K)|(refine Wy.h ?_ ?_;kernel_rfl)|refine Wq.h ?_ ?_<;>intro h<;>try (exfalso;omega)|((fail_if_success refine Wz.h ?_);first|simp (disch:=omega) only [↓LD,LA,a0A,seval,LEv,rIm,c0T,a0L,ea,Ev.cs,List.map_cons,List.map_nil,-a0A]|(refine And.intro ?_ ?_;omega)|fail))
   all_goals
    refine c0d (s0w o ((gt l 0).id+i) (gt l i).ver hc.1 (by omega) hc.2) [0] (by kernel_rfl) rfl rfl ?_
    simp (disch:=omega) only [↓LD,LA,a0A,seval,ren,List.getElem?_nil,rIm]
    repeat' (with_reducible first|refine Wx.h ?_|refine We.h fun K hK=>?_|(refine hK _ _ _ _ ?_;clear hK K;try clear hM M)|refine Wb.h fun K hK=>?_|(refine hK _ ?_;clear hK K)|(refine Wy.h ?_ ?_;kernel_rfl)|((fail_if_success refine Wz.h ?_);simp (disch:=omega) only [↓LD,LA,a0A,seval,rIm]))
    exact Next.mk (i+1,b0n o ((gt l 0).id+i) (gt l i).ver) (by dsimp only;rw [hgl];kernel_rfl) ⟨by dsimp only;omega,by dsimp only;omega,.inr ⟨hne,hw⟩⟩ (by dsimp only;omega)
  ·have hgl:(b0n o ((gt l 0).id+i) (gt l i).ver).length=o.length+1:=by unfold b0n;rw [if_neg hc];simp
   repeat' (with_reducible first|refine Wx.h ?_|refine We.h fun K hK=>?_|(refine hK _ _ _ _ ?_;clear hK K;try clear hM M)|refine Wb.h fun K hK=>?_|(refine hK _ ?_;clear hK K)|(refine Wy.h ?_ ?_;kernel_rfl)|refine Wq.h ?_ ?_<;>intro h<;>try (exfalso;omega)|((fail_if_success refine Wz.h ?_);first|simp (disch:=omega) only [↓LD,LA,a0A,seval,LEv,rIm,c0T,a0L,ea,Ev.cs,List.map_cons,List.map_nil,-a0A]|(refine And.intro ?_ ?_;omega)|fail))
   all_goals
    refine c0d (t0R o ((gt l 0).id+i) (gt l i).ver (by omega) hc) [0] (by kernel_rfl) rfl rfl ?_
    simp (disch:=omega) only [↓LD,LA,a0A,seval,ren,List.getElem?_nil,rIm]
    repeat' (with_reducible first|refine Wx.h ?_|refine We.h fun K hK=>?_|(refine hK _ _ _ _ ?_;clear hK K;try clear hM M)|refine Wb.h fun K hK=>?_|(refine hK _ ?_;clear hK K)|(refine Wy.h ?_ ?_;kernel_rfl)|((fail_if_success refine Wz.h ?_);simp (disch:=omega) only [↓LD,LA,a0A,seval,rIm]))
    exact Next.mk (i+1,b0n o ((gt l 0).id+i) (gt l i).ver) (by dsimp only;rw [hgl];kernel_rfl) ⟨by dsimp only;omega,by dsimp only;omega,.inr ⟨hne,hw⟩⟩ (by dsimp only;omega)
 ·have hF:ofL l=o:=by
   rcases hF with ⟨h1,h2⟩|⟨h1,h2⟩
   ·rw [h2];unfold ofL;rw [if_pos h1]
   ·rw [h2,List.drop_of_length_le (by omega)];rfl
  rw [hF]
  repeat' (with_reducible first|refine Wx.h ?_|refine Wb.h fun K hK=>?_|(refine hK _ ?_;clear hK K)|refine Wq.h ?_ ?_<;>intro h<;>try (exfalso;omega)|((fail_if_success refine Wz.h ?_);simp (disch:=omega) only [↓LD,LA,a0A,seval]))
  exact end1 rfl rfl (by kernel_rfl) (.sl (T:=57) (xs:=o.flatMap Im.cs) rfl (fun e=>by rw [List.eq_nil_of_length_eq_zero e];rfl)) ⟨rfl,rfl⟩
end Go.Proofs.YthjgmldnegaaiaaGreatDoor.Mir
