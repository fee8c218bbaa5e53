/- Lemmas for the proof. No condition. -/
import Derived.Test.YthjgmldnegaaiaaGreatDoorSl13
set_option linter.unusedVariables false
set_option linter.unusedSimpArgs false
namespace Go.Proofs.YthjgmldnegaaiaaGreatDoor.Mir
open Go Go.RowKit
set_option maxHeartbeats 4000000
structure BrOk (l:List Ev):Prop where
 fold:(a0N s0 l).1=0
 fit:∀ e∈l,FitV e
 sig:∀ e∈l,SgN e
theorem BrOk.nil:BrOk []:=⟨rfl,fun e h=>by simp at h,fun e h=>by simp at h⟩
theorem BrOk.ok {l:List Ev}(h:BrOk l):Ok12 (a0N s0 l).2:=u0e v0z h.fit h.fold
theorem BrOk.id {l:List Ev}(h:BrOk l):(a0N s0 l).2.id=l.length:=by
 have:=o0O h.fold
 rw [this];simp [s0]
theorem BrOk.len {l:List Ev}(h:BrOk l):l.length≤200:=by
 have h1:=h.id
 have h2:=h.ok.id
 omega
theorem k0U:∀ {l:List Ev} {s:S12},(a0N s l).1=0→∀ e∈l,b0D e=true
 | [],_,_,e,he=>by simp at he
 | x :: l,s,h,e,he=>by
  rw [a0N] at h
  by_cases a:(a0I s x).1=0
  ·rw [if_pos a] at h
   rcases List.mem_cons.1 he with rfl|he
   ·exact (c0D a).1
   ·exact k0U h e he
  ·rw [if_neg a] at h;exact absurd h a
theorem BrOk.right {l:List Ev}(h:BrOk l){e:Ev}(he:e∈l):b0D e=true:=k0U h.fold e he
theorem BrOk.app {l:List Ev}{p:Pn}(h:BrOk l)(hp:PnT (a0N s0 l).2 p):BrOk (l++p.out):=by
 refine ⟨by rw [i0y h.fold,hp.ok.out],fun e he=>?_,fun e he=>?_⟩
 rotate_left
 ·rcases List.mem_append.1 he with he|he
  ·exact h.sig e he
  ·exact hp.sg e he
 rcases List.mem_append.1 he with he|he
 ·exact h.fit e he
 ·exact hp.ok.fit e he
theorem BrOk.pen {l:List Ev}(h:BrOk l)(v now:Int):PnT (a0N s0 l).2 ⟨(a0N s0 l).2,v,now,[]⟩:=⟨⟨h.ok,h.ok,rfl,fun e he=>by simp at he⟩,fun e he=>by simp at he⟩
theorem z0W {l:List Ev}{v now:Int}(h:newE l v now=0):verB v=true∧0≤now∧now≤1099511627776∧(a0N s0 l).2.ver≤v:=by
 unfold newE at h
 split at h
 ·cases h
 split at h
 ·cases h
 split at h
 ·cases h
 split at h
 ·cases h
 split at h
 ·cases h
 refine ⟨?_,by omega,by omega,by omega⟩
 cases hb:verB v with
 | true=>rfl
 | false=>simp_all
theorem n0l {v:Int}(h:verB v=true):1≤v∧v≤1099511627776:=by
 simp only [verB,inI,Bool.and_eq_true,decide_eq_true_eq] at h;exact h.1
def mvA (x:Rw):Int:=IntKind.i64.wrap (IntKind.i64.wrap (x.v.tdiv 4)*x.v.tmod 2)
def h0w (steps:List Rw)(defs:List Rd):Nat→Nat→List Ev→Int→Int→List Ev
 | 0,_,out,_,_=>out
 | f+1,i,out,v,now=>if i<steps.length∧out.length<150 then
   (if newE out (verL v (mvA (gt steps i))) (now+pick (gt steps i).c 5)=0 then
    h0w steps defs f (i+1) (out++(j0X ⟨(a0N s0 out).2,verL v (mvA (gt steps i)),now+pick (gt steps i).c 5,[]⟩ (gt steps i) defs).out) (verL v (mvA (gt steps i))) (now+pick (gt steps i).c 5)
   else out) else out
def f0X (l:List Ev)(steps:List Rw)(defs:List Rd):List Ev :=
 if l.length=0 then h0w steps defs 30 0 [] 1 0 else h0w steps defs 30 0 l (gt l (l.length-1)).ver (gt l (l.length-1)).time
theorem o0C {steps:List Rw}{defs:List Rd}:∀ {f i:Nat} {out:List Ev} {v now:Int},BrOk out→BrOk (h0w steps defs f i out v now)
 | 0,_,_,_,_,h=>h
 | f+1,i,out,v,now,h=>by
  rw [h0w]
  split
  ·split
   ·exact o0C (h.app (s0Z (h.pen _ _)))
   ·exact h
  ·exact h
theorem t0x {l:List Ev}{steps:List Rw}{defs:List Rd}(h:BrOk l):BrOk (f0X l steps defs):=by
 unfold f0X;split
 ·exact o0C BrOk.nil
 ·exact o0C h
theorem q0E {steps:List Rw}{defs:List Rd}{f i:Nat}{out:List Ev}{v now:Int}(h:f=0∨¬ (i<steps.length∧out.length<150)):h0w steps defs f i out v now=out:=by
 cases f with
 | zero=>rfl
 | succ f=>rw [h0w,if_neg (by omega)]
set_option maxRecDepth 100000 in
theorem h0P (l:List Ev)(hbr:BrOk l)(steps:List Rw)(defs:List Rd):Con Tryz.prog 37 [.f (fEv l),.f (fRw steps),.f (fR defs)] [] fun r H'=>r = .f (fEv (f0X l steps defs))∧H'=[]:=by
 suffices hh:∀ Q:D→List Row→Prop,(∀ out,f0X l steps defs=out→Q (.f (fEv out)) [])→Con Tryz.prog 37 [.f (fEv l),.f (fRw steps),.f (fR defs)] [] Q from hh _ fun out h=>⟨by rw [h],rfl⟩
 intro Q hQ
 have hE:f0X l steps defs=f0X l steps defs:=rfl
 conv at hE=>rhs;unfold f0X
 have hll:=hbr.len
 refine Con.walk good q0d (by simp) ?_
 unfold j0g
 simp only [a0K]
 have hlast:∀ k:Nat,k<l.length→1≤(gt l k).ver∧(gt l k).ver≤1099511627776∧0≤(gt l k).time∧(gt l k).time≤1099511627776:=fun k hk=>by
  have:=rightE_iff.1 (hbr.right (a0L hk))
  have hv:=n0l this.2.2.1
  exact ⟨hv.1,hv.2,this.2.2.2.1.1,this.2.2.2.1.2⟩
 have e1:((l.length:Int)-1).toNat=l.length-1:=by omega
 have hl0:=hlast (l.length-1)
 by_cases hz:l.length=0
 rotate_left
 have hl1:=hl0 (by omega)
 rw [if_neg hz] at hE
 rotate_left
 rw [if_pos hz] at hE
 obtain rfl:=List.eq_nil_of_length_eq_zero hz
 ·repeat' (with_reducible first|refine Wx.h ?_|refine Wb.h fun K hK=>?_|(refine hK _ ?_;clear hK K)|(refine wT ?_ ?_;assumption)|(refine wF ?_ ?_;assumption)|(refine Wy.h ?_ ?_;kernel_rfl)|refine Wq.h ?_ ?_<;>intro h<;>try (exfalso;omega)|refine Wu.h ?_ ?_<;>intro h<;>try simp only [h]|((fail_if_success refine Wz.h ?_);first|simp (disch:=omega) only [↓LD,LA,a0A,seval,LEv,d0c,n0x,a0J,Ev.cs,e1]|(refine And.intro ?_ ?_;omega)|simp only [D.int,D.bool]))
  refine HS.loopG [1,2,7,8,9,10] (fun x:Nat × List Ev × Int × Int=>⟨frm 88 [(1,.f (fRw steps)),(2,.f (fR defs)),(7,.sl 0 0 x.2.1.length),(8,D.int x.2.2.1),(9,D.int x.2.2.2),(10,D.int x.1)],[rEv x.2.1],[]⟩)
   (fun x=>x.1≤30∧BrOk x.2.1∧(0≤x.2.2.1∧x.2.2.1≤1099511627776)∧(0≤x.2.2.2∧x.2.2.2≤1099511627776)∧f0X _ steps defs=h0w steps defs (30-x.1) x.1 x.2.1 x.2.2.1 x.2.2.2) (fun x=>30-x.1) (0,[],1,0) (by kernel_rfl) ⟨by omega,BrOk.nil,⟨by dsimp only;omega,by dsimp only;omega⟩,⟨by dsimp only;omega,by dsimp only;omega⟩,hE⟩ ?_
  clear hl0 hlast hll hbr hE
  rintro ⟨i,out,v,now⟩ ⟨hi,ho,hv,hnw,hE⟩
  dsimp only at hi ho hv hnw hE
  have hol:=ho.len
  have hpc:=b0n (x:=(gt steps i).c) (n:=5) (by omega)
  repeat' (with_reducible first|refine Wx.h ?_|refine Wb.h fun K hK=>?_|(refine hK _ ?_;clear hK K)|(refine wT ?_ ?_;assumption)|(refine wF ?_ ?_;assumption)|(refine Wy.h ?_ ?_;kernel_rfl)|refine Wq.h ?_ ?_<;>intro h<;>try (exfalso;omega)|refine Wu.h ?_ ?_<;>intro h<;>try simp only [h]|((fail_if_success refine Wz.h ?_);first|simp (disch:=omega) only [↓LD,LA,a0A,seval,v0F,v0M,a1F,v0h,Rw.cs,-a0A,rEv,List.map_cons,List.map_nil]|(refine And.intro ?_ ?_;omega)|simp only [D.int,D.bool]))
  ·rw [show 30-i=(30-(i+1))+1 by omega,h0w,if_pos ⟨by omega,by omega⟩] at hE
   have hvl:=b1J v (mvA (gt steps i))
   unfold mvA at hE hvl
   generalize verL v (IntKind.i64.wrap (IntKind.i64.wrap ((gt steps i).v.tdiv 4)*(gt steps i).v.tmod 2))=v1 at *
   refine a0F (e0S out v1 (now+pick (gt steps i).c 5) (by omega) ho.fit) [0] (by kernel_rfl) rfl rfl ?_
   rintro _ _ ⟨hq1,hq2⟩
   by_cases hn:newE out v1 (now+pick (gt steps i).c 5)=0
   ·rw [if_pos hn] at hE
    obtain ⟨rfl,rfl⟩:=hq2 hn
    obtain ⟨a1,a2,a3,a4⟩:=z0W hn
    have a5:=n0l a1
    simp (disch:=omega) only [↓LD,LA,a0A,seval,ren,List.getElem?_nil,rEv,pnB,pnD]
    repeat' (with_reducible first|refine Wx.h ?_|refine Wb.h fun K hK=>?_|(refine hK _ ?_;clear hK K)|(refine wT ?_ ?_;assumption)|(refine wF ?_ ?_;assumption)|(refine Wy.h ?_ ?_;kernel_rfl)|refine Wq.h ?_ ?_<;>intro h<;>try (exfalso;omega)|refine Wu.h ?_ ?_<;>intro h<;>try simp only [h]|((fail_if_success refine Wz.h ?_);first|simp (disch:=omega) only [↓LD,LA,a0A,seval,rEv,pnB,pnD]|(refine And.intro ?_ ?_;omega)|simp only [D.int,D.bool]))
    refine a0F (h0A (a0N s0 out).2 ⟨(a0N s0 out).2,v1,now+pick (gt steps i).c 5,[]⟩ (gt steps i) defs (ho.pen _ _)) [2] (by kernel_rfl) rfl rfl ?_
    rintro _ _ ⟨rfl,rfl⟩
    have hp':=s0Z (x:=gt steps i) (l:=defs) (ho.pen v1 (now+pick (gt steps i).c 5))
    generalize j0X ⟨(a0N s0 out).2,v1,now+pick (gt steps i).c 5,[]⟩ (gt steps i) defs=p' at *
    have hpl:=hp'.ok.len
    have hap:=ho.app hp'
    simp (disch:=omega) only [↓LD,LA,a0A,seval,ren,List.getElem?_nil,rEv,pnB,pnD]
    repeat' (with_reducible first|refine Wx.h ?_|refine Wb.h fun K hK=>?_|(refine hK _ ?_;clear hK K)|(refine wT ?_ ?_;assumption)|(refine wF ?_ ?_;assumption)|(refine Wy.h ?_ ?_;kernel_rfl)|refine Wq.h ?_ ?_<;>intro h<;>try (exfalso;omega)|refine Wu.h ?_ ?_<;>intro h<;>try simp only [h]|((fail_if_success refine Wz.h ?_);first|simp (disch:=omega) only [↓LD,LA,a0A,seval,rEv,LEv,a0J]|(refine And.intro ?_ ?_;omega)|simp only [D.int,D.bool]))
    ·rw [List.eq_nil_of_length_eq_zero (show p'.out.length=0 by omega),List.append_nil] at hE
     exact Next.mk (i+1,out,v1,now+pick (gt steps i).c 5) (by kernel_rfl) ⟨by dsimp only;omega,ho,⟨by dsimp only;omega,by dsimp only;omega⟩,⟨by dsimp only;omega,by dsimp only;omega⟩,hE⟩ (by dsimp only;omega)
    ·rw [←List.flatMap_append,←List.length_append]
     exact Next.mk (i+1,out++p'.out,v1,now+pick (gt steps i).c 5) (by kernel_rfl) ⟨by dsimp only;omega,hap,⟨by dsimp only;omega,by dsimp only;omega⟩,⟨by dsimp only;omega,by dsimp only;omega⟩,hE⟩ (by dsimp only;omega)
   ·rw [if_neg hn] at hE
    obtain ⟨rfl,rfl⟩:=hq1 hn
    simp (disch:=omega) only [↓LD,LA,a0A,seval,ren,List.getElem?_nil,rEv]
    repeat' (with_reducible first|refine Wx.h ?_|refine Wb.h fun K hK=>?_|(refine hK _ ?_;clear hK K)|(refine wT ?_ ?_;assumption)|(refine wF ?_ ?_;assumption)|(refine Wy.h ?_ ?_;kernel_rfl)|refine Wq.h ?_ ?_<;>intro h<;>try (exfalso;omega)|refine Wu.h ?_ ?_<;>intro h<;>try simp only [h]|((fail_if_success refine Wz.h ?_);first|simp (disch:=omega) only [↓LD,LA,a0A,seval,rEv]|(refine And.intro ?_ ?_;omega)|simp only [D.int,D.bool]))
    exact end1 rfl rfl (by kernel_rfl) (.sl (T:=73) (xs:=out.flatMap Ev.cs) rfl (fun e=>by rw [List.eq_nil_of_length_eq_zero e];try rfl)) (hQ out (hE))
  all_goals exact end1 rfl rfl (by kernel_rfl) (.sl (T:=73) (xs:=out.flatMap Ev.cs) rfl (fun e=>by rw [List.eq_nil_of_length_eq_zero e];try rfl)) (hQ out (by rw [hE,q0E (by omega)]))
 ·repeat' (with_reducible first|refine Wx.h ?_|refine Wb.h fun K hK=>?_|(refine hK _ ?_;clear hK K)|(refine wT ?_ ?_;assumption)|(refine wF ?_ ?_;assumption)|(refine Wy.h ?_ ?_;kernel_rfl)|refine Wq.h ?_ ?_<;>intro h<;>try (exfalso;omega)|refine Wu.h ?_ ?_<;>intro h<;>try simp only [h]|((fail_if_success refine Wz.h ?_);first|simp (disch:=omega) only [↓LD,LA,a0A,seval,LEv,d0c,n0x,a0J,Ev.cs,e1]|(refine And.intro ?_ ?_;omega)|simp only [D.int,D.bool]))
  refine HS.loopG [1,2,7,8,9,10] (fun x:Nat × List Ev × Int × Int=>⟨frm 88 [(1,.f (fRw steps)),(2,.f (fR defs)),(7,.sl 0 0 x.2.1.length),(8,D.int x.2.2.1),(9,D.int x.2.2.2),(10,D.int x.1)],[rEv x.2.1],[]⟩)
   (fun x=>x.1≤30∧BrOk x.2.1∧(0≤x.2.2.1∧x.2.2.1≤1099511627776)∧(0≤x.2.2.2∧x.2.2.2≤1099511627776)∧f0X _ steps defs=h0w steps defs (30-x.1) x.1 x.2.1 x.2.2.1 x.2.2.2) (fun x=>30-x.1) (0,l,(gt l (l.length-1)).ver,(gt l (l.length-1)).time) (by kernel_rfl) ⟨by omega,hbr,⟨by dsimp only;omega,by dsimp only;omega⟩,⟨by dsimp only;omega,by dsimp only;omega⟩,hE⟩ ?_
  clear hl0 hlast hll hbr hE
  rintro ⟨i,out,v,now⟩ ⟨hi,ho,hv,hnw,hE⟩
  dsimp only at hi ho hv hnw hE
  have hol:=ho.len
  have hpc:=b0n (x:=(gt steps i).c) (n:=5) (by omega)
  repeat' (with_reducible first|refine Wx.h ?_|refine Wb.h fun K hK=>?_|(refine hK _ ?_;clear hK K)|(refine wT ?_ ?_;assumption)|(refine wF ?_ ?_;assumption)|(refine Wy.h ?_ ?_;kernel_rfl)|refine Wq.h ?_ ?_<;>intro h<;>try (exfalso;omega)|refine Wu.h ?_ ?_<;>intro h<;>try simp only [h]|((fail_if_success refine Wz.h ?_);first|simp (disch:=omega) only [↓LD,LA,a0A,seval,v0F,v0M,a1F,v0h,Rw.cs,-a0A,rEv,List.map_cons,List.map_nil]|(refine And.intro ?_ ?_;omega)|simp only [D.int,D.bool]))
  ·rw [show 30-i=(30-(i+1))+1 by omega,h0w,if_pos ⟨by omega,by omega⟩] at hE
   have hvl:=b1J v (mvA (gt steps i))
   unfold mvA at hE hvl
   generalize verL v (IntKind.i64.wrap (IntKind.i64.wrap ((gt steps i).v.tdiv 4)*(gt steps i).v.tmod 2))=v1 at *
   refine a0F (e0S out v1 (now+pick (gt steps i).c 5) (by omega) ho.fit) [0] (by kernel_rfl) rfl rfl ?_
   rintro _ _ ⟨hq1,hq2⟩
   by_cases hn:newE out v1 (now+pick (gt steps i).c 5)=0
   ·rw [if_pos hn] at hE
    obtain ⟨rfl,rfl⟩:=hq2 hn
    obtain ⟨a1,a2,a3,a4⟩:=z0W hn
    have a5:=n0l a1
    simp (disch:=omega) only [↓LD,LA,a0A,seval,ren,List.getElem?_nil,rEv,pnB,pnD]
    repeat' (with_reducible first|refine Wx.h ?_|refine Wb.h fun K hK=>?_|(refine hK _ ?_;clear hK K)|(refine wT ?_ ?_;assumption)|(refine wF ?_ ?_;assumption)|(refine Wy.h ?_ ?_;kernel_rfl)|refine Wq.h ?_ ?_<;>intro h<;>try (exfalso;omega)|refine Wu.h ?_ ?_<;>intro h<;>try simp only [h]|((fail_if_success refine Wz.h ?_);first|simp (disch:=omega) only [↓LD,LA,a0A,seval,rEv,pnB,pnD]|(refine And.intro ?_ ?_;omega)|simp only [D.int,D.bool]))
    refine a0F (h0A (a0N s0 out).2 ⟨(a0N s0 out).2,v1,now+pick (gt steps i).c 5,[]⟩ (gt steps i) defs (ho.pen _ _)) [2] (by kernel_rfl) rfl rfl ?_
    rintro _ _ ⟨rfl,rfl⟩
    have hp':=s0Z (x:=gt steps i) (l:=defs) (ho.pen v1 (now+pick (gt steps i).c 5))
    generalize j0X ⟨(a0N s0 out).2,v1,now+pick (gt steps i).c 5,[]⟩ (gt steps i) defs=p' at *
    have hpl:=hp'.ok.len
    have hap:=ho.app hp'
    simp (disch:=omega) only [↓LD,LA,a0A,seval,ren,List.getElem?_nil,rEv,pnB,pnD]
    repeat' (with_reducible first|refine Wx.h ?_|refine Wb.h fun K hK=>?_|(refine hK _ ?_;clear hK K)|(refine wT ?_ ?_;assumption)|(refine wF ?_ ?_;assumption)|(refine Wy.h ?_ ?_;kernel_rfl)|refine Wq.h ?_ ?_<;>intro h<;>try (exfalso;omega)|refine Wu.h ?_ ?_<;>intro h<;>try simp only [h]|((fail_if_success refine Wz.h ?_);first|simp (disch:=omega) only [↓LD,LA,a0A,seval,rEv,LEv,a0J]|(refine And.intro ?_ ?_;omega)|simp only [D.int,D.bool]))
    ·rw [List.eq_nil_of_length_eq_zero (show p'.out.length=0 by omega),List.append_nil] at hE
     exact Next.mk (i+1,out,v1,now+pick (gt steps i).c 5) (by kernel_rfl) ⟨by dsimp only;omega,ho,⟨by dsimp only;omega,by dsimp only;omega⟩,⟨by dsimp only;omega,by dsimp only;omega⟩,hE⟩ (by dsimp only;omega)
    ·rw [←List.flatMap_append,←List.length_append]
     exact Next.mk (i+1,out++p'.out,v1,now+pick (gt steps i).c 5) (by kernel_rfl) ⟨by dsimp only;omega,hap,⟨by dsimp only;omega,by dsimp only;omega⟩,⟨by dsimp only;omega,by dsimp only;omega⟩,hE⟩ (by dsimp only;omega)
   ·rw [if_neg hn] at hE
    obtain ⟨rfl,rfl⟩:=hq1 hn
    simp (disch:=omega) only [↓LD,LA,a0A,seval,ren,List.getElem?_nil,rEv]
    repeat' (with_reducible first|refine Wx.h ?_|refine Wb.h fun K hK=>?_|(refine hK _ ?_;clear hK K)|(refine wT ?_ ?_;assumption)|(refine wF ?_ ?_;assumption)|(refine Wy.h ?_ ?_;kernel_rfl)|refine Wq.h ?_ ?_<;>intro h<;>try (exfalso;omega)|refine Wu.h ?_ ?_<;>intro h<;>try simp only [h]|((fail_if_success refine Wz.h ?_);first|simp (disch:=omega) only [↓LD,LA,a0A,seval,rEv]|(refine And.intro ?_ ?_;omega)|simp only [D.int,D.bool]))
    exact end1 rfl rfl (by kernel_rfl) (.sl (T:=73) (xs:=out.flatMap Ev.cs) rfl (fun e=>by rw [List.eq_nil_of_length_eq_zero e];try rfl)) (hQ out (hE))
  all_goals exact end1 rfl rfl (by kernel_rfl) (.sl (T:=73) (xs:=out.flatMap Ev.cs) rfl (fun e=>by rw [List.eq_nil_of_length_eq_zero e];try rfl)) (hQ out (by rw [hE,q0E (by omega)]))
theorem k0r (steps:List Rw)(defs:List Rd):Con Tryz.prog 9 [.f (fRw steps),.f (fR defs)] [] fun r H'=>r = .f (fEv (f0X [] steps defs))∧H'=[]:=by
 refine Con.walk good k0q (by simp) ?_
 unfold f0U
 simp only [a0K]
 repeat' (with_reducible first|refine Wx.h ?_|refine Wb.h fun K hK=>?_|(refine hK _ ?_;clear hK K)|(refine wT ?_ ?_;assumption)|(refine wF ?_ ?_;assumption)|(refine Wy.h ?_ ?_;kernel_rfl)|refine Wq.h ?_ ?_<;>intro h<;>try (exfalso;omega)|refine Wu.h ?_ ?_<;>intro h<;>try simp only [h]|((fail_if_success refine Wz.h ?_);first|simp (disch:=omega) only [↓LD,LA,a0A,seval]|(refine And.intro ?_ ?_;omega)|simp only [D.int,D.bool]))
 refine d0I (args0:=[.f (fEv []),.f (fRw steps),.f (fR defs)]) ?_ (.cons (.f .ns) (.cons .refl (.cons .refl .nil)))
 refine a0F (h0P [] BrOk.nil steps defs) [] (by kernel_rfl) rfl rfl ?_
 rintro _ _ ⟨rfl,rfl⟩
 simp (disch:=omega) only [↓LD,LA,a0A,seval,ren,List.getElem?_nil]
 repeat' (with_reducible first|refine Wx.h ?_|refine Wb.h fun K hK=>?_|(refine hK _ ?_;clear hK K)|(refine wT ?_ ?_;assumption)|(refine wF ?_ ?_;assumption)|(refine Wy.h ?_ ?_;kernel_rfl)|refine Wq.h ?_ ?_<;>intro h<;>try (exfalso;omega)|refine Wu.h ?_ ?_<;>intro h<;>try simp only [h]|((fail_if_success refine Wz.h ?_);first|simp (disch:=omega) only [↓LD,LA,a0A,seval]|(refine And.intro ?_ ?_;omega)|simp only [D.int,D.bool]))
 exact end1 rfl rfl (by kernel_rfl) .f ⟨rfl,rfl⟩
theorem l0h:∀ {b:List Ev} {s:S12} {i:Nat},(a0N s b).1=0→(a0N s (b.take i)).1=0
 | [],s,i,h=>by simpa using h
 | e :: b,s,0,h=>rfl
 | e :: b,s,i+1,h=>by
  rw [List.take_succ_cons,a0N]
  rw [a0N] at h
  by_cases a:(a0I s e).1=0
  ·rw [if_pos a] at h ⊢;exact l0h h
  ·rw [if_neg a] at h;exact absurd h a
noncomputable def eqB {α:Type}(a b:α):Bool:=@decide (a=b) (Classical.propDecidable _)
theorem e1y {α:Type}{a b:α}(h:a=b):eqB a b=true:=by simp [eqB,h]
theorem s0i {α:Type}{a b:α}(h:¬ a=b):eqB a b=false:=by simp [eqB,h]
theorem s0F {α:Type}{a b:List α}(h:¬ (a.length:Int)=b.length):eqB a b=false:=s0i fun e=>h (by rw [e])
theorem s0g {α:Type}{a b:List α}{i:Nat}(hl:(a.length:Int)=b.length)(h:a.take i=b.take i)(hi:¬ (i:Int)<a.length):eqB a b=true:=e1y (by
 rwa [List.take_of_length_le (by omega),List.take_of_length_le (by omega)] at h)
theorem j0t {α:Type}[Inhabited α]{a b:List α}{i:Nat}(hl:(a.length:Int)=b.length)(hi:i<a.length)(h:a.take i=b.take i)(e:gt a i=gt b i):a.take (i+1)=b.take (i+1):=by
 rw [List.take_succ_eq_append_getElem hi,List.take_succ_eq_append_getElem (by omega),h,←b0R hi,←b0R (by omega),e]
theorem a1w {α:Type}[Inhabited α]{a b:List α}{i:Nat}(e:¬ gt a i=gt b i):eqB a b=false:=s0i fun h=>e (by rw [h])
theorem f0D {α:Type}{a:α}:eqB a a=true:=e1y rfl
def r0C:SCode :=
  (jq ([.a 2 (.box 73 (.t 0)),.a 3 (.box 73 (.t 1)),.a 4 (.mv kF)]) (jq ((ap [jo 5 0 2,jl 6 5,jo 7 0 3,jl 8 7,jB 9 .eql 6 8] (ap [jm 10 9,gO 11 1
 2 10 true] (ap [gL 12 11 10 true,gO 13 1 3 10 true,gL 14 13 10 true,jG 15 (.bin .eql (.t 12) (.t 14)) 10 true] (ap [.a 16 (.pick (.t 10) (.t 15)
 kF),jm 17 16,gO 18 2 2 17 true] (ap [gL 19 18 17 true,gO 20 2 3 17 true,gL 21 20 17 true,jG 22 (.bin .eql (.t 19) (.t 21)) 17 true] (ap [.a 23
 (.pick (.t 17) (.t 22) kF),jm 24 23,gO 25 3 2 24 true] (ap [gL 26 25 24 true,gO 27 3 3 24 true,gL 28 27 24 true,jG 29 (.bin .eql (.t 26) (.t 28))
 24 true] (ap [.a 30 (.pick (.t 24) (.t 29) kF),jm 31 30,gO 32 4 2 31 true] (ap [gL 33 32 31 true,gO 34 4 3 31 true,gL 35 34 31 true,jG 36 (.bin
 .eql (.t 33) (.t 35)) 31 true] (ap [.a 37 (.pick (.t 31) (.t 36) kF),jm 38 37,gO 39 5 2 38 true] (ap [gL 40 39 38 true,gO 41 5 3 38 true,gL 42 41
 38 true,jG 43 (.bin .eql (.t 40) (.t 42)) 38 true] (ap [.a 44 (.pick (.t 38) (.t 43) kF),jm 45 44,gO 46 6 2 45 true] (ap [gL 47 46 45 true,gO 48 6
 3 45 true,gL 49 48 45 true,jG 50 (.bin .eql (.t 47) (.t 49)) 45 true] (ap [.a 51 (.pick (.t 45) (.t 50) kF),jm 52 51,gO 53 7 2 52 true] (ap [gL 54
 53 52 true,jG 55 (.b2s (.t 54)) 52 true,gO 56 7 3 52 true,gL 57 56 52 true,jG 58 (.b2s (.t 57)) 52 true,jG 59 (.bin .eql (.t 55) (.t 58)) 52 true]
 (ap [.a 60 (.pick (.t 52) (.t 59) kF),jm 61 60,gO 62 8 2 61 true] (ap [gL 63 62 61 true,gO 64 8 3 61 true,gL 65 64 61 true,jG 66 (.call (kC 82)
 [(.t 63),(.t 65)]) 61 true] [.a 67 (.pick (.t 61) (.t 66) kF),jm 4 67])))))))))))))))))) .ret))
theorem x0J:Fn Tryz.prog 50 68 [.t 4] r0C:=.of Tryz.func50 (by kernel_rfl)
def h0C:SCode :=
  (jq ([.a 4 (.mv kF)]) (.seq (jq ([jm 6 0,je 7 6,jm 8 1,je 9 8,jB 10 .neq 7 9]) (jc 10 (jq ([.a 4 (.mv kF)]) .ret) .skip)) (.seq (jq ([jk 5 0])
 (.block 0 (.loop (.seq (jq ([jm 11 5,jm 12 0,je 13 12,jB 14 .lss 11 13]) (jc 14 .skip (.exit 0))) (.seq (.block 1 (.seq (.drw [jm 17 0,jm 18 5,jx
 19 9 17 18,jL 20 9 19,jm 21 1,jm 22 5,jx 23 9 21 22,jL 24 9 23,.a 25 (.call (kC 50) [(.t 20),(.t 24)]),.a 26 (.unot (.t 25))] [0,0,3,7,0,
 0,48,112,255,511]) (jc 26 (jq ([.a 4 (.mv kF)]) .ret) .skip))) (.ops [jm 15 5,jb 16 .add 15 1,jm 5 16])))))) (jq ([.a 4 (.mv kT)]) .ret))))
theorem n0W:Fn Tryz.prog 17 27 [.t 4] h0C:=.of Tryz.func17 (by kernel_rfl)
def v0u:SCode :=
  (jq ([.a 2 (.box 50 (.t 0)),.a 3 (.box 38 (.t 1)),.a 4 (.alloc 50 [jN]),.a 5 (.mv kF),jk 6 0]) (.seq (jq ((ap [jo 19 3 3,jl 20 19,je 21 20,jb 22
 .eql 21 0] (ap [jm 23 22,gO 24 2 3 23 false] (ap [gL 25 24 23 false,jG 26 (.call (kC 83) [(.t 25)]) 23 false] [jG 27 (.unot (.t 26)) 23 false,.a 28
 (.pick (.t 23) kT (.t 27))])))) (jc 28 (jq ([.a 29 (.bld [jN] []),.n (.store 1 (.t 4) (.t 29)),.a 5 (.mv kF),jk 6 1]) .ret) .skip)) (jq ((ap [jL 31
 1 2,jo 32 2 3,jl 33 32,.a 34 (.call (kC 84) [(.t 31),(.t 33)])] [jm 30 34,jE 35 0 30,jE 36 1 30,jm 7 35,jm 8 36])) (.seq (jq ([jm 37 8,.a 38
 (.unot (.t 37))]) (jc 38 (jq ([.a 39 (.bld [jN] []),.n (.store 1 (.t 4) (.t 39)),.a 5 (.mv kF),jk 6 4]) .ret) .skip)) (.seq (.drw [.a 40 (.bsl 73 9
 0 [] []),jm 41 7,.a 42 (.app 73 9 112 (.t 40) (.t 41)),jo 43 3 3,jl 44 43,.a 45 (.app 73 9 112 (.t 42) (.t 44)),jm 9 45] [0,0,3,0,8,31,63])
 (.seq (jq ((ap [jm 47 9,.a 48 (.call (kC 28) [(.t 47)])] [jm 46 48,jE 49 0 46,jE 50 1 46,.a 10 (.alloc 65 [jI,jI,jI,jI,jF,jN,jN,jN,jN]),.n
 (.store 9 (.t 10) (.t 49)),jm 11 50])) (jq ([jm 51 11,jb 52 .neq 51 0]) (jc 52 (jq ([.a 53 (.bld [jN] []),.n (.store 1 (.t 4) (.t 53)),.a 5 (.mv
 kF),jk 6 1]) .ret) .skip))) (.seq (jq ([jk 12 0]) (.block 0 (.loop (.seq (jq ([jm 54 12,jo 55 0 2,jl 56 55,je 57 56,jB 58 .lss 54 57]) (jc 58
 .skip (.exit 0))) (.seq (.block 1 (jq ((ap [jm 61 9,jo 62 0 2,jl 63 62,jm 64 12,jx 65 1 63 64,jl 66 65,.a 67 (.call (kC 85) [(.t 61),(.t 66)])]
 [jm 13 67])) (.seq (.drw [jm 68 9,jm 69 13,.a 70 (.sub 9 73 (.t 68) none (some (.t 69)) none),jo 71 0 2,jl 72 71,jm 73 12,jx 74 1 72 73,jl 75
 74,jm 76 13,.a 77 (.sub 9 73 (.t 75) none (some (.t 76)) none),.a 78 (.call (kC 17) [(.t 70),(.t 77)]),.a 79 (.unot (.t 78))] [0,0,3,0,8,0,
 56,120,0,504,1023,2047]) (jc 79 (jq ([.a 80 (.bld [jN] []),.n (.store 1 (.t 4) (.t 80)),.a 5 (.mv kF),jk 6 1]) .ret) .skip)))) (.ops [jm 59 12,
 jb 60 .add 59 1,jm 12 60])))))) (jq ([.a 14 (.mv kN)]) (.seq (jq ([jk 15 0]) (.block 2 (.loop (.seq (jq ([jm 81 15,jo 82 0 2,jl 83 82,je 84 83,jB
 85 .lss 81 84]) (jc 85 .skip (.exit 2))) (.seq (.block 3 (.seq (jq ([jm 88 9,jo 89 0 2,jl 90 89,jm 91 15,jx 92 1 90 91,jl 93 92,.a 94 (.call (kC
 86) [(.t 88),(.t 93)])]) (jc 94 (jq ([jL 95 1 2,.n (.store 1 (.t 4) (.t 95)),.a 5 (.mv kF),jk 6 0]) .ret) .skip)) (jq ((ap [jo 96 0 2,jl 97 96,jm
 98 15,jx 99 1 97 98,jl 100 99,jm 101 9,.a 102 (.call (kC 86) [(.t 100),(.t 101)])] [.a 103 (.unot (.t 102))])) (jc 103 (.ops (ap [jm 104 14,jo
 105 0 2,jl 106 105,jm 107 15,jx 108 1 106 107,jl 109 108,.a 110 (.bsl 25 1 1 [jN] [(0,(.t 109))]),.a 111 (.app 25 1 24 (.t 104) (.t 110))] [jm
 14 111])) .skip)))) (.ops [jm 86 15,jb 87 .add 86 1,jm 15 87])))))) (.seq (jq ([jk 16 0]) (.block 4 (.loop (.seq (jq ([jm 112 16,jm 113 14,je 114
 113,jB 115 .lss 112 114]) (jc 115 .skip (.exit 4))) (.seq (.block 5 (.seq (.drw [jm 118 14,jm 119 16,jx 120 1 118 119,jl 121 120,jm 122 14,jm 123
 16,jx 124 1 122 123,jl 125 124,je 126 125,jb 127 .sub 126 1,jx 128 9 121 127,jo 129 1 128,jl 130 129,jm 131 9,jm 132 9,je 133 132,jb 134
 .sub 133 1,jx 135 9 131 134,jo 136 1 135,jl 137 136,jB 138 .eql 130 137] [0,0,3,7,0,0,48,112,240,496,1023,2047,4095,0,0,16384,
 49152,122880,253952,516096,1048575]) (jc 138 (jq ([.a 139 (.bld [jN] []),.n (.store 1 (.t 4) (.t 139)),.a 5 (.mv kF),jk 6 1]) .ret) .skip)))
 (.ops [jm 116 16,jb 117 .add 116 1,jm 16 117])))))) (.seq (jq ([jm 140 14,je 141 140,jb 142 .geq 141 8]) (jc 142 (jq ([.a 143 (.bld [jN] []),.n
 (.store 1 (.t 4) (.t 143)),.a 5 (.mv kF),jk 6 2]) .ret) .skip)) (jq ([jk 17 0]) (.seq (.block 6 (.loop (.seq (jq ((ap [jm 144 17,jm 145 14,je 146
 145,jB 147 .lss 144 146] (ap [jm 148 147,gM 149 14 148 true] (ap [gM 150 17 148 true,jG 151 (.idx 1 (.t 149) (.t 150)) 148 true,gL 152 151 148
 true,jG 153 (.call (kC 39) [(.t 152)]) 148 true] (ap [gM 154 9 148 true,jG 155 (.call (kC 39) [(.t 154)]) 148 true] (ap [jG 156 (.call (kC 87) [(.t
 153),(.t 155)]) 148 true] (ap [jG 157 (.bin .gtr (.t 156) (kI 0)) 148 true] [.a 158 (.pick (.t 148) (.t 157) kF)]))))))) (jc 158 .skip (.exit 6)))
 (.block 7 (.ops [jm 159 17,jb 160 .add 159 1,jm 17 160]))))) (jq ((ap [.a 161 (.bsl 25 1 0 [] []),jm 162 14,jm 163 17,.a 164 (.sub 1 25 (.t 162)
 none (some (.t 163)) none),.a 165 (.app 25 1 24 (.t 161) (.t 164))] [jm 18 165])) (jq ((ap [jm 166 18,jm 167 9,.a 168 (.bsl 25 1 1 [jN] [(0,(.t
 167))]),.a 169 (.app 25 1 24 (.t 166) (.t 168))] [jm 18 169])) (jq ((ap [jm 170 18,jm 171 14,jm 172 17,.a 173 (.sub 1 25 (.t 171) (some (.t 172))
 none none),.a 174 (.app 25 1 24 (.t 170) (.t 173))] [.a 175 (.bld [jN] [(0,1,(.t 174))]),.n (.store 1 (.t 4) (.t 175)),.a 5 (.mv kT),jk 6 0]))
 .ret))))))))))))))))
theorem y0Z:Fn Tryz.prog 52 176 [.cA 1 4,.t 5,.t 6] v0u:=.of Tryz.func52 (by kernel_rfl)
def o0v:SCode :=
  (jq ([.a 2 (.box 50 (.t 0)),.a 4 (.mv kN),.a 5 (.mv kF)]) (.seq (jq ([jm 8 1,je 9 8,jb 10 .eql 9 0]) (jc 10 (jq ([.a 4 (.mv kN),.a 5 (.mv kT)])
 .ret) .skip)) (jq ((ap [jm 11 1,.a 12 (.call (kC 130) [(.t 11)])] [.a 13 (.fld1 0 (.t 12)),jm 6 13])) (.seq (jq ([jk 7 0]) (.block 0 (.loop (.seq (jq
 ([jm 14 7,jo 15 0 2,jl 16 15,je 17 16,jB 18 .lss 14 17]) (jc 18 .skip (.exit 0))) (.seq (.block 1 (jq ((ap [jm 21 6,jo 22 0 2,jl 23 22,jm 24 7,
 jx 25 1 23 24,jl 26 25,je 27 26,jB 28 .leq 21 27] (ap [jm 29 28,gO 30 0 2 29 true] (ap [gL 31 30 29 true,gM 32 7 29 true,jG 33 (.idx 1 (.t 31)
 (.t 32)) 29 true,gL 34 33 29 true,gM 35 6 29 true,jG 36 (.sub 9 73 (.t 34) none (some (.t 35)) none) 29 true,jG 37 (.call (kC 39) [(.t 36)]) 29
 true] (ap [gM 38 1 29 true,jG 39 (.call (kC 131) [(.t 37),(.t 38)]) 29 true] [.a 40 (.pick (.t 29) (.t 39) kF)]))))) (jc 40 (jq ([jo 41 0 2,jl 42
 41,jm 43 7,jx 44 1 42 43,jl 45 44,jm 46 6,.a 47 (.sub 9 73 (.t 45) none (some (.t 46)) none),jm 4 47,.a 5 (.mv kT)]) .ret) .skip))) (.ops [jm 19
 7,jb 20 .add 19 1,jm 7 20])))))) (jq ([.a 4 (.mv kN),.a 5 (.mv kF)]) .ret)))))
theorem w0r:Fn Tryz.prog 84 48 [.t 4,.t 5] o0v:=.of Tryz.func84 (by kernel_rfl)
def n0N:SCode :=
  (jq ([jk 4 0]) (jq ([jk 5 0]) (.seq (.block 0 (.loop (.seq (.seq (.drw [jm 6 5,jm 7 0,je 8 7,jB 9 .lss 6 8,jm 10 9,gM 11 5 10 true,gM 12 1 10
 true,jG 13 (.slen (.t 12)) 10 true,jG 14 (.bin .lss (.t 11) (.t 13)) 10 true,.a 15 (.pick (.t 10) (.t 14) kF),jm 16 15,gM 17 0 16 true,gM 18 5 16
 true,jG 19 (.idx 9 (.t 17) (.t 18)) 16 true,gO 20 0 19 16 true,gL 21 20 16 true,gM 22 1 16 true,gM 23 5 16 true,jG 24 (.idx 9 (.t 22) (.t 23)) 16
 true,gO 25 0 24 16 true,gL 26 25 16 true,jG 27 (.bin .eql (.t 21) (.t 26)) 16 true,.a 28 (.pick (.t 16) (.t 27) kF),jm 29 28,gM 30 0 29 true,gM
 31 5 29 true,jG 32 (.idx 9 (.t 30) (.t 31)) 29 true,gO 33 1 32 29 true,gL 34 33 29 true,gM 35 1 29 true,gM 36 5 29 true,jG 37 (.idx 9 (.t 35) (.t
 36)) 29 true,gO 38 1 37 29 true,gL 39 38 29 true,jG 40 (.bin .eql (.t 34) (.t 39)) 29 true,.a 41 (.pick (.t 29) (.t 40) kF)] [0,0,2,7,15,31,
 31,95,255,511,1023,2047,2047,8191,16383,32767,2047,2047,198655,460799,985087,2097151,4194303,8388607,16777215,16777215,67108863,
 134217727,268435455,16777215,16777215,1627389951,3774873599,8069840895,17179869183,34359738367]) (jc 41 .skip (.exit 0))) (.block 1 (.ops [jm
 42 5,jb 43 .add 42 1,jm 5 43]))))) (jq ([jm 44 5,jm 4 44]) .ret))))
theorem s0w:Fn Tryz.prog 85 45 [.t 4] n0N:=.of Tryz.func85 (by kernel_rfl)
def i0q:SCode :=
  (jq ([.a 4 (.mv kF)]) (jq ((ap [jm 5 0,je 6 5,jm 7 1,je 8 7,jB 9 .leq 6 8] (ap [jm 10 9,gM 11 0 10 true] (ap [gM 12 1 10 true,gM 13 0 10 true,jG
 14 (.slen (.t 13)) 10 true,jG 15 (.sub 9 73 (.t 12) none (some (.t 14)) none) 10 true,jG 16 (.call (kC 17) [(.t 11),(.t 15)]) 10 true] [.a 17 (.pick
 (.t 10) (.t 16) kF),jm 4 17])))) .ret))
theorem q0X:Fn Tryz.prog 86 18 [.t 4] i0q:=.of Tryz.func86 (by kernel_rfl)
def b1X:SCode :=
  (jq ([.a 2 (.mv kN)]) (jq ([.a 3 (.mv kN)]) (.seq (jq ([jk 4 0]) (.block 0 (.loop (.seq (jq ([jm 5 4,jm 6 0,je 7 6,jB 8 .lss 5 7]) (jc 8 .skip
 (.exit 0))) (.seq (.block 1 (.ops (ap [jm 11 3,jm 12 0,jm 13 4,jx 14 9 12 13,jo 15 1 14,jl 16 15,.a 17 (.bsl 3 1 1 [jI] [(0,(.t 16))]),.a 18
 (.app 3 1 8 (.t 11) (.t 17))] [jm 3 18]))) (.ops [jm 9 4,jb 10 .add 9 1,jm 4 10])))))) (.seq (jq ([jm 19 0,je 20 19,jb 21 .eql 20 0]) (jc 21 (jq
 ([.a 2 (.mv kN)]) .ret) .skip)) (jq ((ap [jm 22 3,jm 23 0,.a 24 (.idx 9 (.t 23) (kI 0)),jo 25 0 24,jl 26 25,.a 27 (.call (kC 74) [(.t 22),(.t
 26)])] [jm 2 27])) .ret)))))
theorem b1q:Fn Tryz.prog 39 28 [.t 2] b1X:=.of Tryz.func39 (by kernel_rfl)
def l0R:SCode :=
  (jq ([.a 4 (.mv kN)]) (jq ([.a 5 (.mv kN)]) (.seq (jq ([jk 6 0]) (.block 0 (.loop (.seq (jq ([jm 8 6,jm 9 0,je 10 9,jB 11 .lss 8 10]) (jc 11 .skip
 (.exit 0))) (.seq (.block 1 (jq ([jm 14 5,je 15 14,jm 7 15]) (.seq (.drw [jm 16 7,jb 17 .gtr 16 0,jm 18 17,gM 19 5 18 true,gM 20 7 18 true,jG 21
 (.bin .sub (.t 20) (kI 1)) 18 true,jG 22 (.idx 2 (.t 19) (.t 21)) 18 true,gO 23 1 22 18 true,gL 24 23 18 true,gM 25 0 18 true,gM 26 6 18 true,jG
 27 (.idx 1 (.t 25) (.t 26)) 18 true,gL 28 27 18 true,jG 29 (.bin .eql (.t 24) (.t 28)) 18 true,.a 30 (.pick (.t 18) (.t 29) kF)] [0,1,3,7,7,23,
 63,127,255,7,7,1543,3591,8191,16383]) (jc 30 (.ops [jm 31 5,jm 32 7,jb 33 .sub 32 1,jm 34 1,jm 35 6,jB 36 .add 34 35,jx 37 2 31 33,jo 38
 0 37,.n (.store 1 (.t 38) (.t 36))]) (.ops (ap [jm 39 5,jm 40 1,jm 41 6,jB 42 .add 40 41,jm 43 0,jm 44 6,jx 45 1 43 44,jl 46 45,.a 47 (.bld
 [jI,jI] [(0,1,(.t 42)),(1,1,(.t 46))]),.a 48 (.bsl 57 2 1 [jI,jI] [(0,(.t 47))]),.a 49 (.app 57 2 16 (.t 39) (.t 48))] [jm 5 49])))))) (.ops
 [jm 12 6,jb 13 .add 12 1,jm 6 13])))))) (jq ([jm 50 5,jm 4 50]) .ret))))
theorem s0J:Fn Tryz.prog 74 51 [.t 4] l0R:=.of Tryz.func74 (by kernel_rfl)
def p0z:SCode :=
  (jq ([.a 2 (.alloc 57 [jI,jI])]) (.seq (jq ([jm 3 0,je 4 3,jb 5 .eql 4 0]) (jc 5 (jq ([.a 6 (.bld [jI,jI] []),.n (.store 2 (.t 2) (.t 6))]) .ret)
 .skip)) (jq ([jm 7 0,jm 8 0,je 9 8,jb 10 .sub 9 1,jx 11 2 7 10,jL 12 2 11,.n (.store 2 (.t 2) (.t 12))]) .ret)))
theorem x0f:Fn Tryz.prog 130 13 [.cA 2 2] p0z:=.of Tryz.func130 (by kernel_rfl)
def h0N:SCode :=
  (jq ([jk 4 0]) (jq ((ap [jm 7 0,.a 8 (.call (kC 130) [(.t 7)])] [.a 5 (.alloc 57 [jI,jI]),.n (.store 2 (.t 5) (.t 8))])) (jq ((ap [jm 9 1,.a 10
 (.call (kC 130) [(.t 9)])] [.a 6 (.alloc 57 [jI,jI]),.n (.store 2 (.t 6) (.t 10))])) (.seq (.block 0 (jq ((ap [jo 12 1 5,jl 13 12,jo 14 1 6,jl 15
 14,jB 16 .neq 13 15] (ap [jm 17 16,gO 18 1 5 17 true] (ap [gL 19 18 17 true,gO 20 1 6 17 true,gL 21 20 17 true,jG 22 (.bin .lss (.t 19) (.t 21))
 17 true] [.a 23 (.pick (.t 17) (.t 22) kF),jm 11 23])))) (jc 11 (jq ([.a 4 (.mv (kI (-1)))]) .ret) (jq ((ap [jo 25 1 5,jl 26 25,jo 27 1 6,jl 28 27,
 jB 29 .neq 26 28] [jm 24 29])) (jc 24 (jq ([jk 4 1]) .ret) (jq ((ap [jo 31 0 5,jl 32 31,jo 33 0 6,jl 34 33,jB 35 .lss 32 34] [jm 30 35])) (jc 30
 (jq ([.a 4 (.mv (kI (-1)))]) .ret) (jq ((ap [jo 37 0 5,jl 38 37,jo 39 0 6,jl 40 39,jB 41 .gtr 38 40] [jm 36 41])) (jc 36 (jq ([jk 4 1]) .ret)
 .skip))))))))) (jq ([jk 4 0]) .ret)))))
theorem o0W:Fn Tryz.prog 87 42 [.t 4] h0N:=.of Tryz.func87 (by kernel_rfl)
def d0w:SCode :=
  (jq ([.a 2 (.mv kF)]) (jq ([jk 3 0]) (jq ([jk 4 0]) (.seq (jq ([jk 5 0]) (.block 0 (.loop (.seq (jq ([jm 6 5,jm 7 0,je 8 7,jB 9 .lss 6 8]) (jc 9
 .skip (.exit 0))) (.seq (.block 1 (.seq (jq ((ap [jm 12 0,jm 13 5,jx 14 2 12 13,jo 15 0 14,jl 16 15,jm 17 3,jB 18 .leq 16 17] (ap [jm 19 18,gM
 20 0 19 false] (ap [gM 21 5 19 false,jG 22 (.idx 2 (.t 20) (.t 21)) 19 false,gO 23 0 22 19 false,gL 24 23 19 false,jG 25 (.bin .gtr (.t 24) (kI
 200)) 19 false] (ap [.a 26 (.pick (.t 19) kT (.t 25)),jm 27 26,gM 28 0 27 false] (ap [gM 29 5 27 false,jG 30 (.idx 2 (.t 28) (.t 29)) 27 false,gO
 31 1 30 27 false,gL 32 31 27 false,gM 33 4 27 false,jG 34 (.bin .leq (.t 32) (.t 33)) 27 false] (ap [.a 35 (.pick (.t 27) kT (.t 34)),jm 36 35,gM
 37 0 36 false] (ap [gM 38 5 36 false,jG 39 (.idx 2 (.t 37) (.t 38)) 36 false,gO 40 1 39 36 false,gL 41 40 36 false,jG 42 (.call (kC 114) [(.t 41)])
 36 false] [jG 43 (.unot (.t 42)) 36 false,.a 44 (.pick (.t 36) kT (.t 43))])))))))) (jc 44 (jq ([.a 2 (.mv kF)]) .ret) .skip)) (jq ([jm 45 0,jm 46 5,
 jx 47 2 45 46,jo 48 0 47,jl 49 48,jm 3 49]) (.ops [jm 50 0,jm 51 5,jx 52 2 50 51,jo 53 1 52,jl 54 53,jm 4 54])))) (.ops [jm 10 5,jb 11 .add 10
 1,jm 5 11])))))) (jq ([.a 2 (.mv kT)]) .ret)))))
theorem h0e:Fn Tryz.prog 83 55 [.t 2] d0w:=.of Tryz.func83 (by kernel_rfl)
structure Im where
 id:Int
 ver:Int
 deriving Inhabited,DecidableEq
def Im.cs (x:Im):List F:=[iF x.id,iF x.ver]
theorem Im.cs_len (x:Im):x.cs.length=2:=rfl
def fIm (l:List Im):F:=.s (l.flatMap Im.cs) l.length
theorem v0x {g:List Im}:slcS (.f (fIm g))=some g.length:=id rfl
theorem u0r {g:List Im}{sz:Nat}{k:IntKind}{i:Int}{K:D→Prop}:idxS sz (.f (fIm g)) (.f (.v (.int k i))) K=((0≤i∧i<g.length)∧K (.rf ((g.flatMap Im.cs).drop (i.toNat*sz)))):=id rfl
theorem o0a {g:List Im}:(g.flatMap Im.cs).length=g.length*2:=b0F Im.cs_len g
theorem c1e {H:List Row}{g:List Im}{k:Nat}(hk:k<g.length):loadA H 2 (.rf ((g.flatMap Im.cs).drop (k*2)))=some (.ag ((Im.cs (gt g k)).map .f)):=b0t Im.cs_len hk
theorem t0c {g:List Im}{k:Nat}(hk:k<g.length):(g.flatMap Im.cs)[k*2+1]?=some (iF (gt g k).ver):=a0s (j:=1) Im.cs_len hk (by omega)
theorem d1F {l:List Im}{a b:Int}:l.flatMap Im.cs++[F.v (.int .i64 a),.v (.int .i64 b)]=(l++[(⟨a,b⟩:Im)]).flatMap Im.cs:=by simp [Im.cs]
theorem c1v:∀ {l:List Im} {k:Nat} {a:Int},k<l.length→(l.flatMap Im.cs).set (k*2) (.v (.int .i64 a))=(l.set k ⟨a,(gt l k).ver⟩).flatMap Im.cs
 | [],k,a,h=>by simp at h
 | x :: l,0,a,h=>rfl
 | x :: l,k+1,a,h=>by
  have ih:=c1v (l:=l) (k:=k) (a:=a) (by simpa using h)
  rw [List.set_cons_succ,List.flatMap_cons,List.flatMap_cons,show gt (x :: l) (k+1)=gt l k by simp [gt],←ih,show (k+1)*2=k*2+1+1 by omega]
  rfl
theorem LIm:type_of% @v0x∧type_of% @u0r:=⟨@v0x,@u0r⟩
def t0J (l:List Im)(id v:Int):List Im:=if 0<l.length∧(gt l (l.length-1)).ver=v then l.set (l.length-1) ⟨id,v⟩ else l++[⟨id,v⟩]
theorem y0g {l:List Im}{id v:Int}:(t0J l id v).length≤l.length+1:=by
 unfold t0J;split<;>simp
def ofA (first:Int):Nat→List Int→List Im→List Im
 | _,[],acc=>acc
 | i,v :: vs,acc=>ofA first (i+1) vs (t0J acc (first+i) v)
def q0l (vs:List Int)(first:Int):List Im:=ofA first 0 vs []
def ofL (l:List Ev):List Im:=if l=[] then [] else q0l (l.map (·.ver)) (gt l 0).id
set_option maxRecDepth 100000 in
theorem w0l (vs:List Int)(first:Int)(hv:vs.length≤1000000)(hf:0≤first∧first≤1000000000):Con Tryz.prog 74 [.f (fI vs),D.int first] [] fun r H'=>r = .f (fIm (q0l vs first))∧H'=[]:=by
 refine Con.walk good s0J (by simp) ?_
 unfold l0R
 simp only [a0K]
 refine HS.seq ?_
 repeat' (with_reducible first|refine Wa.h ?_|refine Wr.h ?_|refine Wb.h fun K hK=>?_|(refine hK _ ?_;clear hK K)|(refine wT ?_ ?_;assumption)|(refine wF ?_ ?_;assumption)|(refine Wy.h ?_ ?_;kernel_rfl)|refine Wq.h ?_ ?_<;>intro h<;>try (exfalso;omega)|refine Wu.h ?_ ?_<;>intro h<;>try simp only [h]|((fail_if_success refine Wz.h ?_);first|simp (disch:=omega) only [↓LD,LA,a0A,seval]|(refine And.intro ?_ ?_;omega)|simp only [D.int,D.bool]))
 refine HS.seq ?_
 repeat' (with_reducible first|refine Wa.h ?_|refine Wr.h ?_|refine Wb.h fun K hK=>?_|(refine hK _ ?_;clear hK K)|(refine wT ?_ ?_;assumption)|(refine wF ?_ ?_;assumption)|(refine Wy.h ?_ ?_;kernel_rfl)|refine Wq.h ?_ ?_<;>intro h<;>try (exfalso;omega)|refine Wu.h ?_ ?_<;>intro h<;>try simp only [h]|((fail_if_success refine Wz.h ?_);first|simp (disch:=omega) only [↓LD,LA,a0A,seval]|(refine And.intro ?_ ?_;omega)|simp only [D.int,D.bool]))
 refine HS.view (View.void 57) ?_
 refine HS.view (View.slot 5 (.sl 0 0 0) (.no (by decide))) ?_
 repeat' (with_reducible first|refine Wx.h ?_|refine Wb.h fun K hK=>?_|(refine hK _ ?_;clear hK K)|(refine wT ?_ ?_;assumption)|(refine wF ?_ ?_;assumption)|(refine Wy.h ?_ ?_;kernel_rfl)|refine Wq.h ?_ ?_<;>intro h<;>try (exfalso;omega)|refine Wu.h ?_ ?_<;>intro h<;>try simp only [h]|((fail_if_success refine Wz.h ?_);first|simp (disch:=omega) only [↓LD,LA,a0A,seval]|(refine And.intro ?_ ?_;omega)|simp only [D.int,D.bool]))
 refine HS.loopG [0,1,5,6] (fun x:Nat × Nat × List Im=>⟨frm 51 [(0,.f (fI vs)),(1,D.int first),(5,.sl 0 0 x.2.1),(6,D.int x.1)],[.data 57 (x.2.2.flatMap Im.cs)],[]⟩) (fun x=>x.1≤vs.length∧x.2.1=x.2.2.length∧x.2.1≤x.1∧q0l vs first=ofA first x.1 (vs.drop x.1) x.2.2) (fun x=>vs.length-x.1) (0,0,[]) (by kernel_rfl) ⟨Nat.zero_le _,rfl,Nat.zero_le _,rfl⟩ ?_
 rintro ⟨i,n,out⟩ ⟨hi,hn,ho,he⟩
 dsimp only at hi hn ho he
 subst hn
 by_cases hil:i<vs.length
 ·rw [a0G hil,ofA] at he
  have e1:((out.length:Int)-1).toNat=out.length-1:=by omega
  by_cases h0:0<out.length
  ·by_cases hv1:(gt out (out.length-1)).ver=gt vs i
   ·have hgr:t0J out (first+i) (gt vs i)=out.set (out.length-1) ⟨first+i,gt vs i⟩:=if_pos ⟨h0,hv1⟩
    repeat' (with_reducible first|refine Wx.h ?_|refine We.h fun K hK=>?_|refine Wd.h fun K M hK hM=>?_|(refine hK _ _ _ _ ?_;clear hK K;try clear hM M)|(refine hM ?_;clear hM M;try clear hK K)|refine Wb.h fun K hK=>?_|(refine hK _ ?_;clear hK K)|(refine wT ?_ ?_;assumption)|(refine wF ?_ ?_;assumption)|(refine Wy.h ?_ ?_;kernel_rfl)|refine Wq.h ?_ ?_<;>intro h<;>try (exfalso;omega)|refine Wu.h ?_ ?_<;>intro h<;>try simp only [h]|((fail_if_success refine Wz.h ?_);first|simp (disch:=omega) only [↓LD,LA,a0A,seval,o0a,t0c,e1,hv1,c1v]|(refine And.intro ?_ ?_;omega)|simp only [D.int,D.bool]))
    exact Next.mk (i+1,out.length,out.set (out.length-1) ⟨first+i,gt vs i⟩) (by kernel_rfl) ⟨by dsimp only;omega,by simp,by dsimp only;omega,by rw [he,hgr]⟩ (by dsimp only;omega)
   ·have hgr:t0J out (first+i) (gt vs i)=out++[⟨first+i,gt vs i⟩]:=if_neg (fun h=>hv1 h.2)
    repeat' (with_reducible first|refine Wx.h ?_|refine We.h fun K hK=>?_|refine Wd.h fun K M hK hM=>?_|(refine hK _ _ _ _ ?_;clear hK K;try clear hM M)|(refine hM ?_;clear hM M;try clear hK K)|refine Wb.h fun K hK=>?_|(refine hK _ ?_;clear hK K)|(refine wT ?_ ?_;assumption)|(refine wF ?_ ?_;assumption)|(refine Wy.h ?_ ?_;kernel_rfl)|refine Wq.h ?_ ?_<;>intro h<;>try (exfalso;omega)|refine Wu.h ?_ ?_<;>intro h<;>try simp only [h]|((fail_if_success refine Wz.h ?_);first|simp (disch:=omega) only [↓LD,LA,a0A,seval,o0a,t0c,e1,d1F]|(refine And.intro ?_ ?_;omega)|simp only [D.int,D.bool]))
    exact Next.mk (i+1,out.length+1,out++[⟨first+i,gt vs i⟩]) (by kernel_rfl) ⟨by dsimp only;omega,by simp,by dsimp only;omega,by rw [he,hgr]⟩ (by dsimp only;omega)
  ·have hgr:t0J out (first+i) (gt vs i)=out++[⟨first+i,gt vs i⟩]:=if_neg (fun h=>h0 h.1)
   repeat' (with_reducible first|refine Wx.h ?_|refine We.h fun K hK=>?_|refine Wd.h fun K M hK hM=>?_|(refine hK _ _ _ _ ?_;clear hK K;try clear hM M)|(refine hM ?_;clear hM M;try clear hK K)|refine Wb.h fun K hK=>?_|(refine hK _ ?_;clear hK K)|(refine wT ?_ ?_;assumption)|(refine wF ?_ ?_;assumption)|(refine Wy.h ?_ ?_;kernel_rfl)|refine Wq.h ?_ ?_<;>intro h<;>try (exfalso;omega)|refine Wu.h ?_ ?_<;>intro h<;>try simp only [h]|((fail_if_success refine Wz.h ?_);first|simp (disch:=omega) only [↓LD,LA,a0A,seval,o0a,t0c,e1,d1F]|(refine And.intro ?_ ?_;omega)|simp only [D.int,D.bool]))
   exact Next.mk (i+1,out.length+1,out++[⟨first+i,gt vs i⟩]) (by kernel_rfl) ⟨by dsimp only;omega,by simp,by dsimp only;omega,by rw [he,hgr]⟩ (by dsimp only;omega)
 ·rw [List.drop_of_length_le (by omega),ofA] at he
  repeat' (with_reducible first|refine Wx.h ?_|refine Wb.h fun K hK=>?_|(refine hK _ ?_;clear hK K)|(refine wT ?_ ?_;assumption)|(refine wF ?_ ?_;assumption)|(refine Wy.h ?_ ?_;kernel_rfl)|refine Wq.h ?_ ?_<;>intro h<;>try (exfalso;omega)|refine Wu.h ?_ ?_<;>intro h<;>try simp only [h]|((fail_if_success refine Wz.h ?_);first|simp (disch:=omega) only [↓LD,LA,a0A,seval]|(refine And.intro ?_ ?_;omega)|simp only [D.int,D.bool]))
  rw [he]
  exact end1 rfl rfl (by kernel_rfl) (.sl (T:=57) (xs:=out.flatMap Im.cs) rfl (fun e=>by rw [List.eq_nil_of_length_eq_zero e];rfl)) ⟨rfl,rfl⟩
theorem q0G:∀ (vs:List Int) (first:Int) (i:Nat) (acc:List Im),(ofA first i vs acc).length≤acc.length+vs.length
 | [],_,_,acc=>by simp [ofA]
 | v :: vs,first,i,acc=>by
  have h:=q0G vs first (i+1) (t0J acc (first+i) v)
  have h2:=y0g (l:=acc) (id:=first+i) (v:=v)
  rw [ofA,List.length_cons];omega
theorem e1u (l:List Ev):(ofL l).length≤l.length:=by
 unfold ofL q0l
 split
 ·simp
 ·have:=q0G (l.map (·.ver)) (gt l 0).id 0 []
  simpa using this
set_option maxRecDepth 100000 in
theorem e1Z (l:List Ev)(hl:l.length≤1000000)(hid:l≠[]→0≤(gt l 0).id∧(gt l 0).id≤1000000000):Con Tryz.prog 39 [.f (fEv l)] [] fun r H'=>r = .f (fIm (ofL l))∧H'=[]:=by
 refine Con.walk good b1q (by simp) ?_
 unfold b1X
 simp only [a0K]
 refine HS.seq ?_
 repeat' (with_reducible first|refine Wa.h ?_|refine Wr.h ?_|refine Wb.h fun K hK=>?_|(refine hK _ ?_;clear hK K)|(refine wT ?_ ?_;assumption)|(refine wF ?_ ?_;assumption)|(refine Wy.h ?_ ?_;kernel_rfl)|refine Wq.h ?_ ?_<;>intro h<;>try (exfalso;omega)|refine Wu.h ?_ ?_<;>intro h<;>try simp only [h]|((fail_if_success refine Wz.h ?_);first|simp (disch:=omega) only [↓LD,LA,a0A,seval]|(refine And.intro ?_ ?_;omega)|simp only [D.int,D.bool]))
 refine HS.seq ?_
 repeat' (with_reducible first|refine Wa.h ?_|refine Wr.h ?_|refine Wb.h fun K hK=>?_|(refine hK _ ?_;clear hK K)|(refine wT ?_ ?_;assumption)|(refine wF ?_ ?_;assumption)|(refine Wy.h ?_ ?_;kernel_rfl)|refine Wq.h ?_ ?_<;>intro h<;>try (exfalso;omega)|refine Wu.h ?_ ?_<;>intro h<;>try simp only [h]|((fail_if_success refine Wz.h ?_);first|simp (disch:=omega) only [↓LD,LA,a0A,seval]|(refine And.intro ?_ ?_;omega)|simp only [D.int,D.bool]))
 refine HS.view (View.void 3) ?_
 refine HS.view (View.slot 3 (.sl 0 0 0) (.no (by decide))) ?_
 repeat' (with_reducible first|refine Wx.h ?_|refine Wb.h fun K hK=>?_|(refine hK _ ?_;clear hK K)|(refine wT ?_ ?_;assumption)|(refine wF ?_ ?_;assumption)|(refine Wy.h ?_ ?_;kernel_rfl)|refine Wq.h ?_ ?_<;>intro h<;>try (exfalso;omega)|refine Wu.h ?_ ?_<;>intro h<;>try simp only [h]|((fail_if_success refine Wz.h ?_);first|simp (disch:=omega) only [↓LD,LA,a0A,seval]|(refine And.intro ?_ ?_;omega)|simp only [D.int,D.bool]))
 refine HS.loopG [0,3,4] (fun i:Nat=>⟨frm 28 [(0,.f (fEv l)),(3,.sl 0 0 i),(4,D.int i)],[.data 3 (((l.take i).map (·.ver)).map iF)],[]⟩) (fun i=>i≤l.length) (fun i=>l.length-i) 0 (by kernel_rfl) (Nat.zero_le _) ?_
 rintro i hi
 by_cases hil:i<l.length
 ·have hlen:(l.take i).length=i:=by rw [List.length_take];omega
  have ha:((l.take i).map (·.ver)).map iF++[.v (.int .i64 (gt l i).ver)]=((l.take (i+1)).map (·.ver)).map iF:=by
   rw [List.take_succ_eq_append_getElem hil,List.map_append,List.map_append,←b0R hil];rfl
  repeat' (with_reducible first|refine Wx.h ?_|refine Wb.h fun K hK=>?_|(refine hK _ ?_;clear hK K)|(refine wT ?_ ?_;assumption)|(refine wF ?_ ?_;assumption)|(refine Wy.h ?_ ?_;kernel_rfl)|refine Wq.h ?_ ?_<;>intro h<;>try (exfalso;omega)|refine Wu.h ?_ ?_<;>intro h<;>try simp only [h]|((fail_if_success refine Wz.h ?_);first|simp (disch:=omega) only [↓LD,LA,a0A,seval,LEv,d0c,a0J,Ev.cs,List.length_map,hlen,ha]|(refine And.intro ?_ ?_;omega)|simp only [D.int,D.bool]))
  exact Next.mk (i+1) (by kernel_rfl) (by omega) (by omega)
 ·rw [List.take_of_length_le (by omega)]
  have hil:i=l.length:=by omega
  subst hil
  by_cases h0:l=[]
  ·subst h0
   repeat' (with_reducible first|refine Wx.h ?_|refine Wb.h fun K hK=>?_|(refine hK _ ?_;clear hK K)|(refine wT ?_ ?_;assumption)|(refine wF ?_ ?_;assumption)|(refine Wy.h ?_ ?_;kernel_rfl)|refine Wq.h ?_ ?_<;>intro h<;>try (exfalso;omega)|refine Wu.h ?_ ?_<;>intro h<;>try simp only [h]|((fail_if_success refine Wz.h ?_);first|simp (disch:=omega) only [↓LD,LA,a0A,seval,LEv]|(refine And.intro ?_ ?_;omega)|simp only [D.int,D.bool]))
   exact end1 rfl rfl (by kernel_rfl) .nil ⟨rfl,rfl⟩
  ·have h0':¬ (l.length:Int)=0:=fun e=>h0 (List.eq_nil_of_length_eq_zero (by omega))
   obtain ⟨d1,d2⟩:=hid h0
   have ea:=o0L (g:=l) (k:=0) (by omega)
   rw [Nat.zero_mul] at ea
   repeat' (with_reducible first|refine Wx.h ?_|refine Wb.h fun K hK=>?_|(refine hK _ ?_;clear hK K)|(refine wT ?_ ?_;assumption)|(refine wF ?_ ?_;assumption)|(refine Wy.h ?_ ?_;kernel_rfl)|refine Wq.h ?_ ?_<;>intro h<;>try (exfalso;omega)|refine Wu.h ?_ ?_<;>intro h<;>try simp only [h]|((fail_if_success refine Wz.h ?_);first|simp (disch:=omega) only [↓LD,LA,a0A,seval,LEv,ea,a0J,Ev.cs]|(refine And.intro ?_ ?_;omega)|simp only [D.int,D.bool]))
   have hl2:(l.map (·.ver)).length=l.length:=by simp
   refine e0K [0] (args0:=[.f (fI (l.map (·.ver))),D.int (gt l 0).id]) (.cons ?_ (.cons .f .nil)) ?_
   ·rw [fI,hl2]
    refine .sl (T:=3) (xs:=(l.map (·.ver)).map iF) ?_ (fun e=>absurd (List.eq_nil_of_length_eq_zero e) h0)
    rfl
   refine a0C (w0l (l.map (·.ver)) (gt l 0).id (by omega) ⟨d1,d2⟩) rfl rfl rfl ?_
   have ho:ofL l=q0l (l.map (·.ver)) (gt l 0).id:=if_neg h0
   rw [←ho]
   repeat' (with_reducible first|refine Wx.h ?_|refine Wb.h fun K hK=>?_|(refine hK _ ?_;clear hK K)|(refine wT ?_ ?_;assumption)|(refine wF ?_ ?_;assumption)|(refine Wy.h ?_ ?_;kernel_rfl)|refine Wq.h ?_ ?_<;>intro h<;>try (exfalso;omega)|refine Wu.h ?_ ?_<;>intro h<;>try simp only [h]|((fail_if_success refine Wz.h ?_);first|simp (disch:=omega) only [↓LD,LA,a0A,seval]|(refine And.intro ?_ ?_;omega)|simp only [D.int,D.bool]))
   exact end1 rfl rfl (by kernel_rfl) .f ⟨rfl,rfl⟩
def IdL (l:List Ev):Prop:=l.length≤1000000∧(l≠[]→0≤(gt l 0).id∧(gt l 0).id≤1000000000)
instance {l:List Ev}{H:List Row}{K:D→List Row→Prop}[hl:Kn (IdL l)]:Wa (a0R Tryz.prog (.fn 39 []) [.f (fEv l)] H K) (K (.f (fIm (ofL l))) H):=⟨fun h=>a0C (e1Z l hl.h.1 hl.h.2) rfl rfl rfl h⟩
def f0O:SCode :=
  (jq ([.a 4 (.mv kF)]) (.seq (jq ([jm 6 0,je 7 6,jm 8 1,je 9 8,jB 10 .neq 7 9]) (jc 10 (jq ([.a 4 (.mv kF)]) .ret) .skip)) (.seq (jq ([jk 5 0])
 (.block 0 (.loop (.seq (jq ([jm 11 5,jm 12 0,je 13 12,jB 14 .lss 11 13]) (jc 14 .skip (.exit 0))) (.seq (.block 1 (.seq (.drw [jm 17 0,jm 18 5,jx
 19 3 17 18,jo 20 1 19,jl 21 20,jm 22 1,jm 23 5,jx 24 3 22 23,jo 25 1 24,jl 26 25,jB 27 .neq 21 26,jm 28 27,gM 29 0 28 false,gM 30 5 28
 false,jG 31 (.idx 3 (.t 29) (.t 30)) 28 false,gO 32 2 31 28 false,gL 33 32 28 false,gM 34 1 28 false,gM 35 5 28 false,jG 36 (.idx 3 (.t 34) (.t
 35)) 28 false,gO 37 2 36 28 false,gL 38 37 28 false,jG 39 (.bin .neq (.t 33) (.t 38)) 28 false,.a 40 (.pick (.t 28) kT (.t 39)),jm 41 40,gM 42 0
 41 false,gM 43 5 41 false,jG 44 (.idx 3 (.t 42) (.t 43)) 41 false,gO 45 0 44 41 false,gL 46 45 41 false,gM 47 1 41 false,gM 48 5 41 false,jG 49
 (.idx 3 (.t 47) (.t 48)) 41 false,gO 50 0 49 41 false,gL 51 50 41 false,jG 52 (.call (kC 129) [(.t 46),(.t 51)]) 41 false,jG 53 (.unot (.t 52)) 41
 false,.a 54 (.pick (.t 41) kT (.t 53))] [0,0,3,7,15,0,0,96,224,480,1023,2047,4095,4095,16383,32767,65535,4095,4095,397311,921599,
 1970175,4194303,8388607,16777215,33554431,33554431,134217727,268435455,536870911,33554431,33554431,3254779903,7549747199,16139681791,
 34359738367,68719476735,137438953471]) (jc 54 (jq ([.a 4 (.mv kF)]) .ret) .skip))) (.ops [jm 15 5,jb 16 .add 15 1,jm 5 16])))))) (jq ([.a 4 (.mv
 kT)]) .ret))))
theorem k0f:Fn Tryz.prog 82 55 [.t 4] f0O:=.of Tryz.func82 (by kernel_rfl)
def f0Z:SCode :=
  (jq ([.a 4 (.mv kF)]) (.seq (jq ([jm 6 0,je 7 6,jm 8 1,je 9 8,jB 10 .neq 7 9]) (jc 10 (jq ([.a 4 (.mv kF)]) .ret) .skip)) (.seq (jq ([jk 5 0])
 (.block 0 (.loop (.seq (jq ([jm 11 5,jm 12 0,je 13 12,jB 14 .lss 11 13]) (jc 14 .skip (.exit 0))) (.seq (.block 1 (.seq (.drw [jm 17 0,jm 18 5,jx
 19 1 17 18,jl 20 19,jm 21 1,jm 22 5,jx 23 1 21 22,jl 24 23,jB 25 .neq 20 24] [0,0,3,7,0,0,48,112,255]) (jc 25 (jq ([.a 4 (.mv kF)]) .ret)
 .skip))) (.ops [jm 15 5,jb 16 .add 15 1,jm 5 16])))))) (jq ([.a 4 (.mv kT)]) .ret))))
theorem k0e:Fn Tryz.prog 129 26 [.t 4] f0Z:=.of Tryz.func129 (by kernel_rfl)
def s0q (l:List Nd):Prop:=l.length≤1000000∧∀ x∈l,x.ns.length≤1000000
theorem a1Z {g:List Nd}:(g.flatMap Nd.cs).length=g.length*3:=b0F Nd.cs_len g
theorem n0m (l m:List Int)(hl:l.length≤1000000)(hm:m.length≤1000000):Con Tryz.prog 129 [.f (fI l),.f (fI m)] [] fun r H'=>r=D.bool (eqB l m)∧H'=[]:=by
 refine Con.walk good k0e (by simp) ?_
 unfold f0Z
 simp only [a0K]
 by_cases hlm:(l.length:Int)=m.length
 rotate_left
 ·repeat' (with_reducible first|refine Wx.h ?_|refine Wb.h fun K hK=>?_|(refine hK _ ?_;clear hK K)|(refine wT ?_ ?_;assumption)|(refine wF ?_ ?_;assumption)|(refine Wy.h ?_ ?_;kernel_rfl)|refine Wq.h ?_ ?_<;>intro h<;>try (exfalso;omega)|refine Wu.h ?_ ?_<;>intro h<;>try simp only [h]|((fail_if_success refine Wz.h ?_);first|simp (disch:=omega) only [↓LD,LA,a0A,seval,LSt]|(refine And.intro ?_ ?_;omega)|simp only [D.int,D.bool]))
  rw [s0F hlm]
  exact end1 rfl rfl (by kernel_rfl) .f ⟨rfl,rfl⟩
 repeat' (with_reducible first|refine Wx.h ?_|refine Wb.h fun K hK=>?_|(refine hK _ ?_;clear hK K)|(refine wT ?_ ?_;assumption)|(refine wF ?_ ?_;assumption)|(refine Wy.h ?_ ?_;kernel_rfl)|refine Wq.h ?_ ?_<;>intro h<;>try (exfalso;omega)|refine Wu.h ?_ ?_<;>intro h<;>try simp only [h]|((fail_if_success refine Wz.h ?_);first|simp (disch:=omega) only [↓LD,LA,a0A,seval,LSt]|(refine And.intro ?_ ?_;omega)|simp only [D.int,D.bool]))
 refine HS.loopG [0,1,5] (fun i:Nat=>⟨frm 26 [(0,.f (fI l)),(1,.f (fI m)),(5,D.int i)],[],[]⟩) (fun i=>i≤l.length∧l.take i=m.take i) (fun i=>l.length-i) 0 (by kernel_rfl) ⟨Nat.zero_le _,rfl⟩ ?_
 rintro i ⟨hi,ht⟩
 by_cases hil:i<l.length
 ·by_cases e:gt l i=gt m i
  ·repeat' (with_reducible first|refine Wx.h ?_|refine We.h fun K hK=>?_|refine Wd.h fun K M hK hM=>?_|(refine hK _ _ _ _ ?_;clear hK K;try clear hM M)|(refine hM ?_;clear hM M;try clear hK K)|refine Wb.h fun K hK=>?_|(refine hK _ ?_;clear hK K)|(refine wT ?_ ?_;assumption)|(refine wF ?_ ?_;assumption)|(refine Wy.h ?_ ?_;kernel_rfl)|refine Wq.h ?_ ?_<;>intro h<;>try (exfalso;omega)|refine Wu.h ?_ ?_<;>intro h<;>try simp only [h]|((fail_if_success refine Wz.h ?_);first|simp (disch:=omega) only [↓LD,LA,a0A,seval,LSt]|(refine And.intro ?_ ?_;omega)|simp only [D.int,D.bool]))
   exact Next.mk (i+1) (by kernel_rfl) ⟨by omega,j0t hlm hil ht e⟩ (by omega)
  ·repeat' (with_reducible first|refine Wx.h ?_|refine We.h fun K hK=>?_|refine Wd.h fun K M hK hM=>?_|(refine hK _ _ _ _ ?_;clear hK K;try clear hM M)|(refine hM ?_;clear hM M;try clear hK K)|refine Wb.h fun K hK=>?_|(refine hK _ ?_;clear hK K)|(refine wT ?_ ?_;assumption)|(refine wF ?_ ?_;assumption)|(refine Wy.h ?_ ?_;kernel_rfl)|refine Wq.h ?_ ?_<;>intro h<;>try (exfalso;omega)|refine Wu.h ?_ ?_<;>intro h<;>try simp only [h]|((fail_if_success refine Wz.h ?_);first|simp (disch:=omega) only [↓LD,LA,a0A,seval,LSt]|(refine And.intro ?_ ?_;omega)|simp only [D.int,D.bool]))
   rw [a1w e]
   exact end1 rfl rfl (by kernel_rfl) .f ⟨rfl,rfl⟩
 ·repeat' (with_reducible first|refine Wx.h ?_|refine Wb.h fun K hK=>?_|(refine hK _ ?_;clear hK K)|(refine wT ?_ ?_;assumption)|(refine wF ?_ ?_;assumption)|(refine Wy.h ?_ ?_;kernel_rfl)|refine Wq.h ?_ ?_<;>intro h<;>try (exfalso;omega)|refine Wu.h ?_ ?_<;>intro h<;>try simp only [h]|((fail_if_success refine Wz.h ?_);first|simp (disch:=omega) only [↓LD,LA,a0A,seval,LSt]|(refine And.intro ?_ ?_;omega)|simp only [D.int,D.bool]))
  rw [s0g hlm ht (by omega)]
  exact end1 rfl rfl (by kernel_rfl) .f ⟨rfl,rfl⟩
instance {a b:List Int}{H:List Row}{K:Bool→D→List Row→Prop}[ha:Kn (a.length≤1000000)][hb:Kn (b.length≤1000000)]:Wa (a0e Tryz.prog (.fn 129 []) [.f (fI a),.f (fI b)] H K) (K true (.f (.v (.bool (eqB a b)))) H):=⟨fun h=>a0M (n0m a b ha.h hb.h) rfl rfl rfl h⟩
set_option maxRecDepth 100000 in
theorem n0y (l m:List Nd)(hl:s0q l)(hm:s0q m):Con Tryz.prog 82 [.f (fG l),.f (fG m)] [] fun r H'=>r=D.bool (eqB l m)∧H'=[]:=by
 obtain ⟨hl,hln⟩:=hl
 obtain ⟨hm,hmn⟩:=hm
 refine Con.walk good k0f (by simp) ?_
 unfold f0O
 simp only [a0K]
 by_cases hlm:(l.length:Int)=m.length
 rotate_left
 ·repeat' (with_reducible first|refine Wx.h ?_|refine Wb.h fun K hK=>?_|(refine hK _ ?_;clear hK K)|(refine wT ?_ ?_;assumption)|(refine wF ?_ ?_;assumption)|(refine Wy.h ?_ ?_;kernel_rfl)|refine Wq.h ?_ ?_<;>intro h<;>try (exfalso;omega)|refine Wu.h ?_ ?_<;>intro h<;>try simp only [h]|((fail_if_success refine Wz.h ?_);first|simp (disch:=omega) only [↓LD,LA,a0A,seval,LSt]|(refine And.intro ?_ ?_;omega)|simp only [D.int,D.bool]))
  rw [s0F hlm]
  exact end1 rfl rfl (by kernel_rfl) .f ⟨rfl,rfl⟩
 repeat' (with_reducible first|refine Wx.h ?_|refine Wb.h fun K hK=>?_|(refine hK _ ?_;clear hK K)|(refine wT ?_ ?_;assumption)|(refine wF ?_ ?_;assumption)|(refine Wy.h ?_ ?_;kernel_rfl)|refine Wq.h ?_ ?_<;>intro h<;>try (exfalso;omega)|refine Wu.h ?_ ?_<;>intro h<;>try simp only [h]|((fail_if_success refine Wz.h ?_);first|simp (disch:=omega) only [↓LD,LA,a0A,seval,LSt]|(refine And.intro ?_ ?_;omega)|simp only [D.int,D.bool]))
 refine HS.loopG [0,1,5] (fun i:Nat=>⟨frm 55 [(0,.f (fG l)),(1,.f (fG m)),(5,D.int i)],[],[]⟩) (fun i=>i≤l.length∧l.take i=m.take i) (fun i=>l.length-i) 0 (by kernel_rfl) ⟨Nat.zero_le _,rfl⟩ ?_
 rintro i ⟨hi,ht⟩
 by_cases hil:i<l.length
 ·haveI:Kn ((gt l i).ns.length≤1000000):=⟨hln _ (a0L hil)⟩
  haveI:Kn ((gt m i).ns.length≤1000000):=⟨hmn _ (a0L (by omega))⟩
  by_cases e:gt l i=gt m i
  ·have hb:eqB (gt m i).ns (gt m i).ns=true:=f0D
   repeat' (with_reducible first|refine Wx.h ?_|refine We.h fun K hK=>?_|refine Wd.h fun K M hK hM=>?_|(refine hK _ _ _ _ ?_;clear hK K;try clear hM M)|(refine hM ?_;clear hM M;try clear hK K)|refine Wb.h fun K hK=>?_|(refine hK _ ?_;clear hK K)|(refine wT ?_ ?_;assumption)|(refine wF ?_ ?_;assumption)|(refine Wy.h ?_ ?_;kernel_rfl)|refine Wq.h ?_ ?_<;>intro h<;>try (exfalso;omega)|refine Wu.h ?_ ?_<;>intro h<;>try simp only [h]|((fail_if_success refine Wz.h ?_);first|simp (disch:=omega) only [↓LD,LA,a0A,seval,LSt,a1Z,b0P,b0O,b0J,hb,e,Bool.not_true]|(refine And.intro ?_ ?_;omega)|simp only [D.int,D.bool]))
   exact Next.mk (i+1) (by kernel_rfl) ⟨by omega,j0t hlm hil ht e⟩ (by omega)
  ·have hb:(gt l i).tr=(gt m i).tr→(gt l i).le=(gt m i).le→eqB (gt l i).ns (gt m i).ns=false:=fun h1 h2=>s0i fun h3=>e (by
    cases hx:gt l i;cases hy:gt m i;rw [hx,hy] at h1 h2 h3;dsimp only at h1 h2 h3;rw [h1,h2,h3])
   repeat' (with_reducible first|refine Wx.h ?_|refine We.h fun K hK=>?_|refine Wd.h fun K M hK hM=>?_|(refine hK _ _ _ _ ?_;clear hK K;try clear hM M)|(refine hM ?_;clear hM M;try clear hK K)|refine Wb.h fun K hK=>?_|(refine hK _ ?_;clear hK K)|(refine wT ?_ ?_;assumption)|(refine wF ?_ ?_;assumption)|(refine Wy.h ?_ ?_;kernel_rfl)|refine Wq.h ?_ ?_<;>intro h<;>try (exfalso;omega)|refine Wu.h ?_ ?_<;>intro h<;>try simp only [h]|((fail_if_success refine Wz.h ?_);first|simp (disch:=omega) only [↓LD,LA,a0A,seval,LSt,a1Z,b0P,b0O,b0J,hb]|(refine And.intro ?_ ?_;omega)|simp only [D.int,D.bool]))
   all_goals
    rw [a1w e]
    exact end1 rfl rfl (by kernel_rfl) .f ⟨rfl,rfl⟩
 ·repeat' (with_reducible first|refine Wx.h ?_|refine Wb.h fun K hK=>?_|(refine hK _ ?_;clear hK K)|(refine wT ?_ ?_;assumption)|(refine wF ?_ ?_;assumption)|(refine Wy.h ?_ ?_;kernel_rfl)|refine Wq.h ?_ ?_<;>intro h<;>try (exfalso;omega)|refine Wu.h ?_ ?_<;>intro h<;>try simp only [h]|((fail_if_success refine Wz.h ?_);first|simp (disch:=omega) only [↓LD,LA,a0A,seval,LSt]|(refine And.intro ?_ ?_;omega)|simp only [D.int,D.bool]))
  rw [s0g hlm ht (by omega)]
  exact end1 rfl rfl (by kernel_rfl) .f ⟨rfl,rfl⟩
instance {a b:List Nd}{H:List Row}{K:D→List Row→Prop}[ha:Kn (s0q a)][hb:Kn (s0q b)]:Wa (a0R Tryz.prog (.fn 82 []) [.f (fG a),.f (fG b)] H K) (K (.f (.v (.bool (eqB a b)))) H):=⟨fun h=>a0C (n0y a b ha.h hb.h) rfl rfl rfl h⟩
theorem FitV.df {e:Ev}(h:FitV e):s0q e.defs:=⟨by have:=h.2.2.1;omega,fun x hx=>by have:=h.2.2.2 x hx;omega⟩
set_option maxRecDepth 100000 in
theorem a1d (a b:Ev)(ha:FitV a)(hb:FitV b):Con Tryz.prog 50 [evD a,evD b] [] fun r H'=>r=D.bool (eqB a b)∧H'=[]:=by
 haveI:Kn (s0q a.defs):=⟨ha.df⟩
 haveI:Kn (s0q b.defs):=⟨hb.df⟩
 clear ha hb
 suffices hh:∀ Q:D→List Row→Prop,Q (D.bool (eqB a b)) []→Con Tryz.prog 50 [evD a,evD b] [] Q from hh _ ⟨rfl,rfl⟩
 intro Q hQ
 obtain ⟨a1,a2,a3,a4,a5,a6,a7,a8,a9⟩:=a
 obtain ⟨b1,b2,b3,b4,b5,b6,b7,b8,b9⟩:=b
 dsimp only at *
 have hf:¬ ((⟨a1,a2,a3,a4,a5,a6,a7,a8,a9⟩:Ev)=⟨b1,b2,b3,b4,b5,b6,b7,b8,b9⟩)→Q (D.bool false) []:=fun h=>by rw [s0i h] at hQ;exact hQ
 refine Con.walk good x0J (by simp) ?_
 unfold r0C
 simp only [a0K,evD]
 repeat' (with_reducible first|refine Wx.h ?_|refine Wb.h fun K hK=>?_|(refine hK _ ?_;clear hK K)|(refine wT ?_ ?_;assumption)|(refine wF ?_ ?_;assumption)|(refine Wy.h ?_ ?_;kernel_rfl)|refine Wq.h ?_ ?_<;>intro h<;>try (exfalso;omega)|refine Wu.h ?_ ?_<;>intro h<;>try simp only [h]|((fail_if_success refine Wz.h ?_);first|simp (disch:=omega) only [↓LD,LA,a0A,seval,q0v]|(refine And.intro ?_ ?_;omega)|simp only [D.int,D.bool]))
 ·rename_i q1 q2 q3 q4 q5 q6 q7
  have q8:a8=b8:=by simpa using h
  have he:eqB (⟨a1,a2,a3,a4,a5,a6,a7,a8,a9⟩:Ev) ⟨b1,b2,b3,b4,b5,b6,b7,b8,b9⟩=eqB a9 b9:=by
   rw [q1,q2,q3,q4,q5,q6,q7,q8]
   by_cases e9:a9=b9
   ·rw [e9,f0D,f0D]
   ·rw [s0i e9,s0i (fun e=>e9 (Ev.mk.inj e).2.2.2.2.2.2.2.2)]
  rw [he] at hQ
  exact end1 rfl rfl (by kernel_rfl) .f hQ
 all_goals
  refine end1 rfl rfl (by kernel_rfl) .f (hf ?_)
  intro e;cases e;contradiction
instance {a b:Ev}{H:List Row}{K:Bool→D→List Row→Prop}[ha:Kn (FitV a)][hb:Kn (FitV b)]:Wa (a0e Tryz.prog (.fn 50 []) [eA a,eA b] H K) (K true (.f (.v (.bool (eqB a b)))) H):=⟨fun h=>a0M (a1d a b ha.h hb.h) rfl rfl rfl h⟩
def FitL (l:List Ev):Prop:=l.length≤1000000∧∀ e∈l,FitV e
theorem FitL.take {l:List Ev}(h:FitL l)(n:Nat):FitL (l.take n):=⟨by have:=h.1;rw [List.length_take];omega,fun e he=>h.2 e (List.mem_of_mem_take he)⟩
set_option maxRecDepth 100000 in
theorem h0H (l m:List Ev)(hl:FitL l)(hm:FitL m):Con Tryz.prog 17 [.f (fEv l),.f (fEv m)] [] fun r H'=>r=D.bool (eqB l m)∧H'=[]:=by
 obtain ⟨hl,hln⟩:=hl
 obtain ⟨hm,hmn⟩:=hm
 refine Con.walk good n0W (by simp) ?_
 unfold h0C
 simp only [a0K]
 by_cases hlm:(l.length:Int)=m.length
 rotate_left
 ·repeat' (with_reducible first|refine Wx.h ?_|refine Wb.h fun K hK=>?_|(refine hK _ ?_;clear hK K)|(refine wT ?_ ?_;assumption)|(refine wF ?_ ?_;assumption)|(refine Wy.h ?_ ?_;kernel_rfl)|refine Wq.h ?_ ?_<;>intro h<;>try (exfalso;omega)|refine Wu.h ?_ ?_<;>intro h<;>try simp only [h]|((fail_if_success refine Wz.h ?_);first|simp (disch:=omega) only [↓LD,LA,a0A,seval,LEv]|(refine And.intro ?_ ?_;omega)|simp only [D.int,D.bool]))
  rw [s0F hlm]
  exact end1 rfl rfl (by kernel_rfl) .f ⟨rfl,rfl⟩
 repeat' (with_reducible first|refine Wx.h ?_|refine Wb.h fun K hK=>?_|(refine hK _ ?_;clear hK K)|(refine wT ?_ ?_;assumption)|(refine wF ?_ ?_;assumption)|(refine Wy.h ?_ ?_;kernel_rfl)|refine Wq.h ?_ ?_<;>intro h<;>try (exfalso;omega)|refine Wu.h ?_ ?_<;>intro h<;>try simp only [h]|((fail_if_success refine Wz.h ?_);first|simp (disch:=omega) only [↓LD,LA,a0A,seval,LEv]|(refine And.intro ?_ ?_;omega)|simp only [D.int,D.bool]))
 refine HS.loopG [0,1,5] (fun i:Nat=>⟨frm 27 [(0,.f (fEv l)),(1,.f (fEv m)),(5,D.int i)],[],[]⟩) (fun i=>i≤l.length∧l.take i=m.take i) (fun i=>l.length-i) 0 (by kernel_rfl) ⟨Nat.zero_le _,rfl⟩ ?_
 rintro i ⟨hi,ht⟩
 by_cases hil:i<l.length
 ·haveI:Kn (FitV (gt l i)):=⟨hln _ (a0L hil)⟩
  haveI:Kn (FitV (gt m i)):=⟨hmn _ (a0L (by omega))⟩
  by_cases e:gt l i=gt m i
  ·have hb:=e1y e
   repeat' (with_reducible first|refine Wx.h ?_|refine We.h fun K hK=>?_|refine Wd.h fun K M hK hM=>?_|(refine hK _ _ _ _ ?_;clear hK K;try clear hM M)|(refine hM ?_;clear hM M;try clear hK K)|refine Wb.h fun K hK=>?_|(refine hK _ ?_;clear hK K)|(refine wT ?_ ?_;assumption)|(refine wF ?_ ?_;assumption)|(refine Wy.h ?_ ?_;kernel_rfl)|refine Wq.h ?_ ?_<;>intro h<;>try (exfalso;omega)|refine Wu.h ?_ ?_<;>intro h<;>try simp only [h]|((fail_if_success refine Wz.h ?_);first|simp (disch:=omega) only [↓LD,LA,a0A,seval,LEv,b0k,a0J,Ev.cs,hb,-a0A]|(refine And.intro ?_ ?_;omega)|simp only [D.int,D.bool]))
   exact Next.mk (i+1) (by kernel_rfl) ⟨by omega,j0t hlm hil ht e⟩ (by omega)
  ·have hb:=s0i e
   repeat' (with_reducible first|refine Wx.h ?_|refine We.h fun K hK=>?_|refine Wd.h fun K M hK hM=>?_|(refine hK _ _ _ _ ?_;clear hK K;try clear hM M)|(refine hM ?_;clear hM M;try clear hK K)|refine Wb.h fun K hK=>?_|(refine hK _ ?_;clear hK K)|(refine wT ?_ ?_;assumption)|(refine wF ?_ ?_;assumption)|(refine Wy.h ?_ ?_;kernel_rfl)|refine Wq.h ?_ ?_<;>intro h<;>try (exfalso;omega)|refine Wu.h ?_ ?_<;>intro h<;>try simp only [h]|((fail_if_success refine Wz.h ?_);first|simp (disch:=omega) only [↓LD,LA,a0A,seval,LEv,b0k,a0J,Ev.cs,hb,-a0A]|(refine And.intro ?_ ?_;omega)|simp only [D.int,D.bool]))
   rw [a1w e]
   exact end1 rfl rfl (by kernel_rfl) .f ⟨rfl,rfl⟩
 ·repeat' (with_reducible first|refine Wx.h ?_|refine Wb.h fun K hK=>?_|(refine hK _ ?_;clear hK K)|(refine wT ?_ ?_;assumption)|(refine wF ?_ ?_;assumption)|(refine Wy.h ?_ ?_;kernel_rfl)|refine Wq.h ?_ ?_<;>intro h<;>try (exfalso;omega)|refine Wu.h ?_ ?_<;>intro h<;>try simp only [h]|((fail_if_success refine Wz.h ?_);first|simp (disch:=omega) only [↓LD,LA,a0A,seval,LEv]|(refine And.intro ?_ ?_;omega)|simp only [D.int,D.bool]))
  rw [s0g hlm ht (by omega)]
  exact end1 rfl rfl (by kernel_rfl) .f ⟨rfl,rfl⟩
instance {a b:List Ev}{H:List Row}{K:D→List Row→Prop}[ha:Kn (FitL a)][hb:Kn (FitL b)]:Wa (a0R Tryz.prog (.fn 17 []) [.f (fEv a),.f (fEv b)] H K) (K (.f (.v (.bool (eqB a b)))) H):=⟨fun h=>a0C (h0H a b ha.h hb.h) rfl rfl rfl h⟩
instance {a b:List Ev}{H:List Row}{K:Bool→D→List Row→Prop}[ha:Kn (FitL a)][hb:Kn (FitL b)]:Wa (a0e Tryz.prog (.fn 17 []) [.f (fEv a),.f (fEv b)] H K) (K true (.f (.v (.bool (eqB a b)))) H):=⟨fun h=>a0M (h0H a b ha.h hb.h) rfl rfl rfl h⟩
def alkB (a b:Ev):Bool:=decide (a.id=b.id)&&decide (a.ver=b.ver)
def b0f:List Ev→List Ev→Nat
 | a :: l,b :: m=>if alkB a b=true then b0f l m+1 else 0
 | _,_=>0
theorem j0q:∀ (l m:List Ev),b0f l m≤l.length∧b0f l m≤m.length
 | a :: l,b :: m=>by
  have ih:=j0q l m
  unfold b0f
  split<;>simp<;>omega
 | [],m=>by simp [b0f]
 | a :: l,[]=>by simp [b0f]
set_option maxRecDepth 100000 in
theorem x0L (l m:List Ev)(hl:l.length≤1000000)(hm:m.length≤1000000):Con Tryz.prog 85 [.f (fEv l),.f (fEv m)] [] fun r H'=>r=D.int (b0f l m)∧H'=[]:=by
 refine Con.walk good s0w (by simp) ?_
 unfold n0N
 simp only [a0K]
 repeat' (with_reducible first|refine Wx.h ?_|refine Wb.h fun K hK=>?_|(refine hK _ ?_;clear hK K)|(refine wT ?_ ?_;assumption)|(refine wF ?_ ?_;assumption)|(refine Wy.h ?_ ?_;kernel_rfl)|refine Wq.h ?_ ?_<;>intro h<;>try (exfalso;omega)|refine Wu.h ?_ ?_<;>intro h<;>try simp only [h]|((fail_if_success refine Wz.h ?_);first|simp (disch:=omega) only [↓LD,LA,a0A,seval,LEv]|(refine And.intro ?_ ?_;omega)|simp only [D.int,D.bool]))
 refine HS.loopG [0,1,5] (fun i:Nat=>⟨frm 45 [(0,.f (fEv l)),(1,.f (fEv m)),(5,D.int i)],[],[]⟩) (fun i=>i≤l.length∧i≤m.length∧b0f l m=b0f (l.drop i) (m.drop i)+i) (fun i=>l.length-i) 0 (by kernel_rfl) ⟨Nat.zero_le _,Nat.zero_le _,rfl⟩ ?_
 rintro i ⟨hi,hj,ha⟩
 by_cases hil:i<l.length∧i<m.length
 ·obtain ⟨hil,him⟩:=hil
  rw [a0G hil,a0G him,b0f] at ha
  by_cases e1:(gt l i).id=(gt m i).id
  ·by_cases e2:(gt l i).ver=(gt m i).ver
   ·rw [if_pos (by simp [alkB,e1,e2])] at ha
    repeat' (with_reducible first|refine Wx.h ?_|refine We.h fun K hK=>?_|refine Wd.h fun K M hK hM=>?_|(refine hK _ _ _ _ ?_;clear hK K;try clear hM M)|(refine hM ?_;clear hM M;try clear hK K)|refine Wb.h fun K hK=>?_|(refine hK _ ?_;clear hK K)|(refine wT ?_ ?_;assumption)|(refine wF ?_ ?_;assumption)|(refine Wy.h ?_ ?_;kernel_rfl)|refine Wq.h ?_ ?_<;>intro h<;>try (exfalso;omega)|refine Wu.h ?_ ?_<;>intro h<;>try simp only [h]|((fail_if_success refine Wz.h ?_);first|simp (disch:=omega) only [↓LD,LA,a0A,seval,LEv,a0J,o0L,d0c,Ev.cs]|(refine And.intro ?_ ?_;omega)|simp only [D.int,D.bool]))
    exact Next.mk (i+1) (by kernel_rfl) ⟨by omega,by omega,by omega⟩ (by omega)
   ·rw [if_neg (by simp [alkB,e1,e2])] at ha
    repeat' (with_reducible first|refine Wx.h ?_|refine We.h fun K hK=>?_|refine Wd.h fun K M hK hM=>?_|(refine hK _ _ _ _ ?_;clear hK K;try clear hM M)|(refine hM ?_;clear hM M;try clear hK K)|refine Wb.h fun K hK=>?_|(refine hK _ ?_;clear hK K)|(refine wT ?_ ?_;assumption)|(refine wF ?_ ?_;assumption)|(refine Wy.h ?_ ?_;kernel_rfl)|refine Wq.h ?_ ?_<;>intro h<;>try (exfalso;omega)|refine Wu.h ?_ ?_<;>intro h<;>try simp only [h]|((fail_if_success refine Wz.h ?_);first|simp (disch:=omega) only [↓LD,LA,a0A,seval,LEv,a0J,o0L,d0c,Ev.cs]|(refine And.intro ?_ ?_;omega)|simp only [D.int,D.bool]))
    rw [ha,Nat.zero_add]
    exact end1 rfl rfl (by kernel_rfl) .f ⟨rfl,rfl⟩
  ·rw [if_neg (by simp [alkB,e1])] at ha
   repeat' (with_reducible first|refine Wx.h ?_|refine We.h fun K hK=>?_|refine Wd.h fun K M hK hM=>?_|(refine hK _ _ _ _ ?_;clear hK K;try clear hM M)|(refine hM ?_;clear hM M;try clear hK K)|refine Wb.h fun K hK=>?_|(refine hK _ ?_;clear hK K)|(refine wT ?_ ?_;assumption)|(refine wF ?_ ?_;assumption)|(refine Wy.h ?_ ?_;kernel_rfl)|refine Wq.h ?_ ?_<;>intro h<;>try (exfalso;omega)|refine Wu.h ?_ ?_<;>intro h<;>try simp only [h]|((fail_if_success refine Wz.h ?_);first|simp (disch:=omega) only [↓LD,LA,a0A,seval,LEv,a0J,o0L,d0c,Ev.cs]|(refine And.intro ?_ ?_;omega)|simp only [D.int,D.bool]))
   rw [ha,Nat.zero_add]
   exact end1 rfl rfl (by kernel_rfl) .f ⟨rfl,rfl⟩
 ·have h0:b0f (l.drop i) (m.drop i)=0:=by
   have h:=j0q (l.drop i) (m.drop i)
   rw [List.length_drop,List.length_drop] at h
   omega
  rw [h0,Nat.zero_add] at ha
  rw [ha]
  clear ha h0
  by_cases hil2:i<l.length
  ·have him:¬ i<m.length:=fun e=>hil ⟨hil2,e⟩
   clear hil
   repeat' (with_reducible first|refine Wx.h ?_|refine We.h fun K hK=>?_|refine Wd.h fun K M hK hM=>?_|(refine hK _ _ _ _ ?_;clear hK K;try clear hM M)|(refine hM ?_;clear hM M;try clear hK K)|refine Wb.h fun K hK=>?_|(refine hK _ ?_;clear hK K)|(refine wT ?_ ?_;assumption)|(refine wF ?_ ?_;assumption)|(refine Wy.h ?_ ?_;kernel_rfl)|refine Wq.h ?_ ?_<;>intro h<;>try (exfalso;omega)|refine Wu.h ?_ ?_<;>intro h<;>try simp only [h]|((fail_if_success refine Wz.h ?_);first|simp (disch:=omega) only [↓LD,LA,a0A,seval,LEv]|(refine And.intro ?_ ?_;omega)|simp only [D.int,D.bool]))
   exact end1 rfl rfl (by kernel_rfl) .f ⟨rfl,rfl⟩
  ·clear hil
   repeat' (with_reducible first|refine Wx.h ?_|refine We.h fun K hK=>?_|refine Wd.h fun K M hK hM=>?_|(refine hK _ _ _ _ ?_;clear hK K;try clear hM M)|(refine hM ?_;clear hM M;try clear hK K)|refine Wb.h fun K hK=>?_|(refine hK _ ?_;clear hK K)|(refine wT ?_ ?_;assumption)|(refine wF ?_ ?_;assumption)|(refine Wy.h ?_ ?_;kernel_rfl)|refine Wq.h ?_ ?_<;>intro h<;>try (exfalso;omega)|refine Wu.h ?_ ?_<;>intro h<;>try simp only [h]|((fail_if_success refine Wz.h ?_);first|simp (disch:=omega) only [↓LD,LA,a0A,seval,LEv]|(refine And.intro ?_ ?_;omega)|simp only [D.int,D.bool]))
   exact end1 rfl rfl (by kernel_rfl) .f ⟨rfl,rfl⟩
instance {a b:List Ev}{H:List Row}{K:D→List Row→Prop}[ha:Kn (FitL a)][hb:Kn (FitL b)]:Wa (a0R Tryz.prog (.fn 85 []) [.f (fEv a),.f (fEv b)] H K) (K (.f (.v (.int .i64 (b0f a b)))) H):=⟨fun h=>a0C (x0L a b ha.h.1 hb.h.1) rfl rfl rfl h⟩
noncomputable def begB (a b:List Ev):Bool:=decide (a.length≤b.length)&&eqB a (b.take a.length)
theorem d0F {H:List Row}{E:TypeId}{b:List Ev}{h:Nat}(hh:h≤b.length):subS H 9 E (.f (fEv b)) 0 h=some (.f (fEv (b.take h))):=by
 rw [fEv,i0h,fEv,List.length_take,Nat.min_eq_left hh]
 have key:∀ (l:List Ev) (k:Nat),(l.flatMap Ev.cs).take (k*9)=(l.take k).flatMap Ev.cs:=by
  intro l
  induction l with
  | nil=>intro k;simp
  | cons e l ih =>
   intro k
   cases k with
   | zero=>simp
   | succ k =>
    rw [List.take_succ_cons,List.flatMap_cons,List.flatMap_cons,List.take_append,List.take_of_length_le (by rw [Ev.cs_len];omega),Ev.cs_len,show (k+1)*9-9=k*9 by omega,ih]
 simp [key]
set_option maxRecDepth 100000 in
theorem t0U (a b:List Ev)(ha:FitL a)(hb:FitL b):Con Tryz.prog 86 [.f (fEv a),.f (fEv b)] [] fun r H'=>r=D.bool (begB a b)∧H'=[]:=by
 refine Con.walk good q0X (by simp) ?_
 unfold i0q
 simp only [a0K]
 haveI:Kn (FitL a):=⟨ha⟩
 haveI:Kn (FitL (b.take a.length)):=⟨hb.take _⟩
 unfold begB
 by_cases h:a.length≤b.length
 ·have hs:∀ H:List Row,subS H 9 73 (.f (fEv b)) 0 a.length=some (.f (fEv (b.take a.length))):=fun H=>d0F h
  rw [decide_eq_true h,Bool.true_and]
  generalize b.take a.length=bt at *
  repeat' (with_reducible first|refine Wx.h ?_|refine Wb.h fun K hK=>?_|(refine hK _ ?_;clear hK K)|(refine wT ?_ ?_;assumption)|(refine wF ?_ ?_;assumption)|(refine Wy.h ?_ ?_;kernel_rfl)|refine Wq.h ?_ ?_<;>intro h<;>try (exfalso;omega)|refine Wu.h ?_ ?_<;>intro h<;>try simp only [h]|((fail_if_success refine Wz.h ?_);first|simp (disch:=omega) only [↓LD,LA,a0A,seval,LEv,hs,Int.toNat_natCast]|(refine And.intro ?_ ?_;omega)|simp only [D.int,D.bool]))
  exact end1 rfl rfl (by kernel_rfl) .f ⟨rfl,rfl⟩
 ·rw [decide_eq_false h,Bool.false_and]
  repeat' (with_reducible first|refine Wx.h ?_|refine Wb.h fun K hK=>?_|(refine hK _ ?_;clear hK K)|(refine wT ?_ ?_;assumption)|(refine wF ?_ ?_;assumption)|(refine Wy.h ?_ ?_;kernel_rfl)|refine Wq.h ?_ ?_<;>intro h<;>try (exfalso;omega)|refine Wu.h ?_ ?_<;>intro h<;>try simp only [h]|((fail_if_success refine Wz.h ?_);first|simp (disch:=omega) only [↓LD,LA,a0A,seval,LEv]|(refine And.intro ?_ ?_;omega)|simp only [D.int,D.bool]))
  exact end1 rfl rfl (by kernel_rfl) .f ⟨rfl,rfl⟩
instance {a b:List Ev}{H:List Row}{K:D→List Row→Prop}[ha:Kn (FitL a)][hb:Kn (FitL b)]:Wa (a0R Tryz.prog (.fn 86 []) [.f (fEv a),.f (fEv b)] H K) (K (.f (.v (.bool (begB a b)))) H):=⟨fun h=>a0C (t0U a b ha.h hb.h) rfl rfl rfl h⟩
abbrev Br:=List (List Ev)
def fBr (t:Br):F:=.s (t.map fEv) t.length
theorem v0S {g:Br}:slcS (.f (fBr g))=some g.length:=id rfl
theorem u0U {g:Br}{sz:Nat}{k:IntKind}{i:Int}{K:D→Prop}:idxS sz (.f (fBr g)) (.f (.v (.int k i))) K=((0≤i∧i<g.length)∧K (.rf ((g.map fEv).drop (i.toNat*sz)))):=id rfl
theorem l0l {P:Program}{H:List Row}{r off:Nat}{ds:List D}:c0o P H 1 (.pt r off) (.ag ds)=c0O P H 1 r off (.ag ds) H[r]?:=c0J
theorem n0L {H:List Row}{g:Br}{sz:Nat}:b0Q H sz (.f (fBr g))=some (g.length,g.map fEv):=id rfl
theorem f1d:inf Tryz.prog 25=some (1,24,[.slice none 0 0]):=by kernel_rfl
theorem c1E {H:List Row}{E:TypeId}{t:Br}{h:Nat}(hh:h≤t.length):subS H 1 E (.f (fBr t)) 0 h=some (.f (fBr (t.take h))):=by
 rw [fBr,i0h,fBr,List.length_take,Nat.min_eq_left hh]
 simp [List.map_take]
theorem a1i {H:List Row}{E:TypeId}{t:Br}{h:Nat}:subS H 1 E (.f (fBr t)) h t.length=some (.f (fBr (t.drop h))):=by
 rw [fBr,i0h,fBr,List.length_drop,Nat.mul_one,Nat.mul_one,←List.map_drop,List.take_of_length_le (by simp)]
theorem LBr:type_of% @v0S∧type_of% @u0U∧type_of% @l0l:=⟨@v0S,@u0U,@l0l⟩
theorem d1o {l:Br}{x:List Ev}:l.map fEv++[fEv x]=(l++[x]).map fEv:=by rw [List.map_append];rfl
def f0n (l:List Im):Im:=if l.length=0 then ⟨0,0⟩ else gt l (l.length-1)
theorem a1T (l:List Im)(hl:l.length≤1000000):Con Tryz.prog 130 [.f (fIm l)] [] fun r H'=>r = .ag [D.int (f0n l).id,D.int (f0n l).ver]∧H'=[]:=by
 refine Con.walk good x0f (by simp) ?_
 unfold p0z
 simp only [a0K]
 have e1:((l.length:Int)-1).toNat=l.length-1:=by omega
 by_cases h:l.length=0
 ·rw [f0n,if_pos h]
  repeat' (with_reducible first|refine Wx.h ?_|refine Wb.h fun K hK=>?_|(refine hK _ ?_;clear hK K)|(refine wT ?_ ?_;assumption)|(refine wF ?_ ?_;assumption)|(refine Wy.h ?_ ?_;kernel_rfl)|refine Wq.h ?_ ?_<;>intro h<;>try (exfalso;omega)|refine Wu.h ?_ ?_<;>intro h<;>try simp only [h]|((fail_if_success refine Wz.h ?_);first|simp (disch:=omega) only [↓LD,LA,a0A,seval,LIm]|(refine And.intro ?_ ?_;omega)|simp only [D.int,D.bool]))
  exact RetS.still (ds:=[.ag [jI,jI]]) (by kernel_rfl) (by kernel_rfl) (.ags (.cons .f (.cons .f .nil))) ⟨rfl,rfl⟩
 ·rw [f0n,if_neg h]
  have hk:l.length-1<l.length:=by omega
  repeat' (with_reducible first|refine Wx.h ?_|refine Wb.h fun K hK=>?_|(refine hK _ ?_;clear hK K)|(refine wT ?_ ?_;assumption)|(refine wF ?_ ?_;assumption)|(refine Wy.h ?_ ?_;kernel_rfl)|refine Wq.h ?_ ?_<;>intro h<;>try (exfalso;omega)|refine Wu.h ?_ ?_<;>intro h<;>try simp only [h]|((fail_if_success refine Wz.h ?_);first|simp (disch:=omega) only [↓LD,LA,a0A,seval,LIm,o0a,c1e,e1,Im.cs,List.map_cons,List.map_nil,-a0A]|(refine And.intro ?_ ?_;omega)|simp only [D.int,D.bool]))
  generalize gt l (l.length-1)=x
  exact RetS.still (ds:=[.ag [D.int x.id,D.int x.ver]]) (by kernel_rfl) (by kernel_rfl) (.ags (.cons .f (.cons .f .nil))) ⟨rfl,rfl⟩
instance {l:List Im}{H:List Row}{K:D→List Row→Prop}[hl:Kn (l.length≤1000000)]:Wa (a0R Tryz.prog (.fn 130 []) [.f (fIm l)] H K) (K (.ag [.f (.v (.int .i64 (f0n l).id)),.f (.v (.int .i64 (f0n l).ver))]) H):=⟨fun h=>a0C (a1T l hl.h) rfl rfl rfl h⟩
def cmpI (a b:List Im):Int:=if (f0n a).ver<(f0n b).ver then -1 else if (f0n a).ver≠(f0n b).ver then 1 else if (f0n a).id<(f0n b).id then -1 else if (f0n b).id<(f0n a).id then 1 else 0
theorem q0K (a b:List Im)(ha:a.length≤1000000)(hb:b.length≤1000000):Con Tryz.prog 87 [.f (fIm a),.f (fIm b)] [] fun r H'=>r=D.int (cmpI a b)∧H'=[]:=by
 haveI:Kn (a.length≤1000000):=⟨ha⟩
 haveI:Kn (b.length≤1000000):=⟨hb⟩
 refine Con.walk good o0W (by simp) ?_
 unfold h0N
 simp only [a0K]
 repeat' (with_reducible first|refine Wx.h ?_|refine Wb.h fun K hK=>?_|(refine hK _ ?_;clear hK K)|(refine wT ?_ ?_;assumption)|(refine wF ?_ ?_;assumption)|(refine Wy.h ?_ ?_;kernel_rfl)|refine Wq.h ?_ ?_<;>intro h<;>try (exfalso;omega)|refine Wu.h ?_ ?_<;>intro h<;>try simp only [h]|((fail_if_success refine Wz.h ?_);first|simp (disch:=omega) only [↓LD,LA,a0A,seval]|(refine And.intro ?_ ?_;omega)|simp only [D.int,D.bool]))
 all_goals
  refine end1 rfl rfl (by kernel_rfl) .f ⟨congrArg (fun i:Int=>D.f (.v (.int .i64 i))) ?_,rfl⟩
  unfold cmpI
  (repeat' split)<;>omega
instance {a b:List Im}{H:List Row}{K:D→List Row→Prop}[ha:Kn (a.length≤1000000)][hb:Kn (b.length≤1000000)]:Wa (a0R Tryz.prog (.fn 87 []) [.f (fIm a),.f (fIm b)] H K) (K (.f (.v (.int .i64 (cmpI a b)))) H):=⟨fun h=>a0C (q0K a b ha.h hb.h) rfl rfl rfl h⟩
theorem o0Y:Con Tryz.prog 83 [jN] [] fun r H'=>r=D.bool true∧H'=[]:=by
 refine Con.walk good h0e (by simp) ?_
 unfold d0w
 simp only [a0K]
 repeat' (with_reducible first|refine Wx.h ?_|refine Wb.h fun K hK=>?_|(refine hK _ ?_;clear hK K)|(refine wT ?_ ?_;assumption)|(refine wF ?_ ?_;assumption)|(refine Wy.h ?_ ?_;kernel_rfl)|refine Wq.h ?_ ?_<;>intro h<;>try (exfalso;omega)|refine Wu.h ?_ ?_<;>intro h<;>try simp only [h]|((fail_if_success refine Wz.h ?_);first|simp (disch:=omega) only [↓LD,LA,a0A,seval]|(refine And.intro ?_ ?_;omega)|simp only [D.int,D.bool]))
 refine HS.loopG [0,2,3,4,5] (fun _:Unit=>⟨frm 55 [(5,jI),(4,jI),(3,jI),(2,D.bool false),(0,jN)],[],[]⟩) (fun _=>True) (fun _=>0) () (by kernel_rfl) trivial ?_
 rintro - -
 repeat' (with_reducible first|refine Wx.h ?_|refine Wb.h fun K hK=>?_|(refine hK _ ?_;clear hK K)|(refine wT ?_ ?_;assumption)|(refine wF ?_ ?_;assumption)|(refine Wy.h ?_ ?_;kernel_rfl)|refine Wq.h ?_ ?_<;>intro h<;>try (exfalso;omega)|refine Wu.h ?_ ?_<;>intro h<;>try simp only [h]|((fail_if_success refine Wz.h ?_);first|simp (disch:=omega) only [↓LD,LA,a0A,seval]|(refine And.intro ?_ ?_;omega)|simp only [D.int,D.bool]))
 exact end1 rfl rfl (by kernel_rfl) .f ⟨rfl,rfl⟩
theorem r0k (t:Br):Con Tryz.prog 84 [.ag [.f (fBr t)],jN] [] fun r H'=>r = .tp [jN,D.bool true]∧H'=[]:=by
 refine Con.walk good w0r (by simp) ?_
 unfold o0v
 simp only [a0K]
 repeat' (with_reducible first|refine Wx.h ?_|refine Wb.h fun K hK=>?_|(refine hK _ ?_;clear hK K)|(refine wT ?_ ?_;assumption)|(refine wF ?_ ?_;assumption)|(refine Wy.h ?_ ?_;kernel_rfl)|refine Wq.h ?_ ?_<;>intro h<;>try (exfalso;omega)|refine Wu.h ?_ ?_<;>intro h<;>try simp only [h]|((fail_if_success refine Wz.h ?_);first|simp (disch:=omega) only [↓LD,LA,a0A,seval,LBr]|(refine And.intro ?_ ?_;omega)|simp only [D.int,D.bool]))
 refine RetS.still (ds:=[jN,D.bool true]) (by kernel_rfl) (by kernel_rfl) (.tps (.cons .f (.cons .f .nil))) ⟨rfl,rfl⟩
instance {H:List Row}{K:D→List Row→Prop}:Wa (a0R Tryz.prog (.fn 83 []) [jN] H K) (K (.f (.v (.bool true))) H):=⟨fun h=>a0C o0Y rfl rfl rfl h⟩
instance {t:Br}{H:List Row}{K:D→List Row→Prop}:Wa (a0R Tryz.prog (.fn 84 []) [.ag [.f (fBr t)],jN] H K) (K (.tp [jN,.f (.v (.bool true))]) H):=⟨fun h=>a0C (r0k t) rfl rfl rfl h⟩
instance {l:List Ev}{H:List Row}{K:D→List Row→Prop}[hl:Kn (FitL l)]:Wa (a0R Tryz.prog (.fn 28 []) [.f (fEv l)] H K)
  (K (.tp [sA (a0N s0 l).2,.f (.v (.int .i64 (a0N s0 l).1))]) H):=⟨fun h=>a0C (x0d l hl.h.1 hl.h.2) rfl rfl rfl h⟩
abbrev jS:D:=.f (.v (.string ⟨#[]⟩))
structure TrK (t:Br):Prop where
 len:t.length≤8
 ok:∀ b∈t,BrOk b∧b≠[]
theorem BrOk.fitL {l:List Ev}(h:BrOk l):FitL l:=⟨by have:=h.len;omega,h.fit⟩
theorem h0E {H:List Row}{r n:Nat}{xs:List F}{A B:Br}{l:List Ev}(hr:H[r]?=some (.data 25 xs))(hx:xs=(A++l :: B).map fEv)(hn:n=(A++l :: B).length):Vw H (.tp [.ag [.sl r 0 n],D.bool true,jI]) (.tp [.ag [.f (fBr (A++l :: B))],D.bool true,jI]):=by
 subst hx;subst hn
 exact .tps (.cons (.ags (.cons (.sl hr (fun e=>absurd e (by simp))) .nil)) (.cons .f (.cons .f .nil)))
theorem BrOk.idL {l:List Ev}(h:BrOk l):IdL l:=⟨by have:=h.len;omega,fun ne=>by
 have:=(rightE_iff.1 (h.right (a0L (Nat.pos_of_ne_zero fun e=>ne (List.eq_nil_of_length_eq_zero e))))).2.1
 omega⟩
theorem BrOk.ofK {l:List Ev}(h:BrOk l):(ofL l).length≤1000000:=by have:=h.len;have:=e1u l;omega
theorem TrK.nil:TrK []:=⟨by decide,fun b h=>by simp at h⟩
theorem TrK.gt {t:Br}(h:TrK t){i:Nat}(hi:i<t.length):BrOk (gt t i)∧gt t i≠[]:=h.ok _ (a0L hi)
theorem t0p {H:List Row}{b e:D}(hb:Vw H b b)(he:Vw H e e):Vw H (.tp [.ag [jN],b,e]) (.tp [.ag [.f (fBr [])],b,e]):=.tps (.cons (.ags (.cons .nil .nil)) (.cons hb (.cons he .nil)))
theorem u0x {t:Br}{k:Nat}(hk:k<t.length):(t.map fEv)[k*1]?=some (fEv (gt t k)):=by rw [Nat.mul_one,List.getElem?_map,List.getElem?_eq_getElem hk,←b0R hk];rfl
noncomputable def badB (l b:List Ev):Bool:=!eqB (l.take (b0f l b)) (b.take (b0f l b))
def w0v (b:List Ev):Int:=(gt b (b.length-1)).ver
def posK (l:List Ev):Br→Nat
 | []=>0
 | b :: t=>if 0<cmpI (ofL b) (ofL l) then posK l t+1 else 0
theorem y0r {l:List Ev}:∀ {t:Br},posK l t≤t.length
 | []=>Nat.le_refl _
 | b :: t=>by
  have:=y0r (l:=l) (t:=t)
  rw [posK,List.length_cons];split<;>omega
noncomputable def addR (t:Br)(l:List Ev):Br × Bool × Int :=
 if l.length=0 then ([],false,1) else if t.any (badB l)=true then ([],false,1) else if t.any (begB l)=true then (t,false,0)
 else if (t.filter fun b=>!begB b l).any (fun b=>decide (w0v b=w0v l))=true then ([],false,1)
 else if 8≤(t.filter fun b=>!begB b l).length then ([],false,2)
 else ((t.filter fun b=>!begB b l).take (posK l (t.filter fun b=>!begB b l))++l :: (t.filter fun b=>!begB b l).drop (posK l (t.filter fun b=>!begB b l)),true,0)
theorem f1H {t:Br}{l:List Ev}(ht:TrK t)(hl:BrOk l):TrK (addR t l).1:=by
 unfold addR
 split
 ·exact TrK.nil
 split
 ·exact TrK.nil
 split
 ·exact ht
 split
 ·exact TrK.nil
 split
 ·exact TrK.nil
 ·rename_i hz _ _ _ h8
  have hk:=y0r (l:=l) (t:=t.filter fun b=>!begB b l)
  have hm:∀ b∈t.filter (fun b=>!begB b l),BrOk b∧b≠[]:=fun b hb=>ht.ok b (List.mem_filter.1 hb).1
  generalize (t.filter fun b=>!begB b l)=o at *
  refine ⟨by dsimp only;rw [List.length_append,List.length_cons,List.length_take,List.length_drop];omega,fun b hb=>?_⟩
  rcases List.mem_append.1 hb with hb|hb
  ·exact hm b (List.mem_of_mem_take hb)
  ·rcases List.mem_cons.1 hb with rfl|hb
   ·exact ⟨hl,fun e=>hz (by rw [e];rfl)⟩
   ·exact hm b (List.mem_of_mem_drop hb)
theorem i0k {α:Type}[Inhabited α]{t:List α}{p:α→Bool}{i:Nat}(hi:i<t.length)(h:t.any p=(t.drop i).any p):(p (gt t i)=true→t.any p=true)∧(p (gt t i)=false→t.any p=(t.drop (i+1)).any p):=by
 rw [a0G hi,List.any_cons] at h
 exact ⟨fun e=>by rw [h,e];rfl,fun e=>by rw [h,e];rfl⟩
set_option maxRecDepth 100000 in
theorem b1x (t:Br)(l:List Ev)(ht:TrK t)(hl:BrOk l):Con Tryz.prog 52 [.ag [.f (fBr t)],.ag [jS,jS,jN,.f (fEv l)]] [] fun r H'=>r = .tp [.ag [.f (fBr (addR t l).1)],D.bool (addR t l).2.1,D.int (addR t l).2.2]∧H'=[]:=by
 suffices hh:∀ Q:D→List Row→Prop,(∀ o b e,addR t l=(o,b,e)→Q (.tp [.ag [.f (fBr o)],D.bool b,D.int e]) [])→Con Tryz.prog 52 [.ag [.f (fBr t)],.ag [jS,jS,jN,.f (fEv l)]] [] Q from hh _ fun o b e h=>⟨by rw [h],rfl⟩
 intro Q hQ
 haveI:Kn (FitL l):=⟨hl.fitL⟩
 have hll:=hl.len
 have htl:=ht.len
 unfold addR at hQ
 refine Con.walk good y0Z (by simp) ?_
 unfold v0u
 simp only [a0K]
 by_cases hz:(l.length:Int)=0
 ·have h1:=hQ [] false 1 (if_pos (by omega))
  repeat' (with_reducible first|refine Wx.h ?_|refine Wb.h fun K hK=>?_|(refine hK _ ?_;clear hK K)|(refine wT ?_ ?_;assumption)|(refine wF ?_ ?_;assumption)|(refine Wy.h ?_ ?_;kernel_rfl)|refine Wq.h ?_ ?_<;>intro h<;>try (exfalso;omega)|refine Wu.h ?_ ?_<;>intro h<;>try simp only [h]|((fail_if_success refine Wz.h ?_);first|simp (disch:=omega) only [↓LD,LA,a0A,seval,LEv,LBr,a0J]|(refine And.intro ?_ ?_;omega)|simp only [D.int,D.bool]))
  exact RetS.still (ds:=[.ag [jN],D.bool false,D.int 1]) (by kernel_rfl) (by kernel_rfl) (t0p .f .f) h1
 rw [if_neg (by omega)] at hQ
 repeat' (with_reducible first|refine Wx.h ?_|refine Wb.h fun K hK=>?_|(refine hK _ ?_;clear hK K)|(refine wT ?_ ?_;assumption)|(refine wF ?_ ?_;assumption)|(refine Wy.h ?_ ?_;kernel_rfl)|refine Wq.h ?_ ?_<;>intro h<;>try (exfalso;omega)|refine Wu.h ?_ ?_<;>intro h<;>try simp only [h]|((fail_if_success refine Wz.h ?_);first|simp (disch:=omega) only [↓LD,LA,a0A,seval,LEv,LBr,a0J]|(refine And.intro ?_ ?_;omega)|simp only [D.int,D.bool]))
 refine a0F (h0q l hl.fitL.1 hl.fit) [4] (by kernel_rfl) rfl rfl ?_
 rintro _ _ ⟨rfl,rfl⟩
 simp (disch:=omega) only [↓LD,LA,a0A,seval,ren,List.getElem?_nil,rEv]
 rw [hl.fold]
 generalize (a0N s0 l).2=s
 obtain ⟨b1,b2,b3,b4,b5,b6,b7,b8,b9⟩:=s
 repeat' (with_reducible first|refine Wx.h ?_|refine Wb.h fun K hK=>?_|(refine hK _ ?_;clear hK K)|(refine wT ?_ ?_;assumption)|(refine wF ?_ ?_;assumption)|(refine Wy.h ?_ ?_;kernel_rfl)|refine Wq.h ?_ ?_<;>intro h<;>try (exfalso;omega)|refine Wu.h ?_ ?_<;>intro h<;>try simp only [h]|((fail_if_success refine Wz.h ?_);first|simp (disch:=omega) only [↓LD,LA,a0A,seval,LEv,LBr,a0J,rEv,stD]|(refine And.intro ?_ ?_;omega)|simp only [D.int,D.bool]))
 refine HS.view (View.fzd 9 rfl rfl i0g a0J (by decide) (by decide)) ?_
 rw [show F.s (l.flatMap Ev.cs) l.length=fEv l from rfl]
 refine HS.loopG [2,4,5,6,9,12] (fun i:Nat=>⟨frm 176 [(2,.pt 0 0),(4,.pt 1 0),(5,D.bool false),(6,jI),(9,.f (fEv l)),(12,D.int i)],[.box 50 [.f (fBr t)],.box 50 [jN]],[]⟩) (fun i=>i≤t.length∧t.any (badB l)=(t.drop i).any (badB l)) (fun i=>t.length-i) 0 (by kernel_rfl) ⟨Nat.zero_le _,rfl⟩ ?_
 rintro i ⟨hi,hx⟩
 by_cases hil:i<t.length
 ·obtain ⟨ok,ne⟩:=ht.gt hil
  have hak:=j0q l (gt t i)
  haveI:Kn (FitL (gt t i)):=⟨ok.fitL⟩
  haveI:Kn (FitL ((gt t i).take (b0f l (gt t i)))):=⟨ok.fitL.take _⟩
  haveI:Kn (FitL (l.take (b0f l (gt t i)))):=⟨hl.fitL.take _⟩
  have hs1:∀ H:List Row,subS H 9 73 (.f (fEv l)) 0 (b0f l (gt t i))=some (.f (fEv (l.take (b0f l (gt t i))))):=fun H=>d0F hak.1
  have hs2:∀ H:List Row,subS H 9 73 (.f (fEv (gt t i))) 0 (b0f l (gt t i))=some (.f (fEv ((gt t i).take (b0f l (gt t i))))):=fun H=>d0F hak.2
  repeat' (with_reducible first|refine Wx.h ?_|refine Wb.h fun K hK=>?_|(refine hK _ ?_;clear hK K)|(refine wT ?_ ?_;assumption)|(refine wF ?_ ?_;assumption)|(refine Wy.h ?_ ?_;kernel_rfl)|refine Wq.h ?_ ?_<;>intro h<;>try (exfalso;omega)|refine Wu.h ?_ ?_<;>intro h<;>try simp only [h]|((fail_if_success refine Wz.h ?_);first|simp (disch:=omega) only [↓LD,LA,a0A,seval,LEv,LBr,a0J,hs1,hs2,Int.toNat_natCast]|(refine And.intro ?_ ?_;omega)|simp only [D.int,D.bool]))
  ·exact RetS.still (ds:=[.ag [jN],D.bool false,D.int 1]) (by kernel_rfl) (by kernel_rfl) (t0p .f .f) (hQ [] false 1 (if_pos ((i0k hil hx).1 (by unfold badB;assumption))))
  ·exact Next.mk (i+1) (by kernel_rfl) ⟨by omega,(i0k hil hx).2 (by unfold badB;assumption)⟩ (by omega)
 rw [hx,List.drop_of_length_le (by omega),if_neg (by simp)] at hQ
 repeat' (with_reducible first|refine Wx.h ?_|refine Wb.h fun K hK=>?_|(refine hK _ ?_;clear hK K)|(refine wT ?_ ?_;assumption)|(refine wF ?_ ?_;assumption)|(refine Wy.h ?_ ?_;kernel_rfl)|refine Wq.h ?_ ?_<;>intro h<;>try (exfalso;omega)|refine Wu.h ?_ ?_<;>intro h<;>try simp only [h]|((fail_if_success refine Wz.h ?_);first|simp (disch:=omega) only [↓LD,LA,a0A,seval,LBr]|(refine And.intro ?_ ?_;omega)|simp only [D.int,D.bool]))
 clear hi hil hx
 refine HS.view (View.void 25) ?_
 refine HS.view (View.slot 14 (.sl 2 0 0) (.no (Nat.lt_succ_self 2))) ?_
 refine HS.loopG [2,4,5,6,9,14,15] (fun x:Nat × Br=>⟨frm 176 [(2,.pt 0 0),(4,.pt 1 0),(5,D.bool false),(6,jI),(9,.f (fEv l)),(14,.sl 2 0 x.2.length),(15,D.int x.1)],[.box 50 [.f (fBr t)],.box 50 [jN],.data 25 (x.2.map fEv)],[]⟩) (fun x=>x.1≤t.length∧x.2.length≤x.1∧t.any (begB l)=(t.drop x.1).any (begB l)∧(t.filter fun b=>!begB b l)=x.2++(t.drop x.1).filter fun b=>!begB b l) (fun x=>t.length-x.1) (0,[]) (by kernel_rfl) ⟨Nat.zero_le _,Nat.le_refl _,rfl,rfl⟩ ?_
 rintro ⟨i,out⟩ ⟨hi,ho,hx,hm⟩
 dsimp only at hi ho hx hm
 by_cases hil:i<t.length
 ·obtain ⟨ok,ne⟩:=ht.gt hil
  haveI:Kn (FitL (gt t i)):=⟨ok.fitL⟩
  have ha:=d1o (l:=out) (x:=gt t i)
  repeat' (with_reducible first|refine Wx.h ?_|refine Wb.h fun K hK=>?_|(refine hK _ ?_;clear hK K)|(refine wT ?_ ?_;assumption)|(refine wF ?_ ?_;assumption)|(refine Wy.h ?_ ?_;kernel_rfl)|refine Wq.h ?_ ?_<;>intro h<;>try (exfalso;omega)|refine Wu.h ?_ ?_<;>intro h<;>try simp only [h]|((fail_if_success refine Wz.h ?_);first|simp (disch:=omega) only [↓LD,LA,a0A,seval,LEv,LBr,a0J,List.length_map,ha]|(refine And.intro ?_ ?_;omega)|simp only [D.int,D.bool]))
  ·exact RetS.still (ds:=[.ag [.f (fBr t)],D.bool false,jI]) (by kernel_rfl) (by kernel_rfl) (.tps (.cons (.ags (.cons .f .nil)) (.cons .f (.cons .f .nil)))) (hQ t false 0 (if_pos ((i0k hil hx).1 (by assumption))))
  ·exact Next.mk (i+1,out++[gt t i]) (by rw [show (out++[gt t i]).length=out.length+1 by simp];kernel_rfl) ⟨by dsimp only;omega,by simp;omega,(i0k hil hx).2 (by assumption),by rw [hm,a0G hil,List.filter_cons,if_pos (by assumption),List.append_assoc];rfl⟩ (by dsimp only;omega)
  ·exact Next.mk (i+1,out) (by kernel_rfl) ⟨by dsimp only;omega,by dsimp only;omega,(i0k hil hx).2 (by assumption),by rw [hm,a0G hil,List.filter_cons,if_neg (by rw [show (!begB (gt t i) l)=false by assumption];simp)]⟩ (by dsimp only;omega)
 rw [List.drop_of_length_le (by omega),List.filter_nil,List.append_nil] at hm
 rw [hx,List.drop_of_length_le (by omega),if_neg (by simp),hm] at hQ
 have htk:∀ b∈out,BrOk b∧b≠[]:=fun b hb=>ht.ok b (List.mem_filter.1 (hm ▸ hb)).1
 have hol:out.length≤8:=by omega
 repeat' (with_reducible first|refine Wx.h ?_|refine Wb.h fun K hK=>?_|(refine hK _ ?_;clear hK K)|(refine wT ?_ ?_;assumption)|(refine wF ?_ ?_;assumption)|(refine Wy.h ?_ ?_;kernel_rfl)|refine Wq.h ?_ ?_<;>intro h<;>try (exfalso;omega)|refine Wu.h ?_ ?_<;>intro h<;>try simp only [h]|((fail_if_success refine Wz.h ?_);first|simp (disch:=omega) only [↓LD,LA,a0A,seval,LBr]|(refine And.intro ?_ ?_;omega)|simp only [D.int,D.bool]))
 clear hi hil ho hm hx
 refine HS.loopG [4,5,6,9,14,16] (fun i:Nat=>⟨frm 176 [(4,.pt 0 0),(5,D.bool false),(6,jI),(9,.f (fEv l)),(14,.sl 1 0 out.length),(16,D.int i)],[.box 50 [jN],.data 25 (out.map fEv)],[]⟩) (fun i=>i≤out.length∧out.any (fun b=>decide (w0v b=w0v l))=(out.drop i).any (fun b=>decide (w0v b=w0v l))) (fun i=>out.length-i) 0 (by kernel_rfl) ⟨Nat.zero_le _,rfl⟩ ?_
 rintro i ⟨hi,hx⟩
 by_cases hil:i<out.length
 ·obtain ⟨ok,ne⟩:=htk _ (a0L hil)
  have hbl:=ok.len
  have hb0:0<(gt out i).length:=Nat.pos_of_ne_zero fun e=>ne (List.eq_nil_of_length_eq_zero e)
  have e1:(((gt out i).length:Int)-1).toNat=(gt out i).length-1:=by omega
  have e2:((l.length:Int)-1).toNat=l.length-1:=by omega
  have e3:=u0x hil
  have e4:((i:Int)).toNat=i:=by omega
  have c1:=d0c (g:=gt out i) (k:=(gt out i).length-1) (by omega)
  have c2:=d0c (g:=l) (k:=l.length-1) (by omega)
  repeat' (with_reducible first|refine Wx.h ?_|refine Wb.h fun K hK=>?_|(refine hK _ ?_;clear hK K)|(refine wT ?_ ?_;assumption)|(refine wF ?_ ?_;assumption)|(refine Wy.h ?_ ?_;kernel_rfl)|refine Wq.h ?_ ?_<;>intro h<;>try (exfalso;omega)|refine Wu.h ?_ ?_<;>intro h<;>try simp only [h]|((fail_if_success refine Wz.h ?_);first|simp (disch:=omega) only [↓LD,LA,a0A,seval,LEv,LBr,a0J,List.length_map,e1,e2,e3,e4,c1,c2,Ev.cs]|(refine And.intro ?_ ?_;omega)|simp only [D.int,D.bool]))
  ·exact RetS.still (ds:=[.ag [jN],D.bool false,D.int 1]) (by kernel_rfl) (by kernel_rfl) (t0p .f .f) (hQ [] false 1 (if_pos ((i0k hil hx).1 (decide_eq_true (by assumption)))))
  ·exact Next.mk (i+1) (by kernel_rfl) ⟨by omega,(i0k hil hx).2 (decide_eq_false (by assumption))⟩ (by omega)
 rw [hx,List.drop_of_length_le (by omega),if_neg (by simp)] at hQ
 clear hx
 repeat' (with_reducible first|refine Wx.h ?_|refine Wb.h fun K hK=>?_|(refine hK _ ?_;clear hK K)|(refine wT ?_ ?_;assumption)|(refine wF ?_ ?_;assumption)|(refine Wy.h ?_ ?_;kernel_rfl)|refine Wq.h ?_ ?_<;>intro h<;>try (exfalso;omega)|refine Wu.h ?_ ?_<;>intro h<;>try simp only [h]|((fail_if_success refine Wz.h ?_);first|simp (disch:=omega) only [↓LD,LA,a0A,seval,LBr]|(refine And.intro ?_ ?_;omega)|simp only [D.int,D.bool]))
 ·exact RetS.still (ds:=[.ag [jN],D.bool false,D.int 2]) (by kernel_rfl) (by kernel_rfl) (t0p .f .f) (hQ [] false 2 (if_pos (by omega)))
 rw [if_neg (by omega)] at hQ
 haveI:Kn (IdL l):=⟨hl.idL⟩
 haveI:Kn ((ofL l).length≤1000000):=⟨hl.ofK⟩
 clear hi hil
 refine HS.view (View.fzd 14 rfl rfl f1d (by simp) (by decide) (by decide)) ?_
 rw [show F.s (out.map fEv) out.length=fBr out from rfl]
 refine HS.loopG [4,5,6,9,14,17] (fun i:Nat=>⟨frm 176 [(4,.pt 0 0),(5,D.bool false),(6,jI),(9,.f (fEv l)),(14,.f (fBr out)),(17,D.int i)],[.box 50 [jN]],[]⟩) (fun i=>i≤out.length∧posK l out=i+posK l (out.drop i)) (fun i=>out.length-i) 0 (by kernel_rfl) ⟨Nat.zero_le _,(Nat.zero_add _).symm⟩ ?_
 rintro k ⟨hk,hP⟩
 have hs1:∀ H:List Row,subS H 1 25 (.f (fBr out)) 0 k=some (.f (fBr (out.take k))):=fun H=>c1E hk
 have hs2:∀ H:List Row,subS H 1 25 (.f (fBr out)) k out.length=some (.f (fBr (out.drop k))):=fun H=>a1i
 have hA:(out.take k).length=k:=by rw [List.length_take];omega
 have hB:(out.drop k).length=out.length-k:=List.length_drop
 have hfin:posK l out=k→Q (.tp [.ag [.f (fBr (out.take k++l :: out.drop k))],D.bool true,D.int 0]) []:=fun e=>hQ _ true 0 (by rw [e])
 have hP1:k<out.length→0<cmpI (ofL (gt out k)) (ofL l)→posK l out=k+1+posK l (out.drop (k+1)):=fun h e=>by rw [hP,a0G h,posK,if_pos e];omega
 have hP2:¬ k<out.length∨¬ 0<cmpI (ofL (gt out k)) (ofL l)→posK l out=k:=fun h=>by
  by_cases h1:k<out.length
  ·rw [hP,a0G h1,posK,if_neg (h.elim (fun e=>absurd h1 e) id)];rfl
  ·rw [hP,List.drop_of_length_le (by omega)];rfl
 clear hP
 generalize out.take k=A at *
 generalize out.drop k=B at *
 have hAl:(A.map fEv++[fEv l]).length=A.length+1:=by simp
 by_cases hil:k<out.length
 ·obtain ⟨ok,ne⟩:=htk _ (a0L hil)
  haveI:Kn (IdL (gt out k)):=⟨ok.idL⟩
  haveI:Kn ((ofL (gt out k)).length≤1000000):=⟨ok.ofK⟩
  have e3:=u0x hil
  repeat' (with_reducible first|refine Wx.h ?_|refine We.h fun K hK=>?_|refine Wd.h fun K M hK hM=>?_|(refine hK _ _ _ _ ?_;clear hK K;try clear hM M)|(refine hM ?_;clear hM M;try clear hK K)|refine Wb.h fun K hK=>?_|(refine hK _ ?_;clear hK K)|(refine wT ?_ ?_;assumption)|(refine wF ?_ ?_;assumption)|(refine Wy.h ?_ ?_;kernel_rfl)|refine Wq.h ?_ ?_<;>intro h<;>try (exfalso;omega)|refine Wu.h ?_ ?_<;>intro h<;>try simp only [h]|((fail_if_success refine Wz.h ?_);first|simp (disch:=omega) only [↓LD,LA,a0A,seval,LEv,LBr,a0J,n0L,hs1,hs2,hAl]|(refine And.intro ?_ ?_;omega)|simp only [D.int,D.bool]))
  ·exact Next.mk (k+1) (by kernel_rfl) ⟨by omega,hP1 hil (by assumption)⟩ (by omega)
  all_goals
   have hfin:=hfin (hP2 (.inr (by assumption)))
   (first
    | exact RetS.still (ds:=[.ag [.sl 3 0 1],D.bool true,jI]) (by kernel_rfl) (by kernel_rfl) (h0E rfl (by rw [List.eq_nil_of_length_eq_zero (show A.length=0 by assumption),List.eq_nil_of_length_eq_zero (show B.length=0 by assumption)];rfl) (by rw [List.length_append,List.length_cons];omega)) hfin
    | exact RetS.still (ds:=[.ag [.sl 4 0 (1+B.length)],D.bool true,jI]) (by kernel_rfl) (by kernel_rfl) (h0E rfl (by rw [List.eq_nil_of_length_eq_zero (show A.length=0 by assumption)];rfl) (by rw [List.length_append,List.length_cons];omega)) hfin
    | exact RetS.still (ds:=[.ag [.sl 5 0 (A.length+1+B.length)],D.bool true,jI]) (by kernel_rfl) (by kernel_rfl) (h0E rfl (by simp) (by rw [List.length_append,List.length_cons];omega)) hfin
    | exact RetS.still (ds:=[.ag [.sl 4 0 (A.length+1)],D.bool true,jI]) (by kernel_rfl) (by kernel_rfl) (h0E rfl (by rw [List.eq_nil_of_length_eq_zero (show B.length=0 by assumption)];simp) (by rw [List.length_append,List.length_cons];omega)) hfin)
 repeat' (with_reducible first|refine Wx.h ?_|refine We.h fun K hK=>?_|refine Wd.h fun K M hK hM=>?_|(refine hK _ _ _ _ ?_;clear hK K;try clear hM M)|(refine hM ?_;clear hM M;try clear hK K)|refine Wb.h fun K hK=>?_|(refine hK _ ?_;clear hK K)|(refine wT ?_ ?_;assumption)|(refine wF ?_ ?_;assumption)|(refine Wy.h ?_ ?_;kernel_rfl)|refine Wq.h ?_ ?_<;>intro h<;>try (exfalso;omega)|refine Wu.h ?_ ?_<;>intro h<;>try simp only [h]|((fail_if_success refine Wz.h ?_);first|simp (disch:=omega) only [↓LD,LA,a0A,seval,LEv,LBr,a0J,n0L,hs1,hs2,hAl]|(refine And.intro ?_ ?_;omega)|simp only [D.int,D.bool]))
 all_goals
  have hfin:=hfin (hP2 (.inl hil))
  (first
   | exact RetS.still (ds:=[.ag [.sl 3 0 1],D.bool true,jI]) (by kernel_rfl) (by kernel_rfl) (h0E rfl (by rw [List.eq_nil_of_length_eq_zero (show A.length=0 by assumption),List.eq_nil_of_length_eq_zero (show B.length=0 by assumption)];rfl) (by rw [List.length_append,List.length_cons];omega)) hfin
   | exact RetS.still (ds:=[.ag [.sl 4 0 (1+B.length)],D.bool true,jI]) (by kernel_rfl) (by kernel_rfl) (h0E rfl (by rw [List.eq_nil_of_length_eq_zero (show A.length=0 by assumption)];rfl) (by rw [List.length_append,List.length_cons];omega)) hfin
   | exact RetS.still (ds:=[.ag [.sl 5 0 (A.length+1+B.length)],D.bool true,jI]) (by kernel_rfl) (by kernel_rfl) (h0E rfl (by simp) (by rw [List.length_append,List.length_cons];omega)) hfin
   | exact RetS.still (ds:=[.ag [.sl 4 0 (A.length+1)],D.bool true,jI]) (by kernel_rfl) (by kernel_rfl) (h0E rfl (by rw [List.eq_nil_of_length_eq_zero (show B.length=0 by assumption)];simp) (by rw [List.length_append,List.length_cons];omega)) hfin)
instance {t:Br}{l:List Ev}{H:List Row}{K:Bool→D→List Row→Prop}[ht:Kn (TrK t)][hl:Kn (BrOk l)]:Wa (a0e Tryz.prog (.fn 52 []) [.ag [.f (fBr t)],.ag [.f (.v (.string ⟨#[]⟩)),.f (.v (.string ⟨#[]⟩)),.f (.v (.slice none 0 0)),.f (fEv l)]] H K) (K true (.tp [.ag [.f (fBr (addR t l).1)],.f (.v (.bool (addR t l).2.1)),.f (.v (.int .i64 (addR t l).2.2))]) H):=⟨fun h=>a0M (b1x t l ht.h hl.h) rfl rfl rfl h⟩
def f0T:SCode :=
  (jq ([.a 10 (.mv kN)]) (jq ((ap [.a 15 (.bsl 73 9 0 [] []),jm 16 0,jm 17 1,jm 18 0,je 19 18,jb 20 .add 19 1,.a 21 (.call (kC 13) [(.t 17),(.t
 20)])] (ap [.a 22 (.sub 9 73 (.t 16) none (some (.t 21)) none),.a 23 (.app 73 9 112 (.t 15) (.t 22))] [jm 11 23]))) (jq ([jk 12 0]) (.seq (jq ([jm 24
 11,je 25 24,jb 26 .gtr 25 0]) (jc 26 (.ops [jm 27 11,jm 28 11,je 29 28,jb 30 .sub 29 1,jx 31 9 27 30,jo 32 2 31,jl 33 32,jm 12 33]) .skip))
 (jq ((ap [jm 35 11,jm 36 2,jm 37 12,.a 38 (.call (kC 72) [(.t 35),(.t 36),(.t 37)])] [jm 34 38,jE 39 0 34,jE 40 1 34,jm 13 39,jm 14 40]))
 (.seq (jq ([jm 41 14,jb 42 .neq 41 0]) (jc 42 (jq ([jm 43 11,jm 10 43]) .ret) .skip)) (.seq (jq ([jm 44 13,jn 45 44,jo 46 0 45,jo 47 0 46,jl 48
 47,jb 49 .eql 48 0]) (jc 49 (.ops (ap [jm 50 13,jm 51 4,.a 52 (.call (kC 90) [(.t 51),(kI 7)])] [.a 53 (.call (kC 89) [(.t 50),(.t 52)])])) (.ops
 (ap [jm 54 13,jm 55 2,.a 56 (.call (kC 92) [(.t 55)])] (ap [jm 57 1,.a 58 (.call (kC 92) [(.t 57)])] [jB 59 .add 56 58,.a 60 (.call (kC 91) [(.t
 54),(.t 59),kN])]))))) (.seq (jq ([jm 61 13,jn 62 61,jo 63 11 62,jl 64 63,je 65 64,jb 66 .eql 65 0]) (jc 66 (jq ([jm 67 11,jm 10 67]) .ret)
 .skip)) (jq ((ap [jm 68 11,jm 69 13,jn 70 69,jo 71 11 70,jl 72 71,.a 73 (.app 73 9 112 (.t 68) (.t 72))] (ap [jm 74 3,jm 75 4,.a 76 (.call (kC
 37) [(.t 73),(.t 74),(.t 75)])] [jm 10 76]))) .ret)))))))))
theorem k0i:Fn Tryz.prog 57 77 [.t 10] f0T:=.of Tryz.func57 (by kernel_rfl)
def d0n:SCode :=
  (jq ([.a 1 (.box 48 (.t 0)),.a 2 (.mv kN)]) (jq ([.a 3 (.mv kN)]) (jq ([jk 4 0]) (.seq (jq ([jk 5 0]) (.block 0 (.loop (.seq (jq ((ap [jm 9 5,jo 10 0
 1,jl 11 10,je 12 11,jB 13 .lss 9 12] (ap [jm 14 13,gM 15 5 14 true] (ap [jG 16 (.bin .lss (.t 15) (kI 5)) 14 true] [.a 17 (.pick (.t 14) (.t 16)
 kF)])))) (jc 17 .skip (.exit 0))) (.seq (.block 1 (.seq (jq ([jm 20 5,jb 21 .eql 20 0]) (jc 21 (.drw [jm 22 3,jo 23 0 1,jl 24 23,.a 25 (.idx 1 (.t
 24) (kI 0)),jl 26 25,jo 27 2 1,jl 28 27,.a 29 (.call (kC 9) [(.t 26),(.t 28)]),.a 30 (.bsl 25 1 1 [jN] [(0,(.t 29))]),.a 31 (.app 25 1 24 (.t
 22) (.t 30)),jm 3 31] [0,0,2,6,14,0,32,126,254,511,1023]) (jq ((ap [jm 32 3,jm 33 5,jb 34 .mul 33 7,jo 35 1 1,jl 36 35,je 37 36,jB 38
 .add 34 37,jm 39 3,je 40 39,.a 41 (.call (kC 13) [(.t 38),(.t 40)])] [jx 42 1 32 41,jl 43 42,jm 6 43])) (jq ([jk 7 0]) (.seq (jq ([jm 44 5,jo 45
 1 1,jl 46 45,je 47 46,jB 48 .lss 44 47]) (jc 48 (.ops [jo 49 1 1,jl 50 49,jm 51 5,jx 52 1 50 51,jl 53 52,jm 7 53]) .skip)) (.drw [jm 54 3,jm
 55 6,jm 56 7,jm 57 4,jm 58 5,jb 59 .rem 58 2,.a 60 (.bin .add (kI 1) (.t 59)),.a 61 (.call (kC 58) [(.t 57),(.t 60)]),jo 62 0 1,jl 63 62,jm
 64 5,jx 65 1 63 64,jl 66 65,jo 67 2 1,jl 68 67,.a 69 (.call (kC 57) [(.t 55),(.t 56),(.t 61),(.t 66),(.t 68)]),.a 70 (.bsl 25 1 1 [jN] [(0,
 (.t 69))]),.a 71 (.app 25 1 24 (.t 54) (.t 70)),jm 3 71] [0,0,0,0,0,16,48,120,0,256,0,1792,3840,0,8192,32766,65534,131071,
 262143])))))) (jq ([jm 72 3,jm 73 3,je 74 73,jb 75 .sub 74 1,jx 76 1 72 75,jl 77 76,jm 8 77]) (jq ([jm 78 8,je 79 78,jb 80 .gtr 79 0]) (jc 80
 (.ops [jm 81 4,jm 82 8,jm 83 8,je 84 83,jb 85 .sub 84 1,jx 86 9 82 85,jo 87 1 86,jl 88 87,.a 89 (.mm true (.t 81) (.t 88)),jm 4 89])
 .skip))))) (.ops [jm 18 5,jb 19 .add 18 1,jm 5 19])))))) (jq ([jm 90 3,jm 2 90]) .ret)))))
theorem h0g:Fn Tryz.prog 23 91 [.t 2] d0n:=.of Tryz.func23 (by kernel_rfl)
def i0m:SCode :=
  (jq ([.a 1 (.box 48 (.t 0)),.a 2 (.alloc 50 [jN])]) (jq ([.a 3 (.alloc 50 [jN])]) (jq ((ap [jL 9 3 1,.a 10 (.call (kC 23) [(.t 9)])] [jm 4 10]))
 (.seq (jq ([jk 5 0]) (.block 0 (.loop (.seq (jq ([jm 11 5,jm 12 4,je 13 12,jB 14 .lss 11 13]) (jc 14 .skip (.exit 0))) (.seq (.block 1 (.seq (jq
 ([jm 17 4,jm 18 5,jx 19 1 17 18,jl 20 19,je 21 20,jb 22 .eql 21 0]) (jc 22 (.exit 1) .skip)) (.seq (.drw [jL 24 1 3,jm 25 4,jm 26 5,jx 27 1 25
 26,jl 28 27,.a 29 (.bld [(.f (.v (.string ⟨#[]⟩))),(.f (.v (.string ⟨#[]⟩))),jN,jN] [(3,1,(.t 28))]),.a 30 (.call (kC 52) [(.t 24),(.t 29)]),
 jm 23 30,jE 31 0 23,jE 32 1 23,jE 33 2 23,.a 6 (.alloc 50 [jN]),.n (.store 1 (.t 6) (.t 31)),jm 7 32,jm 8 33] [0,0,0,6,14,30,63,127,255,
 255,255,0,2559,7167,16383]) (jq ([jm 34 8,jb 35 .eql 34 0]) (jc 35 (.ops [jL 36 1 6,.n (.store 1 (.t 3) (.t 36))]) .skip))))) (.ops [jm 15 5,jb
 16 .add 15 1,jm 5 16])))))) (jq ([jL 37 1 3,.n (.store 1 (.t 2) (.t 37))]) .ret)))))
theorem q0Y:Fn Tryz.prog 19 38 [.cA 1 2] i0m:=.of Tryz.func19 (by kernel_rfl)
end Go.Proofs.YthjgmldnegaaiaaGreatDoor.Mir
