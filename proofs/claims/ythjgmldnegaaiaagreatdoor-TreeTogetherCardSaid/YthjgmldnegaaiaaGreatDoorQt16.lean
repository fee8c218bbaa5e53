/- Lemmas for the proof. No condition. -/
import Derived.Test.YthjgmldnegaaiaaGreatDoorQt15
import Derived.Shelf.SlIterI.Nil
import Derived.Shelf.SlIter.Nil
import Derived.Shelf.SortM.Plain
import Derived.Shelf.SortM.SortNone
import Derived.Ground.GgzProg
import Derived.Ground.SlgmProg
set_option linter.unusedVariables false
set_option linter.unusedSimpArgs false
namespace Go.Proofs.YthjgmldnegaaiaaGreatDoor.Mir
open Go Go.RowKit
set_option maxHeartbeats 4000000
set_option maxRecDepth 100000 in
theorem q0X (t:Br)(l:List Ev)(ht:t.length≤1000):Con Tryz.prog 80 [.sl 0 0 t.length,D.int t.length,.sl 1 0 1] [.data 25 (t.map fEv),.data 25 [fEv l]] fun r H' =>
  r = .sl 2 0 (t.length+1)∧H'=[.dead,.data 25 [fEv l],.data 25 ((t++[l]).map fEv)]:=by
 refine Con.walk good q0p (by simp) ?_
 unfold i0E
 simp only [a0J]
 have hl:(t.map fEv).length=t.length:=List.length_map _
 repeat' (with_reducible first|refine Wx.h ?_|refine Wb.h fun K hK=>?_|(refine hK _ ?_;clear hK K)|((fail_if_success refine Wz.h ?_);first|simp (disch:=omega) only [↓LD,LA,a0A,seval,LBr,hl,u0F]|(refine And.intro ?_ ?_;omega)|fail))
 all_goals exact endA rfl rfl ⟨rfl,rfl⟩
theorem s0r (t:Br)(i:Nat)(l:List Ev)(hi:i≤t.length)(ht:t.length≤1000):Con Tryz.prog 80 [.sl 0 0 t.length,D.int i,.sl 1 0 1] [.data 25 (t.map fEv),.data 25 [fEv l]] fun r H' =>
  r = .sl 2 0 (t.length+1)∧H'=[.dead,.data 25 [fEv l],.data 25 ((t.take i++l :: t.drop i).map fEv)]:=by
 by_cases h:i<t.length
 ·exact p0l t i l h ht
 ·obtain rfl:i=t.length:=by omega
  rw [List.take_length,List.drop_length]
  exact q0X t l ht
set_option maxRecDepth 100000 in
theorem t0H (t:Br)(l:List Ev)(ht:TrK t)(hl:BrOk l):Con Tryz.prog 76 [.sl 0 0 t.length,.fn 79 [.pt 1 0]] [.data 25 (t.map fEv),bxB l] fun r H'=>r=D.int (idxF (fun x=>decide (0<cmpI (ofL l) (ofL x))) 0 t)∧H'=[.data 25 (t.map fEv),bxB l]:=by
 have htl:=ht.len
 refine Con.walk good j0e (by simp) ?_
 unfold g0F
 simp only [a0J]
 repeat' (with_reducible first|refine Wx.h ?_|refine Wb.h fun K hK=>?_|(refine hK _ ?_;clear hK K)|((fail_if_success refine Wz.h ?_);simp (disch:=omega) only [↓LD,LA,a0A,seval]))
 refine HS.loopG [0,1,7,8] (fun i:Nat=>⟨frm 19 [(0,.sl 0 0 t.length),(1,.fn 79 [.pt 1 0]),(7,D.int t.length),(8,D.int i)],[.data 25 (t.map fEv),bxB l],[]⟩) (fun i=>i≤t.length∧idxF (fun x=>decide (0<cmpI (ofL l) (ofL x))) 0 t=idxF (fun x=>decide (0<cmpI (ofL l) (ofL x))) i (t.drop i)) (fun i=>t.length-i) 0 (by kernel_rfl) ⟨Nat.zero_le _,rfl⟩ ?_
 rintro i ⟨hi,hF⟩
 by_cases hil:i<t.length
 ·obtain ⟨ok,ne⟩:=ht.gt hil
  rw [a0H hil,idxF] at hF
  repeat' (with_reducible first|refine Wx.h ?_|refine Wb.h fun K hK=>?_|(refine hK _ ?_;clear hK K)|refine Wq.h ?_ ?_<;>intro h<;>try (exfalso;omega)|((fail_if_success refine Wz.h ?_);first|simp (disch:=omega) only [↓LD,LA,a0A,seval,LBr]|(refine And.intro ?_ ?_;omega)|fail))
  refine a0I (x0I (gt t i) l ok.idL hl.idL ok.ofK hl.ofK) [1] (by kernel_rfl) rfl rfl ?_
  rintro _ _ ⟨rfl,rfl⟩
  by_cases hc:0<cmpI (ofL l) (ofL (gt t i))
  ·rw [decide_eq_true hc] at hF ⊢
   rw [if_pos rfl] at hF
   simp (disch:=omega) only [↓LD,LA,a0A,seval,ren,List.getElem?_nil,bxB]
   repeat' (with_reducible first|refine Wx.h ?_|refine Wb.h fun K hK=>?_|(refine hK _ ?_;clear hK K)|((fail_if_success refine Wz.h ?_);simp (disch:=omega) only [↓LD,LA,a0A,seval]))
   rw [hF]
   exact endA rfl rfl ⟨rfl,rfl⟩
  ·rw [decide_eq_false hc] at hF ⊢
   rw [if_neg (by simp)] at hF
   simp (disch:=omega) only [↓LD,LA,a0A,seval,ren,List.getElem?_nil,bxB]
   repeat' (with_reducible first|refine Wx.h ?_|refine Wb.h fun K hK=>?_|(refine hK _ ?_;clear hK K)|((fail_if_success refine Wz.h ?_);simp (disch:=omega) only [↓LD,LA,a0A,seval]))
   exact Next.mk (i+1) (by kernel_rfl) ⟨by omega,hF⟩ (by omega)
 ·rw [List.drop_of_length_le (by omega)] at hF
  repeat' (with_reducible first|refine Wx.h ?_|refine Wb.h fun K hK=>?_|(refine hK _ ?_;clear hK K)|refine Wq.h ?_ ?_<;>intro h<;>try (exfalso;omega)|((fail_if_success refine Wz.h ?_);simp (disch:=omega) only [↓LD,LA,a0A,seval]))
  rw [hF]
  exact endA rfl rfl ⟨rfl,rfl⟩
theorem k0T:∀ {l b:List Ev},a0O l b=b.length↔b <+: l
 | l,[]=>by cases l<;>simp [a0O]
 | [],y :: b=>by simp [a0O]
 | x :: l,y :: b=>by
  rw [a0O,List.length_cons,List.cons_prefix_cons]
  by_cases e:x=y
  ·rw [if_pos (d0q e)]
   have:=k0T (l:=l) (b:=b)
   constructor
   ·intro h;exact ⟨e.symm,this.1 (by omega)⟩
   ·rintro ⟨_,h⟩;rw [this.2 h]
  ·rw [if_neg (by rw [e0H e];simp)]
   constructor
   ·intro h;omega
   ·rintro ⟨h,_⟩;exact absurd h.symm e
theorem y0h {l:List Ev}(hl:l≠[]):∀ {o:Br} {k:Nat},(∀ b∈o,b≠[]∧a0U b≠a0U l)→(idxF (fun x=>decide (0<cmpI (ofL l) (ofL x))) k o = -1∧posK l o=o.length)∨idxF (fun x=>decide (0<cmpI (ofL l) (ofL x))) k o=(k+posK l o:Nat)∧posK l o<o.length
 | [],k,_=>.inl ⟨rfl,rfl⟩
 | b :: o,k,h=>by
  obtain ⟨hb,hv⟩:=h b (by simp)
  have ih:=y0h hl (o:=o) (k:=k+1) fun x hx=>h x (by simp [hx])
  have c1:=e0c hb hl hv
  have c2:=e0c hl hb (fun e=>hv e.symm)
  rw [idxF,posK]
  by_cases hc:0<cmpI (ofL l) (ofL b)
  ·rw [if_pos (by simpa using hc),if_neg (by rw [c1];have:=c2.1 hc;omega)]
   exact .inr ⟨by simp,by simp⟩
  ·rw [if_neg (by simpa using hc),if_pos (by rw [c1];have:=mt c2.2 hc;omega)]
   rcases ih with ⟨h1,h2⟩|⟨h1,h2⟩
   ·exact .inl ⟨h1,by rw [h2];simp⟩
   ·exact .inr ⟨by rw [h1];congr 1;omega,by simp;omega⟩
instance {l:List Ev}{H:List Row}{K:Bool→D→List Row→Prop}[hl:Kn (BrOk l∧l≠[])]:Wa (a0j Tryz.prog (.fn 78 []) [.f (fEv l)] H K) (K true (.f (.v (.int .i64 (a0U l)))) H):=⟨fun h=>a0N (g0u l hl.h.1.idL hl.h.1.ofK) rfl rfl rfl (by rw [b0u hl.h.2];exact h)⟩
noncomputable def i0P (t:Br)(l:List Ev):Br × Int :=
 if (t.filter fun b=>!begB b l).any (fun b=>decide (a0U b=a0U l))=true then ([],1) else if 8≤(t.filter fun b=>!begB b l).length then ([],2) else (insU l (t.filter fun b=>!begB b l),0)
set_option maxRecDepth 100000 in
theorem b1P (t:Br)(l:List Ev)(ht:TrK t)(hl:BrOk l)(hne:l≠[]):Con Tryz.prog 47 [.ag [.f (fBr t)],.f (fEv l)] [] fun r H'=>r = .tp [.ag [.f (fBr (i0P t l).1)],D.int (i0P t l).2]∧H'=[]:=by
 suffices hh:∀ Q:D→List Row→Prop,(∀ o e,i0P t l=(o,e)→Q (.tp [.ag [.f (fBr o)],D.int e]) [])→Con Tryz.prog 47 [.ag [.f (fBr t)],.f (fEv l)] [] Q from hh _ fun o e h=>⟨by rw [h],rfl⟩
 intro Q hQ
 unfold i0P at hQ
 have htl:=ht.len
 have hll:=hl.len
 haveI:Kn (FitL l):=⟨hl.fitL⟩
 haveI:Kn (BrOk l∧l≠[]):=⟨hl,hne⟩
 refine Con.walk good y0M (by simp) ?_
 unfold r0T
 simp only [a0J]
 repeat' (with_reducible first|refine Wx.h ?_|refine Wb.h fun K hK=>?_|(refine hK _ ?_;clear hK K)|((fail_if_success refine Wz.h ?_);simp (disch:=omega) only [↓LD,LA,a0A,seval,LBr]))
 refine HS.view (View.void 25) ?_
 refine HS.view (View.bcell 3 0 (.sl 4 0 0) rfl rfl (.no (by show 4<5;omega))) ?_
 refine HS.loopG [3,4,5,6,11,12,13] (fun i:Nat=>⟨frm 59 [(3,.pt 0 0),(4,.pt 1 0),(5,jI),(6,.pt 2 0),(11,.f (fBr t)),(12,D.int t.length),(13,D.int i)],[bxB l,.box 30 [jN],.box 30 [.sl 3 0 ((t.take i).filter fun b=>!begB b l).length],.data 25 (((t.take i).filter fun b=>!begB b l).map fEv)],[]⟩) (fun i=>i≤t.length∧∀ b∈(t.take i).filter (fun b=>!begB b l),a0U b≠a0U l) (fun i=>t.length-i) 0 (by kernel_rfl) ⟨Nat.zero_le _,fun b h=>by simp at h⟩ ?_
 rintro i ⟨hi,hv⟩
 have hol:((t.take i).filter fun b=>!begB b l).length≤i:=by
  have:=List.length_filter_le (fun b=>!begB b l) (t.take i)
  rw [List.length_take] at this;omega
 by_cases hil:i<t.length
 ·obtain ⟨ok,ne⟩:=ht.gt hil
  haveI:Kn (FitL (gt t i)):=⟨ok.fitL⟩
  haveI:Kn (BrOk (gt t i)∧gt t i≠[]):=⟨ok,ne⟩
  have ht1:t.take (i+1)=t.take i++[gt t i]:=by rw [List.take_succ_eq_append_getElem hil,a0q hil]
  have hbt:gt t i∈t:=a0K hil
  have hsb:=k0T (l:=l) (b:=gt t i)
  generalize hb:gt t i=b at *
  by_cases hp:b <+: l
  ·have he:(a0O l b:Int)=b.length:=by have:=hsb.2 hp;omega
   have hf:(t.take (i+1)).filter (fun b=>!begB b l)=(t.take i).filter fun b=>!begB b l:=by
    rw [ht1,List.filter_append,List.filter_cons,if_neg (by rw [begB_iff.2 hp];simp),List.filter_nil,List.append_nil]
   rw [←hf] at hv
   generalize (t.take i).filter (fun b=>!begB b l)=o at *
   repeat' (with_reducible first|refine Wx.h ?_|refine Wb.h fun K hK=>?_|(refine hK _ ?_;clear hK K)|refine Wq.h ?_ ?_<;>intro h<;>try (exfalso;omega)|((fail_if_success refine Wz.h ?_);first|simp (disch:=omega) only [↓LD,LA,a0A,seval,LBr,LEv,bxB,hb,he]|(refine And.intro ?_ ?_;omega)|fail))
   exact Next.mk (i+1) (by rw [hf];kernel_rfl) ⟨by omega,hv⟩ (by omega)
  have he:¬ (a0O l b:Int)=b.length:=fun h=>hp (hsb.1 (by omega))
  have hf:(t.take (i+1)).filter (fun b=>!begB b l)=(t.take i).filter (fun b=>!begB b l)++[b]:=by
   rw [ht1,List.filter_append,List.filter_cons,if_pos (by rw [begB_f.2 hp];rfl),List.filter_nil]
  by_cases hvv:a0U b=a0U l
  ·have hq:=hQ [] 1 (if_pos (List.any_eq_true.2 ⟨b,mem_fil.2 ⟨hbt,hp⟩,decide_eq_true hvv⟩))
   generalize (t.take i).filter (fun b=>!begB b l)=o at *
   repeat' (with_reducible first|refine Wx.h ?_|refine We.h fun K hK=>?_|(refine hK _ _ _ _ ?_;clear hK K;try clear hM M)|refine Wb.h fun K hK=>?_|(refine hK _ ?_;clear hK K)|(refine Wy.h ?_ ?_;kernel_rfl)|refine Wq.h ?_ ?_<;>intro h<;>try (exfalso;omega)|((fail_if_success refine Wz.h ?_);first|simp (disch:=omega) only [↓LD,LA,a0A,seval,LBr,LEv,bxB,hb,he,hvv]|(refine And.intro ?_ ?_;omega)|fail))
   all_goals exact RetS.still (ds:=[.ag [jN],D.int 1]) (by kernel_rfl) (by kernel_rfl) (.tps (.cons (.ags (.cons .nil .nil)) (.cons .f .nil))) hq
  ·have hv2:∀ x∈(t.take (i+1)).filter (fun b=>!begB b l),a0U x≠a0U l:=fun x hx=>by
    rw [hf] at hx
    rcases List.mem_append.1 hx with hx|hx
    ·exact hv x hx
    ·rw [List.mem_singleton.1 hx];exact hvv
   generalize (t.take i).filter (fun b=>!begB b l)=o at *
   have hlo:(o.map fEv).length=o.length:=List.length_map _
   have hl2:(o++[b]).length=o.length+1:=by simp
   repeat' (with_reducible first|refine Wx.h ?_|refine We.h fun K hK=>?_|(refine hK _ _ _ _ ?_;clear hK K;try clear hM M)|refine Wb.h fun K hK=>?_|(refine hK _ ?_;clear hK K)|(refine Wy.h ?_ ?_;kernel_rfl)|refine Wq.h ?_ ?_<;>intro h<;>try (exfalso;omega)|((fail_if_success refine Wz.h ?_);first|simp (disch:=omega) only [↓LD,LA,a0A,seval,LBr,LEv,bxB,hb,he,hvv,hlo,u0F]|(refine And.intro ?_ ?_;omega)|fail))
   all_goals exact Next.mk (i+1) (by rw [hf,hl2];kernel_rfl) ⟨by omega,hv2⟩ (by omega)
 rw [List.take_of_length_le (by omega)] at hv hol ⊢
 have hto:TrK (t.filter fun b=>!begB b l):=⟨by omega,fun b hb=>ht.ok b (List.mem_filter.1 hb).1⟩
 have hip:=y0h hne (o:=t.filter fun b=>!begB b l) (k:=0) fun b hb=>⟨(hto.ok b hb).2,hv b hb⟩
 have hidx:=t0H _ l hto hl
 rw [if_neg (by rw [Bool.not_eq_true,List.any_eq_false];intro b hb;simpa using hv b hb)] at hQ
 unfold insU at hQ
 clear hv
 generalize (t.filter fun b=>!begB b l)=o at *
 by_cases h8:8≤o.length
 ·have hq:=hQ [] 2 (if_pos h8)
  repeat' (with_reducible first|refine Wx.h ?_|refine Wb.h fun K hK=>?_|(refine hK _ ?_;clear hK K)|refine Wq.h ?_ ?_<;>intro h<;>try (exfalso;omega)|((fail_if_success refine Wz.h ?_);simp (disch:=omega) only [↓LD,LA,a0A,seval,LBr,bxB]))
  all_goals exact RetS.still (ds:=[.ag [jN],D.int 2]) (by kernel_rfl) (by kernel_rfl) (.tps (.cons (.ags (.cons .nil .nil)) (.cons .f .nil))) hq
 have hq:=hQ _ 0 (if_neg h8)
 have hkl:=y0u (l:=l) (t:=o)
 have hins:TrK (o.take (posK l o)++l :: o.drop (posK l o)):=⟨by rw [List.length_append,List.length_cons,List.length_take,List.length_drop];omega,fun b hb=>by
  rcases insU_mem.1 (show b∈insU l o from hb) with rfl|hb
  ·exact ⟨hl,hne⟩
  ·exact hto.ok b hb⟩
 have hnl:(o.take (posK l o)++l :: o.drop (posK l o)).length=o.length+1:=by rw [List.length_append,List.length_cons,List.length_take,List.length_drop];omega
 have hI:=s0r o (posK l o) l hkl (by omega)
 have hC:=i0F _ hins
 repeat' (with_reducible first|refine Wx.h ?_|refine Wb.h fun K hK=>?_|(refine hK _ ?_;clear hK K)|refine Wq.h ?_ ?_<;>intro h<;>try (exfalso;omega)|((fail_if_success refine Wz.h ?_);simp (disch:=omega) only [↓LD,LA,a0A,seval,LBr,bxB]))
 all_goals
  refine a0I hidx [3,0] (by kernel_rfl) rfl rfl ?_
  rintro _ _ ⟨rfl,rfl⟩
  generalize posK l o=k at *
  generalize o.take k++l :: o.drop k=z at *
  rcases hip with ⟨h1,rfl⟩|⟨h1,h2⟩
  all_goals
   rw [h1]
   simp (disch:=omega) only [↓LD,LA,a0A,seval,ren,List.getElem?_nil,bxB]
   repeat' (with_reducible first|refine Wx.h ?_|refine Wb.h fun K hK=>?_|(refine hK _ ?_;clear hK K)|refine Wq.h ?_ ?_<;>intro h<;>try (exfalso;omega)|((fail_if_success refine Wz.h ?_);simp (disch:=omega) only [↓LD,LA,a0A,seval,LBr]))
   refine a0I hI [3,4] (by kernel_rfl) rfl rfl ?_
   rintro _ _ ⟨rfl,rfl⟩
   simp (disch:=omega) only [↓LD,LA,a0A,seval,ren,List.getElem?_nil,bxB]
   repeat' (with_reducible first|refine Wx.h ?_|refine Wb.h fun K hK=>?_|(refine hK _ ?_;clear hK K)|((fail_if_success refine Wz.h ?_);simp (disch:=omega) only [↓LD,LA,a0A,seval,LBr]))
   refine d0O [5] (args0:=[.ag [.f (fBr z)]]) (.cons (.ags (.cons (c1T rfl rfl hnl.symm) .nil)) .nil) ?_
   refine a0C hC rfl rfl rfl ?_
   simp only [layV,List.foldr_cons,List.foldr_nil,List.set_cons_succ,List.set_cons_zero]
   repeat' (with_reducible first|refine Wx.h ?_|(refine hK _ ?_;clear hK K)|((fail_if_success refine Wz.h ?_);simp (disch:=omega) only [↓LD,LA,a0A,seval,LBr]))
   exact RetS.still (ds:=[.ag [.f (fBr z)],D.int 0]) (by kernel_rfl) (by kernel_rfl) (.tps (.cons (.ags (.cons .f .nil)) (.cons .f .nil))) hq
set_option maxRecDepth 100000 in
theorem p0P (l:List Ev)(hl:l.length≤1000000)(hf:∀ e∈l,FitV e):Con Tryz.prog 24 [.f (fEv l)] [] fun r H'=>r = .tp [stD (a0P s0 l).2,D.int (a0P s0 l).1]∧H'=[]:=by
 refine Con.walk good x0J (by simp) ?_
 unfold o0j
 simp only [a0J]
 repeat' (with_reducible first|refine Wx.h ?_|refine Wb.h fun K hK=>?_|(refine hK _ ?_;clear hK K)|((fail_if_success refine Wz.h ?_);simp (disch:=omega) only [↓LD,LA,a0A,seval,LEv]))
 refine HS.view (View.bcell 1 5 (.f (.s [] 0)) rfl rfl .ns) ?_
 refine HS.view (View.void 158) ?_
 refine HS.view (View.void 180) ?_
 refine HS.view (View.void 106) ?_
 refine HS.view (View.bcell 1 6 (.sl 2 0 0) rfl rfl (.no (by show 2<5;omega))) ?_
 refine HS.view (View.bcell 1 7 (.sl 3 0 0) rfl rfl (.no (by show 3<5;omega))) ?_
 refine HS.view (View.bcell 1 8 (.sl 4 0 0) rfl rfl (.no (by show 4<5;omega))) ?_
 refine HS.loopG [2,4,9,10,11] (fun x:Nat × S12=>⟨frm 23 [(2,.pt 0 0),(4,.pt 1 0),(9,.f (fEv l)),(10,D.int l.length),(11,D.int x.1)],[.box 65 [jI,jI,jI,jI,jF,jN,jN,jN,jN],.box 65 (stL 2 3 4 x.2),rN x.2.nodes,rT x.2.tms,rS x.2.sgs],[]⟩)
  (fun x=>x.1≤l.length∧Ok12 x.2∧a0P s0 l=a0P x.2 (l.drop x.1)) (fun x=>l.length-x.1) (0,s0) (by kernel_rfl) ⟨Nat.zero_le _,y0g,rfl⟩ ?_
 rintro ⟨i,s⟩ ⟨hi,ho,hF⟩
 dsimp only at hi ho hF
 by_cases hil:i<l.length
 ·rw [a0H hil,a0P] at hF
  have hv:=hf _ (a0K hil)
  have he:=a1l (e:=gt l i) ho
  unfold a1z at he
  obtain ⟨hA,_,_⟩:=ho.fitA
  have hid:=ho.id
  have ho2:=d0I (e:=gt l i) ho hv.2.2.2
  repeat' (with_reducible first|refine Wx.h ?_|refine Wb.h fun K hK=>?_|(refine hK _ ?_;clear hK K)|refine Wq.h ?_ ?_<;>intro h<;>try (exfalso;omega)|((fail_if_success refine Wz.h ?_);first|simp (disch:=omega) only [↓LD,LA,a0A,seval,LEv,b0W,a0L,Ev.cs,stL,rN,rT,rS,-a0A,List.map_cons,List.map_nil]|(refine And.intro ?_ ?_;omega)|fail))
  refine a0I (y0D s (gt l i) hA hv.1 hv.2.2 ⟨hid.1,by omega⟩) [1,2,3,4] (by kernel_rfl) rfl rfl ?_
  rintro _ _ ⟨rfl,m,rfl⟩
  generalize c0K s (gt l i)=p at he ⊢
  obtain ⟨v,s'⟩:=p
  dsimp only at he ⊢
  rcases m with _|_|_|m
  ·simp (disch:=omega) only [↓LD,LA,a0A,seval,ren,List.getElem?_nil,stM,stH,stL,rN,rT,rS]
   repeat' (with_reducible first|refine Wx.h ?_|refine Wb.h fun K hK=>?_|(refine hK _ ?_;clear hK K)|refine Wq.h ?_ ?_<;>intro h|((fail_if_success refine Wz.h ?_);simp (disch:=omega) only [↓LD,LA,a0A,seval]))
   ·have hv0:v=0:=by assumption
    rw [if_pos hv0] at he
    rw [←he] at hF ho2
    rw [if_pos rfl] at hF
    exact Next.mk (i+1,s') (by kernel_rfl) ⟨by dsimp only;omega,ho2 rfl,hF⟩ (by dsimp only;omega)
   ·have hv0:¬ v=0:=by assumption
    rw [if_neg hv0] at he
    rw [←he,if_neg hv0] at hF
    rw [hF]
    exact RetS.still (ds:=[.ag [jI,jI,jI,jI,jF,jN,jN,jN,jN],D.int v]) (by kernel_rfl) (by kernel_rfl) (.tps (.cons (.ags (.cons .f (.cons .f (.cons .f (.cons .f (.cons .f (.cons .nil (.cons .nil (.cons .nil (.cons .nil .nil)))))))))) (.cons .f .nil))) ⟨rfl,rfl⟩
  ·simp (disch:=omega) only [↓LD,LA,a0A,seval,ren,List.getElem?_nil,stM,stH,stL,rN,rT,rS]
   repeat' (with_reducible first|refine Wx.h ?_|refine Wb.h fun K hK=>?_|(refine hK _ ?_;clear hK K)|refine Wq.h ?_ ?_<;>intro h|((fail_if_success refine Wz.h ?_);simp (disch:=omega) only [↓LD,LA,a0A,seval]))
   ·have hv0:v=0:=by assumption
    rw [if_pos hv0] at he
    rw [←he] at hF ho2
    rw [if_pos rfl] at hF
    exact Next.mk (i+1,s') (by kernel_rfl) ⟨by dsimp only;omega,ho2 rfl,hF⟩ (by dsimp only;omega)
   ·have hv0:¬ v=0:=by assumption
    rw [if_neg hv0] at he
    rw [←he,if_neg hv0] at hF
    rw [hF]
    exact RetS.still (ds:=[.ag [jI,jI,jI,jI,jF,jN,jN,jN,jN],D.int v]) (by kernel_rfl) (by kernel_rfl) (.tps (.cons (.ags (.cons .f (.cons .f (.cons .f (.cons .f (.cons .f (.cons .nil (.cons .nil (.cons .nil (.cons .nil .nil)))))))))) (.cons .f .nil))) ⟨rfl,rfl⟩
  ·simp (disch:=omega) only [↓LD,LA,a0A,seval,ren,List.getElem?_nil,stM,stH,stL,rN,rT,rS]
   repeat' (with_reducible first|refine Wx.h ?_|refine Wb.h fun K hK=>?_|(refine hK _ ?_;clear hK K)|refine Wq.h ?_ ?_<;>intro h|((fail_if_success refine Wz.h ?_);simp (disch:=omega) only [↓LD,LA,a0A,seval]))
   ·have hv0:v=0:=by assumption
    rw [if_pos hv0] at he
    rw [←he] at hF ho2
    rw [if_pos rfl] at hF
    exact Next.mk (i+1,s') (by kernel_rfl) ⟨by dsimp only;omega,ho2 rfl,hF⟩ (by dsimp only;omega)
   ·have hv0:¬ v=0:=by assumption
    rw [if_neg hv0] at he
    rw [←he,if_neg hv0] at hF
    rw [hF]
    exact RetS.still (ds:=[.ag [jI,jI,jI,jI,jF,jN,jN,jN,jN],D.int v]) (by kernel_rfl) (by kernel_rfl) (.tps (.cons (.ags (.cons .f (.cons .f (.cons .f (.cons .f (.cons .f (.cons .nil (.cons .nil (.cons .nil (.cons .nil .nil)))))))))) (.cons .f .nil))) ⟨rfl,rfl⟩
  ·simp (disch:=omega) only [↓LD,LA,a0A,seval,ren,List.getElem?_nil,stM,stH,stL,rN,rT,rS]
   repeat' (with_reducible first|refine Wx.h ?_|refine Wb.h fun K hK=>?_|(refine hK _ ?_;clear hK K)|refine Wq.h ?_ ?_<;>intro h|((fail_if_success refine Wz.h ?_);simp (disch:=omega) only [↓LD,LA,a0A,seval]))
   ·have hv0:v=0:=by assumption
    rw [if_pos hv0] at he
    rw [←he] at hF ho2
    rw [if_pos rfl] at hF
    exact Next.mk (i+1,s') (by kernel_rfl) ⟨by dsimp only;omega,ho2 rfl,hF⟩ (by dsimp only;omega)
   ·have hv0:¬ v=0:=by assumption
    rw [if_neg hv0] at he
    rw [←he,if_neg hv0] at hF
    rw [hF]
    exact RetS.still (ds:=[.ag [jI,jI,jI,jI,jF,jN,jN,jN,jN],D.int v]) (by kernel_rfl) (by kernel_rfl) (.tps (.cons (.ags (.cons .f (.cons .f (.cons .f (.cons .f (.cons .f (.cons .nil (.cons .nil (.cons .nil (.cons .nil .nil)))))))))) (.cons .f .nil))) ⟨rfl,rfl⟩
 ·repeat' (with_reducible first|refine Wx.h ?_|refine Wb.h fun K hK=>?_|(refine hK _ ?_;clear hK K)|refine Wq.h ?_ ?_<;>intro h<;>try (exfalso;omega)|((fail_if_success refine Wz.h ?_);simp (disch:=omega) only [↓LD,LA,a0A,seval,LEv,stL,rN,rT,rS]))
  rw [List.drop_of_length_le (by omega),a0P] at hF
  rw [hF]
  exact RetS.still (ds:=[.ag (stL 2 3 4 s),D.int 0]) (by kernel_rfl) (by kernel_rfl) (.tps (.cons (f1b rfl rfl rfl) (.cons .f .nil))) ⟨rfl,rfl⟩
noncomputable def addQ (t:Br)(k:Int)(l:List Ev):Br × Bool × Int :=
 if (a0P s0 l).1≠0 then ([],false,1) else if (t.any fun x=>h0T l x k)=true then ([],false,1)
 else if (t.any fun x=>decide ((a0O l x:Int)=l.length))=true then (t,false,0) else ((i0P t l).1,decide ((i0P t l).2=0),(i0P t l).2)
noncomputable def addP (t:Br)(pre:List Im)(evs:List Ev):Br × Bool × Int :=
 if evs.length=0∨c0x pre=false then ([],false,1) else match d0p t pre with
 | none=>([],false,4)
 | some hd=>addQ t hd.length (hd++evs)
set_option maxRecDepth 100000 in
theorem y0T (t:Br)(ht:TrK t):Con Tryz.prog 21 [.ag [.f (fBr t)],.f (fIm [])] [] fun r H'=>r = .tp [.sl 0 0 0,D.bool true]∧H'=[rEv []]:=by
 refine Con.walk good g0D (by simp) ?_
 unfold f0i
 simp only [a0J]
 haveI:Kn (([]:List Im).length≤1000000):=⟨by simp⟩
 refine HS.seq ?_
 repeat' (with_reducible first|refine Wa.h ?_|refine Wb.h fun K hK=>?_|(refine hK _ ?_;clear hK K)|((fail_if_success refine Wz.h ?_);simp (disch:=omega) only [↓LD,LA,a0A,seval,LIm,LBr]))
 refine HS.seq ?_
 repeat' (with_reducible first|refine Wa.h ?_|refine Wb.h fun K hK=>?_|(refine hK _ ?_;clear hK K)|((fail_if_success refine Wz.h ?_);simp (disch:=omega) only [↓LD,LA,a0A,seval,LIm,LBr]))
 refine HS.seq ?_
 refine HS.seq ?_
 repeat' (with_reducible first|refine Wa.h ?_|refine Wb.h fun K hK=>?_|(refine hK _ ?_;clear hK K)|((fail_if_success refine Wz.h ?_);simp (disch:=omega) only [↓LD,LA,a0A,seval,LIm,LBr]))
 repeat' (with_reducible first|refine Wa.h ?_|refine Ws.h ?_|refine Wb.h fun K hK=>?_|(refine hK _ ?_;clear hK K)|((fail_if_success refine Wz.h ?_);simp (disch:=omega) only [↓LD,LA,a0A,seval,LIm,LBr]))
 refine HS.view (View.void 73) ?_
 refine HS.view (View.slot 4 (.sl 1 0 0) (.no (by show 1<2;omega))) ?_
 repeat' (with_reducible first|refine Wx.h ?_|fail)
 exact h1O rfl rfl rfl rfl (ef:=⟨.tp [.sl 0 0 0,D.bool true],[],[rEv []]⟩) (by kernel_rfl) ⟨rfl,rfl⟩
theorem x0v (t:Br)(pre:List Im)(ht:TrK t)(hp:pre.length≤1000000):Con Tryz.prog 21 [.ag [.f (fBr t)],.f (fIm pre)] [] fun r H'=>match d0p t pre with
  | none=>r = .tp [jN,D.bool false]∧H'=[]
  | some hd=>r = .tp [.sl 0 0 hd.length,D.bool true]∧H'=[rEv hd]:=by
 by_cases h0:pre.length=0
 ·have hfn:d0p t pre=some []:=by unfold d0p;rw [if_pos h0]
  rw [hfn]
  obtain rfl:=List.eq_nil_of_length_eq_zero h0
  exact y0T t ht
 ·exact z0D t pre ht hp h0
set_option maxRecDepth 100000 in
theorem c1W (t:Br)(d0 d1:F)(pre:List Im)(evs:List Ev)(ht:TrK t)(hp:pre.length≤1000000)(hf:FitL evs)(hb:∀ hd,d0p t pre=some hd→FitL (hd++evs)∧((a0P s0 (hd++evs)).1=0→BrOk (hd++evs))):Con Tryz.prog 12 [.ag [.f (fBr t)],.ag [.f d0,.f d1,.f (fIm pre),.f (fEv evs)]] [] fun r H'=>r = .tp [.ag [.f (fBr (addP t pre evs).1)],D.bool (addP t pre evs).2.1,D.int (addP t pre evs).2.2]∧H'=[]:=by
 suffices hh:∀ Q:D→List Row→Prop,(∀ o b e,addP t pre evs=(o,b,e)→Q (.tp [.ag [.f (fBr o)],D.bool b,D.int e]) [])→Con Tryz.prog 12 [.ag [.f (fBr t)],.ag [.f d0,.f d1,.f (fIm pre),.f (fEv evs)]] [] Q from hh _ fun o b e h=>⟨by rw [h],rfl⟩
 intro Q hQ
 unfold addP at hQ
 have htl:=ht.len
 have hfl:=hf.1
 refine Con.walk good y0c (by simp) ?_
 unfold w0m
 simp only [a0J]
 have hR:=x0H pre hp
 by_cases hz:(evs.length:Int)=0
 ·have h1:=hQ [] false 1 (if_pos (.inl (by omega)))
  repeat' (with_reducible first|refine Wx.h ?_|refine Wb.h fun K hK=>?_|(refine hK _ ?_;clear hK K)|(refine wT ?_ ?_;assumption)|((fail_if_success refine Wz.h ?_);simp (disch:=omega) only [↓LD,LA,a0A,seval,LEv,LBr,a0L]))
  exact RetS.still (ds:=[.ag [jN],D.bool false,D.int 1]) (by kernel_rfl) (by kernel_rfl) (r0N .f .f) h1
 cases hr:c0x pre with
 | false =>
  rw [hr] at hR
  have h1:=hQ [] false 1 (if_pos (.inr hr))
  repeat' (with_reducible first|refine Wx.h ?_|refine Wb.h fun K hK=>?_|(refine hK _ ?_;clear hK K)|(refine wF ?_ ?_;assumption)|((fail_if_success refine Wz.h ?_);simp (disch:=omega) only [↓LD,LA,a0A,seval,LEv,LBr,a0L]))
  refine a0C hR rfl rfl rfl ?_
  repeat' (with_reducible first|refine Wx.h ?_|refine Wb.h fun K hK=>?_|(refine hK _ ?_;clear hK K)|((fail_if_success refine Wz.h ?_);simp (disch:=omega) only [↓LD,LA,a0A,seval,LEv,LBr,a0L]))
  exact RetS.still (ds:=[.ag [jN],D.bool false,D.int 1]) (by kernel_rfl) (by kernel_rfl) (r0N .f .f) h1
 | true =>
  rw [hr] at hR
  rw [if_neg (fun h=>h.elim (fun h=>hz (by omega)) (fun h=>by rw [hr] at h;cases h))] at hQ
  repeat' (with_reducible first|refine Wx.h ?_|refine Wb.h fun K hK=>?_|(refine hK _ ?_;clear hK K)|(refine wF ?_ ?_;assumption)|((fail_if_success refine Wz.h ?_);simp (disch:=omega) only [↓LD,LA,a0A,seval,LEv,LBr,a0L]))
  refine a0C hR rfl rfl rfl ?_
  repeat' (with_reducible first|refine Wx.h ?_|refine Wb.h fun K hK=>?_|(refine hK _ ?_;clear hK K)|((fail_if_success refine Wz.h ?_);simp (disch:=omega) only [↓LD,LA,a0A,seval,LEv,LBr,a0L]))
  have hF:=x0v t pre ht hp
  cases hfp:d0p t pre with
  | none =>
   rw [hfp] at hQ hF
   have h1:=hQ [] false 4 rfl
   refine a0C hF rfl rfl rfl ?_
   repeat' (with_reducible first|refine Wx.h ?_|refine Wb.h fun K hK=>?_|(refine hK _ ?_;clear hK K)|((fail_if_success refine Wz.h ?_);simp (disch:=omega) only [↓LD,LA,a0A,seval,LEv,LBr,a0L,c0e]))
   exact RetS.still (ds:=[.ag [jN],D.bool false,D.int 4]) (by kernel_rfl) (by kernel_rfl) (r0N .f .f) h1
  | some hd =>
   rw [hfp] at hQ hF
   obtain ⟨hfl2,hbr⟩:=hb hd hfp
   have hl2:=hfl2.1
   rw [List.length_append] at hl2
   refine a0I hF [] (by kernel_rfl) rfl rfl ?_
   rintro _ _ ⟨rfl,rfl⟩
   simp (disch:=omega) only [↓LD,LA,a0A,seval,ren,List.getElem?_nil,rEv]
   repeat' (with_reducible first|refine Wa.h ?_|(refine hK _ ?_;clear hK K)|((fail_if_success refine Wz.h ?_);simp (disch:=omega) only [↓LD,LA,a0A,seval,LEv,LBr,a0L,c0e]))
   refine HS.seq ?_
   refine HS.seq ?_
   repeat' (with_reducible first|refine Wa.h ?_|refine Wb.h fun K hK=>?_|(refine hK _ ?_;clear hK K)|((fail_if_success refine Wz.h ?_);simp (disch:=omega) only [↓LD,LA,a0A,seval,LEv,LBr,a0L,c0e]))
   refine HS.seq ?_
   repeat' (with_reducible first|refine Wa.h ?_|refine Wb.h fun K hK=>?_|(refine hK _ ?_;clear hK K)|refine Wq.h ?_ ?_<;>intro h<;>try (exfalso;omega)|((fail_if_success refine Wz.h ?_);first|simp (disch:=omega) only [↓LD,LA,a0A,seval,LEv,LBr,a0L,c0e]|(refine And.intro ?_ ?_;omega)|fail))
   refine HS.view (View.fzb 5 0 4 rfl rfl rfl s0N (by rw [List.length_append,a0L,a0L,Nat.add_mul]) (by decide)) ?_
   have hfe:F.s (hd.flatMap Ev.cs++evs.flatMap Ev.cs) (hd.length+evs.length)=fEv (hd++evs):=by unfold fEv;rw [List.flatMap_append,List.length_append]
   rw [hfe]
   dsimp only at hQ
   unfold addQ at hQ
   have hFo:=p0P (hd++evs) hfl2.1 hfl2.2
   clear hfe hfp hF hR
   have hll:0<(hd++evs).length:=by rw [List.length_append];omega
   generalize hd++evs=l at *
   generalize hd.length=k at *
   repeat' (with_reducible first|refine Wx.h ?_|refine Wb.h fun K hK=>?_|((fail_if_success refine Wz.h ?_);simp (disch:=omega) only [↓LD,LA,a0A,seval,LEv,LBr]))
   refine a0C hFo rfl rfl rfl ?_
   clear hFo
   generalize hs:(a0P s0 l).2=s
   obtain ⟨b1,b2,b3,b4,b5,b6,b7,b8,b9⟩:=s
   by_cases hfo:(a0P s0 l).1=0
   rotate_left
   ·have h1:=hQ [] false 1 (if_pos hfo)
    repeat' (with_reducible first|refine Wx.h ?_|refine Wb.h fun K hK=>?_|(refine hK _ ?_;clear hK K)|(refine wF ?_ ?_;assumption)|((fail_if_success refine Wz.h ?_);simp (disch:=omega) only [↓LD,LA,a0A,seval,LEv,LBr,stD]))
    exact RetS.still (ds:=[.ag [jN],D.bool false,D.int 1]) (by kernel_rfl) (by kernel_rfl) (r0N .f .f) h1
   rw [if_neg (fun h=>h hfo)] at hQ
   have hlk:=hbr hfo
   clear hbr
   rw [hfo]
   clear hfo
   have hC1:=i0U t 42 [.pt 0 0,.pt 1 0] [bxB l,bxI k] (fun x=>h0T l x k) (by omega) fun x hx=>z0B x l k (ht.ok x hx).1.fitL hlk.fitL
   have hC2:=i0U t 44 [.pt 0 0] [bxB l] (fun x=>decide ((a0O l x:Int)=l.length)) (by omega) fun x hx=>z0d x l (ht.ok x hx).1.fitL hlk.fitL
   have hne:l≠[]:=fun e=>by
    rw [e] at hll
    exact absurd hll (by simp)
   have hW:=b1P t l ht hlk hne
   have hcp:=i0F t ht
   repeat' (with_reducible first|refine Wx.h ?_|refine Wb.h fun K hK=>?_|(refine hK _ ?_;clear hK K)|((fail_if_success refine Wz.h ?_);simp (disch:=omega) only [↓LD,LA,a0A,seval,LEv,LBr,stD]))
   refine a0I hC1 [5,7] (by kernel_rfl) rfl rfl ?_
   rintro _ _ ⟨rfl,rfl⟩
   simp (disch:=omega) only [↓LD,LA,a0A,seval,ren,List.getElem?_nil,bxB,bxI]
   clear hC1
   cases h1:t.any fun x=>h0T l x k with
   | true =>
    have hq:=hQ [] false 1 (if_pos h1)
    repeat' (with_reducible first|refine Wx.h ?_|refine Wb.h fun K hK=>?_|(refine hK _ ?_;clear hK K)|((fail_if_success refine Wz.h ?_);simp (disch:=omega) only [↓LD,LA,a0A,seval,LEv,LBr]))
    exact RetS.still (ds:=[.ag [jN],D.bool false,D.int 1]) (by kernel_rfl) (by kernel_rfl) (r0N .f .f) hq
   | false =>
    rw [if_neg (by rw [h1];simp)] at hQ
    clear h1
    repeat' (with_reducible first|refine Wx.h ?_|refine Wb.h fun K hK=>?_|(refine hK _ ?_;clear hK K)|((fail_if_success refine Wz.h ?_);simp (disch:=omega) only [↓LD,LA,a0A,seval,LEv,LBr]))
    refine a0I hC2 [5] (by kernel_rfl) rfl rfl ?_
    rintro _ _ ⟨rfl,rfl⟩
    simp (disch:=omega) only [↓LD,LA,a0A,seval,ren,List.getElem?_nil,bxB,bxI]
    clear hC2
    cases h1:t.any fun x=>decide ((a0O l x:Int)=l.length) with
    | true =>
     have hq:=hQ t false 0 (if_pos h1)
     repeat' (with_reducible first|refine Wx.h ?_|refine Wb.h fun K hK=>?_|(refine hK _ ?_;clear hK K)|((fail_if_success refine Wz.h ?_);simp (disch:=omega) only [↓LD,LA,a0A,seval,LEv,LBr]))
     refine a0C hcp rfl rfl rfl ?_
     repeat' (with_reducible first|refine Wx.h ?_|(refine hK _ ?_;clear hK K)|((fail_if_success refine Wz.h ?_);simp (disch:=omega) only [↓LD,LA,a0A,seval,LEv,LBr]))
     exact RetS.still (ds:=[.ag [.f (fBr t)],D.bool false,D.int 0]) (by kernel_rfl) (by kernel_rfl) (.tps (.cons (.ags (.cons .f .nil)) (.cons .f (.cons .f .nil)))) hq
    | false =>
     rw [if_neg (by rw [h1];simp)] at hQ
     clear h1
     have hq:=hQ _ _ _ rfl
     clear hQ
     generalize (i0P t l).1=o at *
     generalize (i0P t l).2=e at *
     repeat' (with_reducible first|refine Wx.h ?_|refine Wb.h fun K hK=>?_|(refine hK _ ?_;clear hK K)|((fail_if_success refine Wz.h ?_);simp (disch:=omega) only [↓LD,LA,a0A,seval,LEv,LBr]))
     refine a0C hW rfl rfl rfl ?_
     by_cases he:e=0
     ·rw [decide_eq_true he] at hq
      repeat' (with_reducible first|refine Wx.h ?_|refine Wb.h fun K hK=>?_|(refine hK _ ?_;clear hK K)|(refine wT ?_ ?_;assumption)|((fail_if_success refine Wz.h ?_);simp (disch:=omega) only [↓LD,LA,a0A,seval,LEv,LBr]))
      exact RetS.still (ds:=[.ag [.f (fBr o)],D.bool true,D.int e]) (by kernel_rfl) (by kernel_rfl) (.tps (.cons (.ags (.cons .f .nil)) (.cons .f (.cons .f .nil)))) hq
     ·rw [decide_eq_false he] at hq
      repeat' (with_reducible first|refine Wx.h ?_|refine Wb.h fun K hK=>?_|(refine hK _ ?_;clear hK K)|(refine wF ?_ ?_;assumption)|((fail_if_success refine Wz.h ?_);simp (disch:=omega) only [↓LD,LA,a0A,seval,LEv,LBr]))
      exact RetS.still (ds:=[.ag [.f (fBr o)],D.bool false,D.int e]) (by kernel_rfl) (by kernel_rfl) (.tps (.cons (.ags (.cons .f .nil)) (.cons .f (.cons .f .nil)))) hq
theorem g0p:∀ {l b:List Ev},a0O l b=l.length↔l <+: b
 | [],b=>by cases b<;>simp [a0O]
 | x :: l,[]=>by simp [a0O]
 | x :: l,y :: b=>by
  rw [a0O,List.length_cons,List.cons_prefix_cons]
  by_cases e:x=y
  ·rw [if_pos (d0q e)]
   have:=g0p (l:=l) (b:=b)
   constructor
   ·intro h;exact ⟨e,this.1 (by omega)⟩
   ·rintro ⟨_,h⟩;rw [this.2 h]
  ·rw [if_neg (by rw [e0H e];simp)]
   constructor
   ·intro h;omega
   ·rintro ⟨h,_⟩;exact absurd h e
theorem m0D:∀ {l b:List Ev},a0O l b<l.length→a0O l b<b.length→gt l (a0O l b)≠gt b (a0O l b)
 | [],b,h,_=>by simp at h
 | x :: l,[],_,h=>by simp at h
 | x :: l,y :: b,h1,h2=>by
  rw [a0O] at h1 h2 ⊢
  by_cases e:x=y
  ·rw [if_pos (d0q e)] at h1 h2 ⊢
   rw [List.length_cons] at h1 h2
   have:=m0D (l:=l) (b:=b) (by omega) (by omega)
   simpa [gt] using this
  ·rw [if_neg (by rw [e0H e];simp)]
   simpa [gt] using e
theorem Uni.partsF {U:List Ev→Prop}(hu:Uni U){x b:List Ev}(hx:U x)(hb:U b){k:Int}:h0T x b k=false:=by
 refine Bool.eq_false_iff.2 fun h=>?_
 unfold h0T at h
 rw [Bool.and_eq_true,Bool.and_eq_true,decide_eq_true_eq,decide_eq_true_eq,decide_eq_true_eq] at h
 obtain ⟨⟨_,h1⟩,h2⟩:=h
 have hne:=m0D (l:=x) (b:=b)
 generalize a0O x b=n at *
 have hp:U (x.take (n+1)):=hu.down hx (List.take_prefix _ x) (g0b (by omega) (by omega))
 have hq:U (b.take (n+1)):=hu.down hb (List.take_prefix _ b) (g0b (by omega) (by omega))
 have hv:a0U (x.take (n+1))=a0U (b.take (n+1)):=by rw [d0T (by omega) (by omega),d0T (by omega) (by omega)];exact h2
 have hl:(x.take (n+1)).length=(b.take (n+1)).length:=by rw [List.length_take,List.length_take];omega
 have he:x.take (n+1)=b.take (n+1):=by
  rcases hu.comp hp hq hv with h|h
  ·exact h.eq_of_length hl
  ·exact (h.eq_of_length hl.symm).symm
 refine hne (by omega) (by omega) ?_
 have:=congrArg (gt · n) he
 rw [a0q (by rw [List.length_take];omega),a0q (by rw [List.length_take];omega),List.getElem_take,List.getElem_take] at this
 rw [a0q (by omega),a0q (by omega)]
 exact this
theorem g1g {α:Type}{p q:α→Bool}{l:List α}(h:∀ x∈l,p x=q x):l.any p=l.any q:=by
 induction l with
 | nil=>rfl
 | cons x l ih=>rw [List.any_cons,List.any_cons,h x (by simp),ih fun y hy=>h y (by simp [hy])]
theorem w0J {U:List Ev→Prop}(hu:Uni U){t:Br}(ht:TrU U t){x:List Ev}(hx:U x)(h8:t.length<8){k:Int}:addQ t k x=(addU t x,!t.any (begB x),0):=by
 have hfo:=(hu.ok hx).1.fold
 unfold addQ
 rw [if_neg (fun h=>h hfo),if_neg (by
  rw [Bool.not_eq_true,List.any_eq_false]
  intro b hb
  rw [hu.partsF hx (ht.mem b hb)];simp)]
 have he:(t.any fun b=>decide ((a0O x b:Int)=x.length))=t.any (begB x):=g1g fun b _=>by
  rw [Bool.eq_iff_iff,decide_eq_true_eq,begB_iff,←g0p];omega
 rw [he]
 by_cases hk:t.any (begB x)=true
 ·rw [if_pos hk,addU,if_pos hk,hk];rfl
 ·rw [if_neg hk,addU,if_neg hk]
  have hw:i0P t x=(insU x (t.filter fun b=>!begB b x),0):=by
   unfold i0P
   rw [if_neg (by
    rw [Bool.not_eq_true,List.any_eq_false]
    intro b hb
    simpa using (hu.tip ht hx hk b hb).2),if_neg (by have:=List.length_filter_le (fun b=>!begB b x) t;omega)]
  rw [hw,Bool.not_eq_true _ |>.mp hk]
  rfl
theorem w0n {U:List Ev→Prop}(hu:Uni U){t:Br}(ht:TrU U t){hd evs:List Ev}(he:evs≠[])(hx:U (hd++evs))(h8:t.length<8) :
  (hd=[]∨Dn t hd)∧addP t (ofL hd) evs=(addU t (hd++evs),!t.any (begB (hd++evs)),0)∨(¬ (hd=[]∨Dn t hd))∧addP t (ofL hd) evs=([],false,4):=by
 have hz:¬ (evs.length=0∨c0x (ofL hd)=false):=by
  rintro (h|h)
  ·exact he (List.eq_nil_of_length_eq_zero h)
  ·rw [a1B ((hu.ok hx).1.pfx (List.prefix_append hd evs))] at h;cases h
 unfold addP
 rw [if_neg hz]
 by_cases hn:hd=[]
 ·subst hn
  refine .inl ⟨.inl rfl,?_⟩
  have:d0p t (ofL [])=some []:=by unfold d0p ofL;rw [if_pos rfl];rfl
  rw [this]
  exact w0J hu ht hx h8
 ·have hh:U hd:=hu.down hx (List.prefix_append hd evs) hn
  rcases q0Q hu ht.mem hh with ⟨h1,h2⟩|⟨h1,h2⟩
  ·refine .inl ⟨.inr h2,?_⟩
   rw [h1]
   exact w0J hu ht hx h8
  ·refine .inr ⟨fun h=>h.elim hn h2,?_⟩
   rw [h1]
theorem f1l {U:List Ev→Prop}(hu:Uni U){t:Br}(ht:TrU U t){hd evs:List Ev}(he:evs≠[])(hx:U (hd++evs)):∀ h,d0p t (ofL hd)=some h→FitL (h++evs)∧((a0P s0 (h++evs)).1=0→BrOk (h++evs)):=by
 intro h hf
 have e:h=hd:=by
  by_cases hn:hd=[]
  ·subst hn
   have:d0p t (ofL [])=some []:=by unfold d0p ofL;rw [if_pos rfl];rfl
   rw [this] at hf
   exact (Option.some.inj hf).symm
  ·have hh:U hd:=hu.down hx (List.prefix_append hd evs) hn
   rcases q0Q hu ht.mem hh with ⟨h1,_⟩|⟨h1,_⟩
   ·rw [h1] at hf;exact (Option.some.inj hf).symm
   ·rw [h1] at hf;cases hf
 subst e
 exact ⟨(hu.ok hx).1.fitL,fun _=>(hu.ok hx).1⟩
set_option maxRecDepth 100000 in
theorem y0s (t u:Br)(ht:TrK t)(hu:TrK u):Con Tryz.prog 48 [.f (fBr t),.f (fBr u),.fn 49 []] [] fun r H'=>r=D.bool (eqB t u)∧H'=[]:=by
 have htl:=ht.len
 have hul:=hu.len
 refine Con.walk good x0k (by simp) ?_
 unfold r0I
 simp only [a0J]
 by_cases hlm:(t.length:Int)=u.length
 rotate_left
 ·repeat' (with_reducible first|refine Wx.h ?_|refine Wb.h fun K hK=>?_|(refine hK _ ?_;clear hK K)|(refine wF ?_ ?_;assumption)|((fail_if_success refine Wz.h ?_);simp (disch:=omega) only [↓LD,LA,a0A,seval,LBr]))
  rw [g0E hlm]
  exact end1 rfl rfl (by kernel_rfl) .f ⟨rfl,rfl⟩
 repeat' (with_reducible first|refine Wx.h ?_|refine Wb.h fun K hK=>?_|(refine hK _ ?_;clear hK K)|(refine wT ?_ ?_;assumption)|((fail_if_success refine Wz.h ?_);simp (disch:=omega) only [↓LD,LA,a0A,seval,LBr]))
 refine HS.loopG [1,2,15,16,17] (fun i:Nat=>⟨frm 32 [(1,.f (fBr u)),(2,.fn 49 []),(15,.f (fBr t)),(16,D.int t.length),(17,D.int i)],[],[]⟩) (fun i=>i≤t.length∧t.take i=u.take i) (fun i=>t.length-i) 0 (by kernel_rfl) ⟨Nat.zero_le _,rfl⟩ ?_
 rintro i ⟨hi,he⟩
 by_cases hil:i<t.length
 ·obtain ⟨ok1,_⟩:=ht.gt hil
  obtain ⟨ok2,_⟩:=hu.gt (i:=i) (by omega)
  haveI:Kn (FitL (gt t i)):=⟨ok1.fitL⟩
  haveI:Kn (FitL (gt u i)):=⟨ok2.fitL⟩
  by_cases e:gt t i=gt u i
  ·have hb:=d0q e
   repeat' (with_reducible first|refine Wx.h ?_|refine Wb.h fun K hK=>?_|(refine hK _ ?_;clear hK K)|refine Wq.h ?_ ?_<;>intro h<;>try (exfalso;omega)|((fail_if_success refine Wz.h ?_);first|simp (disch:=omega) only [↓LD,LA,a0A,seval,LBr,hb]|(refine And.intro ?_ ?_;omega)|fail))
   exact Next.mk (i+1) (by kernel_rfl) ⟨by omega,d0E hlm hil he e⟩ (by omega)
  ·have hb:=e0H e
   repeat' (with_reducible first|refine Wx.h ?_|refine Wb.h fun K hK=>?_|(refine hK _ ?_;clear hK K)|refine Wq.h ?_ ?_<;>intro h<;>try (exfalso;omega)|((fail_if_success refine Wz.h ?_);first|simp (disch:=omega) only [↓LD,LA,a0A,seval,LBr,hb]|(refine And.intro ?_ ?_;omega)|fail))
   rw [l0C e]
   exact end1 rfl rfl (by kernel_rfl) .f ⟨rfl,rfl⟩
 ·repeat' (with_reducible first|refine Wx.h ?_|refine Wb.h fun K hK=>?_|(refine hK _ ?_;clear hK K)|refine Wq.h ?_ ?_<;>intro h<;>try (exfalso;omega)|((fail_if_success refine Wz.h ?_);simp (disch:=omega) only [↓LD,LA,a0A,seval,LBr]))
  rw [g0U hlm he (by omega)]
  exact end1 rfl rfl (by kernel_rfl) .f ⟨rfl,rfl⟩
set_option maxRecDepth 100000 in
theorem a1m (t u:Br)(ht:TrK t)(hu:TrK u):Con Tryz.prog 14 [.ag [.f (fBr t)],.ag [.f (fBr u)]] [] fun r H'=>r=D.bool (eqB t u)∧H'=[]:=by
 refine Con.walk good x0E (by simp) ?_
 unfold q0V
 simp only [a0J]
 repeat' (with_reducible first|refine Wx.h ?_|refine Wb.h fun K hK=>?_|(refine hK _ ?_;clear hK K)|((fail_if_success refine Wz.h ?_);simp (disch:=omega) only [↓LD,LA,a0A,seval,LBr]))
 refine a0C (y0s t u ht hu) rfl rfl rfl ?_
 repeat' (with_reducible first|refine Wx.h ?_|(refine hK _ ?_;clear hK K)|((fail_if_success refine Wz.h ?_);simp (disch:=omega) only [↓LD,LA,a0A,seval,LBr]))
 exact end1 rfl rfl (by kernel_rfl) .f ⟨rfl,rfl⟩
abbrev Bp:=List Ev × List Ev
def cutN (cuts:List Int)(i n:Nat):Nat:=if i<cuts.length then (1+pick (gt cuts i) (min 6 n:Nat)).toNat else n
theorem b1a {cuts:List Int}{i n:Nat}(hn:0<n):1≤cutN cuts i n∧cutN cuts i n≤n:=by
 unfold cutN
 split
 ·have:=b0M (x:=gt cuts i) (n:=((min 6 n:Nat):Int)) (by omega)
  omega
 ·omega
def batA (l:List Ev)(cuts:List Int):Nat→Nat→Nat→List Bp
 | 0,_,_=>[]
 | f+1,i,at'=>if at'<l.length then (l.take at',(l.drop at').take (cutN cuts i (l.length-at'))) :: batA l cuts f (i+1) (at'+cutN cuts i (l.length-at')) else []
def batL (l:List Ev)(cuts:List Int):List Bp:=batA l cuts l.length 0 0
theorem f1K {l:List Ev}{cuts:List Int}{f i a:Nat}(h:a<l.length)(hf:l.length≤a+f):batA l cuts f i a=(l.take a,(l.drop a).take (cutN cuts i (l.length-a))) :: batA l cuts (f-1) (i+1) (a+cutN cuts i (l.length-a)):=by
 cases f with
 | zero=>omega
 | succ f=>rw [batA,if_pos h];rfl
theorem c1x {l:List Ev}{cuts:List Int}{f i a:Nat}(h:¬ a<l.length):batA l cuts f i a=[]:=by
 cases f with
 | zero=>rfl
 | succ f=>rw [batA,if_neg h]
inductive Chain (l:List Ev):Nat→List Bp→Prop
 | nil:Chain l l.length []
 | cons {a n:Nat} {bs:List Bp}:0<n→a+n≤l.length→Chain l (a+n) bs→Chain l a ((l.take a,(l.drop a).take n) :: bs)
theorem l0Y {l:List Ev}{cuts:List Int}:∀ {f i a:Nat},a≤l.length→l.length≤a+f→Chain l a (batA l cuts f i a)
 | 0,i,a,h1,h2=>by (obtain rfl:a=l.length:=by omega);exact .nil
 | f+1,i,a,h1,h2=>by
  rw [batA]
  split
  ·have:=b1a (cuts:=cuts) (i:=i) (n:=l.length-a) (by omega)
   exact .cons (by omega) (by omega) (l0Y (by omega) (by omega))
  ·obtain rfl:a=l.length:=by omega
   exact .nil
theorem x0Z (l:List Ev)(cuts:List Int):Chain l 0 (batL l cuts):=l0Y (Nat.zero_le _) (by omega)
theorem o0h {l:List Ev}{a n:Nat}:l.take a++(l.drop a).take n=l.take (a+n):=List.take_add.symm
theorem n0z {l:List Ev}{cuts:List Int}:∀ {f i a:Nat},(batA l cuts f i a).length≤f
 | 0,_,_=>by simp [batA]
 | f+1,i,a=>by
  rw [batA]
  split
  ·have:=n0z (l:=l) (cuts:=cuts) (f:=f) (i:=i+1) (a:=a+cutN cuts i (l.length-a))
   rw [List.length_cons];omega
  ·simp
structure Fed (U:List Ev→Prop)(bs:List Bp):Prop where
 ok:∀ p∈bs,p.2≠[]∧U (p.1++p.2)
 pre:∀ A p B,bs=A++p :: B→p.1=[]∨∃ q∈A,p.1=q.1++q.2
theorem Fed.nil {U:List Ev→Prop}:Fed U []:=⟨fun p h=>by simp at h,fun A p B h=>by simp at h⟩
theorem Fed.app {U:List Ev→Prop}{a b:List Bp}(ha:Fed U a)(hb:Fed U b):Fed U (a++b):=by
 refine ⟨fun p hp=>(List.mem_append.1 hp).elim (ha.ok p) (hb.ok p),fun A p B h=>?_⟩
 rcases List.append_eq_append_iff.1 h with ⟨C,h1,h2⟩|⟨C,h1,h2⟩
 ·rcases hb.pre C p B h2 with h3|⟨q,h3,h4⟩
  ·exact .inl h3
  ·exact .inr ⟨q,by rw [h1];simp [h3],h4⟩
 ·cases C with
  | nil =>
   rcases hb.pre [] p B (by simpa using h2.symm) with h3|⟨q,h3,h4⟩
   ·exact .inl h3
   ·simp at h3
  | cons c C =>
   rw [List.cons_append,List.cons.injEq] at h2
   obtain ⟨rfl,h2⟩:=h2
   exact ha.pre A p C h1
theorem Chain.mem {l:List Ev}{a:Nat}{bs:List Bp}(h:Chain l a bs):∀ p∈bs,p.2≠[]∧p.1++p.2 <+: l:=by
 induction h with
 | nil=>exact fun p h=>by simp at h
 | @cons a n bs h1 h2 h3 ih =>
  intro p hp
  rcases List.mem_cons.1 hp with rfl|hp
  ·refine ⟨?_,?_⟩
   ·exact g0b h1 (by rw [List.length_drop];omega)
   ·dsimp only;rw [o0h];exact List.take_prefix _ _
  ·exact ih p hp
theorem Chain.pre {l:List Ev}{a:Nat}{bs:List Bp}(h:Chain l a bs):∀ A p B,bs=A++p :: B→(A=[]∧p.1=l.take a)∨∃ q∈A,p.1=q.1++q.2:=by
 induction h with
 | nil=>exact fun A p B h=>by simp at h
 | @cons a n bs h1 h2 h3 ih =>
  intro A p B e
  cases A with
  | nil =>
   rw [List.nil_append,List.cons.injEq] at e
   exact .inl ⟨rfl,by rw [←e.1]⟩
  | cons c A =>
   rw [List.cons_append,List.cons.injEq] at e
   right
   rcases ih A p B e.2 with ⟨rfl,h5⟩|⟨q,h5,h6⟩
   ·exact ⟨c,by simp,by rw [h5,←e.1];dsimp only;rw [o0h]⟩
   ·exact ⟨q,by simp [h5],h6⟩
theorem Chain.fed {U:List Ev→Prop}{l:List Ev}{bs:List Bp}(h:Chain l 0 bs)(hu:∀ p,p≠[]→p <+: l→U p):Fed U bs:=by
 refine ⟨fun p hp=>?_,fun A p B e=>?_⟩
 ·obtain ⟨h1,h2⟩:=h.mem p hp
  exact ⟨h1,hu _ (by simp [h1]) h2⟩
 ·rcases h.pre A p B e with ⟨_,h1⟩|h1
  ·exact .inl (by rw [h1];rfl)
  ·exact .inr h1
theorem u0c {L:Br}{cuts:List Int}:∀ {M:Br},(∀ l∈M,l∈L)→Fed (Bg L) (M.flatMap fun l=>batL l cuts)
 | [],_=>Fed.nil
 | l :: M,h=>by
  rw [List.flatMap_cons]
  exact ((x0Z l cuts).fed fun p hp hl=>⟨hp,l,h l (by simp),hl⟩).app (u0c fun x hx=>h x (by simp [hx]))
theorem TrU.k {L:Br}(hu:Uni (Bg L)){t:Br}(ht:TrU (Bg L) t)(h8:L.length≤8):TrK t :=
 ⟨Nat.le_trans (b1K ht.nd ht.anti fun b hb=>(ht.mem b hb).2) h8,fun b hb=>hu.ok (ht.mem b hb)⟩
theorem TrU.few {L:Br}{t:Br}(ht:TrU (Bg L) t):t.length≤L.length:=b1K ht.nd ht.anti fun b hb=>(ht.mem b hb).2
end Go.Proofs.YthjgmldnegaaiaaGreatDoor.Mir
namespace Go.Proofs.YthjgmldnegaaiaaGreatDoor.Mir
open Go Go.RowKit Go.Shelf Go.Maps Go.Sort
section
variable {P:Program}{w w':World}{φ:Nat→Nat × Nat}{X:Nat→Prop}{H:List Row}
end
end Go.Proofs.YthjgmldnegaaiaaGreatDoor.Mir
namespace Go.Proofs
open Go.RowKit Go.Maps Go.Sort Go.Shelf
end Go.Proofs
namespace Go.Proofs.YthjgmldnegaaiaaGreatDoor.Mir
open Go Go.RowKit Go.Shelf Go.Maps Go.Sort
end Go.Proofs.YthjgmldnegaaiaaGreatDoor.Mir
namespace Go.Proofs.YthjgmldnegaaiaaGreatDoor.Mir
open Go Go.RowKit
set_option maxHeartbeats 4000000
instance {l:List Ev}{H:List Row}{K:D→List Row→Prop}[hl:Kn (FitL l)]:Wa (a0S Tryz.prog (.fn 24 []) [.f (fEv l)] H K)
  (K (.tp [sA (a0P s0 l).2,.f (.v (.int .i64 (a0P s0 l).1))]) H):=⟨fun h=>a0C (p0P l hl.h.1 hl.h.2) rfl rfl rfl h⟩
def h1e (P:Program)(n0:Nat){α:Type}(st:α→St)(p:α→Prop)(m:α→Nat)(x:α)(s:St):Prop:=∃ y,View P n0 s (st y)∧p y∧m y<m x
instance {P:Program}{n0:Nat}{α:Type}{st:α→St}{p:α→Prop}{m:α→Nat}{x:α}{s:St}:Wz (h1e P n0 st p m x s):=⟨id⟩
def g0v:SCode :=
  (jq ([.a 4 (.mv kN)]) (jq ([.a 5 (.mv kN)]) (jq ([jk 6 0]) (.seq (jq ([jk 7 0]) (.block 0 (.loop (.seq (jq ([jm 9 6,jm 10 0,je 11 10,jB 12 .lss 9
 11]) (jc 12 .skip (.exit 0))) (.seq (.block 1 (jq ([jm 15 0,je 16 15,jm 17 6,jB 18 .sub 16 17,jm 8 18]) (.seq (jq ([jm 19 7,jm 20 1,je 21 20,jB
 22 .lss 19 21]) (jc 22 (.ops (ap [jm 23 1,jm 24 7,jx 25 1 23 24,jl 26 25,jm 27 8,.a 28 (.mm false (kI 6) (.t 27)),.a 29 (.call (kC 13) [(.t 26),
 (.t 28)])] [.a 30 (.bin .add (kI 1) (.t 29)),jm 8 30])) .skip)) (.seq (.drw [jm 31 5,jm 32 0,jm 33 6,.a 34 (.sub 9 73 (.t 32) none (some (.t 33))
 none),.a 35 (.call (kC 39) [(.t 34)]),jm 36 0,jm 37 6,jm 38 6,jm 39 8,jB 40 .add 38 39,.a 41 (.sub 9 73 (.t 36) (some (.t 37)) (some (.t 40))
 none),.a 42 (.bld [(.f (.v (.string ⟨#[]⟩))),(.f (.v (.string ⟨#[]⟩))),jN,jN] [(0,1,(.c (.f (.v (.string ⟨#[97]⟩))))),(1,1,(.c (.f (.v
 (.string ⟨#[106,111,98,45,49]⟩))))),(2,1,(.t 35)),(3,1,(.t 41))]),.a 43 (.bsl 38 4 1 [(.f (.v (.string ⟨#[]⟩))),(.f (.v (.string ⟨#[]⟩))),
 jN,jN] [(0,(.t 42))]),.a 44 (.app 38 4 80 (.t 31) (.t 43)),jm 5 44] [0,0,0,6,14,0,0,0,0,384,992,2046,4094,8191,16383]) (.ops [jm 45
 6,jm 46 8,jB 47 .add 45 46,jm 6 47]))))) (.ops [jm 13 7,jb 14 .add 13 1,jm 7 14])))))) (jq ([jm 48 5,jm 4 48]) .ret)))))
theorem o0H:Fn Tryz.prog 11 49 [.t 4] g0v:=.of Tryz.func11 (by kernel_rfl)
theorem c1N {H:List Row}{E:TypeId}{b:List Ev}{l h:Nat}(hh:h≤b.length):subS H 9 E (.f (fEv b)) l h=some (.f (fEv ((b.drop l).take (h-l)))):=by
 have k:=f0P (H:=H) (E:=E) (b:=b.drop l) (h:=h-l) (by rw [List.length_drop];omega)
 rw [fEv,k0z] at k ⊢
 rw [o0m Ev.cs_len]
 simpa using k
def Bp.cs (p:Bp):List F:=[.v (.string ⟨#[97]⟩),.v (.string ⟨#[106,111,98,45,49]⟩),fIm (ofL p.1),fEv p.2]
theorem Bp.cs_len (p:Bp):p.cs.length=4:=rfl
def fBp (bs:List Bp):F:=.s (bs.flatMap Bp.cs) bs.length
theorem n0c {g:List Bp}:(g.flatMap Bp.cs).length=g.length*4:=b0D Bp.cs_len g
theorem h1D {bs:List Bp}{a b:List Ev}:bs.flatMap Bp.cs++[.v (.string ⟨#[97]⟩),.v (.string ⟨#[106,111,98,45,49]⟩),fIm (ofL a),fEv b]=(bs++[(a,b)]).flatMap Bp.cs:=by simp [Bp.cs]
theorem h1V {H:List Row}{r n:Nat}{xs:List F}{t:List Bp}(hr:H[r]?=some (.data 38 xs))(hx:xs=t.flatMap Bp.cs)(hn:n=t.length):Vw H (.sl r 0 n) (.f (fBp t)):=by
 subst hx;subst hn
 exact .sl hr (fun e=>by rw [List.eq_nil_of_length_eq_zero e];rfl)
set_option maxRecDepth 100000 in
theorem o0c (l:List Ev)(cuts:List Int)(hl:BrOk l):Con Tryz.prog 11 [.f (fEv l),.f (fI cuts)] [] fun r H'=>r = .f (fBp (batL l cuts))∧H'=[]:=by
 have hll:=hl.len
 refine Con.walk good o0H (by simp) ?_
 unfold g0v
 simp only [a0J]
 repeat' (with_reducible first|refine Wx.h ?_|refine Wb.h fun K hK=>?_|(refine hK _ ?_;clear hK K)|((fail_if_success refine Wz.h ?_);simp (disch:=omega) only [↓LD,LA,a0A,seval,LEv]))
 refine HS.view (View.void 38) ?_
 refine HS.view (View.slot 5 (.sl 0 0 0) (.no (by decide))) ?_
 refine HS.loopG [0,1,5,6,7] (fun x:Nat × Nat × List Bp=>⟨frm 49 [(0,.f (fEv l)),(1,.f (fI cuts)),(5,.sl 0 0 x.2.2.length),(6,D.int x.1),(7,D.int x.2.1)],[.data 38 (x.2.2.flatMap Bp.cs)],[]⟩) (fun x=>x.1≤l.length∧x.2.1≤x.1∧x.2.2.length≤x.1∧∃ f,l.length≤x.1+f∧batL l cuts=x.2.2++batA l cuts f x.2.1 x.1) (fun x=>l.length-x.1) (0,0,[]) (by kernel_rfl) ⟨Nat.zero_le _,Nat.le_refl _,Nat.le_refl _,l.length,by dsimp only;omega,rfl⟩ ?_
 rintro ⟨a,i,o⟩ ⟨ha,hi,ho,f,hf,hB⟩
 dsimp only at ha hi ho hf hB
 by_cases hal:a<l.length
 rotate_left
 ·rw [c1x hal,List.append_nil] at hB
  repeat' (with_reducible first|refine Wx.h ?_|refine Wb.h fun K hK=>?_|(refine hK _ ?_;clear hK K)|refine Wq.h ?_ ?_<;>intro h<;>try (exfalso;omega)|((fail_if_success refine Wz.h ?_);simp (disch:=omega) only [↓LD,LA,a0A,seval,LEv]))
  rw [hB]
  exact end1 rfl rfl (by kernel_rfl) (h1V rfl rfl rfl) ⟨rfl,rfl⟩
 rw [f1K hal hf] at hB
 have hcn:=b1a (cuts:=cuts) (i:=i) (n:=l.length-a) (by omega)
 have hok:=hl.take a
 haveI:Kn (IdL (l.take a)):=⟨hok.idL⟩
 have hs1:∀ H:List Row,subS H 9 73 (.f (fEv l)) 0 a=some (.f (fEv (l.take a))):=fun H=>f0P (by omega)
 have key:∀ c:Nat,cutN cuts i (l.length-a)=c→(∀ H:List Row,subS H 9 73 (.f (fEv l)) a (a+c)=some (.f (fEv ((l.drop a).take c)))):=fun c hc H=>by
  rw [c1N (by omega),Nat.add_sub_cancel_left]
 have hap:=h1D (bs:=o) (a:=l.take a) (b:=(l.drop a).take (cutN cuts i (l.length-a)))
 have hmn:((min 6 (l.length-a):Nat):Int)=min 6 ((l.length:Int)-a):=by omega
 by_cases hic:i<cuts.length
 ·have hp:=b0M (x:=gt cuts i) (n:=((min 6 (l.length-a):Nat):Int)) (by omega)
  have hcu:cutN cuts i (l.length-a)=(1+pick (gt cuts i) ((min 6 (l.length-a):Nat):Int)).toNat:=if_pos hic
  rw [hmn] at hp hcu
  generalize cutN cuts i (l.length-a)=c at *
  have hs2:=key c rfl
  have e1:pick (gt cuts i) (min 6 ((l.length:Int)-a))=(c:Int)-1:=by omega
  have e2:(1:Int)+((c:Int)-1)=c:=by omega
  have e3:((a:Int)+c).toNat=a+c:=by omega
  clear hcu hp key
  repeat' (with_reducible first|refine Wx.h ?_|refine We.h fun K hK=>?_|(refine hK _ _ _ _ ?_;clear hK K;try clear hM M)|refine Wb.h fun K hK=>?_|(refine hK _ ?_;clear hK K)|(refine Wy.h ?_ ?_;kernel_rfl)|refine Wq.h ?_ ?_<;>intro h<;>try (exfalso;omega)|((fail_if_success refine Wz.h ?_);first|simp (disch:=omega) only [↓LD,LA,a0A,seval,LEv,LIm,a0L,n0c,hs1,hs2,e1,e2,e3,hap,Int.toNat_natCast]|(refine And.intro ?_ ?_;omega)|fail))
  all_goals exact Next.mk (a+c,i+1,o++[(l.take a,(l.drop a).take c)]) (by rw [show (o++[(l.take a,(l.drop a).take c)]).length=o.length+1 by simp];kernel_rfl) ⟨by dsimp only;omega,by dsimp only;omega,by dsimp only;rw [List.length_append,List.length_singleton];omega,f-1,by dsimp only;omega,by rw [hB,List.append_assoc];rfl⟩ (by dsimp only;omega)
 ·have hcu:cutN cuts i (l.length-a)=l.length-a:=if_neg hic
  generalize cutN cuts i (l.length-a)=c at *
  have hs2:=key c rfl
  have e1:(l.length:Int)-a=(c:Int):=by omega
  have e3:((a:Int)+c).toNat=a+c:=by omega
  clear hcu key
  repeat' (with_reducible first|refine Wx.h ?_|refine We.h fun K hK=>?_|(refine hK _ _ _ _ ?_;clear hK K;try clear hM M)|refine Wb.h fun K hK=>?_|(refine hK _ ?_;clear hK K)|(refine Wy.h ?_ ?_;kernel_rfl)|refine Wq.h ?_ ?_<;>intro h<;>try (exfalso;omega)|((fail_if_success refine Wz.h ?_);first|simp (disch:=omega) only [↓LD,LA,a0A,seval,LEv,LIm,a0L,n0c,hs1,hs2,e1,e3,hap,Int.toNat_natCast]|(refine And.intro ?_ ?_;omega)|fail))
  all_goals exact Next.mk (a+c,i+1,o++[(l.take a,(l.drop a).take c)]) (by rw [show (o++[(l.take a,(l.drop a).take c)]).length=o.length+1 by simp];kernel_rfl) ⟨by dsimp only;omega,by dsimp only;omega,by dsimp only;rw [List.length_append,List.length_singleton];omega,f-1,by dsimp only;omega,by rw [hB,List.append_assoc];rfl⟩ (by dsimp only;omega)
structure AddIn (t:Br)(hd evs:List Ev):Prop where
 tk:TrK t
 pk:(ofL hd).length≤1000000
 fit:FitL evs
 hb:∀ h,d0p t (ofL hd)=some h→FitL (h++evs)∧((a0P s0 (h++evs)).1=0→BrOk (h++evs))
theorem AddIn.of {L:Br}(hu:Uni (Bg L))(h8:L.length≤8){t:Br}(ht:TrU (Bg L) t){hd evs:List Ev}(he:evs≠[])(hx:Bg L (hd++evs)):AddIn t hd evs :=
 ⟨ht.k hu h8,((hu.ok hx).1.pfx (List.prefix_append hd evs)).ofK,by
  have:=(hu.ok hx).1.fitL
  exact ⟨by have:=this.1;rw [List.length_append] at this;omega,fun e h=>this.2 e (List.mem_append_right _ h)⟩,f1l hu ht he hx⟩
instance {t u:Br}{H:List Row}{K:D→List Row→Prop}[ht:Kn (TrK t)][hu:Kn (TrK u)]:Wa (a0S Tryz.prog (.fn 14 []) [.ag [.f (fBr t)],.ag [.f (fBr u)]] H K) (K (.f (.v (.bool (eqB t u)))) H):=⟨fun k=>a0C (a1m t u ht.h hu.h) rfl rfl rfl k⟩
instance {t:Br}{d0 d1:F}{hd evs:List Ev}{H:List Row}{K:Bool→D→List Row→Prop}[h:Kn (AddIn t hd evs)]:Wa (a0j Tryz.prog (.fn 12 []) [.ag [.f (fBr t)],.ag [.f d0,.f d1,.f (fIm (ofL hd)),.f (fEv evs)]] H K) (K true (.tp [.ag [.f (fBr (addP t (ofL hd) evs).1)],.f (.v (.bool (addP t (ofL hd) evs).2.1)),.f (.v (.int .i64 (addP t (ofL hd) evs).2.2))]) H):=⟨fun k=>a0N (c1W t d0 d1 (ofL hd) evs h.h.tk h.h.pk h.h.fit h.h.hb) rfl rfl rfl k⟩
inductive Enc (f:Nat→Int):Nat→List Im→Nat→Prop
 | nil {lo:Nat}:Enc f lo [] lo
 | cons {lo mid hi:Nat} {x:Im} {I:List Im}:x.id=mid→lo<mid→(∀ k,lo≤k→k<mid→f k=x.ver)→Enc f mid I hi→Enc f lo (x :: I) hi
theorem Enc.le {f:Nat→Int}{lo hi:Nat}{I:List Im}(h:Enc f lo I hi):lo≤hi:=by
 induction h with
 | nil=>exact Nat.le_refl _
 | cons _ h1 _ _ ih=>omega
theorem x0r {x:Im}{I:List Im}{id v:Int}(h:I≠[]):b0d (x :: I) id v=x :: b0d I id v:=by
 have hp:=List.length_pos_iff.2 h
 have e:(x :: I).length-1=(I.length-1)+1:=by simp;omega
 have g:gt (x :: I) ((x :: I).length-1)=gt I (I.length-1):=by rw [e];simp [gt]
 unfold b0d
 rw [g]
 by_cases hv:(gt I (I.length-1)).ver=v
 ·rw [if_pos ⟨by simp,hv⟩,if_pos ⟨hp,hv⟩,e,List.set_cons_succ]
 ·rw [if_neg (fun k=>hv k.2),if_neg (fun k=>hv k.2)];rfl
theorem Enc.grow {f:Nat→Int}{lo hi:Nat}{I:List Im}(h:Enc f lo I hi){id:Int}(hid:id=(hi+1:Nat)):Enc f lo (b0d I id (f hi)) (hi+1):=by
 induction h with
 | @nil lo=>exact .cons (mid:=lo+1) hid (by omega) (fun k h1 h2=>by (have e:k=lo:=by omega);subst e;rfl) .nil
 | @cons lo mid hi x I h1 h2 h3 h4 ih =>
  cases h4 with
  | nil =>
   have g:gt [x] ([x].length-1)=x:=rfl
   unfold b0d
   rw [g]
   by_cases hv:x.ver=f mid
   ·rw [if_pos ⟨by simp,hv⟩]
    refine .cons (mid:=mid+1) hid (by omega) (fun k k1 k2=>?_) .nil
    by_cases e:k=mid
    ·subst e;rfl
    ·rw [h3 k k1 (by omega),hv]
   ·rw [if_neg (fun k=>hv k.2)]
    exact .cons h1 h2 h3 (.cons (mid:=mid+1) hid (by omega) (fun k h1 h2=>by (have e:k=mid:=by omega);subst e;rfl) .nil)
  | cons a1 a2 a3 a4 =>
   rw [x0r (by simp)]
   exact .cons h1 h2 h3 (ih hid)
theorem Enc.of {f:Nat→Int}:∀ {vs:List Int} {i:Nat} {acc:List Im},Enc f 0 acc i→(∀ k,k<vs.length→gt vs k=f (i+k))→Enc f 0 (ofA 1 i vs acc) (i+vs.length)
 | [],i,acc,h,_=>h
 | v :: vs,i,acc,h,hv=>by
  rw [ofA,show i+(v :: vs).length=(i+1)+vs.length by simp;omega]
  have h0:v=f i:=hv 0 (by simp)
  rw [h0]
  refine Enc.of (h.grow (by omega)) fun k hk=>?_
  have:=hv (k+1) (by simp;omega)
  rw [show i+1+k=i+(k+1) by omega,←this]
  simp [gt]
theorem b1h {l:List Ev}(h:BrOk l):Enc (fun k=>(gt l k).ver) 0 (ofL l) l.length:=by
 unfold ofL
 by_cases hn:l=[]
 ·subst hn;exact .nil
 ·rw [if_neg hn,h.id0 hn]
  have:=Enc.of (f:=fun k=>(gt l k).ver) (vs:=l.map (·.ver)) (i:=0) (acc:=[]) .nil fun k hk=>by
   rw [List.length_map] at hk
   rw [Nat.zero_add,a0q (by rw [List.length_map];exact hk),List.getElem_map,←a0q hk]
  rw [Nat.zero_add,List.length_map] at this
  exact this
def comA:List Im→List Im→Im→Im
 | x :: a,y :: b,out=>if x.ver=y.ver then (if x.id=y.id then comA a b ⟨min x.id y.id,x.ver⟩ else ⟨min x.id y.id,x.ver⟩) else out
 | [],_,out=>out
 | _ :: _,[],out=>out
def comL (a b:List Im):Im:=comA a b ⟨0,0⟩
theorem g1A {f g:Nat→Int}{lo hi:Nat}{I:List Im}(h:Enc f lo I hi):∀ {J:List Im} {hj:Nat} {out:Im},Enc g lo J hj→out.id=lo→(∀ k,k<lo→f k=g k)→∃ n:Nat,(comA I J out).id=n∧n≤hi∧n≤hj∧∀ k,k<n→f k=g k:=by
 induction h with
 | @nil lo =>
  intro J hj out hJ ho hk
  have:=hJ.le
  exact ⟨lo,by cases J<;>exact ho,Nat.le_refl _,this,hk⟩
 | @cons lo mid hi x I h1 h2 h3 h4 ih =>
  intro J hj out hJ ho hk
  have hl:=h4.le
  have hJl:=hJ.le
  cases hJ with
  | nil=>exact ⟨lo,ho,by omega,Nat.le_refl _,hk⟩
  | @cons _ md _ y J k1 k2 k3 k4 =>
   have hl2:=k4.le
   rw [comA]
   by_cases hv:x.ver=y.ver
   ·rw [if_pos hv]
    have hag:∀ k,k<min mid md→f k=g k:=fun k h=>by
     by_cases e:k<lo
     ·exact hk k e
     ·rw [h3 k (by omega) (by omega),k3 k (by omega) (by omega),hv]
    by_cases hi2:x.id=y.id
    ·rw [if_pos hi2]
     have e:mid=md:=by omega
     subst e
     exact ih k4 (by dsimp only;omega) fun k hk2=>hag k (by omega)
    ·rw [if_neg hi2]
     exact ⟨min mid md,by dsimp only;omega,by omega,by omega,hag⟩
   ·rw [if_neg hv]
    exact ⟨lo,ho,by omega,by omega,hk⟩
theorem f1C {a b:List Ev}(ha:BrOk a)(hb:BrOk b):∃ n:Nat,(comL (ofL a) (ofL b)).id=n∧n≤a.length∧n≤b.length∧∀ k,k<n→(gt a k).ver=(gt b k).ver :=
 g1A (b1h ha) (b1h hb) rfl fun k h=>by omega
theorem l0R:∀ {n:Nat} {a b:List Ev},n≤a.length→n≤b.length→a.take n=b.take n→n≤a0O a b
 | 0,_,_,_,_,_=>Nat.zero_le _
 | n+1,[],b,h,_,_=>by simp at h
 | n+1,a :: l,[],_,h,_=>by simp at h
 | n+1,a :: l,b :: m,h1,h2,h=>by
  rw [List.take_succ_cons,List.take_succ_cons,List.cons.injEq] at h
  rw [a0O,if_pos (d0q h.1)]
  have:=l0R (n:=n) (a:=l) (b:=m) (by simpa using h1) (by simpa using h2) h.2
  omega
theorem Uni.apart {U:List Ev→Prop}(hu:Uni U){a b:List Ev}(ha:U a)(hb:U b)(hn:¬ a <+: b)(hm:¬ b <+: a)(hv:a0U b<a0U a) :
  ∃ n:Nat,(comL (ofL a) (ofL b)).id=n∧n<a.length∧n<b.length∧n≤a0O a b∧0<cmpI (ofL a) (ofL b):=by
 obtain ⟨a1,a2⟩:=hu.ok ha
 obtain ⟨b1,b2⟩:=hu.ok hb
 obtain ⟨n,h1,h2,h3,h4⟩:=f1C a1 b1
 have he:a.take n=b.take n:=by
  by_cases h0:n=0
  ·subst h0;simp
  ·have hp:=hu.down ha (List.take_prefix n a) (g0b (by omega) h2)
   have hq:=hu.down hb (List.take_prefix n b) (g0b (by omega) h3)
   have e:a0U (a.take n)=a0U (b.take n):=by rw [d0T (by omega) h2,d0T (by omega) h3,h4 _ (by omega)]
   have hl:(a.take n).length=(b.take n).length:=by rw [List.length_take,List.length_take];omega
   exact (hu.comp hp hq e).elim (fun h=>h.eq_of_length hl) fun h=>(h.eq_of_length hl.symm).symm
 refine ⟨n,h1,?_,?_,l0R h2 h3 he,(e0c a2 b2 (by omega)).2 hv⟩
 ·refine Nat.lt_of_le_of_ne h2 fun e=>hn ?_
  rw [e,List.take_length] at he
  rw [he];exact List.take_prefix _ _
 ·refine Nat.lt_of_le_of_ne h3 fun e=>hm ?_
  rw [e,List.take_length] at he
  rw [←he];exact List.take_prefix _ _
theorem TrU.at {U:List Ev→Prop}{t:Br}(ht:TrU U t){i j:Nat}(h:i<j)(hj:j<t.length):U (gt t i)∧U (gt t j)∧a0U (gt t j)<a0U (gt t i)∧¬ gt t i <+: gt t j∧¬ gt t j <+: gt t i:=by
 have hv:a0U (gt t j)<a0U (gt t i):=by
  have:=List.pairwise_iff_getElem.1 ht.lt i j (by omega) hj h
  rw [a0q hj,a0q (show i<t.length by omega)];exact this
 have hi:=a0K (l:=t) (k:=i) (by omega)
 have hj:=a0K hj
 refine ⟨ht.mem _ hi,ht.mem _ hj,hv,fun e=>?_,fun e=>?_⟩
 ·have:=ht.anti _ hi _ hj e
  rw [this] at hv;omega
 ·have:=ht.anti _ hj _ hi e
  rw [this] at hv;omega
abbrev Bp.all (p:Bp):List Ev:=p.1++p.2
theorem g1O {t:Br}{p q:List Ev}(h:Dn t q)(hp:p <+: q):Dn t p:=by
 obtain ⟨b,h1,h2⟩:=h
 exact ⟨b,h1,hp.trans h2⟩
def From (t:Br)(bs:List Bp):Prop:=∀ b∈t,∃ q∈bs,b <+: q.all
theorem c1Y {t:Br}{bs:List Bp}{p:Bp}(h:From t bs)(hp:p∈bs):From (addU t p.all) bs:=by
 intro b hb
 by_cases hk:t.any (begB p.all)=true
 ·have e:addU t p.all=t:=by unfold addU;rw [if_pos hk]
  rw [e] at hb;exact h b hb
 ·rcases (c0v hk).1 hb with rfl|⟨h1,_⟩
  ·exact ⟨p,hp,List.prefix_refl _⟩
  ·exact h b h1
theorem o0O {L:Br}(hu:Uni (Bg L)){bs:List Bp}(hf:Fed (Bg L) bs){t:Br}(ht:TrU (Bg L) t)(h8:L.length<8){p:Bp}(hp:p∈bs) :
  addP t (ofL p.1) p.2=(addU t p.all,!t.any (begB p.all),0)∨addP t (ofL p.1) p.2=([],false,4):=by
 obtain ⟨h1,h2⟩:=hf.ok p hp
 rcases w0n hu ht h1 h2 (Nat.lt_of_le_of_lt ht.few h8) with ⟨_,h⟩|⟨_,h⟩
 ·exact .inl h
 ·exact .inr h
theorem w0U {L:Br}(hu:Uni (Bg L)){bs:List Bp}(hf:Fed (Bg L) bs){t:Br}(ht:TrU (Bg L) t)(h8:L.length<8){i:Nat}(hi:i<bs.length)(hd:∀ q∈bs.take i,Dn t q.all) :
  addP t (ofL (gt bs i).1) (gt bs i).2=(addU t (gt bs i).all,!t.any (begB (gt bs i).all),0):=by
 obtain ⟨h1,h2⟩:=hf.ok _ (a0K hi)
 have hs:bs=bs.take i++gt bs i :: bs.drop (i+1):=by rw [←a0H hi,List.take_append_drop]
 rcases w0n hu ht h1 h2 (Nat.lt_of_le_of_lt ht.few h8) with ⟨_,h⟩|⟨h,_⟩
 ·exact h
 ·refine absurd ?_ h
  rcases hf.pre _ _ _ hs with h3|⟨q,h3,h4⟩
  ·exact .inl h3
  ·right;rw [h4];exact hd q h3
structure Way (L:Br)(bs:List Bp)(t:Br)(i:Nat):Prop where
 tr:TrU (Bg L) t
 fr:From t bs
 dn:∀ q∈bs.take i,Dn t q.all
theorem Way.nil {L:Br}{bs:List Bp}:Way L bs [] 0:=⟨TrU.nil,fun b h=>by simp at h,fun q h=>by simp at h⟩
theorem Way.add {L:Br}(hu:Uni (Bg L)){bs:List Bp}(hf:Fed (Bg L) bs){t:Br}{i:Nat}(h:Way L bs t i){p:Bp}(hp:p∈bs):Way L bs (addU t p.all) i :=
 ⟨g1K hu h.tr (hf.ok p hp).2,c1Y h.fr hp,fun q hq=>dn_add.2 (.inl (h.dn q hq))⟩
theorem Way.next {L:Br}(hu:Uni (Bg L)){bs:List Bp}(hf:Fed (Bg L) bs){t:Br}{i:Nat}(h:Way L bs t i)(hi:i<bs.length):Way L bs (addU t (gt bs i).all) (i+1):=by
 have k:=h.add hu hf (a0K hi)
 refine ⟨k.tr,k.fr,fun q hq=>?_⟩
 rw [List.take_succ_eq_append_getElem hi,←a0q hi] at hq
 rcases List.mem_append.1 hq with hq|hq
 ·exact k.dn q hq
 ·obtain rfl:=List.mem_singleton.1 hq
  exact dn_add.2 (.inr (List.prefix_refl _))
theorem Way.same {L:Br}(hu:Uni (Bg L)){bs:List Bp}{t s:Br}(h:Way L bs t bs.length)(k:Way L bs s bs.length):t=s:=by
 have key:∀ {t s:Br},Way L bs t bs.length→Way L bs s bs.length→∀ p,Dn t p→Dn s p:=by
  intro t s h k p hp
  obtain ⟨b,h1,h2⟩:=hp
  obtain ⟨q,h3,h4⟩:=h.fr b h1
  exact g1O (k.dn q (by rw [List.take_length];exact h3)) (h2.trans h4)
 exact h1W hu hu h.tr k.tr fun p _=>⟨key h k p,key k h p⟩
theorem d1V {M:Br}{cuts:List Int}(h:∀ l∈M,l.length≤200):(M.flatMap fun l=>batL l cuts).length≤200*M.length:=by
 induction M with
 | nil=>simp
 | cons l M ih =>
  have h1:=ih fun x hx=>h x (by simp [hx])
  have h2:(batL l cuts).length≤l.length:=n0z
  have h3:=h l (by simp)
  rw [List.flatMap_cons,List.length_append,List.length_cons];omega
theorem f1z {U:List Ev→Prop}(hu:Uni U){t:Br}(ht:TrU U t){i:Nat}(h0:0<i)(hi:i<t.length):0<cmpI (ofL (curL t)) (ofL (gt t i)):=by
 obtain ⟨h1,h2,h3,_,_⟩:=ht.at h0 hi
 have e:curL t=gt t 0:=by unfold curL;rw [if_neg (by omega)]
 rw [e]
 exact (e0c (hu.ok h1).2 (hu.ok h2).2 (by omega)).2 h3
theorem c1y {b:List Im}{out:Im}:comA [] b out=out:=by cases b<;>rfl
theorem a1A {a:List Im}{out:Im}:comA a [] out=out:=by cases a<;>rfl
set_option maxRecDepth 100000 in
theorem t0f (a b:List Im)(ha:a.length≤1000000)(hb:b.length≤1000000):Con Tryz.prog 88 [.f (fIm a),.f (fIm b)] [] fun r H'=>r = .ag [D.int (comL a b).id,D.int (comL a b).ver]∧H'=[]:=by
 refine Con.walk good r0c (by simp) ?_
 unfold i0r
 simp only [a0J]
 have hmn:min (a.length:Int) b.length=((min a.length b.length:Nat):Int):=by omega
 repeat' (with_reducible first|refine Wx.h ?_|refine Wb.h fun K hK=>?_|(refine hK _ ?_;clear hK K)|((fail_if_success refine Wz.h ?_);simp (disch:=omega) only [↓LD,LA,a0A,seval,LIm,hmn]))
 refine HS.loopG [0,1,4,5,12,13] (fun x:Nat × Im=>⟨frm 57 [(0,.f (fIm a)),(1,.f (fIm b)),(4,.pt 0 0),(5,.pt 1 0),(12,D.int (min a.length b.length:Nat)),(13,D.int x.1)],[.box 57 [jI,jI],.box 57 [D.int x.2.id,D.int x.2.ver]],[]⟩) (fun x=>x.1≤min a.length b.length∧comL a b=comA (a.drop x.1) (b.drop x.1) x.2) (fun x=>min a.length b.length-x.1) (0,⟨0,0⟩) (by kernel_rfl) ⟨Nat.zero_le _,rfl⟩ ?_
 rintro ⟨i,o⟩ ⟨hi,hC⟩
 dsimp only at hi hC
 have fin:∀ y:Im,comL a b=y→(D.ag [D.int y.id,D.int y.ver] = .ag [D.int (comL a b).id,D.int (comL a b).ver]∧([]:List Row)=[]):=fun y h=>⟨by rw [h],rfl⟩
 by_cases hil:i<min a.length b.length
 rotate_left
 ·have hE:comL a b=o:=by
   rw [hC]
   by_cases h1:a.length≤i
   ·rw [List.drop_of_length_le h1,c1y]
   ·rw [List.drop_of_length_le (l:=b) (by omega),a1A]
  repeat' (with_reducible first|refine Wx.h ?_|refine Wb.h fun K hK=>?_|(refine hK _ ?_;clear hK K)|refine Wq.h ?_ ?_<;>intro h<;>try (exfalso;omega)|((fail_if_success refine Wz.h ?_);simp (disch:=omega) only [↓LD,LA,a0A,seval,LIm]))
  exact RetS.still (ds:=[.ag [D.int o.id,D.int o.ver]]) (by kernel_rfl) (by kernel_rfl) (.ags (.cons .f (.cons .f .nil))) (fin o hE)
 have h1:i<a.length:=by omega
 have h2:i<b.length:=by omega
 rw [a0H h1,a0H h2,comA] at hC
 have a0:=z0I h1
 have a1:=e0y h1
 have b0:=z0I h2
 have b1:=e0y h2
 have hm1:min (gt a i).id (gt b i).id=min (gt a i).id (gt b i).id:=rfl
 generalize gt a i=x at *
 generalize gt b i=y at *
 by_cases hv:x.ver=y.ver
 ·rw [if_pos hv] at hC
  by_cases hd:x.id=y.id
  ·rw [if_pos hd] at hC
   repeat' (with_reducible first|refine Wx.h ?_|refine We.h fun K hK=>?_|(refine hK _ _ _ _ ?_;clear hK K;try clear hM M)|refine Wb.h fun K hK=>?_|(refine hK _ ?_;clear hK K)|(refine Wy.h ?_ ?_;kernel_rfl)|refine Wq.h ?_ ?_<;>intro h<;>try (exfalso;omega)|((fail_if_success refine Wz.h ?_);first|simp (disch:=omega) only [↓LD,LA,a0A,seval,LIm,b0z,a0,a1,b0,b1,Im.cs,hv,hd]|(refine And.intro ?_ ?_;omega)|fail))
   all_goals exact Next.mk (i+1,⟨min y.id y.id,y.ver⟩) (by kernel_rfl) ⟨by dsimp only;omega,by dsimp only;rw [hC,hd,hv]⟩ (by dsimp only;omega)
  ·rw [if_neg hd] at hC
   repeat' (with_reducible first|refine Wx.h ?_|refine We.h fun K hK=>?_|(refine hK _ _ _ _ ?_;clear hK K;try clear hM M)|refine Wb.h fun K hK=>?_|(refine hK _ ?_;clear hK K)|(refine wF ?_ ?_;assumption)|(refine Wy.h ?_ ?_;kernel_rfl)|refine Wq.h ?_ ?_<;>intro h<;>try (exfalso;omega)|((fail_if_success refine Wz.h ?_);first|simp (disch:=omega) only [↓LD,LA,a0A,seval,LIm,b0z,a0,a1,b0,b1,Im.cs,hv]|(refine And.intro ?_ ?_;omega)|fail))
   all_goals exact RetS.still (ds:=[.ag [D.int (min x.id y.id),D.int y.ver]]) (by kernel_rfl) (by kernel_rfl) (.ags (.cons .f (.cons .f .nil))) (fin ⟨min x.id y.id,y.ver⟩ (by rw [hC,hv]))
 ·rw [if_neg hv] at hC
  repeat' (with_reducible first|refine Wx.h ?_|refine We.h fun K hK=>?_|(refine hK _ _ _ _ ?_;clear hK K;try clear hM M)|refine Wb.h fun K hK=>?_|(refine hK _ ?_;clear hK K)|(refine wF ?_ ?_;assumption)|(refine Wy.h ?_ ?_;kernel_rfl)|refine Wq.h ?_ ?_<;>intro h<;>try (exfalso;omega)|((fail_if_success refine Wz.h ?_);first|simp (disch:=omega) only [↓LD,LA,a0A,seval,LIm,b0z,a0,a1,b0,b1,Im.cs]|(refine And.intro ?_ ?_;omega)|fail))
  all_goals exact RetS.still (ds:=[.ag [D.int o.id,D.int o.ver]]) (by kernel_rfl) (by kernel_rfl) (.ags (.cons .f (.cons .f .nil))) (fin o hC)
instance {a b:List Im}{H:List Row}{K:D→List Row→Prop}[ha:Kn (a.length≤1000000)][hb:Kn (b.length≤1000000)]:Wa (a0S Tryz.prog (.fn 88 []) [.f (fIm a),.f (fIm b)] H K) (K (.ag [.f (.v (.int .i64 (comL a b).id)),.f (.v (.int .i64 (comL a b).ver))]) H):=⟨fun h=>a0C (t0f a b ha.h hb.h) rfl rfl rfl h⟩
structure Apt (a b:List Ev):Prop where
 ka:BrOk a∧a≠[]
 kb:BrOk b∧b≠[]
 kv:a0U a≠a0U b
 kn:∃ n:Nat,(comL (ofL a) (ofL b)).id=n∧n<a.length∧n<b.length∧n≤a0O a b∧0<cmpI (ofL a) (ofL b)
instance tqV {l:List Ev}{H:List Row}{K:D→List Row→Prop}[hl:Kn (IdL l)][hk:Kn ((ofL l).length≤1000000)]:Wa (a0S Tryz.prog (.fn 78 []) [.f (fEv l)] H K) (K (.f (.v (.int .i64 (a0Y (ofL l)).ver))) H):=⟨fun h=>a0C (g0u l hl.h hk.h) rfl rfl rfl h⟩
set_option maxRecDepth 100000 in
theorem x0y (a b:List Ev)(h:Apt a b):Con Tryz.prog 53 [.f (fEv a),.f (fEv b)] [] fun r H'=>r=D.bool true∧H'=[]:=by
 obtain ⟨⟨a1,a2⟩,⟨b1,b2⟩,hv,n,h1,h2,h3,h4,h5⟩:=h
 haveI:Kn (IdL a):=⟨a1.idL⟩
 haveI:Kn (IdL b):=⟨b1.idL⟩
 haveI:Kn (FitL a):=⟨a1.fitL⟩
 haveI:Kn (FitL b):=⟨b1.fitL⟩
 haveI:Kn ((ofL a).length≤1000000):=⟨a1.ofK⟩
 haveI:Kn ((ofL b).length≤1000000):=⟨b1.ofK⟩
 have e1:(a0Y (ofL a)).ver=a0U a:=by rw [b0u a2]
 have e2:(a0Y (ofL b)).ver=a0U b:=by rw [b0u b2]
 refine Con.walk good t0d (by simp) ?_
 unfold l0e
 simp only [a0J]
 repeat' (with_reducible first|refine Wx.h ?_|refine Wb.h fun K hK=>?_|(refine hK _ ?_;clear hK K)|(refine wT ?_ ?_;assumption)|(refine wF ?_ ?_;assumption)|refine Wq.h ?_ ?_<;>intro h<;>try (exfalso;omega)|((fail_if_success refine Wz.h ?_);simp (disch:=omega) only [↓LD,LA,a0A,seval,LEv,h1,e1,e2]))
 all_goals exact end1 rfl rfl (by kernel_rfl) .f ⟨rfl,rfl⟩
instance {a b:List Ev}{H:List Row}{K:D→List Row→Prop}[h:Kn (Apt a b)]:Wa (a0S Tryz.prog (.fn 53 []) [.f (fEv a),.f (fEv b)] H K) (K (.f (.v (.bool true))) H):=⟨fun k=>a0C (x0y a b h.h) rfl rfl rfl k⟩
theorem TrU.apt {U:List Ev→Prop}(hu:Uni U){t:Br}(ht:TrU U t){i j:Nat}(h:i<j)(hj:j<t.length):Apt (gt t i) (gt t j):=by
 obtain ⟨h1,h2,h3,h4,h5⟩:=ht.at h hj
 exact ⟨hu.ok h1,hu.ok h2,by omega,hu.apart h1 h2 h4 h5 h3⟩
set_option maxRecDepth 100000 in
theorem y0Q {U:List Ev→Prop}(hu:Uni U)(t:Br)(ht:TrU U t)(hl:t.length≤8):Con Tryz.prog 20 [.ag [.f (fBr t)]] [] fun r H'=>r=D.bool true∧H'=[]:=by
 refine Con.walk good t0a (by simp) ?_
 unfold n0I
 simp only [a0J]
 repeat' (with_reducible first|refine Wx.h ?_|refine Wb.h fun K hK=>?_|(refine hK _ ?_;clear hK K)|refine Wq.h ?_ ?_<;>intro h<;>try (exfalso;omega)|((fail_if_success refine Wz.h ?_);simp (disch:=omega) only [↓LD,LA,a0A,seval,LBr]))
 refine HS.loopG [1,14,15,16] (fun i:Nat=>⟨frm 48 [(1,.pt 0 0),(14,.f (fBr t)),(15,D.int t.length),(16,D.int i)],[.box 30 [.f (fBr t)]],[]⟩) (fun i=>i≤t.length) (fun i=>t.length-i) 0 (by kernel_rfl) (Nat.zero_le _) ?_
 rintro i hi
 by_cases hil:i<t.length
 ·obtain ⟨ok,ne⟩:=hu.ok (ht.mem _ (a0K hil))
  have hap:=fun j (h:j<i)=>ht.apt hu h hil
  have hfo:=ok.fold
  have hln:=ok.len
  haveI:Kn (FitL (gt t i)):=⟨ok.fitL⟩
  have h0:¬ ((gt t i).length:Int)=0:=fun e=>ne (List.eq_nil_of_length_eq_zero (by omega))
  have hs:∀ H:List Row,subS H 1 25 (.f (fBr t)) 0 i=some (.f (fBr (t.take i))):=fun H=>c1m hi
  have hAl:(t.take i).length=i:=by rw [List.length_take];omega
  have hA:∀ j,j<i→gt (t.take i) j=gt t j:=fun j hj=>by rw [a0q (by omega),a0q (by omega),List.getElem_take]
  generalize hgl:gt t i=l at *
  generalize t.take i=A at *
  repeat' (with_reducible first|refine Wx.h ?_|refine Wb.h fun K hK=>?_|(refine hK _ ?_;clear hK K)|(refine wF ?_ ?_;assumption)|refine Wq.h ?_ ?_<;>intro h<;>try (exfalso;omega)|((fail_if_success refine Wz.h ?_);first|simp (disch:=omega) only [↓LD,LA,a0A,seval,LBr,LEv,hs,hfo,hgl,stF]|(refine And.intro ?_ ?_;omega)|fail))
  refine HS.loopG [1,4,14,15,16,36,37,38] (fun j:Nat=>⟨frm 48 [(1,.pt 0 0),(4,.f (fEv l)),(14,.f (fBr t)),(15,D.int t.length),(16,D.int i),(36,.f (fBr A)),(37,D.int A.length),(38,D.int j)],[.box 30 [.f (fBr t)]],[]⟩) (fun j=>j≤A.length) (fun j=>A.length-j) 0 (by kernel_rfl) (Nat.zero_le _) ?_
  rintro j hj
  by_cases hjl:j<A.length
  ·haveI:=Kn.mk (hap j (by omega))
   have hgA:=hA j (by omega)
   repeat' (with_reducible first|refine Wx.h ?_|refine Wb.h fun K hK=>?_|(refine hK _ ?_;clear hK K)|refine Wq.h ?_ ?_<;>intro h<;>try (exfalso;omega)|((fail_if_success refine Wz.h ?_);first|simp (disch:=omega) only [↓LD,LA,a0A,seval,LBr,LEv,hgA]|(refine And.intro ?_ ?_;omega)|fail))
   all_goals exact Next.mk (j+1) (by kernel_rfl) (by omega) (by omega)
  ·repeat' (with_reducible first|refine Wx.h ?_|refine Wb.h fun K hK=>?_|(refine hK _ ?_;clear hK K)|refine Wq.h ?_ ?_<;>intro h<;>try (exfalso;omega)|((fail_if_success refine Wz.h ?_);simp (disch:=omega) only [↓LD,LA,a0A,seval,LBr,LEv]))
   all_goals exact Next.mk (i+1) (by kernel_rfl) (by omega) (by omega)
 ·repeat' (with_reducible first|refine Wx.h ?_|refine Wb.h fun K hK=>?_|(refine hK _ ?_;clear hK K)|refine Wq.h ?_ ?_<;>intro h<;>try (exfalso;omega)|((fail_if_success refine Wz.h ?_);simp (disch:=omega) only [↓LD,LA,a0A,seval,LBr]))
  exact end1 rfl rfl (by kernel_rfl) .f ⟨rfl,rfl⟩
theorem c1U:u0r (runF Tryz.prog g1X 60 10 [] [])=true:=by kernel_rfl
theorem x0h:Con Tryz.prog 10 [] [] fun r H'=>r=D.bool true∧H'=[] :=
 (Con.run good (c1q _) (d1i (by kernel_rfl)) (s0K (by rw [←f1Z];exact c1U))).mono fun _ _ h=>h
instance kn13_callW {H:List Row}{K:D→List Row→Prop}:Wa (a0S Tryz.prog (.fn 10 []) [] H K) (K (.f (.v (.bool true))) H):=⟨fun h=>a0C x0h rfl rfl rfl h⟩
instance {t:Br}{H:List Row}{K:D→List Row→Prop}[h:Kn (t.length≤8∧∃ U,Uni U∧TrU U t)]:Wa (a0S Tryz.prog (.fn 20 []) [.ag [.f (fBr t)]] H K) (K (.f (.v (.bool true))) H):=⟨fun k=>by
 obtain ⟨h8,U,hu,ht⟩:=h.h
 exact a0C (y0Q hu t ht h8) rfl rfl rfl k⟩
theorem u0w {g:List Bp}:slcS (.f (fBp g))=some g.length:=id rfl
theorem w0i {g:List Bp}{sz:Nat}{k:IntKind}{i:Int}{K:D→Prop}:idxS sz (.f (fBp g)) (.f (.v (.int k i))) K=((0≤i∧i<g.length)∧K (.rf ((g.flatMap Bp.cs).drop (i.toNat*sz)))):=id rfl
theorem h0n {H:List Row}{g:List Bp}{k:Nat}(hk:k<g.length):loadA H 4 (.rf ((g.flatMap Bp.cs).drop (k*4)))=some (.ag ((Bp.cs (gt g k)).map .f)):=b0V Bp.cs_len hk
theorem LBp:type_of% @u0w∧type_of% @w0i:=⟨@u0w,@w0i⟩
instance {l:List Ev}{cuts:List Int}{H:List Row}{K:D→List Row→Prop}[hl:Kn (BrOk l)]:Wa (a0S Tryz.prog (.fn 11 []) [.f (fEv l),.f (fI cuts)] H K) (K (.f (fBp (batL l cuts))) H):=⟨fun k=>a0C (o0c l cuts hl.h) rfl rfl rfl k⟩
def c0q:SCode :=
  (jq ([.a 3 (.box 48 (.t 0)),.a 6 (.mv kF)]) (jq ((ap [jL 31 3 3,.a 32 (.call (kC 23) [(.t 31)])] [jm 7 32])) (jq ([.a 8 (.mv kN)]) (.seq (jq ([jk 9
 0]) (.block 0 (.loop (.seq (jq ([jm 33 9,jm 34 7,je 35 34,jB 36 .lss 33 35]) (jc 36 .skip (.exit 0))) (.seq (.block 1 (.ops (ap [jm 39 8,jm 40 7,
 jm 41 9,jx 42 1 40 41,jl 43 42,jm 44 1,.a 45 (.call (kC 11) [(.t 43),(.t 44)])] (ap [.a 46 (.app 38 4 80 (.t 39) (.t 45))] [jm 8 46])))) (.ops [jm
 37 9,jb 38 .add 37 1,jm 9 38])))))) (.seq (jq ((ap [.a 47 (.call (kC 10) [])] [.a 48 (.unot (.t 47))])) (jc 48 (jq ([.a 6 (.mv kF)]) .ret) .skip))
 (jq ([.a 10 (.alloc 30 [jN]),.a 11 (.alloc 30 [jN])]) (.seq (jq ([jk 12 0]) (.block 2 (.loop (.seq (jq ([jm 49 12,jm 50 8,je 51 50,jB 52 .lss 49
 51]) (jc 52 .skip (.exit 2))) (.seq (.block 3 (.seq (.drw [jL 56 1 10,jm 57 8,jm 58 12,jx 59 4 57 58,jL 60 4 59,.a 61 (.call (kC 12) [(.t 56),(.t
 60)]),jm 55 61,jE 62 0 55,jE 63 1 55,jE 64 2 55,.a 13 (.alloc 30 [jN]),.n (.store 1 (.t 13) (.t 62)),jm 14 63,jm 15 64] [0,0,0,6,14,31,
 63,127,127,127,0,1279,3583,8191]) (.seq (jq ([jm 65 15,jb 66 .neq 65 0]) (jc 66 (jq ((ap [jm 67 15,jb 68 .eql 67 1] [jm 6 68])) .ret) .skip))
 (.ops [jL 69 1 13,.n (.store 1 (.t 10) (.t 69))])))) (.ops [jm 53 12,jb 54 .add 53 1,jm 12 54])))))) (.seq (jq ([jk 16 0]) (.block 4 (.loop (.seq
 (jq ([jm 70 16,jm 71 8,je 72 71,.a 73 (.bin .mul (kI 2) (.t 72)),jB 74 .lss 70 73]) (jc 74 .skip (.exit 4))) (.seq (.block 5 (jq ([jm 77 16,jm 17
 77]) (.seq (jq ([jm 78 16,jm 79 2,je 80 79,jB 81 .lss 78 80]) (jc 81 (.ops [jm 82 2,jm 83 16,jx 84 1 82 83,jl 85 84,jm 17 85]) .skip)) (jq ((ap
 [jm 86 17,jm 87 8,je 88 87,.a 89 (.call (kC 13) [(.t 86),(.t 88)])] [jm 17 89])) (jq ([jk 18 0]) (.block 6 (.loop (.seq (jq ([jm 90 18,jm 91 8,je
 92 91,jB 93 .lss 90 92]) (jc 93 .skip (.exit 6))) (.seq (.block 7 (.seq (.drw [jL 97 1 11,jm 98 8,jm 99 17,jm 100 18,jB 101 .add 99 100,jm 102 8,
 je 103 102,jB 104 .rem 101 103,jx 105 4 98 104,jL 106 4 105,.a 107 (.call (kC 12) [(.t 97),(.t 106)]),jm 96 107,jE 108 0 96,jE 109 1 96,jE 110
 2 96,.a 19 (.alloc 30 [jN]),.n (.store 1 (.t 19) (.t 108)),jm 20 109,jm 21 110] [0,0,0,0,12,0,32,124,254,510,1023,2047,4095,4095,
 4095,0,40959,114687,262143]) (.seq (jq ([jm 111 21,jb 112 .eql 111 0]) (jc 112 (jq ([jL 113 1 19,.n (.store 1 (.t 11) (.t 113))]) (.exit 6))
 .skip)) (jq ([jm 114 21,jb 115 .neq 114 4]) (jc 115 (jq ([.a 6 (.mv kF)]) .ret) .skip))))) (.ops [jm 94 18,jb 95 .add 94 1,jm 18 95])))))))))) (.ops
 [jm 75 16,jb 76 .add 75 1,jm 16 76])))))) (.seq (jq ([jk 22 0]) (.block 8 (.loop (.seq (jq ([jm 116 22,jm 117 8,je 118 117,jB 119 .lss 116 118])
 (jc 119 .skip (.exit 8))) (.seq (.block 9 (jq ([jk 23 0]) (.block 10 (.loop (.seq (jq ([jm 122 23,jm 123 8,je 124 123,jB 125 .lss 122 124]) (jc 125
 .skip (.exit 10))) (.seq (.block 11 (.seq (.drw [jL 129 1 11,jm 130 8,jm 131 23,jx 132 4 130 131,jL 133 4 132,.a 134 (.call (kC 12) [(.t 129),(.t
 133)]),jm 128 134,jE 135 0 128,jE 136 1 128,jE 137 2 128,.a 24 (.alloc 30 [jN]),.n (.store 1 (.t 24) (.t 135)),jm 25 136,jm 26 137] [0,0,0,
 6,14,31,63,127,127,127,0,1279,3583,8191]) (jq ([jm 138 26,jb 139 .eql 138 0]) (jc 139 (.ops [jL 140 1 24,.n (.store 1 (.t 11) (.t 140))])
 .skip)))) (.ops [jm 126 23,jb 127 .add 126 1,jm 23 127]))))))) (.ops [jm 120 22,jb 121 .add 120 1,jm 22 121])))))) (.seq (jq ((ap [jL 141 1 10,jL
 142 1 11,.a 143 (.call (kC 14) [(.t 141),(.t 142)])] (ap [.a 144 (.unot (.t 143)),jm 145 144,jG 146 (.loadA 1 (.t 10)) 145 false] (ap [jG 147
 (.call (kC 20) [(.t 146)]) 145 false] [jG 148 (.unot (.t 147)) 145 false,.a 149 (.pick (.t 145) kT (.t 148))])))) (jc 149 (jq ([.a 6 (.mv kF)]) .ret)
 .skip)) (jq ((ap [jL 150 1 10,.a 151 (.call (kC 18) [(.t 150)])] [jm 27 151])) (.seq (jq ([jk 28 0]) (.block 12 (.loop (.seq (jq ([jm 152 28,jo 153 0
 10,jl 154 153,je 155 154,jB 156 .lss 152 155]) (jc 156 .skip (.exit 12))) (.seq (.block 13 (jq ((ap [jo 160 0 10,jl 161 160,jm 162 28,jx 163 1
 161 162,jl 164 163,.a 165 (.call (kC 24) [(.t 164)])] [jm 159 165,jE 166 0 159,jE 167 1 159,.a 29 (.alloc 65 [jI,jI,jI,jI,jF,jN,jN,jN,
 jN]),.n (.store 9 (.t 29) (.t 166)),jm 30 167])) (.seq (.drw [jm 168 30,jb 169 .neq 168 0,jm 170 169,gO 171 0 10 170 false,gL 172 171 170 false,
 gM 173 28 170 false,jG 174 (.idx 1 (.t 172) (.t 173)) 170 false,gL 175 174 170 false,jG 176 (.call (kC 25) [(.t 175)]) 170 false,jG 177 (.unot (.t
 176)) 170 false,.a 178 (.pick (.t 170) kT (.t 177)),jm 179 178,gM 180 28 179 false,jG 181 (.bin .gtr (.t 180) (kI 0)) 179 false,gM 182 181 179
 false,gM 183 27 182 true,jG 184 (.call (kC 22) [(.t 183)]) 182 true,gO 185 0 10 182 true,gL 186 185 182 true,gM 187 28 182 true,jG 188 (.idx 1
 (.t 186) (.t 187)) 182 true,gL 189 188 182 true,jG 190 (.call (kC 22) [(.t 189)]) 182 true,jG 191 (.call (kC 26) [(.t 184),(.t 190)]) 182 true,jG
 192 (.bin .leq (.t 191) (kI 0)) 182 true,jG 193 (.pick (.t 182) (.t 192) kF) 179 false,.a 194 (.pick (.t 179) kT (.t 193))] [0,1,3,7,15,7,63,
 127,255,511,1023,2047,4095,8191,16383,32767,65535,32767,163839,32767,950271,1998847,4194303,8388607,16777215,33554431,67108863]) (jc
 194 (jq ([.a 6 (.mv kF)]) .ret) .skip)))) (.ops [jm 157 28,jb 158 .add 157 1,jm 28 158])))))) (jq ([.a 6 (.mv kT)]) .ret)))))))))))))
theorem f0D:Fn Tryz.prog 5 195 [.t 6] c0q:=.of Tryz.func5 (by kernel_rfl)
end Go.Proofs.YthjgmldnegaaiaaGreatDoor.Mir
