/- Lemmas for the proof. No condition. -/
import Derived.Test.YthjgmldnegaaiaaGreatDoorSl14
import Derived.Lib.LaidTab
import Derived.MakeChecks
import Derived.Shelf.SlIterI.Nil
import Derived.Shelf.SlIter.Nil
import Derived.Shelf.SortM.Plain
import Derived.Shelf.SortM.SortNone
import Derived.Ground.GgzProg
import Derived.Ground.SlgmProg
set_option linter.unusedVariables false
set_option linter.unusedSimpArgs false
namespace Go.Proofs.YthjgmldnegaaiaaGreatDoor.Mir
open Go Go.RowKit
set_option maxHeartbeats 4000000
theorem BrOk.take {l:List Ev}(h:BrOk l)(n:Nat):BrOk (l.take n):=⟨l0h h.fold,fun e he=>h.fit e (List.mem_of_mem_take he),fun e he=>h.sig e (List.mem_of_mem_take he)⟩
theorem c0k (l:List Ev)(hbr:BrOk l)(steps:List Rw)(defs:List Rd):Con Tryz.prog 37 [.f (fEv l),.f (fRw steps),.f (fR defs)] [] fun r H'=>r = .f (fEv (f0X l steps defs))∧H'=[]:=h0P l hbr steps defs
theorem s0t {H:List Row}{r n:Nat}{xs:List F}{l:List Ev}(hr:H[r]?=some (.data 73 xs))(hx:xs=l.flatMap Ev.cs)(hn:n=l.length):Vw H (.sl r 0 n) (.f (fEv l)):=by
 subst hx;subst hn
 exact .sl hr (fun e=>by rw [List.eq_nil_of_length_eq_zero e];rfl)
def hdT (hd:List Ev):Int:=if hd.length=0 then 0 else (gt hd (hd.length-1)).time
def h0Z (hd:List Ev)(at' v:Int)(defs:List Rd):Pn :=
 if (a0N s0 hd).2.id=0 then (b0l ⟨(a0N s0 hd).2,v,hdT hd,[]⟩ (c0Q defs)).2 else (a0v ⟨(a0N s0 hd).2,v,hdT hd,[]⟩ (a0o v++a0o at') []).2
def w0y (hd:List Ev)(at' v:Int)(steps:List Rw)(defs:List Rd):List Ev :=
 if newE hd v (hdT hd)=0 then (if (h0Z hd at' v defs).out.length=0 then hd else f0X (hd++(h0Z hd at' v defs).out) steps defs) else hd
def x0h (l:List Ev)(at' v:Int)(steps:List Rw)(defs:List Rd):List Ev:=w0y (l.take (pick at' (l.length+1)).toNat) at' v steps defs
theorem s0U {hd:List Ev}{at' v:Int}{defs:List Rd}(h:BrOk hd):PnT (a0N s0 hd).2 (h0Z hd at' v defs):=by
 unfold h0Z
 split
 ·exact v0l (h.pen _ _) ((c0B defs).1.fit (c0B defs).2.2)
 ·exact p0D (h.pen _ _) (z0m _ _) (by simp)
theorem c1D {hd:List Ev}{at' v:Int}{steps:List Rw}{defs:List Rd}(h:BrOk hd):BrOk (w0y hd at' v steps defs):=by
 unfold w0y
 split
 ·split
  ·exact h
  ·exact t0x (h.app (s0U h))
 ·exact h
theorem c1J {l:List Ev}{at' v:Int}{steps:List Rw}{defs:List Rd}(h:BrOk l):BrOk (x0h l at' v steps defs):=c1D (h.take _)
set_option maxRecDepth 100000 in
theorem n0h (l:List Ev)(hbr:BrOk l)(at' v:Int)(steps:List Rw)(defs:List Rd):Con Tryz.prog 57 [.f (fEv l),D.int at',D.int v,.f (fRw steps),.f (fR defs)] [] fun r H'=>r = .f (fEv (x0h l at' v steps defs))∧H'=[]:=by
 suffices hh:∀ Q:D→List Row→Prop,(∀ out,x0h l at' v steps defs=out→Q (.f (fEv out)) [])→Con Tryz.prog 57 [.f (fEv l),D.int at',D.int v,.f (fRw steps),.f (fR defs)] [] Q from hh _ fun out h=>⟨by rw [h],rfl⟩
 intro Q hQ
 have hF:x0h l at' v steps defs=w0y (l.take (pick at' (l.length+1)).toNat) at' v steps defs:=rfl
 have hll:=hbr.len
 have pk:=b0n (x:=at') (n:=l.length+1) (by omega)
 obtain ⟨c,hc⟩:∃ c:Nat,pick at' (l.length+1)=c:=⟨(pick at' (l.length+1)).toNat,by omega⟩
 have hcl:c≤l.length:=by omega
 have hs:∀ H:List Row,subS H 9 73 (.f (fEv l)) 0 c=some (.f (fEv (l.take c))):=fun H=>d0F hcl
 have hh:=hbr.take c
 rw [show (pick at' ((l.length:Int)+1)).toNat=c by omega] at hF
 generalize l.take c=hd at hs hh hF
 have hhl:=hh.len
 refine Con.walk good k0i (by simp) ?_
 unfold f0T
 simp only [a0K]
 have e1:((hd.length:Int)-1).toNat=hd.length-1:=by omega
 have htm:0<hd.length→0≤(gt hd (hd.length-1)).time∧(gt hd (hd.length-1)).time≤1099511627776:=fun hk=>by
  have:=rightE_iff.1 (hh.right (a0L (l:=hd) (k:=hd.length-1) (by omega)))
  exact ⟨this.2.2.2.1.1,this.2.2.2.1.2⟩
 have hname:(a0o v++a0o at').length≤1000000:=by have:=a0u v;have:=a0u at';rw [List.length_append];omega
 have hsz:(a0o v).length+(a0o at').length≤1000:=by have:=a0u v;have:=a0u at';omega
 refine HS.seq ?_
 repeat' (with_reducible first|refine Wa.h ?_|refine Wr.h ?_|refine Wb.h fun K hK=>?_|(refine hK _ ?_;clear hK K)|(refine wT ?_ ?_;assumption)|(refine wF ?_ ?_;assumption)|(refine Wy.h ?_ ?_;kernel_rfl)|refine Wq.h ?_ ?_<;>intro h<;>try (exfalso;omega)|refine Wu.h ?_ ?_<;>intro h<;>try simp only [h]|((fail_if_success refine Wz.h ?_);first|simp (disch:=omega) only [↓LD,LA,a0A,seval]|(refine And.intro ?_ ?_;omega)|simp only [D.int,D.bool]))
 refine HS.seq ?_
 repeat' (with_reducible first|refine Wa.h ?_|refine Wr.h ?_|refine Wb.h fun K hK=>?_|(refine hK _ ?_;clear hK K)|(refine wT ?_ ?_;assumption)|(refine wF ?_ ?_;assumption)|(refine Wy.h ?_ ?_;kernel_rfl)|refine Wq.h ?_ ?_<;>intro h<;>try (exfalso;omega)|refine Wu.h ?_ ?_<;>intro h<;>try simp only [h]|((fail_if_success refine Wz.h ?_);first|simp (disch:=omega) only [↓LD,LA,a0A,seval,LEv,hc,hs,a0J,Int.toNat_natCast]|(refine And.intro ?_ ?_;omega)|simp only [D.int,D.bool]))
 ·(obtain rfl:=List.eq_nil_of_length_eq_zero h)
  have hnw:hdT ([]:List Ev)=0:=rfl
  unfold w0y at hF
  rw [hnw] at hF
  refine HS.view (View.sweep (keep:=[1,2,3,4,10,11]) (s':=⟨frm 77 [(1,D.int at'),(2,D.int v),(3,.f (fRw steps)),(4,.f (fR defs)),(10,jN),(11,.sl 0 0 (List.length ([]:List Ev)))],[rEv ([]:List Ev)],[]⟩) (by kernel_rfl)) ?_
  repeat' (with_reducible first|refine Wx.h ?_|refine Wb.h fun K hK=>?_|(refine hK _ ?_;clear hK K)|(refine wT ?_ ?_;assumption)|(refine wF ?_ ?_;assumption)|(refine Wy.h ?_ ?_;kernel_rfl)|refine Wq.h ?_ ?_<;>intro h<;>try (exfalso;omega)|refine Wu.h ?_ ?_<;>intro h<;>try simp only [h]|((fail_if_success refine Wz.h ?_);first|simp (disch:=omega) only [↓LD,LA,a0A,seval,rEv,n0x,e1,a0J,Ev.cs]|(refine And.intro ?_ ?_;omega)|simp only [D.int,D.bool]))
  refine a0F (e0S ([]:List Ev) v 0 (by omega) hh.fit) [0] (by kernel_rfl) rfl rfl ?_
  rintro _ _ ⟨hq1,hq2⟩
  by_cases hn:newE ([]:List Ev) v 0=0
  rotate_left
  ·obtain ⟨rfl,rfl⟩:=hq1 hn
   simp (disch:=omega) only [↓LD,LA,a0A,seval,ren,List.getElem?_nil,rEv]
   repeat' (with_reducible first|refine Wx.h ?_|refine Wb.h fun K hK=>?_|(refine hK _ ?_;clear hK K)|(refine wT ?_ ?_;assumption)|(refine wF ?_ ?_;assumption)|(refine Wy.h ?_ ?_;kernel_rfl)|refine Wq.h ?_ ?_<;>intro h<;>try (exfalso;omega)|refine Wu.h ?_ ?_<;>intro h<;>try simp only [h]|((fail_if_success refine Wz.h ?_);first|simp (disch:=omega) only [↓LD,LA,a0A,seval,rEv]|(refine And.intro ?_ ?_;omega)|simp only [D.int,D.bool]))
   exact end1 rfl rfl (by kernel_rfl) (.sl (T:=73) (xs:=List.flatMap Ev.cs ([]:List Ev)) rfl (fun e=>by first|rfl|(rw [List.eq_nil_of_length_eq_zero e];rfl))) (hQ ([]:List Ev) (by rw [hF,if_neg hn]))
  obtain ⟨rfl,rfl⟩:=hq2 hn
  have hp':=s0U (at':=at') (v:=v) (defs:=defs) hh
  rw [if_pos hn] at hF
  have hok:=hh.ok
  by_cases hz:(a0N s0 ([]:List Ev)).2.id=0
  ·simp (disch:=omega) only [↓LD,LA,a0A,seval,ren,List.getElem?_nil,rEv,pnB,pnD]
   repeat' (with_reducible first|refine Wx.h ?_|refine Wb.h fun K hK=>?_|(refine hK _ ?_;clear hK K)|(refine wT ?_ ?_;assumption)|(refine wF ?_ ?_;assumption)|(refine Wy.h ?_ ?_;kernel_rfl)|refine Wq.h ?_ ?_<;>intro h<;>try (exfalso;omega)|refine Wu.h ?_ ?_<;>intro h<;>try simp only [h]|((fail_if_success refine Wz.h ?_);first|simp (disch:=omega) only [↓LD,LA,a0A,seval,rEv,pnB,pnD]|(refine And.intro ?_ ?_;omega)|simp only [D.int,D.bool]))
   have hfp:h0Z ([]:List Ev) at' v defs=(b0l ⟨(a0N s0 ([]:List Ev)).2,v,0,[]⟩ (c0Q defs)).2:=by unfold h0Z;rw [if_pos hz,hnw]
   rw [hfp] at hF hp'
   refine a0F (d0P defs) [] (by kernel_rfl) rfl rfl ?_
   rintro _ _ ⟨rfl,rfl⟩
   simp (disch:=omega) only [↓LD,LA,a0A,seval,ren,List.getElem?_nil]
   repeat' (with_reducible first|refine Wx.h ?_|refine Wb.h fun K hK=>?_|(refine hK _ ?_;clear hK K)|(refine wT ?_ ?_;assumption)|(refine wF ?_ ?_;assumption)|(refine Wy.h ?_ ?_;kernel_rfl)|refine Wq.h ?_ ?_<;>intro h<;>try (exfalso;omega)|refine Wu.h ?_ ?_<;>intro h<;>try simp only [h]|((fail_if_success refine Wz.h ?_);first|simp (disch:=omega) only [↓LD,LA,a0A,seval,rEv]|(refine And.intro ?_ ?_;omega)|simp only [D.int,D.bool]))
   refine a0F (e0p ⟨(a0N s0 ([]:List Ev)).2,v,0,[]⟩ (c0Q defs) hok (by simp) ((c0B defs).1.fit (c0B defs).2.2)) [1] (by kernel_rfl) rfl rfl ?_
   rintro _ _ ⟨rfl,rfl⟩
   generalize b0l ⟨(a0N s0 ([]:List Ev)).2,v,0,[]⟩ (c0Q defs)=p at *
   obtain ⟨x,p'⟩:=p
   dsimp only at hp' hF ⊢
   clear hfp
   have hpl:=hp'.ok.len
   have hap:=hh.app hp'
   simp (disch:=omega) only [↓LD,LA,a0A,seval,ren,List.getElem?_nil,rEv,pnB,pnD]
   repeat' (with_reducible first|refine Wx.h ?_|refine Wb.h fun K hK=>?_|(refine hK _ ?_;clear hK K)|(refine wT ?_ ?_;assumption)|(refine wF ?_ ?_;assumption)|(refine Wy.h ?_ ?_;kernel_rfl)|refine Wq.h ?_ ?_<;>intro h<;>try (exfalso;omega)|refine Wu.h ?_ ?_<;>intro h<;>try simp only [h]|((fail_if_success refine Wz.h ?_);first|simp (disch:=omega) only [↓LD,LA,a0A,seval,rEv,LEv,a0J]|(refine And.intro ?_ ?_;omega)|simp only [D.int,D.bool]))
   ·exact end1 rfl rfl (by kernel_rfl) (.sl (T:=73) (xs:=List.flatMap Ev.cs ([]:List Ev)) rfl (fun e=>by first|rfl|(rw [List.eq_nil_of_length_eq_zero e];rfl))) (hQ ([]:List Ev) (by rw [hF,if_pos (by omega)]))
   refine e0K [2] (args0:=[.f (fEv (([]:List Ev)++p'.out)),.f (fRw steps),.f (fR defs)]) (.cons ?_ (.cons .f (.cons .f .nil))) ?_
   ·exact s0t rfl (by rw [List.flatMap_append]) (by simp)
   refine a0F (c0k (([]:List Ev)++p'.out) hap steps defs) [] (by kernel_rfl) rfl rfl ?_
   rintro _ _ ⟨rfl,rfl⟩
   simp (disch:=omega) only [↓LD,LA,a0A,seval,ren,List.getElem?_nil]
   repeat' (with_reducible first|refine Wx.h ?_|refine Wb.h fun K hK=>?_|(refine hK _ ?_;clear hK K)|(refine wT ?_ ?_;assumption)|(refine wF ?_ ?_;assumption)|(refine Wy.h ?_ ?_;kernel_rfl)|refine Wq.h ?_ ?_<;>intro h<;>try (exfalso;omega)|refine Wu.h ?_ ?_<;>intro h<;>try simp only [h]|((fail_if_success refine Wz.h ?_);first|simp (disch:=omega) only [↓LD,LA,a0A,seval]|(refine And.intro ?_ ?_;omega)|simp only [D.int,D.bool]))
   exact end1 rfl rfl (by kernel_rfl) .f (hQ _ (by rw [hF,if_neg (by omega)];try rfl))
  ·have hfp:h0Z ([]:List Ev) at' v defs=(a0v ⟨(a0N s0 ([]:List Ev)).2,v,0,[]⟩ (a0o v++a0o at') []).2:=by unfold h0Z;rw [if_neg hz,hnw]
   rw [hfp] at hF hp'
   simp (disch:=omega) only [↓LD,LA,a0A,seval,ren,List.getElem?_nil,rEv,pnB,pnD]
   repeat' (with_reducible first|refine Wx.h ?_|refine Wb.h fun K hK=>?_|(refine hK _ ?_;clear hK K)|(refine wT ?_ ?_;assumption)|(refine wF ?_ ?_;assumption)|(refine Wy.h ?_ ?_;kernel_rfl)|refine Wq.h ?_ ?_<;>intro h<;>try (exfalso;omega)|refine Wu.h ?_ ?_<;>intro h<;>try simp only [h]|((fail_if_success refine Wz.h ?_);first|simp (disch:=omega) only [↓LD,LA,a0A,seval,rEv,pnB,pnD,b1L]|(refine And.intro ?_ ?_;omega)|simp only [D.int,D.bool]))
   refine d0I (args0:=[.pt 1 0,.f (.v (.string (BB (a0o v++a0o at')))),.f (fY [])]) ?_ (.cons .refl (.cons .refl (.cons (.f .ns) .nil)))
   refine a0F (e0F ⟨(a0N s0 ([]:List Ev)).2,v,0,[]⟩ (a0o v++a0o at') [] hok (by simp) hname (by simp)) [1] (by kernel_rfl) rfl rfl ?_
   rintro _ _ ⟨rfl,rfl⟩
   generalize a0v ⟨(a0N s0 ([]:List Ev)).2,v,0,[]⟩ (a0o v++a0o at') []=p at *
   obtain ⟨x,p'⟩:=p
   dsimp only at hp' hF ⊢
   clear hfp
   have hpl:=hp'.ok.len
   have hap:=hh.app hp'
   simp (disch:=omega) only [↓LD,LA,a0A,seval,ren,List.getElem?_nil,rEv,pnB,pnD,duo]
   repeat' (with_reducible first|refine Wx.h ?_|refine Wb.h fun K hK=>?_|(refine hK _ ?_;clear hK K)|(refine wT ?_ ?_;assumption)|(refine wF ?_ ?_;assumption)|(refine Wy.h ?_ ?_;kernel_rfl)|refine Wq.h ?_ ?_<;>intro h<;>try (exfalso;omega)|refine Wu.h ?_ ?_<;>intro h<;>try simp only [h]|((fail_if_success refine Wz.h ?_);first|simp (disch:=omega) only [↓LD,LA,a0A,seval,rEv,LEv,a0J]|(refine And.intro ?_ ?_;omega)|simp only [D.int,D.bool]))
   ·exact end1 rfl rfl (by kernel_rfl) (.sl (T:=73) (xs:=List.flatMap Ev.cs ([]:List Ev)) rfl (fun e=>by first|rfl|(rw [List.eq_nil_of_length_eq_zero e];rfl))) (hQ ([]:List Ev) (by rw [hF,if_pos (by omega)]))
   refine e0K [2] (args0:=[.f (fEv (([]:List Ev)++p'.out)),.f (fRw steps),.f (fR defs)]) (.cons ?_ (.cons .f (.cons .f .nil))) ?_
   ·exact s0t rfl (by rw [List.flatMap_append]) (by simp)
   refine a0F (c0k (([]:List Ev)++p'.out) hap steps defs) [] (by kernel_rfl) rfl rfl ?_
   rintro _ _ ⟨rfl,rfl⟩
   simp (disch:=omega) only [↓LD,LA,a0A,seval,ren,List.getElem?_nil]
   repeat' (with_reducible first|refine Wx.h ?_|refine Wb.h fun K hK=>?_|(refine hK _ ?_;clear hK K)|(refine wT ?_ ?_;assumption)|(refine wF ?_ ?_;assumption)|(refine Wy.h ?_ ?_;kernel_rfl)|refine Wq.h ?_ ?_<;>intro h<;>try (exfalso;omega)|refine Wu.h ?_ ?_<;>intro h<;>try simp only [h]|((fail_if_success refine Wz.h ?_);first|simp (disch:=omega) only [↓LD,LA,a0A,seval]|(refine And.intro ?_ ?_;omega)|simp only [D.int,D.bool]))
   exact end1 rfl rfl (by kernel_rfl) .f (hQ _ (by rw [hF,if_neg (by omega)];try rfl))
 ·(have htm:=htm (by omega))
  have hnw:hdT hd=(gt hd (hd.length-1)).time:=if_neg h
  unfold w0y at hF
  rw [hnw] at hF
  refine HS.view (View.sweep (keep:=[1,2,3,4,10,11]) (s':=⟨frm 77 [(1,D.int at'),(2,D.int v),(3,.f (fRw steps)),(4,.f (fR defs)),(10,jN),(11,.sl 0 0 (List.length hd))],[rEv hd],[]⟩) (by kernel_rfl)) ?_
  repeat' (with_reducible first|refine Wx.h ?_|refine Wb.h fun K hK=>?_|(refine hK _ ?_;clear hK K)|(refine wT ?_ ?_;assumption)|(refine wF ?_ ?_;assumption)|(refine Wy.h ?_ ?_;kernel_rfl)|refine Wq.h ?_ ?_<;>intro h<;>try (exfalso;omega)|refine Wu.h ?_ ?_<;>intro h<;>try simp only [h]|((fail_if_success refine Wz.h ?_);first|simp (disch:=omega) only [↓LD,LA,a0A,seval,rEv,n0x,e1,a0J,Ev.cs]|(refine And.intro ?_ ?_;omega)|simp only [D.int,D.bool]))
  refine a0F (e0S hd v (gt hd (hd.length-1)).time (by omega) hh.fit) [0] (by kernel_rfl) rfl rfl ?_
  rintro _ _ ⟨hq1,hq2⟩
  by_cases hn:newE hd v (gt hd (hd.length-1)).time=0
  rotate_left
  ·obtain ⟨rfl,rfl⟩:=hq1 hn
   simp (disch:=omega) only [↓LD,LA,a0A,seval,ren,List.getElem?_nil,rEv]
   repeat' (with_reducible first|refine Wx.h ?_|refine Wb.h fun K hK=>?_|(refine hK _ ?_;clear hK K)|(refine wT ?_ ?_;assumption)|(refine wF ?_ ?_;assumption)|(refine Wy.h ?_ ?_;kernel_rfl)|refine Wq.h ?_ ?_<;>intro h<;>try (exfalso;omega)|refine Wu.h ?_ ?_<;>intro h<;>try simp only [h]|((fail_if_success refine Wz.h ?_);first|simp (disch:=omega) only [↓LD,LA,a0A,seval,rEv]|(refine And.intro ?_ ?_;omega)|simp only [D.int,D.bool]))
   exact end1 rfl rfl (by kernel_rfl) (.sl (T:=73) (xs:=List.flatMap Ev.cs hd) rfl (fun e=>by first|rfl|(rw [List.eq_nil_of_length_eq_zero e];rfl))) (hQ hd (by rw [hF,if_neg hn]))
  obtain ⟨rfl,rfl⟩:=hq2 hn
  have hp':=s0U (at':=at') (v:=v) (defs:=defs) hh
  rw [if_pos hn] at hF
  have hok:=hh.ok
  by_cases hz:(a0N s0 hd).2.id=0
  ·simp (disch:=omega) only [↓LD,LA,a0A,seval,ren,List.getElem?_nil,rEv,pnB,pnD]
   repeat' (with_reducible first|refine Wx.h ?_|refine Wb.h fun K hK=>?_|(refine hK _ ?_;clear hK K)|(refine wT ?_ ?_;assumption)|(refine wF ?_ ?_;assumption)|(refine Wy.h ?_ ?_;kernel_rfl)|refine Wq.h ?_ ?_<;>intro h<;>try (exfalso;omega)|refine Wu.h ?_ ?_<;>intro h<;>try simp only [h]|((fail_if_success refine Wz.h ?_);first|simp (disch:=omega) only [↓LD,LA,a0A,seval,rEv,pnB,pnD]|(refine And.intro ?_ ?_;omega)|simp only [D.int,D.bool]))
   have hfp:h0Z hd at' v defs=(b0l ⟨(a0N s0 hd).2,v,(gt hd (hd.length-1)).time,[]⟩ (c0Q defs)).2:=by unfold h0Z;rw [if_pos hz,hnw]
   rw [hfp] at hF hp'
   refine a0F (d0P defs) [] (by kernel_rfl) rfl rfl ?_
   rintro _ _ ⟨rfl,rfl⟩
   simp (disch:=omega) only [↓LD,LA,a0A,seval,ren,List.getElem?_nil]
   repeat' (with_reducible first|refine Wx.h ?_|refine Wb.h fun K hK=>?_|(refine hK _ ?_;clear hK K)|(refine wT ?_ ?_;assumption)|(refine wF ?_ ?_;assumption)|(refine Wy.h ?_ ?_;kernel_rfl)|refine Wq.h ?_ ?_<;>intro h<;>try (exfalso;omega)|refine Wu.h ?_ ?_<;>intro h<;>try simp only [h]|((fail_if_success refine Wz.h ?_);first|simp (disch:=omega) only [↓LD,LA,a0A,seval,rEv]|(refine And.intro ?_ ?_;omega)|simp only [D.int,D.bool]))
   refine a0F (e0p ⟨(a0N s0 hd).2,v,(gt hd (hd.length-1)).time,[]⟩ (c0Q defs) hok (by simp) ((c0B defs).1.fit (c0B defs).2.2)) [1] (by kernel_rfl) rfl rfl ?_
   rintro _ _ ⟨rfl,rfl⟩
   generalize b0l ⟨(a0N s0 hd).2,v,(gt hd (hd.length-1)).time,[]⟩ (c0Q defs)=p at *
   obtain ⟨x,p'⟩:=p
   dsimp only at hp' hF ⊢
   clear hfp
   have hpl:=hp'.ok.len
   have hap:=hh.app hp'
   simp (disch:=omega) only [↓LD,LA,a0A,seval,ren,List.getElem?_nil,rEv,pnB,pnD]
   repeat' (with_reducible first|refine Wx.h ?_|refine Wb.h fun K hK=>?_|(refine hK _ ?_;clear hK K)|(refine wT ?_ ?_;assumption)|(refine wF ?_ ?_;assumption)|(refine Wy.h ?_ ?_;kernel_rfl)|refine Wq.h ?_ ?_<;>intro h<;>try (exfalso;omega)|refine Wu.h ?_ ?_<;>intro h<;>try simp only [h]|((fail_if_success refine Wz.h ?_);first|simp (disch:=omega) only [↓LD,LA,a0A,seval,rEv,LEv,a0J]|(refine And.intro ?_ ?_;omega)|simp only [D.int,D.bool]))
   ·exact end1 rfl rfl (by kernel_rfl) (.sl (T:=73) (xs:=List.flatMap Ev.cs hd) rfl (fun e=>by first|rfl|(rw [List.eq_nil_of_length_eq_zero e];rfl))) (hQ hd (by rw [hF,if_pos (by omega)]))
   refine e0K [2] (args0:=[.f (fEv (hd++p'.out)),.f (fRw steps),.f (fR defs)]) (.cons ?_ (.cons .f (.cons .f .nil))) ?_
   ·exact s0t rfl (by rw [List.flatMap_append]) (by simp)
   refine a0F (c0k (hd++p'.out) hap steps defs) [] (by kernel_rfl) rfl rfl ?_
   rintro _ _ ⟨rfl,rfl⟩
   simp (disch:=omega) only [↓LD,LA,a0A,seval,ren,List.getElem?_nil]
   repeat' (with_reducible first|refine Wx.h ?_|refine Wb.h fun K hK=>?_|(refine hK _ ?_;clear hK K)|(refine wT ?_ ?_;assumption)|(refine wF ?_ ?_;assumption)|(refine Wy.h ?_ ?_;kernel_rfl)|refine Wq.h ?_ ?_<;>intro h<;>try (exfalso;omega)|refine Wu.h ?_ ?_<;>intro h<;>try simp only [h]|((fail_if_success refine Wz.h ?_);first|simp (disch:=omega) only [↓LD,LA,a0A,seval]|(refine And.intro ?_ ?_;omega)|simp only [D.int,D.bool]))
   exact end1 rfl rfl (by kernel_rfl) .f (hQ _ (by rw [hF,if_neg (by omega)];try rfl))
  ·have hfp:h0Z hd at' v defs=(a0v ⟨(a0N s0 hd).2,v,(gt hd (hd.length-1)).time,[]⟩ (a0o v++a0o at') []).2:=by unfold h0Z;rw [if_neg hz,hnw]
   rw [hfp] at hF hp'
   simp (disch:=omega) only [↓LD,LA,a0A,seval,ren,List.getElem?_nil,rEv,pnB,pnD]
   repeat' (with_reducible first|refine Wx.h ?_|refine Wb.h fun K hK=>?_|(refine hK _ ?_;clear hK K)|(refine wT ?_ ?_;assumption)|(refine wF ?_ ?_;assumption)|(refine Wy.h ?_ ?_;kernel_rfl)|refine Wq.h ?_ ?_<;>intro h<;>try (exfalso;omega)|refine Wu.h ?_ ?_<;>intro h<;>try simp only [h]|((fail_if_success refine Wz.h ?_);first|simp (disch:=omega) only [↓LD,LA,a0A,seval,rEv,pnB,pnD,b1L]|(refine And.intro ?_ ?_;omega)|simp only [D.int,D.bool]))
   refine d0I (args0:=[.pt 1 0,.f (.v (.string (BB (a0o v++a0o at')))),.f (fY [])]) ?_ (.cons .refl (.cons .refl (.cons (.f .ns) .nil)))
   refine a0F (e0F ⟨(a0N s0 hd).2,v,(gt hd (hd.length-1)).time,[]⟩ (a0o v++a0o at') [] hok (by simp) hname (by simp)) [1] (by kernel_rfl) rfl rfl ?_
   rintro _ _ ⟨rfl,rfl⟩
   generalize a0v ⟨(a0N s0 hd).2,v,(gt hd (hd.length-1)).time,[]⟩ (a0o v++a0o at') []=p at *
   obtain ⟨x,p'⟩:=p
   dsimp only at hp' hF ⊢
   clear hfp
   have hpl:=hp'.ok.len
   have hap:=hh.app hp'
   simp (disch:=omega) only [↓LD,LA,a0A,seval,ren,List.getElem?_nil,rEv,pnB,pnD,duo]
   repeat' (with_reducible first|refine Wx.h ?_|refine Wb.h fun K hK=>?_|(refine hK _ ?_;clear hK K)|(refine wT ?_ ?_;assumption)|(refine wF ?_ ?_;assumption)|(refine Wy.h ?_ ?_;kernel_rfl)|refine Wq.h ?_ ?_<;>intro h<;>try (exfalso;omega)|refine Wu.h ?_ ?_<;>intro h<;>try simp only [h]|((fail_if_success refine Wz.h ?_);first|simp (disch:=omega) only [↓LD,LA,a0A,seval,rEv,LEv,a0J]|(refine And.intro ?_ ?_;omega)|simp only [D.int,D.bool]))
   ·exact end1 rfl rfl (by kernel_rfl) (.sl (T:=73) (xs:=List.flatMap Ev.cs hd) rfl (fun e=>by first|rfl|(rw [List.eq_nil_of_length_eq_zero e];rfl))) (hQ hd (by rw [hF,if_pos (by omega)]))
   refine e0K [2] (args0:=[.f (fEv (hd++p'.out)),.f (fRw steps),.f (fR defs)]) (.cons ?_ (.cons .f (.cons .f .nil))) ?_
   ·exact s0t rfl (by rw [List.flatMap_append]) (by simp)
   refine a0F (c0k (hd++p'.out) hap steps defs) [] (by kernel_rfl) rfl rfl ?_
   rintro _ _ ⟨rfl,rfl⟩
   simp (disch:=omega) only [↓LD,LA,a0A,seval,ren,List.getElem?_nil]
   repeat' (with_reducible first|refine Wx.h ?_|refine Wb.h fun K hK=>?_|(refine hK _ ?_;clear hK K)|(refine wT ?_ ?_;assumption)|(refine wF ?_ ?_;assumption)|(refine Wy.h ?_ ?_;kernel_rfl)|refine Wq.h ?_ ?_<;>intro h<;>try (exfalso;omega)|refine Wu.h ?_ ?_<;>intro h<;>try simp only [h]|((fail_if_success refine Wz.h ?_);first|simp (disch:=omega) only [↓LD,LA,a0A,seval]|(refine And.intro ?_ ?_;omega)|simp only [D.int,D.bool]))
   exact end1 rfl rfl (by kernel_rfl) .f (hQ _ (by rw [hF,if_neg (by omega)];try rfl))
instance {steps:List Rw}{defs:List Rd}{H:List Row}{K:Bool→D→List Row→Prop}:Wa (a0e Tryz.prog (.fn 9 []) [.f (fRw steps),.f (fR defs)] H K) (K true (.f (fEv (f0X [] steps defs))) H):=⟨fun h=>a0M (k0r steps defs) rfl rfl rfl h⟩
instance {l:List Ev}{at' v:Int}{steps:List Rw}{defs:List Rd}{H:List Row}{K:Bool→D→List Row→Prop}[hl:Kn (BrOk l)]:Wa (a0e Tryz.prog (.fn 57 []) [.f (fEv l),.f (.v (.int .i64 at')),.f (.v (.int .i64 v)),.f (fRw steps),.f (fR defs)] H K) (K true (.f (fEv (x0h l at' v steps defs))) H):=⟨fun h=>a0M (n0h l hl.h at' v steps defs) rfl rfl rfl h⟩
def fSs (s:List (List Rw)):F:=.s (s.map fRw) s.length
theorem t0y {g:List (List Rw)}:slcS (.f (fSs g))=some g.length:=id rfl
theorem w0D {g:List (List Rw)}{sz:Nat}{k:IntKind}{i:Int}{K:D→Prop}:idxS sz (.f (fSs g)) (.f (.v (.int k i))) K=((0≤i∧i<g.length)∧K (.rf ((g.map fRw).drop (i.toNat*sz)))):=id rfl
theorem LSs:type_of% @t0y∧type_of% @w0D:=⟨@t0y,@w0D⟩
def lnD (s:List (List Rw))(a:List Int)(d:List Rd):D:=.ag [.f (fSs s),.f (fI a),.f (fR d)]
def brI (s:List (List Rw))(a:List Int)(d:List Rd)(i:Nat)(out:Br)(v:Int):List Ev :=
 if i=0 then f0X [] (gt s 0) d else x0h (gt out (pick (IntKind.i64.wrap (i*7+a.length)) out.length).toNat) (if i<a.length then gt a i else 0) (verL v (IntKind.i64.wrap (1+(i:Int).tmod 2))) (gt s i) d
def brV (v:Int)(b:List Ev):Int:=if 0<b.length then max v (gt b (b.length-1)).ver else v
def brA (s:List (List Rw))(a:List Int)(d:List Rd):Nat→Nat→Br→Int→Br
 | 0,_,out,_=>out
 | f+1,i,out,v=>if i<s.length then brA s a d f (i+1) (out++[brI s a d i out v]) (brV v (brI s a d i out v)) else out
def b0V (s:List (List Rw))(a:List Int)(d:List Rd):Br:=brA s a d 5 0 [] 0
theorem e1G {s:List (List Rw)}{a:List Int}{d:List Rd}{f i:Nat}{out:Br}{v:Int}(h:f=0∨¬ i<s.length):brA s a d f i out v=out:=by
 cases f with
 | zero=>rfl
 | succ f=>rw [brA,if_neg (by omega)]
theorem d1G {s:List (List Rw)}{a:List Int}{d:List Rd}{i:Nat}{out:Br}{v:Int}(ho:out.length=i)(hb:∀ b∈out,BrOk b):BrOk (brI s a d i out v):=by
 unfold brI
 split
 ·exact t0x BrOk.nil
 ·have pk:=b0n (x:=IntKind.i64.wrap (i*7+a.length)) (n:=out.length) (by omega)
  exact c1J (hb _ (a0L (by omega)))
theorem d1p {s:List (List Rw)}{a:List Int}{d:List Rd}:∀ {f i:Nat} {out:Br} {v:Int},out.length=i→(∀ b∈out,BrOk b)→(∀ b∈brA s a d f i out v,BrOk b)∧(brA s a d f i out v).length≤i+f
 | 0,i,out,v,ho,hb=>⟨hb,by rw [brA];omega⟩
 | f+1,i,out,v,ho,hb=>by
  rw [brA]
  split
  ·have:=d1p (s:=s) (a:=a) (d:=d) (f:=f) (i:=i+1) (out:=out++[brI s a d i out v]) (v:=brV v (brI s a d i out v)) (by simp [ho]) (fun b h=>by
    rcases List.mem_append.1 h with h|h
    ·exact hb b h
    ·rw [List.mem_singleton.1 h];exact d1G ho hb)
   exact ⟨this.1,by omega⟩
  ·exact ⟨hb,by omega⟩
theorem g0e (s:List (List Rw))(a:List Int)(d:List Rd):(∀ b∈b0V s a d,BrOk b)∧(b0V s a d).length≤5:=by
 have:=d1p (s:=s) (a:=a) (d:=d) (f:=5) (i:=0) (out:=[]) (v:=0) rfl (fun b h=>by simp at h)
 exact ⟨this.1,by have:=this.2;unfold b0V;omega⟩
theorem f1m {H:List Row}{r n:Nat}{xs:List F}{t:Br}(hr:H[r]?=some (.data 25 xs))(hx:xs=t.map fEv)(hn:n=t.length):Vw H (.sl r 0 n) (.f (fBr t)):=by
 subst hx;subst hn
 exact .sl hr (fun e=>by rw [List.eq_nil_of_length_eq_zero e];rfl)
set_option maxRecDepth 100000 in
theorem k0O (s:List (List Rw))(a:List Int)(d:List Rd):Con Tryz.prog 23 [lnD s a d] [] fun r H'=>r = .f (fBr (b0V s a d))∧H'=[]:=by
 suffices hh:∀ Q:D→List Row→Prop,(∀ o,b0V s a d=o→Q (.f (fBr o)) [])→Con Tryz.prog 23 [lnD s a d] [] Q from hh _ fun o h=>⟨by rw [h],rfl⟩
 intro Q hQ
 refine Con.walk good h0g (by simp) ?_
 unfold d0n
 simp only [a0K,lnD]
 refine HS.seq ?_
 repeat' (with_reducible first|refine Wa.h ?_|refine Wr.h ?_|refine Wb.h fun K hK=>?_|(refine hK _ ?_;clear hK K)|(refine wT ?_ ?_;assumption)|(refine wF ?_ ?_;assumption)|(refine Wy.h ?_ ?_;kernel_rfl)|refine Wq.h ?_ ?_<;>intro h<;>try (exfalso;omega)|refine Wu.h ?_ ?_<;>intro h<;>try simp only [h]|((fail_if_success refine Wz.h ?_);first|simp (disch:=omega) only [↓LD,LA,a0A,seval]|(refine And.intro ?_ ?_;omega)|simp only [D.int,D.bool]))
 refine HS.seq ?_
 repeat' (with_reducible first|refine Wa.h ?_|refine Wr.h ?_|refine Wb.h fun K hK=>?_|(refine hK _ ?_;clear hK K)|(refine wT ?_ ?_;assumption)|(refine wF ?_ ?_;assumption)|(refine Wy.h ?_ ?_;kernel_rfl)|refine Wq.h ?_ ?_<;>intro h<;>try (exfalso;omega)|refine Wu.h ?_ ?_<;>intro h<;>try simp only [h]|((fail_if_success refine Wz.h ?_);first|simp (disch:=omega) only [↓LD,LA,a0A,seval]|(refine And.intro ?_ ?_;omega)|simp only [D.int,D.bool]))
 refine HS.view (View.void 25) ?_
 refine HS.view (View.slot 3 (.sl 1 0 0) (.no (Nat.lt_succ_self 1))) ?_
 repeat' (with_reducible first|refine Wx.h ?_|refine Wb.h fun K hK=>?_|(refine hK _ ?_;clear hK K)|(refine wT ?_ ?_;assumption)|(refine wF ?_ ?_;assumption)|(refine Wy.h ?_ ?_;kernel_rfl)|refine Wq.h ?_ ?_<;>intro h<;>try (exfalso;omega)|refine Wu.h ?_ ?_<;>intro h<;>try simp only [h]|((fail_if_success refine Wz.h ?_);first|simp (disch:=omega) only [↓LD,LA,a0A,seval]|(refine And.intro ?_ ?_;omega)|simp only [D.int,D.bool]))
 refine HS.loopG [1,3,4,5] (fun x:Nat × Br × Int=>⟨frm 91 [(1,.pt 0 0),(3,.sl 1 0 x.2.1.length),(4,D.int x.2.2),(5,D.int x.1)],[.box 48 [.f (fSs s),.f (fI a),.f (fR d)],.data 25 (x.2.1.map fEv)],[]⟩) (fun x=>x.1≤5∧x.2.1.length=x.1∧(∀ b∈x.2.1,BrOk b)∧(0≤x.2.2∧x.2.2≤1099511627776)∧b0V s a d=brA s a d (5-x.1) x.1 x.2.1 x.2.2) (fun x=>5-x.1) (0,[],0) (by kernel_rfl) ⟨Nat.zero_le _,rfl,fun b h=>by simp at h,⟨by decide,by decide⟩,rfl⟩ ?_
 rintro ⟨i,out,v⟩ ⟨hi,ho,hb,hv,hE⟩
 dsimp only at hi ho hb hv hE
 by_cases hil:i<s.length∧i<5
 rotate_left
 ·have hx:b0V s a d=out:=by rw [hE,e1G (by omega)]
  by_cases hil2:i<s.length
  ·have h5:i=5:=by omega
   subst h5
   repeat' (with_reducible first|refine Wx.h ?_|refine We.h fun K hK=>?_|refine Wd.h fun K M hK hM=>?_|(refine hK _ _ _ _ ?_;clear hK K;try clear hM M)|(refine hM ?_;clear hM M;try clear hK K)|refine Wb.h fun K hK=>?_|(refine hK _ ?_;clear hK K)|(refine wT ?_ ?_;assumption)|(refine wF ?_ ?_;assumption)|(refine Wy.h ?_ ?_;kernel_rfl)|refine Wq.h ?_ ?_<;>intro h<;>try (exfalso;omega)|refine Wu.h ?_ ?_<;>intro h<;>try simp only [h]|((fail_if_success refine Wz.h ?_);first|simp (disch:=omega) only [↓LD,LA,a0A,seval,LSs,LBr]|(refine And.intro ?_ ?_;omega)|simp only [D.int,D.bool]))
   exact end1 rfl rfl (by kernel_rfl) (f1m rfl rfl rfl) (hQ out hx)
  ·repeat' (with_reducible first|refine Wx.h ?_|refine We.h fun K hK=>?_|refine Wd.h fun K M hK hM=>?_|(refine hK _ _ _ _ ?_;clear hK K;try clear hM M)|(refine hM ?_;clear hM M;try clear hK K)|refine Wb.h fun K hK=>?_|(refine hK _ ?_;clear hK K)|(refine wT ?_ ?_;assumption)|(refine wF ?_ ?_;assumption)|(refine Wy.h ?_ ?_;kernel_rfl)|refine Wq.h ?_ ?_<;>intro h<;>try (exfalso;omega)|refine Wu.h ?_ ?_<;>intro h<;>try simp only [h]|((fail_if_success refine Wz.h ?_);first|simp (disch:=omega) only [↓LD,LA,a0A,seval,LSs,LBr]|(refine And.intro ?_ ?_;omega)|simp only [D.int,D.bool]))
   exact end1 rfl rfl (by kernel_rfl) (f1m rfl rfl rfl) (hQ out hx)
 obtain ⟨hil,hi5⟩:=hil
 have hbk:BrOk (brI s a d i out v):=d1G ho hb
 rw [show 5-i=(5-(i+1))+1 by omega,brA,if_pos hil] at hE
 have hbr:brI s a d i out v=brI s a d i out v:=rfl
 conv at hbr=>rhs;unfold brI
 have e2:(((out.length+1:Nat):Int)-1).toNat=out.length:=by omega
 generalize hbe:brI s a d i out v=b at *
 clear hbe
 have e3:(out.map fEv++[fEv b])[out.length]?=some (fEv b):=by rw [List.getElem?_append_right (by simp)];simp
 have e4:=d1o (l:=out) (x:=b)
 have hbl:=hbk.len
 have e1:((b.length:Int)-1).toNat=b.length-1:=by omega
 have hba:∀ x∈out++[b],BrOk x:=fun x h=>by
  rcases List.mem_append.1 h with h|h
  ·exact hb x h
  ·rw [List.mem_singleton.1 h];exact hbk
 have hvb:0<b.length→1≤(gt b (b.length-1)).ver∧(gt b (b.length-1)).ver≤1099511627776:=fun hk=>n0l (rightE_iff.1 (hbk.right (a0L (l:=b) (k:=b.length-1) (by omega)))).2.2.1
 have c1:=fun hk=>d0c (g:=b) (k:=b.length-1) hk
 unfold brV at hE
 by_cases hz:i=0
 ·rw [if_pos hz] at hbr
  subst hz
  repeat' (with_reducible first|refine Wx.h ?_|refine We.h fun K hK=>?_|refine Wd.h fun K M hK hM=>?_|(refine hK _ _ _ _ ?_;clear hK K;try clear hM M)|(refine hM ?_;clear hM M;try clear hK K)|refine Wb.h fun K hK=>?_|(refine hK _ ?_;clear hK K)|(refine wT ?_ ?_;assumption)|(refine wF ?_ ?_;assumption)|(refine Wy.h ?_ ?_;kernel_rfl)|refine Wq.h ?_ ?_<;>intro h<;>try (exfalso;omega)|refine Wu.h ?_ ?_<;>intro h<;>try simp only [h]|((fail_if_success refine Wz.h ?_);first|simp (disch:=omega) only [↓LD,LA,a0A,seval,LSs,LBr,←hbr,LEv,a0J,Ev.cs,List.length_map,e1,e2,e3,c1]|(refine And.intro ?_ ?_;omega)|simp only [D.int,D.bool]))
  ·rw [if_pos (by omega)] at hE
   have:=hvb (by omega)
   rw [e4,show out.length+1=(out++[b]).length by simp]
   exact Next.mk (0+1,out++[b],max v (gt b (b.length-1)).ver) (by kernel_rfl) ⟨by dsimp only;omega,by simp [ho],hba,⟨by dsimp only;omega,by dsimp only;omega⟩,hE⟩ (by dsimp only;omega)
  ·rw [if_neg (by omega)] at hE
   rw [e4,show out.length+1=(out++[b]).length by simp]
   exact Next.mk (0+1,out++[b],v) (by kernel_rfl) ⟨by dsimp only;omega,by simp [ho],hba,hv,hE⟩ (by dsimp only;omega)
 rw [if_neg hz] at hbr
 have pk:=b0n (x:=IntKind.i64.wrap (i*7+a.length)) (n:=out.length) (by omega)
 haveI:Kn (BrOk (gt out (pick (IntKind.i64.wrap (i*7+a.length)) out.length).toNat)):=⟨hb _ (a0L (by omega))⟩
 by_cases hia:i<a.length
 ·rw [if_pos hia] at hbr
  repeat' (with_reducible first|refine Wx.h ?_|refine We.h fun K hK=>?_|refine Wd.h fun K M hK hM=>?_|(refine hK _ _ _ _ ?_;clear hK K;try clear hM M)|(refine hM ?_;clear hM M;try clear hK K)|refine Wb.h fun K hK=>?_|(refine hK _ ?_;clear hK K)|(refine wT ?_ ?_;assumption)|(refine wF ?_ ?_;assumption)|(refine Wy.h ?_ ?_;kernel_rfl)|refine Wq.h ?_ ?_<;>intro h<;>try (exfalso;omega)|refine Wu.h ?_ ?_<;>intro h<;>try simp only [h]|((fail_if_success refine Wz.h ?_);first|simp (disch:=omega) only [↓LD,LA,a0A,seval,LSs,LBr,←hbr,LEv,a0J,Ev.cs,List.length_map,e1,e2,e3,c1]|(refine And.intro ?_ ?_;omega)|simp only [D.int,D.bool]))
  ·rw [if_pos (by omega)] at hE
   have:=hvb (by omega)
   rw [e4,show out.length+1=(out++[b]).length by simp]
   exact Next.mk (i+1,out++[b],max v (gt b (b.length-1)).ver) (by kernel_rfl) ⟨by dsimp only;omega,by simp [ho],hba,⟨by dsimp only;omega,by dsimp only;omega⟩,hE⟩ (by dsimp only;omega)
  ·rw [if_neg (by omega)] at hE
   rw [e4,show out.length+1=(out++[b]).length by simp]
   exact Next.mk (i+1,out++[b],v) (by kernel_rfl) ⟨by dsimp only;omega,by simp [ho],hba,hv,hE⟩ (by dsimp only;omega)
 have hw:IntKind.i64.wrap ((i:Int)*7+a.length)=(i:Int)*7+a.length:=t0O (by omega) (by omega)
 rw [if_neg hia,hw] at hbr
 rw [hw] at pk
 rw [hw] at this
 repeat' (with_reducible first|refine Wx.h ?_|refine We.h fun K hK=>?_|refine Wd.h fun K M hK hM=>?_|(refine hK _ _ _ _ ?_;clear hK K;try clear hM M)|(refine hM ?_;clear hM M;try clear hK K)|refine Wb.h fun K hK=>?_|(refine hK _ ?_;clear hK K)|(refine wT ?_ ?_;assumption)|(refine wF ?_ ?_;assumption)|(refine Wy.h ?_ ?_;kernel_rfl)|refine Wq.h ?_ ?_<;>intro h<;>try (exfalso;omega)|refine Wu.h ?_ ?_<;>intro h<;>try simp only [h]|((fail_if_success refine Wz.h ?_);first|simp (disch:=omega) only [↓LD,LA,a0A,seval,LSs,LBr,←hbr,LEv,a0J,Ev.cs,List.length_map,e1,e2,e3,c1]|(refine And.intro ?_ ?_;omega)|simp only [D.int,D.bool]))
 ·rw [if_pos (by omega)] at hE
  have:=hvb (by omega)
  rw [e4,show out.length+1=(out++[b]).length by simp]
  exact Next.mk (i+1,out++[b],max v (gt b (b.length-1)).ver) (by kernel_rfl) ⟨by dsimp only;omega,by simp [ho],hba,⟨by dsimp only;omega,by dsimp only;omega⟩,hE⟩ (by dsimp only;omega)
 ·rw [if_neg (by omega)] at hE
  rw [e4,show out.length+1=(out++[b]).length by simp]
  exact Next.mk (i+1,out++[b],v) (by kernel_rfl) ⟨by dsimp only;omega,by simp [ho],hba,hv,hE⟩ (by dsimp only;omega)
end Go.Proofs.YthjgmldnegaaiaaGreatDoor.Mir
namespace Go.Proofs.YthjgmldnegaaiaaGreatDoor
open Go Go.RowKit
abbrev x0F:=Option Addr × Nat × List RwIn
def rwsV (x:x0F):List Value:=[.slice x.1 x.2.2.length x.2.1]
def e1C (W:World)(x:x0F):Prop:=InS rwV (rwOk W) 64 W x.1 x.2.1 x.2.2
theorem x0i (W:World):Reader Tryz.prog W 22 rwsV (e1C W) :=
 b0g (n:=6) (B:=64) Tryz.underlying22 (by kernel_rfl) (by kernel_rfl) (fun _=>rfl) (z0U W)
abbrev LnIn:=(Option Addr × Nat × List x0F) × (Option Addr × Nat × List Int) × (Option Addr × Nat × List a1U)
def lnV (x:LnIn):List Value:=[.slice x.1.1 x.1.2.2.length x.1.2.1,.slice x.2.1.1 x.2.1.2.2.length x.2.1.2.1,.slice x.2.2.1 x.2.2.2.2.length x.2.2.2.1]
def lnOk (W:World)(x:LnIn):Prop:=InS rwsV (e1C W) 24 W x.1.1 x.1.2.1 x.1.2.2∧InS (fun n:Int=>[Value.int .i64 n]) (fun n=>(Lit.int .i64 n).wf=true) 8 W x.2.1.1 x.2.1.2.1 x.2.1.2.2∧InS rawV (e1s W) 40 W x.2.2.1 x.2.2.2.1 x.2.2.2.2
theorem a1m (W:World):Reader Tryz.prog W 48 lnV (lnOk W) :=
 Reader.map (d0Y Tryz.underlying48 (by kernel_rfl) (a0f (m:=1) rfl (by kernel_rfl) (b0g (n:=1) (B:=24) Tryz.underlying46 (by kernel_rfl) (by kernel_rfl) (fun _=>rfl) (x0i W))
  (a0f (m:=1) rfl (by kernel_rfl) (b0g (n:=1) (B:=8) Tryz.underlying24 (by kernel_rfl) (by kernel_rfl) (fun _=>rfl) (b0G Tryz.underlying3))
  (a0f (m:=1) rfl (by kernel_rfl) (b0g (n:=3) (B:=40) Tryz.underlying23 (by kernel_rfl) (by kernel_rfl) (fun _=>rfl) (w0w W)) (e0m _)))))
  (fun x=>(x.1,x.2.1,x.2.2.1)) (fun _ _=>rfl) (fun _ h=>⟨h.1,h.2.1,h.2.2.1⟩)
set_option maxRecDepth 100000 in
theorem open_S_lines {H:Type}{enc:TypeId × Value→H}{W:World}{ts:List TypeId}{ds:List (DataW H)}(hsz:(DataW.weightsEach Tryz.prog ts ds).all (· ≤ reachBytes)=true){d:DataW H}{ps:List MemPlace}(j:Nat)(htj:ts[j]?=some 48)(hdj:ds[j]?=some d)
  {base:Nat} {v:Value} (hv:Value.okWide Tryz.prog W .any base 48 v) (h:DataW.Trod enc Tryz.prog W 0 (fun _=>true) true 48 v d ps):∃ x:LnIn,v = .agg (lnV x).toArray∧lnOk W x :=
 j0n hsz j htj hdj Tryz.underlying48 (a1m W) hv h
def lnS (x:LnIn):List (List Mir.Rw):=x.1.2.2.map fun y=>y.2.2.map rwDD
def lnA (x:LnIn):List Int:=x.2.1.2.2
def lnR (x:LnIn):List Mir.Rd:=x.2.2.2.2.map rawD
theorem f1e {W:World}{A:Nat→Prop}(hA:∀ b,¬ A b){a:Option Addr}{c:Nat}{xs:List x0F}(h:InS rwsV (e1C W) 24 W a c xs):Mir.RF W A (Mir.fSs (xs.map fun y=>y.2.2.map rwDD)) (.slice a xs.length c):=by
 have h1:=Mir.rf_in (A:=A) (g:=fun x:x0F=>[Mir.fRw (x.2.2.map rwDD)]) h hA fun x hx=>.cons (f1r hA hx) .nil
 have e:∀ l:List x0F,(l.flatMap fun x=>[Mir.fRw (x.2.2.map rwDD)])=(l.map fun y=>y.2.2.map rwDD).map Mir.fRw:=fun l=>by
  induction l with
  | nil=>rfl
  | cons x l ih=>rw [List.flatMap_cons,ih];rfl
 rw [e] at h1
 rw [Mir.fSs,List.length_map];exact h1
theorem r_ln {W:World}{φ:Nat→Nat × Nat}{A:Nat→Prop}{N:Nat}(hA:∀ b,¬ A b){x:LnIn}(h:lnOk W x):Mir.R Tryz.prog W φ A N (Mir.lnD (lnS x) (lnA x) (lnR x)) (.agg (lnV x).toArray) :=
 Mir.r_ag (xs:=[Mir.fSs (lnS x),Mir.fI (lnA x),Mir.fR (lnR x)]) (.cons (f1e hA h.1) (.cons (Mir.rf_ints h.2.1 hA) (.cons (e1Y hA h.2.2) .nil))) (by intro u hu;simp [lnV] at hu;rcases hu with rfl|rfl|rfl<;>rfl)
theorem n0j {H:Type}{enc:TypeId × Value→H}{P:Program}{w:World}{base:Nat}{sp:Nat→Bool}{held:Bool}{fuel:Nat}{t e:TypeId}{n:Nat}{cs:List Value}{ss:List (List UInt8)}{p:List MemPlace}
  (ht:P.underlying t=some (.array n e)) (he:P.underlying e=some .string) (hce:P.cellsOf e=1) (hct:P.cellsOf t=n)
  (h:DataW.trod enc P w base sp held fuel t cs=some (.agg (ss.map fun s=>.lit (.string s)),p)):cs=ss.map fun s=>Value.string ⟨s.toArray⟩:=by
 cases fuel with
 | zero=>simp [DataW.trod] at h
 | succ fuel =>
  simp only [DataW.trod,ht,hce,hct,Nat.mul_one] at h
  split at h
  ·rename_i hl
   obtain ⟨xs,hm,hx⟩:=Option.map_eq_some_iff.1 h
   have hxs:xs.map (·.1)=ss.map fun s=>(DataW.lit (.string s):DataW H):=by
    have:=congrArg Prod.fst hx
    simpa using this
   have hxl:xs.length=n:=by simpa using Lib.mapM_length hm
   have hzl:ss.length=n:=by
    have:=congrArg List.length hxs
    simp at this
    omega
   apply List.ext_getElem?
   intro i
   by_cases hi:i<n
   ·obtain ⟨b,hb,hf⟩:=Lib.mapM_at hm i i (by simp [hi])
    obtain ⟨z,hc,rfl,_⟩:=DataW.trod_string he hf
    have h1:cs[i]?=some (.string z):=by
     have:=congrArg (·[0]?) hc
     simpa [List.getElem?_take,List.getElem?_drop] using this
    have h2:(xs.map (·.1))[i]?=some (DataW.lit (.string z.data.toList):DataW H):=by simp [hb]
    rw [hxs] at h2
    simp only [List.getElem?_map,Option.map_eq_some_iff,DataW.lit.injEq,Lit.string.injEq] at h2
    obtain ⟨z',hz',e1⟩:=h2
    rw [h1,List.getElem?_map,hz',Option.map_some,e1]
   ·rw [List.getElem?_eq_none (by omega),List.getElem?_eq_none (by simp;omega)]
  ·cases h
def nameTab:List (List UInt8):=[[97],[98],[106,111,98,45,49],[122,57],[109],[120,45]]
theorem gNames : Tryz.prog.globalNamed "cutover/cutoverhand.names" = some 0 := by kernel_rfl
theorem gNamesType:(Tryz.prog.globals[0]?).map (·.type)=some 173:=by kernel_rfl
theorem names_gl {W : World} (h : laidMetH Tryz.prog [("cutover/cutoverhand.names", Rows.laid_cutover_cutoverhand_names)] W) : ∀ p ∈ Mir.glTab, Mir.RF W (fun _ => False) p.1 p.2 := by
 rw [MakeChecks.laidMetH_plain _ _ _ (by kernel_rfl)] at h
 obtain ⟨ps,⟨g',t',cs,fuel,p,q,hg',ht',hvar,hd,_,_⟩,_⟩:=h
 obtain rfl:=Option.some.inj (gNames.symm.trans hg')
 obtain rfl:=Option.some.inj (gNamesType.symm.trans ht')
 have hcs:=n0j (ss:=nameTab) Tryz.underlying173 Tryz.underlying9 (by kernel_rfl) (by kernel_rfl) hd
 intro x hx
 obtain rfl:=List.mem_singleton.1 hx
 refine .s (nameTab.map fun s=>Value.string ⟨s.toArray⟩) (Nat.le_refl _) rfl ?_ ?_
 ·intro i u hu
  refine ⟨?_,fun hf=>hf⟩
  have h1:=World.var?_cell gNames hvar i
  rw [←hu,←hcs]
  rw [show (Addr.add { block:=0,off:=0 } i:Addr)=⟨0,i,none⟩ by simp [Addr.add];intro h;omega]
  rw [h1,Array.getElem?_toList]
 ·intro i y u hy hu
  rcases i with _|_|_|_|_|_|i
  all_goals (simp [nameTab] at hy hu;try (subst hy;subst hu;exact .v rfl))
end Go.Proofs.YthjgmldnegaaiaaGreatDoor
namespace Go.Proofs.YthjgmldnegaaiaaGreatDoor.Mir
open Go Go.RowKit
set_option maxHeartbeats 4000000
noncomputable def h0X (t:Br)(b:List Ev):Br:=if b.length=0 then t else if (addR t b).2.2=0 then (addR t b).1 else t
noncomputable def e0x (s:List (List Rw))(a:List Int)(d:List Rd):Br:=(b0V s a d).foldl h0X []
theorem w0A {t:Br}{b:List Ev}(ht:TrK t)(hb:BrOk b):TrK (h0X t b):=by
 unfold h0X
 split
 ·exact ht
 split
 ·exact f1H ht hb
 ·exact ht
theorem u0G:∀ {l:Br} {t:Br},TrK t→(∀ b∈l,BrOk b)→TrK (l.foldl h0X t)
 | [],t,ht,_=>ht
 | b :: l,t,ht,hb=>u0G (l:=l) (w0A ht (hb b (by simp))) fun x hx=>hb x (by simp [hx])
theorem c1S (s:List (List Rw))(a:List Int)(d:List Rd):TrK (e0x s a d):=u0G TrK.nil (g0e s a d).1
set_option maxRecDepth 100000 in
theorem s0a (s:List (List Rw))(a:List Int)(d:List Rd):Con Tryz.prog 19 [lnD s a d] [] fun r H'=>r = .ag [.f (fBr (e0x s a d))]∧H'=[]:=by
 have hT:e0x s a d=(b0V s a d).foldl h0X []:=rfl
 have hB:=g0e s a d
 suffices hh:∀ Q:D→List Row→Prop,Q (.ag [.f (fBr (e0x s a d))]) []→Con Tryz.prog 19 [lnD s a d] [] Q from hh _ ⟨rfl,rfl⟩
 intro Q hQ
 have hc:=k0O s a d
 rw [lnD] at hc ⊢
 generalize b0V s a d=L at *
 refine Con.walk good q0Y (by simp) ?_
 unfold i0m
 simp only [a0K]
 repeat' (with_reducible first|refine Wx.h ?_|refine Wb.h fun K hK=>?_|(refine hK _ ?_;clear hK K)|(refine wT ?_ ?_;assumption)|(refine wF ?_ ?_;assumption)|(refine Wy.h ?_ ?_;kernel_rfl)|refine Wq.h ?_ ?_<;>intro h<;>try (exfalso;omega)|refine Wu.h ?_ ?_<;>intro h<;>try simp only [h]|((fail_if_success refine Wz.h ?_);first|simp (disch:=omega) only [↓LD,LA,a0A,seval,LBr]|(refine And.intro ?_ ?_;omega)|simp only [D.int,D.bool]))
 refine a0C hc rfl rfl rfl ?_
 repeat' (with_reducible first|refine Wx.h ?_|refine Wb.h fun K hK=>?_|(refine hK _ ?_;clear hK K)|(refine wT ?_ ?_;assumption)|(refine wF ?_ ?_;assumption)|(refine Wy.h ?_ ?_;kernel_rfl)|refine Wq.h ?_ ?_<;>intro h<;>try (exfalso;omega)|refine Wu.h ?_ ?_<;>intro h<;>try simp only [h]|((fail_if_success refine Wz.h ?_);first|simp (disch:=omega) only [↓LD,LA,a0A,seval,LBr]|(refine And.intro ?_ ?_;omega)|simp only [D.int,D.bool]))
 refine HS.view (View.bcell 2 0 (.f (.s [] 0)) rfl rfl .ns) ?_
 refine HS.loopG [2,3,4,5] (fun x:Nat × Br=>⟨frm 38 [(2,.pt 0 0),(3,.pt 1 0),(4,.f (fBr L)),(5,D.int x.1)],[.box 50 [jN],.box 50 [.f (fBr x.2)]],[]⟩) (fun x=>x.1≤L.length∧TrK x.2∧L.foldl h0X []=(L.drop x.1).foldl h0X x.2) (fun x=>L.length-x.1) (0,[]) (by kernel_rfl) ⟨Nat.zero_le _,TrK.nil,rfl⟩ ?_
 rintro ⟨i,t⟩ ⟨hi,ht,hF⟩
 dsimp only at hi ht hF
 by_cases hil:i<L.length
 rotate_left
 ·rw [List.drop_of_length_le (by omega)] at hF
  repeat' (with_reducible first|refine Wx.h ?_|refine Wb.h fun K hK=>?_|(refine hK _ ?_;clear hK K)|(refine wT ?_ ?_;assumption)|(refine wF ?_ ?_;assumption)|(refine Wy.h ?_ ?_;kernel_rfl)|refine Wq.h ?_ ?_<;>intro h<;>try (exfalso;omega)|refine Wu.h ?_ ?_<;>intro h<;>try simp only [h]|((fail_if_success refine Wz.h ?_);first|simp (disch:=omega) only [↓LD,LA,a0A,seval,LBr]|(refine And.intro ?_ ?_;omega)|simp only [D.int,D.bool]))
  exact RetS.still (ds:=[.ag [.f (fBr t)]]) (by kernel_rfl) (by kernel_rfl) (.ags (.cons .f .nil)) (by rw [hT,hF] at hQ;exact hQ)
 rw [a0G hil,List.foldl_cons] at hF
 haveI:Kn (TrK t):=⟨ht⟩
 haveI:Kn (BrOk (gt L i)):=⟨hB.1 _ (a0L hil)⟩
 have hg:=w0A ht (hB.1 _ (a0L hil))
 have e3:=u0x hil
 repeat' (with_reducible first|refine Wx.h ?_|refine We.h fun K hK=>?_|refine Wd.h fun K M hK hM=>?_|(refine hK _ _ _ _ ?_;clear hK K;try clear hM M)|(refine hM ?_;clear hM M;try clear hK K)|refine Wb.h fun K hK=>?_|(refine hK _ ?_;clear hK K)|(refine wT ?_ ?_;assumption)|(refine wF ?_ ?_;assumption)|(refine Wy.h ?_ ?_;kernel_rfl)|refine Wq.h ?_ ?_<;>intro h<;>try (exfalso;omega)|refine Wu.h ?_ ?_<;>intro h<;>try simp only [h]|((fail_if_success refine Wz.h ?_);first|simp (disch:=omega) only [↓LD,LA,a0A,seval,LBr,LEv,e3]|(refine And.intro ?_ ?_;omega)|simp only [D.int,D.bool]))
 ·have g:h0X t (gt L i)=t:=if_pos (by omega)
  rw [g] at hF
  exact Next.mk (i+1,t) (by kernel_rfl) ⟨by dsimp only;omega,ht,hF⟩ (by dsimp only;omega)
 ·have g:h0X t (gt L i)=(addR t (gt L i)).1:=by unfold h0X;rw [if_neg (by omega),if_pos (by assumption)]
  rw [g] at hF hg
  exact Next.mk (i+1,(addR t (gt L i)).1) (by kernel_rfl) ⟨by dsimp only;omega,hg,hF⟩ (by dsimp only;omega)
 ·have g:h0X t (gt L i)=t:=by unfold h0X;rw [if_neg (by omega),if_neg (by assumption)]
  rw [g] at hF
  exact Next.mk (i+1,t) (by kernel_rfl) ⟨by dsimp only;omega,ht,hF⟩ (by dsimp only;omega)
instance {s:List (List Rw)}{a:List Int}{d:List Rd}{H:List Row}{K:D→List Row→Prop}:Wa (a0R Tryz.prog (.fn 19 []) [.ag [.f (fSs s),.f (fI a),.f (fR d)]] H K) (K (.ag [.f (fBr (e0x s a d))]) H):=⟨fun h=>a0C (s0a s a d) rfl rfl rfl h⟩
def h0R:SCode :=
  (jq ([.a 2 (.mv kN)]) (jq ([.a 3 (.mv kN)]) (.seq (jq ([jm 6 0,je 7 6,jk 8 0]) (.block 0 (.loop (jq ([jB 9 .lss 8 7]) (.seq (jc 9 .skip (.exit 0))
 (.seq (.block 1 (jq ([jx 10 9 6 8,jL 11 9 10,.a 5 (.alloc 73 [jI,jI,jI,jI,jI,jI,(.f (.v (.string ⟨#[]⟩))),jN,jN]),.n (.store 9 (.t 5) (.t
 11))]) (.ops (ap [jm 12 3,jL 13 9 5,.a 14 (.call (kC 68) [(.t 13)])] (ap [.a 15 (.bsl 73 9 1 [jI,jI,jI,jI,jI,jI,(.f (.v (.string ⟨#[]⟩))),jN,
 jN] [(0,(.t 14))]),.a 16 (.app 73 9 112 (.t 12) (.t 15))] [jm 3 16]))))) (.ops [jb 17 .add 8 1,jm 8 17]))))))) (jq ([jm 18 3,jm 2 18]) .ret))))
theorem n0i:Fn Tryz.prog 51 19 [.t 2] h0R:=.of Tryz.func51 (by kernel_rfl)
def g0a:SCode :=
  (jq ([.a 1 (.box 30 (.t 0)),.a 2 (.mv kN)]) (.seq (jq ([jo 3 0 1,jl 4 3,je 5 4,jb 6 .eql 5 0]) (jc 6 (jq ([.a 2 (.mv kN)]) .ret) .skip)) (jq ((ap
 [jo 7 0 1,jl 8 7,.a 9 (.idx 1 (.t 8) (kI 0)),jl 10 9,.a 11 (.call (kC 51) [(.t 10)])] [jm 2 11])) .ret)))
theorem n0r:Fn Tryz.prog 18 12 [.t 2] g0a:=.of Tryz.func18 (by kernel_rfl)
def u0y:SCode :=
  (jq ([.a 1 (.box 30 (.t 0)),.a 2 (.mv kN)]) (jq ([.a 13 (.mkmap),jm 3 13]) (.seq (jq ([jo 14 0 1,jl 15 14,je 16 15,jk 17 0]) (.block 0 (.loop (jq
 ([jB 18 .lss 17 16]) (.seq (jc 18 .skip (.exit 0)) (.seq (.block 1 (jq ([jx 19 1 15 17,jl 20 19,jm 5 20]) (jq ([jm 21 5,je 22 21,jk 23 0]) (.block
 2 (.loop (jq ([jB 24 .lss 23 22]) (.seq (jc 24 .skip (.exit 2)) (.seq (.block 3 (jq ([jx 25 9 21 23,jL 26 9 25,.a 7 (.alloc 73 [jI,jI,jI,jI,jI,
 jI,(.f (.v (.string ⟨#[]⟩))),jN,jN]),.n (.store 9 (.t 7) (.t 26))]) (jq ([jm 28 3,jo 29 6 7,jl 30 29,.a 31 (.look true 9 (.ag [jI,jI,jI,jI,
 jI,jI,(.f (.v (.string ⟨#[]⟩))),jN,jN]) (.t 28) (.t 30)),jm 27 31,jE 32 0 27,jE 33 1 27,.a 8 (.alloc 73 [jI,jI,jI,jI,jI,jI,(.f (.v
 (.string ⟨#[]⟩))),jN,jN]),.n (.store 9 (.t 8) (.t 32)),jm 9 33]) (jq ((ap [jm 34 9,.a 35 (.unot (.t 34)),jm 36 35,gO 37 3 7 36 true] (ap [gL 38
 37 36 true,jG 39 (.bin .eql (.t 38) (kI 7)) 36 true] [.a 40 (.pick (.t 36) (.t 39) kF)]))) (jc 40 (.drw [jm 41 3,jo 42 6 7,jl 43 42,jL 44 9 7,.a
 45 (.call (kC 68) [(.t 44)]),.n (.mput 9 (.t 41) (.t 43) (.t 45))] [0,0,2,0,8,31]) .skip))))) (.ops [jb 46 .add 23 1,jm 23 46]))))))))) (.ops
 [jb 47 .add 17 1,jm 17 47]))))))) (jq ([.a 10 (.mv kN)]) (.seq (jq ((ap [jm 48 3,.a 49 (.call (kC 70) [(.t 48)])] (ap [.a 50 (.call (kC 69) [(.t
 49)])] [je 51 50,jk 52 0]))) (.block 4 (.loop (jq ([jB 53 .lss 52 51]) (.seq (jc 53 .skip (.exit 4)) (.seq (.block 5 (jq ([jx 54 1 50 52,jl 55 54,jm
 12 55]) (.ops (ap [jm 56 10,jm 57 3,jm 58 12,.a 59 (.look false 9 (.ag [jI,jI,jI,jI,jI,jI,(.f (.v (.string ⟨#[]⟩))),jN,jN]) (.t 57) (.t
 58)),.a 60 (.bsl 73 9 1 [jI,jI,jI,jI,jI,jI,(.f (.v (.string ⟨#[]⟩))),jN,jN] [(0,(.t 59))]),.a 61 (.app 73 9 112 (.t 56) (.t 60))] [jm 10
 61])))) (.ops [jb 62 .add 52 1,jm 52 62]))))))) (jq ([jm 63 10,jm 2 63]) .ret))))))
theorem y0H:Fn Tryz.prog 31 64 [.t 2] u0y:=.of Tryz.func31 (by kernel_rfl)
def c0q:SCode :=
  (jq ([jk 4 0]) (.seq (jq ([jm 6 0,je 7 6,jk 8 0]) (.block 0 (.loop (jq ([jB 9 .lss 8 7]) (.seq (jc 9 .skip (.exit 0)) (.seq (.block 1 (jq ([jm 10 8,
 jm 5 10]) (jq ([jm 11 1,jm 12 0,jm 13 5,jx 14 9 12 13,jL 15 9 14,.a 16 (.call (.t 11) [(.t 15)])]) (jc 16 (jq ([jm 17 5,jm 4 17]) .ret) .skip))))
 (.ops [jb 18 .add 8 1,jm 8 18]))))))) (jq ([.a 4 (.mv (kI (-1)))]) .ret)))
theorem e0I:Fn Tryz.prog 100 19 [.t 4] c0q:=.of Tryz.func100 (by kernel_rfl)
def r0s:SCode :=
 (jq ([.a 1 (.box 107 (.t 0)),.a 2 (.mv (.c (.f (.v .nilFunc))))]) (jq ([.a 3 (.fn 113 [(.t 1)]),jm 2 3]) .ret))
theorem x0k:Fn Tryz.prog 70 4 [.t 2] r0s:=.of Tryz.func70 (by kernel_rfl)
theorem a1H {e:Ev}(h:FitV e):FitN e.defs:=fun x hx=>by have:=h.2.2.2 x hx;omega
set_option maxRecDepth 100000 in
theorem s0A (l:List Ev)(hf:FitL l):Con Tryz.prog 51 [.f (fEv l)] [] fun r H'=>r = .f (fEv l)∧H'=[]:=by
 obtain ⟨hl,hln⟩:=hf
 refine Con.walk good n0i (by simp) ?_
 unfold h0R
 simp only [a0K]
 refine HS.seq ?_
 repeat' (with_reducible first|refine Wa.h ?_|refine Wr.h ?_|refine Wb.h fun K hK=>?_|(refine hK _ ?_;clear hK K)|(refine wT ?_ ?_;assumption)|(refine wF ?_ ?_;assumption)|(refine Wy.h ?_ ?_;kernel_rfl)|refine Wq.h ?_ ?_<;>intro h<;>try (exfalso;omega)|refine Wu.h ?_ ?_<;>intro h<;>try simp only [h]|((fail_if_success refine Wz.h ?_);first|simp (disch:=omega) only [↓LD,LA,a0A,seval]|(refine And.intro ?_ ?_;omega)|simp only [D.int,D.bool]))
 refine HS.seq ?_
 repeat' (with_reducible first|refine Wa.h ?_|refine Wr.h ?_|refine Wb.h fun K hK=>?_|(refine hK _ ?_;clear hK K)|(refine wT ?_ ?_;assumption)|(refine wF ?_ ?_;assumption)|(refine Wy.h ?_ ?_;kernel_rfl)|refine Wq.h ?_ ?_<;>intro h<;>try (exfalso;omega)|refine Wu.h ?_ ?_<;>intro h<;>try simp only [h]|((fail_if_success refine Wz.h ?_);first|simp (disch:=omega) only [↓LD,LA,a0A,seval]|(refine And.intro ?_ ?_;omega)|simp only [D.int,D.bool]))
 refine HS.view (View.void 73) ?_
 refine HS.view (View.slot 3 (.sl 0 0 0) (.no (by decide))) ?_
 repeat' (with_reducible first|refine Wx.h ?_|refine Wb.h fun K hK=>?_|(refine hK _ ?_;clear hK K)|(refine wT ?_ ?_;assumption)|(refine wF ?_ ?_;assumption)|(refine Wy.h ?_ ?_;kernel_rfl)|refine Wq.h ?_ ?_<;>intro h<;>try (exfalso;omega)|refine Wu.h ?_ ?_<;>intro h<;>try simp only [h]|((fail_if_success refine Wz.h ?_);first|simp (disch:=omega) only [↓LD,LA,a0A,seval,LEv]|(refine And.intro ?_ ?_;omega)|simp only [D.int,D.bool]))
 refine HS.loopG [3,6,7,8] (fun i:Nat=>⟨frm 19 [(3,.sl 0 0 i),(6,.f (fEv l)),(7,D.int l.length),(8,D.int i)],[.data 73 ((l.take i).flatMap Ev.cs)],[]⟩) (fun i=>i≤l.length) (fun i=>l.length-i) 0 (by kernel_rfl) (Nat.zero_le _) ?_
 rintro i hi
 by_cases hil:i<l.length
 ·have hv:=hln _ (a0L hil)
  have hfn:=a1H hv
  obtain ⟨f1,f2,f3,f4⟩:=hv
  have hlen:((l.take i).flatMap Ev.cs).length=i*9:=by rw [a0J,List.length_take,Nat.min_eq_left hi]
  have ha:(l.take i).flatMap Ev.cs++Ev.cs (gt l i)=(l.take (i+1)).flatMap Ev.cs:=by
   rw [List.take_succ_eq_append_getElem hil,List.flatMap_append,←b0R hil];simp
  generalize hg:gt l i=e at *
  rw [Ev.cs] at ha
  repeat' (with_reducible first|refine Wx.h ?_|refine Wb.h fun K hK=>?_|(refine hK _ ?_;clear hK K)|(refine wT ?_ ?_;assumption)|(refine wF ?_ ?_;assumption)|(refine Wy.h ?_ ?_;kernel_rfl)|refine Wq.h ?_ ?_<;>intro h<;>try (exfalso;omega)|refine Wu.h ?_ ?_<;>intro h<;>try simp only [h]|((fail_if_success refine Wz.h ?_);first|simp (disch:=omega) only [↓LD,LA,a0A,seval,LEv,b0k,a0J,Ev.cs,hg,hlen,evD,ha,List.map_cons,List.map_nil,-a0A]|(refine And.intro ?_ ?_;omega)|simp only [D.int,D.bool]))
  refine ⟨⟨hfn,by omega,by omega⟩,?_⟩
  repeat' (with_reducible first|refine Wx.h ?_|refine Wb.h fun K hK=>?_|(refine hK _ ?_;clear hK K)|(refine wT ?_ ?_;assumption)|(refine wF ?_ ?_;assumption)|(refine Wy.h ?_ ?_;kernel_rfl)|refine Wq.h ?_ ?_<;>intro h<;>try (exfalso;omega)|refine Wu.h ?_ ?_<;>intro h<;>try simp only [h]|((fail_if_success refine Wz.h ?_);first|simp (disch:=omega) only [↓LD,LA,a0A,seval,LEv,b0k,a0J,Ev.cs,hg,hlen,evD,ha,List.map_cons,List.map_nil,-a0A]|(refine And.intro ?_ ?_;omega)|simp only [D.int,D.bool]))
  exact Next.mk (i+1) (by kernel_rfl) (by omega) (by omega)
 ·rw [List.take_of_length_le (by omega)]
  obtain rfl:i=l.length:=by omega
  repeat' (with_reducible first|refine Wx.h ?_|refine Wb.h fun K hK=>?_|(refine hK _ ?_;clear hK K)|(refine wT ?_ ?_;assumption)|(refine wF ?_ ?_;assumption)|(refine Wy.h ?_ ?_;kernel_rfl)|refine Wq.h ?_ ?_<;>intro h<;>try (exfalso;omega)|refine Wu.h ?_ ?_<;>intro h<;>try simp only [h]|((fail_if_success refine Wz.h ?_);first|simp (disch:=omega) only [↓LD,LA,a0A,seval]|(refine And.intro ?_ ?_;omega)|simp only [D.int,D.bool]))
  exact end1 rfl rfl (by kernel_rfl) (s0t rfl rfl rfl) ⟨rfl,rfl⟩
instance {l:List Ev}{H:List Row}{K:D→List Row→Prop}[hl:Kn (FitL l)]:Wa (a0R Tryz.prog (.fn 51 []) [.f (fEv l)] H K) (K (.f (fEv l)) H):=⟨fun h=>a0C (s0A l hl.h) rfl rfl rfl h⟩
def curL (t:Br):List Ev:=if t.length=0 then [] else gt t 0
theorem TrK.cur {t:Br}(h:TrK t):BrOk (curL t):=by
 unfold curL
 split
 ·exact BrOk.nil
 ·exact (h.gt (by omega)).1
theorem p0U (t:Br)(ht:TrK t):Con Tryz.prog 18 [.ag [.f (fBr t)]] [] fun r H'=>r = .f (fEv (curL t))∧H'=[]:=by
 have hlen:=ht.len
 refine Con.walk good n0r (by simp) ?_
 unfold g0a
 simp only [a0K]
 by_cases hz:t.length=0
 ·rw [curL,if_pos hz]
  repeat' (with_reducible first|refine Wx.h ?_|refine Wb.h fun K hK=>?_|(refine hK _ ?_;clear hK K)|(refine wT ?_ ?_;assumption)|(refine wF ?_ ?_;assumption)|(refine Wy.h ?_ ?_;kernel_rfl)|refine Wq.h ?_ ?_<;>intro h<;>try (exfalso;omega)|refine Wu.h ?_ ?_<;>intro h<;>try simp only [h]|((fail_if_success refine Wz.h ?_);first|simp (disch:=omega) only [↓LD,LA,a0A,seval,LBr]|(refine And.intro ?_ ?_;omega)|simp only [D.int,D.bool]))
  exact end1 rfl rfl (by kernel_rfl) .nil ⟨rfl,rfl⟩
 ·rw [curL,if_neg hz]
  haveI:Kn (FitL (gt t 0)):=⟨(ht.gt (by omega)).1.fitL⟩
  repeat' (with_reducible first|refine Wx.h ?_|refine Wb.h fun K hK=>?_|(refine hK _ ?_;clear hK K)|(refine wT ?_ ?_;assumption)|(refine wF ?_ ?_;assumption)|(refine Wy.h ?_ ?_;kernel_rfl)|refine Wq.h ?_ ?_<;>intro h<;>try (exfalso;omega)|refine Wu.h ?_ ?_<;>intro h<;>try simp only [h]|((fail_if_success refine Wz.h ?_);first|simp (disch:=omega) only [↓LD,LA,a0A,seval,LBr]|(refine And.intro ?_ ?_;omega)|simp only [D.int,D.bool]))
  exact end1 rfl rfl (by kernel_rfl) .f ⟨rfl,rfl⟩
instance {t:Br}{H:List Row}{K:D→List Row→Prop}[ht:Kn (TrK t)]:Wa (a0R Tryz.prog (.fn 18 []) [.ag [.f (fBr t)]] H K) (K (.f (fEv (curL t))) H):=⟨fun h=>a0C (p0U t ht.h) rfl rfl rfl h⟩
def encM (ms:List Ev):List (Value × D):=ms.map fun e=>(.string (BB e.name),evD e)
def c0j (ms:List Ev)(k:Bs):Option Ev:=ms.find? fun e=>decide (k=e.name)
theorem b1R {a b:Bs}:(BB a==BB b)=decide (a=b):=by
 have h1:(BB a==BB b)=((BB a).data==(BB b).data):=rfl
 rw [h1,Bool.eq_iff_iff,beq_iff_eq,decide_eq_true_iff]
 constructor
 ·intro h;exact Eq.mp v0v (ByteArray.ext h)
 ·intro h;rw [h]
theorem i0X {ms:List Ev}{k:Bs}:e0a (.string (BB k)) (encM ms)=some ((c0j ms k).map evD):=by
 induction ms with
 | nil=>rfl
 | cons e ms ih =>
  show e0a (.string (BB k)) ((.string (BB e.name),evD e) :: encM ms)=_
  unfold c0j at ih ⊢
  rw [e0a,List.find?_cons]
  by_cases h:k=e.name
  ·have h2:c0z (.string (BB k)) (.string (BB e.name))=some true:=by rw [c0z,b1R,decide_eq_true h]
   rw [h2,decide_eq_true h];rfl
  ·have h2:c0z (.string (BB k)) (.string (BB e.name))=some false:=by rw [c0z,b1R,decide_eq_false h]
   rw [h2,decide_eq_false h];exact ih
theorem c1N {ms:List Ev}{e:Ev}(h:c0j ms e.name=none):putD (.string (BB e.name)) (evD e) (encM ms)=encM (ms++[e]):=by
 induction ms with
 | nil=>rfl
 | cons x ms ih =>
  show putD (.string (BB e.name)) (evD e) ((.string (BB x.name),evD x) :: encM ms)=_
  unfold c0j at ih h
  rw [List.find?_cons] at h
  by_cases hx:e.name=x.name
  ·rw [decide_eq_true hx] at h;cases h
  ·rw [decide_eq_false hx] at h
   have h2:c0z (.string (BB e.name)) (.string (BB x.name))≠some true:=by rw [c0z,b1R,decide_eq_false hx];simp
   rw [putD,if_neg h2,ih h];rfl
def x0S (P:Program)(ok:Bool)(K:TypeId)(z:D)(key:Value):Option Row→Option D
 | some (.map es)=>if d0l P K key then
   match e0a key es with
   | some (some d)=>some (if ok then .tp [d,.bool true] else d)
   | some none=>some (if ok then .tp [z,.bool false] else z)
   | none=>none
  else none
 | _=>none
theorem n0O {P:Program}{H:List Row}{ok:Bool}{K:TypeId}{z:D}{r:Nat}{key:Value}:t0S P H ok K z (.mp r) (.f (.v key))=x0S P ok K z key H[r]?:=by
 unfold t0S x0S
 rw [o0M]
 cases H[r]? with
 | none=>rfl
 | some row=>cases row<;>rfl
theorem s0z {x:ByteArray}:d0l Tryz.prog 9 (.string x)=true:=by
 have h:Tryz.prog.underlying 9=some .string:=by kernel_rfl
 unfold d0l;rw [h]
theorem m0M {ms:List Ev}{k:Bs}{z:D}{e:Ev}{ok:Bool}(h:c0j ms k=some e):x0S Tryz.prog ok 9 z (.string (BB k)) (some (.map (encM ms)))=some (if ok then .tp [evD e,.bool true] else evD e):=by
 rw [x0S,if_pos s0z,i0X,h];rfl
theorem x0G {ms:List Ev}{k:Bs}{z:D}{ok:Bool}(h:c0j ms k=none):x0S Tryz.prog ok 9 z (.string (BB k)) (some (.map (encM ms)))=some (if ok then .tp [z,.bool false] else z):=by
 rw [x0S,if_pos s0z,i0X,h];rfl
def a1E (P:Program)(H:List Row)(K:TypeId)(r:Nat)(key:Value)(x:D):Option Row→Option (List Row)
 | some (.map es)=>if d0l P K key then match e0a key es with
   | some _=>some (H.set r (.map (putD key x es)))
   | none=>none
  else none
 | _=>none
theorem z0B {H:List Row}{e:Ev}:d0k Tryz.prog H (eA e)=some (evD e,[]):=id rfl
theorem d1z {H:List Row}{r:Nat}{x y:D}{key:Value}(hf:d0k Tryz.prog H x=some (y,[])):p0I Tryz.prog H 9 (.mp r) (.f (.v key)) x=a1E Tryz.prog H 9 r key y H[r]?:=by
 unfold p0I a1E
 rw [hf]
 show (if d0l Tryz.prog 9 key=true then (match H[r]? with
  | some (.map es)=>match e0a key es with
   | some _=>some (H.set r (.map (putD key y es)))
   | none=>none
  | _=>none) else none)=_
 generalize d0l Tryz.prog 9 key=b
 cases b<;>cases H[r]? with
 | none=>rfl
 | some row=>cases row<;>rfl
theorem c1h {H:List Row}{r:Nat}{e:Ev}{key:Value}:p0I Tryz.prog H 9 (.mp r) (.f (.v key)) (eA e)=a1E Tryz.prog H 9 r key (evD e) H[r]?:=d1z z0B
theorem z0e {H:List Row}{r:Nat}{e:Ev}{ms:List Ev}(h:c0j ms e.name=none):a1E Tryz.prog H 9 r (.string (BB e.name)) (evD e) (some (.map (encM ms)))=some (H.set r (.map (encM (ms++[e])))):=by
 rw [a1E,if_pos s0z,i0X,h,c1N h]
def addS (ms:List Ev)(e:Ev):List Ev:=if (c0j ms e.name).isNone=true∧e.ty=7 then ms++[e] else ms
def sigM (t:Br):List Ev:=t.foldl (fun ms b=>b.foldl addS ms) []
theorem c1B {ms:List Ev}{e:Ev}:(addS ms e).length≤ms.length+1:=by unfold addS;split<;>simp
instance {e:Ev}{H:List Row}{K:Bool→D→List Row→Prop}:Wa (a0e Tryz.prog (.fn 68 []) [eA e] H K)
  ((FitN e.defs∧e.defs.length≤1000000∧e.data.length≤1000000)∧K true (evD e) H) :=
 ⟨fun h=>a0M (q0N e h.1.1 h.1.2.1 h.1.2.2) rfl rfl rfl h.2⟩
end Go.Proofs.YthjgmldnegaaiaaGreatDoor.Mir
namespace Go.Proofs.YthjgmldnegaaiaaGreatDoor.Mir
open Go Go.RowKit Go.Shelf Go.Maps Go.Sort
section
variable {P:Program}{w w':World}{φ:Nat→Nat × Nat}{X:Nat→Prop}{H:List Row}
theorem f0s (h:Below w.heap.size w w'):Keep (fun _=>False) w w' :=
 ⟨h.size,fun b hb _=>h.block b hb,fun b cs _ fr hc=>⟨cs,fr,(h.block b (a0Z hc)).trans hc,rfl⟩,h.os,h.tape,h.output⟩
theorem w0t (h:HR P w φ X H)(hk:Keep (fun _=>False) w w')(b:Nat)(hb:w.heap.size≤b)(row:Row)(d:D)(v:Value)
  (hrow:∀ (A:Nat→Prop),(∀ c,c<w.heap.size→A c→Av X φ H c)→RowOk P w' (ext1 φ H.length (b,0)) A (H.length+1) H.length row∧R P w' (ext1 φ H.length (b,0)) A (H.length+1) d v) :
  Leaves P w φ X H ⟨d,[],[row]⟩ v w':=by
 obtain ⟨r1,r2,r3⟩:=h.more hk b 0 row hb (fun hav=>(hrow _ hav).1)
 refine ⟨ext1 φ H.length (b,0),fun r hr=>a0l hr,by simpa [Eff.heap,a0B] using r1,?_,hk.mono (fun _ _ h=>h.elim),by simpa [Eff.heap,a0B] using r2⟩
 have:=(hrow _ r3).2
 simpa [Eff.heap,a0B] using this
theorem j0m (h:HR P w φ X H)(hk:Keep (fun _=>False) w w'){d:D}{v:Value}(hd:∀ A,R P w' φ A H.length d v):Leaves P w φ X H ⟨d,[],[]⟩ v w':=by
 obtain ⟨r1,r2,r3⟩:=h.step (H':=H) (φ':=φ) (fun _=>False) hk (fun _ h=>h.elim) (Nat.le_refl _) (fun _ _=>rfl) (fun r x hx hl=>.inr (b0I hx hl)) (fun r x hx=>.inl ⟨hx,fun _ h=>h⟩) h.apart
 exact ⟨φ,fun _ _=>rfl,by simpa [Eff.heap,a0B] using r1,by simpa [Eff.heap,a0B] using hd _,hk.mono (fun _ _ h=>h.elim),by simpa [Eff.heap,a0B] using r2⟩
def o0Q (T:TypeId)(n:Nat)(xs:List Value):Eff :=
 if xs.isEmpty then ⟨.f (.v (.slice none 0 0)),[],[]⟩ else ⟨.sl n 0 xs.length,[],[.data T (xs.map F.v)]⟩
theorem o0E (hH:HR P w φ X H)(hb:Below w.heap.size w w'){T:TypeId}{i:TypeInfo}(hT:P.info? T=some i)(hi:i.size=1){xs:List Value}(h1:∀ x∈xs,x.oneCell'=true){v:Value}
  (hrow:w'.ownsRow w.heap.size T 1 v xs.length xs) (hnil:v = .slice none 0 0↔xs=[]):Leaves P w φ X H (o0Q T H.length xs) v w':=by
 unfold o0Q
 by_cases hx:xs=[]
 ·subst hx
  obtain rfl:=hnil.2 rfl
  exact j0m hH (f0s hb) fun A=>.f (.v rfl)
 ·rw [if_neg (by simpa using hx)]
  obtain ⟨_,hr⟩:=hrow
  rcases hr with ⟨hv,_⟩|⟨g,cap,cur,rfl,hbase,hg,hn,_,hsz,htake⟩
  ·exact absurd (hnil.1 hv) hx
  ·refine w0t hH (f0s hb) g hbase _ _ _ fun A hA=>⟨?_,?_⟩
   ·refine fun _=>⟨[],xs,cur.toList.drop xs.length,?_,by rw [a0O];rfl,by simp,fun j x u hj hu=>?_⟩
    ·rw [a0O]
     refine hg.trans ?_
     rw [List.nil_append]
     have:cur=(xs++cur.toList.drop xs.length).toArray:=by
      rw [←htake,Nat.mul_one]
      apply Array.toList_inj.1
      have h2:(cur.toList.take xs.length).length=xs.length:=by simp;omega
      simp only [h2,List.take_append_drop]
     rw [←this]
    ·rw [List.getElem?_map,hu] at hj
     cases hj
     exact .v (h1 _ (List.mem_of_getElem? hu))
   ·have:=R.sl (P:=P) (w:=w') (φ:=ext1 φ H.length (g,0)) (A:=A) (N:=H.length+1) (r:=H.length) (off:=0) (n:=xs.length) (cap:=cap) (cs:=cur) (T:=T) (fr:=(0,0)) (i:=i) (List.length_pos_iff.2 hx) (by omega) hn (by rw [a0O];exact hg) hT (by rw [a0O,hi];simp;omega)
    rw [a0O] at this
    exact this
end
def insK {α:Type}(le:α→α→Bool)(x:α):List α→List α
 | []=>[x]
 | y :: ys=>match le x y with
  | true=>x :: y :: ys
  | false=>y :: insK le x ys
def k0Z {α:Type}(le:α→α→Bool):List α→List α
 | []=>[]
 | x :: xs=>insK le x (k0Z le xs)
theorem j0H {α:Type}(le:α→α→Bool)(x:α):∀ ys,(insK le x ys).Perm (x :: ys)
 | []=>.refl _
 | y :: ys=>by
  unfold insK
  split
  ·exact .refl _
  ·exact ((j0H le x ys).cons y).trans (.swap x y ys)
theorem g0A {α:Type}(le:α→α→Bool):∀ xs,(k0Z le xs).Perm xs
 | []=>.refl _
 | x :: xs=>(j0H le x _).trans ((g0A le xs).cons x)
theorem f0g {α:Type}{le:α→α→Bool}(tr:∀ a b c,le a b=true→le b c=true→le a c=true)(tot:∀ a b,(le a b||le b a)=true)(x:α):∀ ys,ys.Pairwise (fun a b=>le a b=true)→(insK le x ys).Pairwise (fun a b=>le a b=true)
 | [],_=>by simp [insK]
 | y :: ys,h=>by
  rw [List.pairwise_cons] at h
  unfold insK
  split
  ·rename_i hxy
   refine List.pairwise_cons.2 ⟨fun z hz=>?_,List.pairwise_cons.2 h⟩
   rcases List.mem_cons.1 hz with rfl|hz
   ·exact hxy
   ·exact tr _ _ _ hxy (h.1 z hz)
  ·rename_i hxy
   have hyx:le y x=true:=by
    have:=tot x y
    rw [hxy] at this;simpa using this
   refine List.pairwise_cons.2 ⟨fun z hz=>?_,f0g tr tot x ys h.2⟩
   rcases List.mem_cons.1 ((j0H le x ys).subset hz) with rfl|hz
   ·exact hyx
   ·exact h.1 z hz
theorem c0t {α:Type}{le:α→α→Bool}(tr:∀ a b c,le a b=true→le b c=true→le a c=true)(tot:∀ a b,(le a b||le b a)=true):∀ xs,(k0Z le xs).Pairwise (fun a b=>le a b=true)
 | []=>.nil
 | x :: xs=>f0g tr tot x _ (c0t tr tot xs)
theorem b1i {α:Type}{le:α→α→Bool}(tr:∀ a b c,le a b=true→le b c=true→le a c=true)(tot:∀ a b,(le a b||le b a)=true)(anti:∀ a b,le a b=true→le b a=true→a=b){xs ys:List α}(h:ys.Perm xs):ys.mergeSort le=k0Z le xs :=
 List.Perm.eq_of_pairwise (le:=fun a b=>le a b=true) (fun a b _ _ h1 h2=>anti a b h1 h2) (List.pairwise_mergeSort tr tot ys) (c0t tr tot xs) (((List.mergeSort_perm ys le).trans h).trans (g0A le xs).symm)
def i0P {α:Type}(ofK:Value→Option α):List Value→Option (List α)
 | []=>some []
 | v :: vs=>match ofK v with
  | some x=>match i0P ofK vs with
   | some xs=>some (x :: xs)
   | none=>none
  | none=>none
theorem r0D {α:Type}{P:Program}{k:TypeId}(ofK:Value→Option α)(lit:α→Lit)(back:Lit→α)(hb:∀ x,back (lit x)=x)(hk:∀ v x,ofK v=some x→keyOf P k v=some (lit x)) :
  ∀ (l:List MapEntry) (ks:List α),i0P ofK (l.map (·.key))=some ks→(∀ x∈l,∃ y,WideElems.rd (H:=Unit) P k (fun _=>some (.nil,[])) x=some y)∧(l.map (WideElems.rg (H:=Unit) P k (fun _=>some (.nil,[])))).map (fun p=>back p.1)=ks
 | [],ks,h=>by cases h;exact ⟨fun x hx=>(by cases hx),rfl⟩
 | e :: l,ks,h=>by
  simp only [List.map_cons,i0P] at h
  split at h
  ·rename_i x hx
   split at h
   ·rename_i xs hxs
    cases h
    obtain ⟨h1,h2⟩:=r0D ofK lit back hb hk l xs hxs
    have hrd:WideElems.rd (H:=Unit) P k (fun _=>some (.nil,[])) e=some (lit x,.nil):=by simp [WideElems.rd,hk _ _ hx]
    refine ⟨fun y hy=>?_,?_⟩
    ·rcases List.mem_cons.1 hy with rfl|hy
     ·exact ⟨_,hrd⟩
     ·exact h1 y hy
    ·simp only [List.map_cons,h2,WideElems.rg,hrd,Option.getD_some,hb]
   ·cases h
  ·cases h
theorem a1y {α:Type}{P:Program}{k:TypeId}(ofK:Value→Option α)(lit:α→Lit)(back:Lit→α)(hb:∀ x,back (lit x)=x)(hk:∀ v x,ofK v=some x→keyOf P k v=some (lit x))
  {w:World} {q:Nat} {en:Array MapEntry} {clock:Nat} (hq:w.heap[q]?=some (.map en clock)) (hst:MapKept.Stamped en clock) {ks:List α} (hks:i0P ofK (en.toList.map (·.key))=some ks) (hsz:en.size≤maxLen) :
  ∃ es:List (Lit × DataW Unit),w.ownsMap P k (fun _=>some (.nil,[])) q en.size (.map es)∧(es.map fun p=>back p.1).Perm ks∧es.length=en.size:=by
 obtain ⟨h1,h2⟩:=r0D (P:=P) (k:=k) ofK lit back hb hk _ _ hks
 refine ⟨_,⟨en,clock,hq,⟨hsz,hst,h1⟩,Nat.le_refl _,rfl⟩,?_,by rw [length_sorted];simp⟩
 have:=(WideShapes.sorted_perm (en.toList.map (WideElems.rg (H:=Unit) P k (fun _=>some (.nil,[]))))).map (fun p=>back p.1)
 rw [h2] at this
 exact this
theorem c1U {P:Program}{w:World}{φ:Nat→Nat × Nat}{A:Nat→Prop}{N:Nat}{d:D}{vs:Array Value}(h:Rs P w φ A N [d] vs.toList):∃ u,vs = #[u]∧R P w φ A N d u:=by
 obtain ⟨l⟩:=vs
 obtain ⟨h1,h2⟩:=h
 match l,h1 with
 | [u],_=>exact ⟨u,rfl,h2 0 d u rfl rfl⟩
def n0t (k:FuncId)(T:TypeId)(srt:List Value→Option (List Value)):List D→List Row→Option Eff
 | [.fn g [.pt r 0]],H=>match Nat.beq g k with
  | true=>match H[r]? with
   | some (.box _ [.f (.v (.map none))])=>some ⟨.f (.v (.slice none 0 0)),[],[]⟩
   | some (.box _ [.mp q])=>match H[q]? with
    | some (.map es)=>match srt (es.map (·.1)) with
     | some xs=>some (o0Q T H.length xs)
     | none=>none
    | _=>none
   | _=>none
  | false=>none
 | _,_=>none
theorem x0U {P:Program}{f k:FuncId}{T:TypeId}(hT0:(P.info? T).map (·.size)=some 1){srt:List Value→Option (List Value)}(hone:∀ l xs,srt l=some xs→∀ x∈xs,x.oneCell'=true)
  (hnil:∀ (w:World) (b:Nat),b<w.heap.size→w.cell? ⟨b,0,none⟩=some (.map none)→Calls P f #[.func (.func k) #[] #[.pointer (some ⟨b,0,none⟩)]] w fun e w'=>e = .returned (.slice none 0 0)∧Below w.heap.size w w')
  (hsome:∀ (w:World) (b q:Nat) (en:Array MapEntry) (clock:Nat) (xs:List Value),b<w.heap.size→w.cell? ⟨b,0,none⟩=some (.map (some q))→w.heap[q]?=some (.map en clock)→MapKept.Stamped en clock→srt (en.toList.map (·.key))=some xs →
   Calls P f #[.func (.func k) #[] #[.pointer (some ⟨b,0,none⟩)]] w fun e w'=>∃ v,e = .returned v∧w'.ownsRow w.heap.size T 1 v xs.length xs∧(v = .slice none 0 0↔xs=[])∧Below w.heap.size w w'):e0Y P f (n0t k T srt):=by
 obtain ⟨i,hT,hi⟩:=Option.map_eq_some_iff.1 hT0
 intro args H e hg w φ X vs hH hargs
 unfold n0t at hg
 split at hg
 ·rename_i g r
  split at hg
  ·rename_i hgk
   obtain rfl:g=k:=Nat.eq_of_beq_eq_true hgk
   obtain ⟨u,rfl,hu⟩:=c1U hargs
   cases hu with|fn hs hr =>
   rename_i us
   obtain ⟨u,rfl⟩:∃ u,us = #[u]:=by
    obtain ⟨l⟩:=us
    match l,hs with
    | [u],_=>exact ⟨u,rfl⟩
   have hu:=hr 0 _ u rfl rfl
   cases hu with|pt hrl =>
   split at hg
   ·rename_i T0 hrow
    cases hg
    obtain ⟨h0,cs,h1,h2,h3⟩:=hH.rows r _ hrow
    obtain ⟨u,rfl⟩:∃ u,cs = #[u]:=by
     obtain ⟨l⟩:=cs
     match l,h2.1 with
     | [u],_=>exact ⟨u,rfl⟩
    have hu:=h2.2 0 _ u rfl rfl
    cases hu with|f hu=>cases hu with|v _ =>
    rw [h0]
    refine (hnil w (φ r).1 (a0Z h1) (by simp [World.cell?,h1])).mono ?_
    rintro e w' ⟨rfl,hb⟩
    exact ⟨_,rfl,j0m hH (f0s hb) fun A=>.f (.v rfl)⟩
   ·rename_i T0 q hrow
    split at hg
    ·rename_i es hmap
     split at hg
     ·rename_i xs hxs
      cases hg
      obtain ⟨h0,cs,h1,h2,h3⟩:=hH.rows r _ hrow
      obtain ⟨u,rfl⟩:∃ u,cs = #[u]:=by
       obtain ⟨l⟩:=cs
       match l,h2.1 with
       | [u],_=>exact ⟨u,rfl⟩
      have hu:=h2.2 0 _ u rfl rfl
      cases hu with|mp hql =>
      obtain ⟨en,clock,m1,m0,m2,m3⟩:=hH.rows q _ hmap
      have hkeys:en.toList.map (·.key)=es.map (·.1):=by
       apply List.ext_getElem?
       intro j
       rw [List.getElem?_map,List.getElem?_map]
       by_cases hj:j<es.length
       ·have e1:es[j]?=some es[j]:=List.getElem?_eq_getElem hj
        have hj':j<en.size:=by omega
        have e2:en[j]?=some en[j]:=Array.getElem?_eq_getElem hj'
        have e3:en.toList[j]?=some en[j]:=by rw [Array.getElem?_toList];exact e2
        rw [e1,e3]
        exact congrArg some ((m3 j es[j].1 es[j].2 en[j] e1 e2).1)
       ·rw [List.getElem?_eq_none (by rw [Array.length_toList];omega),List.getElem?_eq_none (by omega)];rfl
      rw [h0]
      refine (hsome w (φ r).1 (φ q).1 en clock xs (a0Z h1) (by simp [World.cell?,h1]) m1 m0 (by rw [hkeys];exact hxs)).mono ?_
      rintro e w' ⟨v,rfl,hrow,hn,hb⟩
      exact ⟨v,rfl,o0E hH hb hT hi (hone _ _ hxs) hrow hn⟩
     ·cases hg
    ·cases hg
   ·cases hg
  ·cases hg
 ·cases hg
end Go.Proofs.YthjgmldnegaaiaaGreatDoor.Mir
namespace Go.Proofs
open Go.RowKit Go.Maps Go.Sort Go.Shelf
def YthjgmldnegaaiaaGreatDoor.keysS_ren:Go.Shelf.Ren:=⟨fun|7=>70|10=>113|n=>n,fun|23=>107|26=>9|3=>73|28=>112|0=>0|27=>111|33=>154|4=>4|n=>n,fun|n=>n⟩
theorem YthjgmldnegaaiaaGreatDoor.keysS:Go.Proofs.SlLaysZ.n7 Tryz.prog YthjgmldnegaaiaaGreatDoor.keysS_ren:={
 mixed:=by kernel_rfl
 f7:=⟨Tryz.f70.name,by decide,Tryz.func70.trans (congrArg some (by kernel_rfl))⟩
 f10:=⟨Tryz.f113.name,by decide,Tryz.func113.trans (congrArg some (by kernel_rfl))⟩
 t0:=Tryz.underlying0
 a0:=Tryz.isAgg0
 z0:=Tryz.sizeOf0
 v0:=Tryz.zeroValue0
 t4:=Tryz.underlying4
 a4:=Tryz.isAgg4
 z4:=Tryz.sizeOf4
 v4:=Tryz.zeroValue4
 t23:=Tryz.underlying107
 a23:=Tryz.isAgg107
 z23:=Tryz.sizeOf107
 v23:=Tryz.zeroValue107
 t26:=Tryz.underlying9
 a26:=Tryz.isAgg9
 z26:=Tryz.sizeOf9
 v26:=Tryz.zeroValue9
 t27:=Tryz.underlying111
 a27:=Tryz.isAgg111
 z27:=Tryz.sizeOf111
 v27:=Tryz.zeroValue111
 t28:=Tryz.underlying112
 a28:=Tryz.isAgg112
 z28:=Tryz.sizeOf112
 v28:=Tryz.zeroValue112
 t33:=Tryz.underlying154
 a33:=Tryz.isAgg154
 z33:=Tryz.sizeOf154
 v33:=Tryz.zeroValue154 }
def YthjgmldnegaaiaaGreatDoor.sortedS_ren:Go.Shelf.Ren:=⟨fun|6=>69|8=>111|9=>112|11=>149|13=>151|12=>150|23=>174|24=>175|14=>165|15=>166|16=>167|17=>168|18=>169|19=>170|20=>171|21=>172|22=>173|25=>183|26=>184|27=>185|28=>186|29=>187|30=>188|31=>190|n=>n,fun|26=>9|28=>112|24=>76|0=>0|3=>3|37=>184|48=>202|50=>204|4=>4|40=>194|39=>193|45=>199|5=>5|9=>9|51=>209|55=>213|57=>216|58=>217|33=>154|n=>n,fun|n=>n⟩
theorem YthjgmldnegaaiaaGreatDoor.sortedS:Go.Proofs.SlLaysZ.n6 Tryz.prog YthjgmldnegaaiaaGreatDoor.sortedS_ren:={
 mixed:=by kernel_rfl
 f6:=⟨Tryz.f69.name,by decide,Tryz.func69.trans (congrArg some (by kernel_rfl))⟩
 f8:=⟨Tryz.f111.name,by decide,Tryz.func111.trans (congrArg some (by kernel_rfl))⟩
 f11:=⟨Tryz.f149.name,by decide,Tryz.func149.trans (congrArg some (by kernel_rfl))⟩
 t0:=Tryz.underlying0
 a0:=Tryz.isAgg0
 z0:=Tryz.sizeOf0
 v0:=Tryz.zeroValue0
 t24:=Tryz.underlying76
 a24:=Tryz.isAgg76
 z24:=Tryz.sizeOf76
 v24:=Tryz.zeroValue76
 t26:=Tryz.underlying9
 a26:=Tryz.isAgg9
 z26:=Tryz.sizeOf9
 v26:=Tryz.zeroValue9
 t28:=Tryz.underlying112
 a28:=Tryz.isAgg112
 z28:=Tryz.sizeOf112
 v28:=Tryz.zeroValue112
 i26:=by kernel_rfl }
def YthjgmldnegaaiaaGreatDoor.sortS_ren:Go.Shelf.Ren:=⟨fun|6=>112|8=>151|9=>150|19=>174|20=>175|21=>165|22=>166|23=>167|24=>168|25=>169|26=>170|27=>171|28=>172|29=>173|36=>183|31=>184|32=>185|37=>186|38=>187|39=>188|41=>190|n=>n,fun|27=>76|29=>9|3=>3|32=>184|26=>76|0=>0|44=>202|46=>204|4=>4|36=>194|35=>193|41=>199|5=>5|9=>9|53=>209|57=>213|63=>216|64=>217|n=>n,fun|n=>n⟩
theorem YthjgmldnegaaiaaGreatDoor.sortS:Go.Proofs.SlLaysM.n6 Tryz.prog YthjgmldnegaaiaaGreatDoor.sortS_ren:={
 mixed:=by kernel_rfl
 f6:=⟨Tryz.f112.name,by decide,Tryz.func112.trans (congrArg some (by kernel_rfl))⟩
 f8:=Tryz.func151.trans (congrArg some (by kernel_rfl))
 f9:=⟨Tryz.f150.name,by decide,Tryz.func150.trans (congrArg some (by kernel_rfl))⟩
 f19:=Tryz.func174.trans (congrArg some (by kernel_rfl))
 f20:=Tryz.func175.trans (congrArg some (by kernel_rfl))
 f21:=⟨Tryz.f165.name,by decide,Tryz.func165.trans (congrArg some (by kernel_rfl))⟩
 f22:=⟨Tryz.f166.name,by decide,Tryz.func166.trans (congrArg some (by kernel_rfl))⟩
 f23:=⟨Tryz.f167.name,by decide,Tryz.func167.trans (congrArg some (by kernel_rfl))⟩
 f24:=⟨Tryz.f168.name,by decide,Tryz.func168.trans (congrArg some (by kernel_rfl))⟩
 f25:=⟨Tryz.f169.name,by decide,Tryz.func169.trans (congrArg some (by kernel_rfl))⟩
 f26:=⟨Tryz.f170.name,by decide,Tryz.func170.trans (congrArg some (by kernel_rfl))⟩
 f27:=⟨Tryz.f171.name,by decide,Tryz.func171.trans (congrArg some (by kernel_rfl))⟩
 f28:=⟨Tryz.f172.name,by decide,Tryz.func172.trans (congrArg some (by kernel_rfl))⟩
 f29:=⟨Tryz.f173.name,by decide,Tryz.func173.trans (congrArg some (by kernel_rfl))⟩
 f31:=Tryz.func184.trans (congrArg some (by kernel_rfl))
 f32:=Tryz.func185.trans (congrArg some (by kernel_rfl))
 f36:=⟨Tryz.f183.name,by decide,Tryz.func183.trans (congrArg some (by kernel_rfl))⟩
 f37:=⟨Tryz.f186.name,by decide,Tryz.func186.trans (congrArg some (by kernel_rfl))⟩
 f38:=⟨Tryz.f187.name,by decide,Tryz.func187.trans (congrArg some (by kernel_rfl))⟩
 f39:=⟨Tryz.f188.name,by decide,Tryz.func188.trans (congrArg some (by kernel_rfl))⟩
 f41:=⟨Tryz.f190.name,by decide,Tryz.func190.trans (congrArg some (by kernel_rfl))⟩
 t0:=Tryz.underlying0
 a0:=Tryz.isAgg0
 z0:=Tryz.sizeOf0
 v0:=Tryz.zeroValue0
 t3:=Tryz.underlying3
 a3:=Tryz.isAgg3
 z3:=Tryz.sizeOf3
 v3:=Tryz.zeroValue3
 t4:=Tryz.underlying4
 a4:=Tryz.isAgg4
 z4:=Tryz.sizeOf4
 v4:=Tryz.zeroValue4
 t5:=Tryz.underlying5
 a5:=Tryz.isAgg5
 z5:=Tryz.sizeOf5
 v5:=Tryz.zeroValue5
 t9:=Tryz.underlying9
 a9:=Tryz.isAgg9
 z9:=Tryz.sizeOf9
 v9:=Tryz.zeroValue9
 t26:=Tryz.underlying76
 a26:=Tryz.isAgg76
 z26:=Tryz.sizeOf76
 v26:=Tryz.zeroValue76
 t27:=Tryz.underlying76
 a27:=Tryz.isAgg76
 z27:=Tryz.sizeOf76
 v27:=Tryz.zeroValue76
 t29:=Tryz.underlying9
 a29:=Tryz.isAgg9
 z29:=Tryz.sizeOf9
 v29:=Tryz.zeroValue9
 t32:=Tryz.underlying184
 a32:=Tryz.isAgg184
 z32:=Tryz.sizeOf184
 v32:=Tryz.zeroValue184
 t35:=Tryz.underlying193
 a35:=Tryz.isAgg193
 z35:=Tryz.sizeOf193
 v35:=Tryz.zeroValue193
 t36:=Tryz.underlying194
 a36:=Tryz.isAgg194
 z36:=Tryz.sizeOf194
 v36:=Tryz.zeroValue194
 t41:=Tryz.underlying199
 a41:=Tryz.isAgg199
 z41:=Tryz.sizeOf199
 v41:=Tryz.zeroValue199
 t44:=Tryz.underlying202
 a44:=Tryz.isAgg202
 z44:=Tryz.sizeOf202
 v44:=Tryz.zeroValue202
 t46:=Tryz.underlying204
 a46:=Tryz.isAgg204
 z46:=Tryz.sizeOf204
 v46:=Tryz.zeroValue204
 t53:=Tryz.underlying209
 a53:=Tryz.isAgg209
 z53:=Tryz.sizeOf209
 v53:=Tryz.zeroValue209
 t57:=Tryz.underlying213
 a57:=Tryz.isAgg213
 z57:=Tryz.sizeOf213
 v57:=Tryz.zeroValue213
 t63:=Tryz.underlying216
 a63:=Tryz.isAgg216
 z63:=Tryz.sizeOf216
 v63:=Tryz.zeroValue216
 t64:=Tryz.underlying217
 a64:=Tryz.isAgg217
 z64:=Tryz.sizeOf217
 v64:=Tryz.zeroValue217 }
end Go.Proofs
namespace Go.Proofs.YthjgmldnegaaiaaGreatDoor.Mir
open Go Go.RowKit Go.Shelf Go.Maps Go.Sort
def leS:List UInt8→List UInt8→Bool
 | [],_=>true
 | _ :: _,[]=>false
 | x :: xs,y :: ys=>match Nat.blt x.toNat y.toNat with
  | true=>true
  | false=>match Nat.blt y.toNat x.toNat with
   | true=>false
   | false=>leS xs ys
theorem g0Y:∀ a b:List UInt8,leS a b=decide (a≤b)
 | [],b=>by simp [leS]
 | x :: xs,[]=>by simp [leS]
 | x :: xs,y :: ys=>by
  have h:((x :: xs)≤(y :: ys))↔x<y∨x=y∧xs≤ys:=List.cons_le_cons_iff
  unfold leS
  split
  ·rename_i h1
   have:x<y:=UInt8.lt_iff_toNat_lt.2 (Nat.blt_eq.mp h1)
   exact (decide_eq_true (h.2 (.inl this))).symm
  ·rename_i h1
   have h1':¬ x<y:=fun e=>by rw [Nat.blt_eq.mpr (UInt8.lt_iff_toNat_lt.1 e)] at h1;cases h1
   split
   ·rename_i h2
    have h2':y<x:=UInt8.lt_iff_toNat_lt.2 (Nat.blt_eq.mp h2)
    refine (decide_eq_false fun e=>?_).symm
    rcases h.1 e with e|⟨rfl,_⟩
    ·exact h1' e
    ·exact h1' h2'
   ·rename_i h2
    have h2':¬ y<x:=fun e=>by rw [Nat.blt_eq.mpr (UInt8.lt_iff_toNat_lt.1 e)] at h2;cases h2
    have hxy:x=y:=by
     apply UInt8.toNat.inj
     simp [UInt8.lt_iff_toNat_lt] at h1' h2'
     omega
    rw [g0Y xs ys,decide_eq_decide,h]
    simp [hxy]
theorem e1t:leS=fun x y=>decide (x≤y):=funext fun a=>funext fun b=>g0Y a b
def ofS:Value→Option (List UInt8)
 | .string ⟨⟨l⟩⟩=>match Nat.ble l.length 100000 with
  | true=>some l
  | false=>none
 | _=>none
def sortS (vs:List Value):Option (List Value):=match i0P ofS vs with
 | some ks=>match Nat.ble ks.length 1000000 with
  | true=>some ((k0Z leS ks).map encStr)
  | false=>none
 | none=>none
theorem t0j {vs xs:List Value}(h:sortS vs=some xs):∃ ks,i0P ofS vs=some ks∧ks.length≤1000000∧xs=(k0Z leS ks).map encStr:=by
 unfold sortS at h
 split at h
 ·rename_i ks hks
  split at h
  ·rename_i hl
   cases h
   exact ⟨ks,hks,Nat.le_of_ble_eq_true hl,rfl⟩
  ·cases h
 ·cases h
theorem d1A (m:Nat):AnyZ.SortsIn Tryz.prog YthjgmldnegaaiaaGreatDoor.sortedS_ren Fence.wide m :=
  ⟨fun blk off cap ss W hH hblk hsz=>callsIn_wide.2 (AnyM.slices_Sort_string YthjgmldnegaaiaaGreatDoor.sortS blk off cap ss W hH hblk hsz),
   fun p cap W=>callsIn_wide.2 (AnyM.slices_Sort_string_none YthjgmldnegaaiaaGreatDoor.sortS p cap W)⟩
theorem m0j:e0Y Tryz.prog 69 (n0t 113 9 sortS):=by
 refine x0U (by kernel_rfl) ?_ ?_ ?_
 ·intro l xs h x hx
  obtain ⟨ks,_,_,rfl⟩:=t0j h
  obtain ⟨y,_,rfl⟩:=List.mem_map.1 hx
  rfl
 ·intro w b hb hm
  refine (callsIn_wide (n:=5)).1 ?_
  have hseq:SeqGives Fence.wide 2 Tryz.prog 113 #[.pointer (some ⟨b,0,none⟩)] encStr (fun ss:List (List UInt8)=>ss=[]) 0 w :=
   AnyZ.keys_gives_nil (ρ:=YthjgmldnegaaiaaGreatDoor.keysS_ren) { YthjgmldnegaaiaaGreatDoor.keysS with } Fence.wide _ trivial rfl b _ hb hm
  have cS:=AnyZ.sorted_in YthjgmldnegaaiaaGreatDoor.sortedS Fence.wide 5 trivial trivial trivial trivial rfl (by omega) (d1A _) (enters_of Tryz.func112 (by kernel_rfl) rfl) 113 #[.pointer (some ⟨b,0,none⟩)] trivial (enters_of Tryz.func113 (by kernel_rfl) rfl) _ 0 (Nat.zero_le _) (by omega) _ hseq
  change CallsIn _ _ Tryz.prog 69 _ _ _ at cS
  refine cS.mono ?_
  rintro e w' ⟨v,ss,rfl,rfl,hrow,hnil,hb⟩
  obtain rfl:v = .slice none 0 0:=hnil.2 rfl
  exact ⟨rfl,hb⟩
 ·intro w b q en clock xs hb hm hq hst hxs
  obtain ⟨ks,hks,hlen,rfl⟩:=t0j hxs
  have hen:en.size=ks.length:=by
   have:∀ (l:List Value) (ks:List (List UInt8)),i0P ofS l=some ks→l.length=ks.length:=by
    intro l
    induction l with
    | nil=>intro ks h;cases h;rfl
    | cons v l ih =>
     intro ks h
     unfold i0P at h
     split at h
     ·split at h
      ·rename_i hxs
       cases h
       simp [ih _ hxs]
      ·cases h
     ·cases h
   have:=this _ _ hks
   simpa using this
  have hl0:=hlen
  obtain ⟨es,hown,hperm,hel⟩:=a1y (P:=Tryz.prog) (k:=9) ofS Lit.string strOf (fun _=>rfl) (fun v x h=>by
   unfold ofS at h
   split at h
   ·rename_i n
    split at h
    ·rename_i hn
     cases h
     have hk:Tryz.prog.underlying 9=some .string:=by kernel_rfl
     have hn':=Nat.le_of_ble_eq_true hn
     have hsz:(ByteArray.mk ⟨x⟩).size≤maxLen:=by
      show x.length≤maxLen
      simp [maxLen];omega
     simp [keyOf,hk,mapKey,hsz]
    ·cases h
   ·cases h) hq hst hks (by simp [maxLen];omega)
  refine (callsIn_wide (n:=5)).1 ?_
  have hseq:SeqGives Fence.wide 2 Tryz.prog 113 #[.pointer (some ⟨b,0,none⟩)] encStr (fun ss=>ss.Perm (strKeys (.map es))) (Maps.size (.map es)) w :=
   AnyZ.keys_gives (ρ:=YthjgmldnegaaiaaGreatDoor.keysS_ren) { YthjgmldnegaaiaaGreatDoor.keysS with } Fence.wide _ trivial rfl (by omega) b q en.size (.map es) _ hb hm hown
  have cS:=AnyZ.sorted_in YthjgmldnegaaiaaGreatDoor.sortedS Fence.wide 5 trivial trivial trivial trivial rfl (by omega) (d1A _) (enters_of Tryz.func112 (by kernel_rfl) rfl) 113 #[.pointer (some ⟨b,0,none⟩)] trivial (enters_of Tryz.func113 (by kernel_rfl) rfl) _ _ (by rw [Maps.size_eq,hel,hen];simp [maxLen];omega) (by rw [Maps.size_eq,hel,hen];omega) _ hseq
  change CallsIn _ _ Tryz.prog 69 _ _ _ at cS
  refine cS.mono ?_
  rintro e w' ⟨v,ss,rfl,hS,hrow,hnil,hb⟩
  have hss:ss.Perm ks:=hS.trans hperm
  have hsort:ss.mergeSort (fun x y=>decide (x≤y))=k0Z leS ks:=by
   rw [e1t]
   exact b1i (le:=fun x y:List UInt8=>decide (x≤y)) (fun a b c h1 h2=>by simp only [decide_eq_true_eq] at *;exact List.le_trans h1 h2) (fun a b=>by simp only [Bool.or_eq_true,decide_eq_true_eq];exact List.le_total a b) (fun a b h1 h2=>by simp only [decide_eq_true_eq] at h1 h2;exact List.le_antisymm h1 h2) hss
  refine ⟨v,rfl,?_,?_,hb⟩
  ·rw [hsort] at hrow
   have:ss.length=((k0Z leS ks).map encStr).length:=by
    rw [←hsort];simp
   rw [←this];exact hrow
  ·rw [hnil,List.map_eq_nil_iff,←hsort]
   constructor
   ·rintro rfl;simp
   ·intro h
    have:=congrArg List.length h
    simpa using this
end Go.Proofs.YthjgmldnegaaiaaGreatDoor.Mir
namespace Go.Proofs.YthjgmldnegaaiaaGreatDoor.Mir
open Go Go.RowKit
theorem Con.sound {P:Program}{f:FuncId}{g:List D→List Row→Option Eff}(hs:e0Y P f g)(hf:∃ fn,P.funcs[f]?=some fn∧fn.body.isSome=true){args:List D}{H:List Row}{e:Eff}(h:g args H=some e):Con P f args H fun r H'=>r=e.res∧H'=e.heap H :=
 ⟨hf,fun w φ X vs hH ha=>(hs args H e h w φ X vs hH ha).mono fun _ _ ⟨v,h1,h2⟩=>⟨v,e.res,e.heap H,h1,⟨rfl,rfl⟩,LeavesW.of h2⟩⟩
theorem d1N {P:Program}{f:FuncId}(h:((P.funcs[f]?).bind fun fn=>fn.body).isSome=true):∃ fn,P.funcs[f]?=some fn∧fn.body.isSome=true:=by
 cases hf:P.funcs[f]? with
 | none=>rw [hf] at h;cases h
 | some fn=>rw [hf] at h;exact ⟨fn,rfl,h⟩
set_option maxHeartbeats 4000000
def bx74:Row:=.box 107 [.mp 0]
theorem z0s (es:List (Value × D)):Con Tryz.prog 70 [.mp 0] [.map es] fun r H'=>r = .fn 113 [.pt 1 0]∧H'=[.map es,bx74]:=by
 refine Con.walk good x0k (by simp) ?_
 unfold r0s
 simp only [a0K]
 repeat' (with_reducible first|refine Wx.h ?_|refine Wb.h fun K hK=>?_|(refine hK _ ?_;clear hK K)|(refine wT ?_ ?_;assumption)|(refine wF ?_ ?_;assumption)|(refine Wy.h ?_ ?_;kernel_rfl)|refine Wq.h ?_ ?_<;>intro h<;>try (exfalso;omega)|refine Wu.h ?_ ?_<;>intro h<;>try simp only [h]|((fail_if_success refine Wz.h ?_);first|simp (disch:=omega) only [↓LD,LA,a0A,seval]|(refine And.intro ?_ ?_;omega)|simp only [D.int,D.bool]))
 exact RetS.gather (ds:=[.fn 113 [.pt 1 0]]) (e:=⟨.fn 113 [.pt 1 0],[(0,.map es)],[bx74]⟩) (by kernel_rfl) (by kernel_rfl) ⟨rfl,rfl⟩
def b0W (ms:List Ev):List Bs:=k0Z leS (ms.map (·.name))
theorem o0y:∀ {ms:List Ev},(∀ e∈ms,e.name.length≤100000)→i0P ofS ((encM ms).map (·.1))=some (ms.map (·.name))
 | [],_=>rfl
 | e :: ms,h=>by
  have ih:=o0y (ms:=ms) fun x hx=>h x (by simp [hx])
  have h1:ofS (.string (BB e.name))=some e.name:=by
   show (match Nat.ble e.name.length 100000 with|true=>some e.name|false=>none)=_
   rw [Nat.ble_eq_true_of_le (h e (by simp))]
  show i0P ofS (.string (BB e.name) :: (encM ms).map (·.1))=_
  rw [i0P,h1,ih];rfl
theorem u0F (ms:List Ev)(hl:ms.length≤1000000)(hn:∀ e∈ms,e.name.length≤100000):Con Tryz.prog 69 [.fn 113 [.pt 1 0]] [.map (encM ms),bx74] fun r H'=>r=(o0Q 9 2 ((b0W ms).map encStr)).res∧H'=(o0Q 9 2 ((b0W ms).map encStr)).heap [.map (encM ms),bx74]:=by
 refine Con.sound m0j (d1N (by kernel_rfl)) ?_
 show (match sortS ((encM ms).map (·.1)) with|some xs=>some (o0Q 9 2 xs)|none=>none)=_
 unfold sortS
 rw [o0y hn]
 show (match (match Nat.ble (ms.map (·.name)).length 1000000 with|true=>some ((k0Z leS (ms.map (·.name))).map encStr)|false=>none) with|some xs=>some (o0Q 9 2 xs)|none=>none)=_
 rw [Nat.ble_eq_true_of_le (by rw [List.length_map];exact hl)]
 rfl
theorem x0u (ms:List Ev)(hl:ms.length≤1000000)(hn:∀ e∈ms,e.name.length≤100000)(hz:b0W ms=[]):Con Tryz.prog 69 [.fn 113 [.pt 1 0]] [.map (encM ms),bx74] fun r H'=>r=jN∧H'=[.map (encM ms),bx74]:=by
 have h:=u0F ms hl hn
 rw [hz] at h
 exact h
theorem y0F (ms:List Ev)(hl:ms.length≤1000000)(hn:∀ e∈ms,e.name.length≤100000)(hz:b0W ms≠[]):Con Tryz.prog 69 [.fn 113 [.pt 1 0]] [.map (encM ms),bx74] fun r H'=>r = .sl 2 0 (b0W ms).length∧H'=[.map (encM ms),bx74,.data 9 ((b0W ms).map fun k=>F.v (.string (BB k)))]:=by
 have h:=u0F ms hl hn
 have hr:o0Q 9 2 ((b0W ms).map encStr)=⟨.sl 2 0 (b0W ms).length,[],[.data 9 ((b0W ms).map fun k=>F.v (.string (BB k)))]⟩:=by
  unfold o0Q
  rw [if_neg (by simpa using hz),List.length_map,List.map_map];rfl
 rw [hr] at h
 exact h
def allL (ms:List Ev):List Ev:=(b0W ms).map fun k=>(c0j ms k).getD default
def fNm (l:List Bs):F:=.s (l.map fun k=>F.v (.string (BB k))) l.length
theorem v0A {g:List Bs}:slcS (.f (fNm g))=some g.length:=id rfl
theorem w0P {g:List Bs}{sz:Nat}{k:IntKind}{i:Int}{K:D→Prop}:idxS sz (.f (fNm g)) (.f (.v (.int k i))) K=((0≤i∧i<g.length)∧K (.rf ((g.map fun k=>F.v (.string (BB k))).drop (i.toNat*sz)))):=id rfl
theorem LNm:type_of% @v0A∧type_of% @w0P:=⟨@v0A,@w0P⟩
theorem b0q (ms:List Ev):(b0W ms).Perm (ms.map (·.name)):=g0A _ _
theorem a1s {ms:List Ev}{k:Bs}(h:k∈b0W ms):∃ e,c0j ms k=some e∧e∈ms∧e.name=k:=by
 have h1:=(b0q ms).mem_iff.1 h
 obtain ⟨e,he,rfl⟩:=List.mem_map.1 h1
 cases hf:c0j ms e.name with
 | none =>
  have:=List.find?_eq_none.1 hf e he
  simp at this
 | some y=>exact ⟨y,rfl,List.mem_of_find?_eq_some hf,by have:=List.find?_some hf;simpa [eq_comm] using this⟩
theorem g1M:inf Tryz.prog 9=some (1,16,[.string ⟨#[]⟩]):=by kernel_rfl
def alR (l:List Ev):D:=if l.length=0 then jN else .sl 0 0 l.length
def alH (l:List Ev):List Row:=if l.length=0 then [] else [rEv l]
set_option maxRecDepth 100000 in
theorem v0K (t:Br)(ht:TrK t)(hs:∀ e∈sigM t,FitV e∧e.name.length≤100000)(hsl:(sigM t).length≤1000000):Con Tryz.prog 31 [.ag [.f (fBr t)]] [] fun r H'=>r=alR (allL (sigM t))∧H'=alH (allL (sigM t)):=by
 have hlen:=ht.len
 refine Con.walk good y0H (by simp) ?_
 unfold u0y
 simp only [a0K]
 repeat' (with_reducible first|refine Wx.h ?_|refine Wb.h fun K hK=>?_|(refine hK _ ?_;clear hK K)|(refine wT ?_ ?_;assumption)|(refine wF ?_ ?_;assumption)|(refine Wy.h ?_ ?_;kernel_rfl)|refine Wq.h ?_ ?_<;>intro h<;>try (exfalso;omega)|refine Wu.h ?_ ?_<;>intro h<;>try simp only [h]|((fail_if_success refine Wz.h ?_);first|simp (disch:=omega) only [↓LD,LA,a0A,seval,LBr]|(refine And.intro ?_ ?_;omega)|simp only [D.int,D.bool]))
 refine HS.loopG [3,15,16,17] (fun x:Nat × List Ev=>⟨frm 64 [(3,.mp 0),(15,.f (fBr t)),(16,D.int t.length),(17,D.int x.1)],[.map (encM x.2)],[]⟩) (fun x=>x.1≤t.length∧sigM t=(t.drop x.1).foldl (fun ms b=>b.foldl addS ms) x.2) (fun x=>t.length-x.1) (0,[]) (by kernel_rfl) ⟨Nat.zero_le _,rfl⟩ ?_
 rintro ⟨i,ms⟩ ⟨hi,hF⟩
 dsimp only at hi hF
 by_cases hil:i<t.length
 ·obtain ⟨ok,ne⟩:=ht.gt hil
  have hfl:=ok.fitL
  rw [a0G hil,List.foldl_cons] at hF
  have hll:=ok.len
  repeat' (with_reducible first|refine Wx.h ?_|refine Wb.h fun K hK=>?_|(refine hK _ ?_;clear hK K)|(refine wT ?_ ?_;assumption)|(refine wF ?_ ?_;assumption)|(refine Wy.h ?_ ?_;kernel_rfl)|refine Wq.h ?_ ?_<;>intro h<;>try (exfalso;omega)|refine Wu.h ?_ ?_<;>intro h<;>try simp only [h]|((fail_if_success refine Wz.h ?_);first|simp (disch:=omega) only [↓LD,LA,a0A,seval,LBr,LEv]|(refine And.intro ?_ ?_;omega)|simp only [D.int,D.bool]))
  generalize gt t i=b at *
  refine HS.loopG [3,15,16,17,21,22,23] (fun x:Nat × List Ev=>⟨frm 64 [(3,.mp 0),(15,.f (fBr t)),(16,D.int t.length),(17,D.int i),(21,.f (fEv b)),(22,D.int b.length),(23,D.int x.1)],[.map (encM x.2)],[]⟩) (fun x=>x.1≤b.length∧b.foldl addS ms=(b.drop x.1).foldl addS x.2) (fun x=>b.length-x.1) (0,ms) (by kernel_rfl) ⟨Nat.zero_le _,rfl⟩ ?_
  rintro ⟨j,ns⟩ ⟨hj,hG⟩
  dsimp only at hj hG
  by_cases hjl:j<b.length
  ·rw [a0G hjl,List.foldl_cons] at hG
   obtain ⟨f1,f2,f3,f4⟩:=hfl.2 _ (a0L hjl)
   have hfn:=a1H (hfl.2 _ (a0L hjl))
   generalize hg:gt b j=e at *
   cases hfe:c0j ns e.name with
   | some y =>
    have hr:=fun (z:D) (ok:Bool)=>m0M (z:=z) (ok:=ok) hfe
    have ha:addS ns e=ns:=if_neg (by rw [hfe];simp)
    rw [ha] at hG
    repeat' (with_reducible first|refine Wx.h ?_|refine We.h fun K hK=>?_|refine Wd.h fun K M hK hM=>?_|(refine hK _ _ _ _ ?_;clear hK K;try clear hM M)|(refine hM ?_;clear hM M;try clear hK K)|refine Wb.h fun K hK=>?_|(refine hK _ ?_;clear hK K)|(refine wT ?_ ?_;assumption)|(refine wF ?_ ?_;assumption)|(refine Wy.h ?_ ?_;kernel_rfl)|refine Wq.h ?_ ?_<;>intro h<;>try (exfalso;omega)|refine Wu.h ?_ ?_<;>intro h<;>try simp only [h]|((fail_if_success refine Wz.h ?_);first|simp (disch:=omega) only [↓LD,LA,a0A,seval,LEv,b0k,a0J,hg,Ev.cs,n0O,hr,evD,List.map_cons,List.map_nil,-a0A]|(refine And.intro ?_ ?_;omega)|simp only [D.int,D.bool]))
    exact Next.mk (j+1,ns) (by kernel_rfl) ⟨by dsimp only;omega,hG⟩ (by dsimp only;omega)
   | none =>
    have hr:=fun (z:D) (ok:Bool)=>x0G (z:=z) (ok:=ok) hfe
    have hm:=fun (H:List Row) (r:Nat)=>z0e (H:=H) (r:=r) hfe
    repeat' (with_reducible first|refine Wx.h ?_|refine We.h fun K hK=>?_|refine Wd.h fun K M hK hM=>?_|(refine hK _ _ _ _ ?_;clear hK K;try clear hM M)|(refine hM ?_;clear hM M;try clear hK K)|refine Wb.h fun K hK=>?_|(refine hK _ ?_;clear hK K)|(refine wT ?_ ?_;assumption)|(refine wF ?_ ?_;assumption)|(refine Wy.h ?_ ?_;kernel_rfl)|refine Wq.h ?_ ?_<;>intro h<;>try (exfalso;omega)|refine Wu.h ?_ ?_<;>intro h<;>try simp only [h]|((fail_if_success refine Wz.h ?_);first|simp (disch:=omega) only [↓LD,LA,a0A,seval,LEv,b0k,a0J,hg,Ev.cs,n0O,hr,evD,List.map_cons,List.map_nil,-a0A]|(refine And.intro ?_ ?_;omega)|simp only [D.int,D.bool]))
    ·refine ⟨⟨hfn,by omega,by omega⟩,?_⟩
     repeat' (with_reducible first|refine Wx.h ?_|refine We.h fun K hK=>?_|refine Wd.h fun K M hK hM=>?_|(refine hK _ _ _ _ ?_;clear hK K;try clear hM M)|(refine hM ?_;clear hM M;try clear hK K)|refine Wb.h fun K hK=>?_|(refine hK _ ?_;clear hK K)|(refine wT ?_ ?_;assumption)|(refine wF ?_ ?_;assumption)|(refine Wy.h ?_ ?_;kernel_rfl)|refine Wq.h ?_ ?_<;>intro h<;>try (exfalso;omega)|refine Wu.h ?_ ?_<;>intro h<;>try simp only [h]|((fail_if_success refine Wz.h ?_);first|simp (disch:=omega) only [↓LD,LA,a0A,seval,LEv,c1h,hm]|(refine And.intro ?_ ?_;omega)|simp only [D.int,D.bool]))
     have ha:addS ns e=ns++[e]:=if_pos ⟨by rw [hfe];rfl,by assumption⟩
     rw [ha] at hG
     exact Next.mk (j+1,ns++[e]) (by kernel_rfl) ⟨by dsimp only;omega,hG⟩ (by dsimp only;omega)
    ·have ha:addS ns e=ns:=if_neg (fun h2=>absurd h2.2 (by assumption))
     rw [ha] at hG
     exact Next.mk (j+1,ns) (by kernel_rfl) ⟨by dsimp only;omega,hG⟩ (by dsimp only;omega)
  ·repeat' (with_reducible first|refine Wx.h ?_|refine Wb.h fun K hK=>?_|(refine hK _ ?_;clear hK K)|(refine wT ?_ ?_;assumption)|(refine wF ?_ ?_;assumption)|(refine Wy.h ?_ ?_;kernel_rfl)|refine Wq.h ?_ ?_<;>intro h<;>try (exfalso;omega)|refine Wu.h ?_ ?_<;>intro h<;>try simp only [h]|((fail_if_success refine Wz.h ?_);first|simp (disch:=omega) only [↓LD,LA,a0A,seval,LEv]|(refine And.intro ?_ ?_;omega)|simp only [D.int,D.bool]))
   rw [List.drop_of_length_le (by omega)] at hG
   exact Next.mk (i+1,ns) (by kernel_rfl) ⟨by dsimp only;omega,by rw [hF,hG];rfl⟩ (by dsimp only;omega)
 ·rw [List.drop_of_length_le (by omega)] at hF
  have hF:sigM t=ms:=hF
  rw [hF] at hs hsl ⊢
  clear hF
  repeat' (with_reducible first|refine Wx.h ?_|refine Wb.h fun K hK=>?_|(refine hK _ ?_;clear hK K)|(refine wT ?_ ?_;assumption)|(refine wF ?_ ?_;assumption)|(refine Wy.h ?_ ?_;kernel_rfl)|refine Wq.h ?_ ?_<;>intro h<;>try (exfalso;omega)|refine Wu.h ?_ ?_<;>intro h<;>try simp only [h]|((fail_if_success refine Wz.h ?_);first|simp (disch:=omega) only [↓LD,LA,a0A,seval,LBr]|(refine And.intro ?_ ?_;omega)|simp only [D.int,D.bool]))
  refine a0F (z0s (encM ms)) [0] (by kernel_rfl) rfl rfl ?_
  rintro _ _ ⟨rfl,rfl⟩
  simp (disch:=omega) only [↓LD,LA,a0A,seval,ren,List.getElem?_nil,bx74]
  repeat' (with_reducible first|refine Wx.h ?_|refine Wb.h fun K hK=>?_|(refine hK _ ?_;clear hK K)|(refine wT ?_ ?_;assumption)|(refine wF ?_ ?_;assumption)|(refine Wy.h ?_ ?_;kernel_rfl)|refine Wq.h ?_ ?_<;>intro h<;>try (exfalso;omega)|refine Wu.h ?_ ?_<;>intro h<;>try simp only [h]|((fail_if_success refine Wz.h ?_);first|simp (disch:=omega) only [↓LD,LA,a0A,seval]|(refine And.intro ?_ ?_;omega)|simp only [D.int,D.bool]))
  by_cases hz:b0W ms=[]
  ·refine a0F (x0u ms hsl (fun e he=>(hs e he).2) hz) [0,1] (by kernel_rfl) rfl rfl ?_
   rintro _ _ ⟨rfl,rfl⟩
   have ha:allL ms=[]:=by unfold allL;rw [hz];rfl
   simp (disch:=omega) only [↓LD,LA,a0A,seval,ren,List.getElem?_nil,bx74]
   repeat' (with_reducible first|refine Wx.h ?_|refine Wb.h fun K hK=>?_|(refine hK _ ?_;clear hK K)|(refine wT ?_ ?_;assumption)|(refine wF ?_ ?_;assumption)|(refine Wy.h ?_ ?_;kernel_rfl)|refine Wq.h ?_ ?_<;>intro h<;>try (exfalso;omega)|refine Wu.h ?_ ?_<;>intro h<;>try simp only [h]|((fail_if_success refine Wz.h ?_);first|simp (disch:=omega) only [↓LD,LA,a0A,seval]|(refine And.intro ?_ ?_;omega)|simp only [D.int,D.bool]))
   refine HS.loopG [10,51,52] (fun _:Unit=>⟨frm 64 [(10,jN),(51,jI),(52,jI)],[],[]⟩) (fun _=>True) (fun _=>0) () (by kernel_rfl) trivial ?_
   rintro - -
   repeat' (with_reducible first|refine Wx.h ?_|refine Wb.h fun K hK=>?_|(refine hK _ ?_;clear hK K)|(refine wT ?_ ?_;assumption)|(refine wF ?_ ?_;assumption)|(refine Wy.h ?_ ?_;kernel_rfl)|refine Wq.h ?_ ?_<;>intro h<;>try (exfalso;omega)|refine Wu.h ?_ ?_<;>intro h<;>try simp only [h]|((fail_if_success refine Wz.h ?_);first|simp (disch:=omega) only [↓LD,LA,a0A,seval]|(refine And.intro ?_ ?_;omega)|simp only [D.int,D.bool]))
   exact end1 rfl rfl (by kernel_rfl) .f ⟨by rw [ha];rfl,by rw [ha];rfl⟩
  ·refine a0F (y0F ms hsl (fun e he=>(hs e he).2) hz) [0,1] (by kernel_rfl) rfl rfl ?_
   rintro _ _ ⟨rfl,rfl⟩
   have hnl:(b0W ms).length=ms.length:=by rw [(b0q ms).length_eq,List.length_map]
   have hfo:=fun k hk=>a1s (ms:=ms) (k:=k) hk
   have hal:allL ms=(b0W ms).map fun k=>(c0j ms k).getD default:=rfl
   generalize b0W ms=ks at *
   obtain ⟨L,hLe⟩:∃ L,allL ms=L:=⟨_,rfl⟩
   rw [hLe] at hal
   have hLl:L.length=ks.length:=by rw [hal,List.length_map]
   simp (disch:=omega) only [↓LD,LA,a0A,seval,ren,List.getElem?_nil,bx74]
   repeat' (with_reducible first|refine Wx.h ?_|refine Wb.h fun K hK=>?_|(refine hK _ ?_;clear hK K)|(refine wT ?_ ?_;assumption)|(refine wF ?_ ?_;assumption)|(refine Wy.h ?_ ?_;kernel_rfl)|refine Wq.h ?_ ?_<;>intro h<;>try (exfalso;omega)|refine Wu.h ?_ ?_<;>intro h<;>try simp only [h]|((fail_if_success refine Wz.h ?_);first|simp (disch:=omega) only [↓LD,LA,a0A,seval]|(refine And.intro ?_ ?_;omega)|simp only [D.int,D.bool]))
   refine HS.view (View.fzd 50 rfl rfl g1M (by simp) (by decide) (by decide)) ?_
   rw [show F.s (ks.map fun k=>F.v (.string (BB k))) ks.length=fNm ks from rfl]
   refine HS.view (View.void 73) ?_
   refine HS.view (View.slot 10 (.sl 3 0 0) (.no (by show 3<4;omega))) ?_
   clear hi hF hil h
   refine HS.loopG [3,10,50,51,52] (fun j:Nat=>⟨frm 64 [(3,.mp 0),(10,.sl 1 0 j),(50,.f (fNm ks)),(51,D.int ks.length),(52,D.int j)],[.map (encM ms),.data 73 ((L.take j).flatMap Ev.cs)],[]⟩) (fun j=>j≤ks.length) (fun j=>ks.length-j) 0 (by kernel_rfl) (Nat.zero_le _) ?_
   rintro j hj
   by_cases hjl:j<ks.length
   ·obtain ⟨e,he1,he2,he3⟩:=hfo _ (a0L hjl)
    have hge:gt L j=e:=by
     rw [b0R (by omega)]
     have:L[j]?=some e:=by rw [hal,List.getElem?_map,List.getElem?_eq_getElem hjl,←b0R hjl,Option.map_some,he1];rfl
     rw [List.getElem?_eq_getElem (by omega)] at this
     exact Option.some.inj this
    have hlen2:((L.take j).flatMap Ev.cs).length=j*9:=by rw [a0J,List.length_take,Nat.min_eq_left (by omega)]
    have ha:(L.take j).flatMap Ev.cs++Ev.cs e=(L.take (j+1)).flatMap Ev.cs:=by
     rw [List.take_succ_eq_append_getElem (by omega),List.flatMap_append,←b0R (by omega),hge];simp
    rw [Ev.cs] at ha
    have hr:=fun (z:D) (ok:Bool)=>m0M (z:=z) (ok:=ok) he1
    clear hfo hal he3
    generalize hg:gt ks j=k at *
    repeat' (with_reducible first|refine Wx.h ?_|refine Wb.h fun K hK=>?_|(refine hK _ ?_;clear hK K)|(refine wT ?_ ?_;assumption)|(refine wF ?_ ?_;assumption)|(refine Wy.h ?_ ?_;kernel_rfl)|refine Wq.h ?_ ?_<;>intro h<;>try (exfalso;omega)|refine Wu.h ?_ ?_<;>intro h<;>try simp only [h]|((fail_if_success refine Wz.h ?_);first|simp (disch:=omega) only [↓LD,LA,a0A,seval,LNm,n0O,hr,hg,hlen2,Ev.cs,evD,ha,a0J]|(refine And.intro ?_ ?_;omega)|simp only [D.int,D.bool]))
    exact Next.mk (j+1) (by kernel_rfl) (by omega) (by omega)
   ·obtain rfl:j=ks.length:=by omega
    rw [List.take_of_length_le (by omega)]
    repeat' (with_reducible first|refine Wx.h ?_|refine Wb.h fun K hK=>?_|(refine hK _ ?_;clear hK K)|(refine wT ?_ ?_;assumption)|(refine wF ?_ ?_;assumption)|(refine Wy.h ?_ ?_;kernel_rfl)|refine Wq.h ?_ ?_<;>intro h<;>try (exfalso;omega)|refine Wu.h ?_ ?_<;>intro h<;>try simp only [h]|((fail_if_success refine Wz.h ?_);first|simp (disch:=omega) only [↓LD,LA,a0A,seval]|(refine And.intro ?_ ?_;omega)|simp only [D.int,D.bool]))
    have hL0:¬ L.length=0:=fun e=>hz (List.eq_nil_of_length_eq_zero (by omega))
    exact endG rfl rfl (ef:=⟨.sl 0 0 ks.length,[],[rEv L]⟩) (by kernel_rfl) ⟨by rw [hLe,alR,if_neg hL0,hLl],by rw [hLe,alH,if_neg hL0];rfl⟩
def c0a:SCode :=
  (jq ([.a 4 (.mv kN)]) (jq ((ap [jm 8 0,jm 9 1,.a 10 (.call (kC 100) [(.t 8),(.t 9)])] [jm 5 10])) (.seq (jq ([jm 11 5,.a 12 (.bin .eql (.t 11) (kI
 (-1)))]) (jc 12 (jq ([jm 13 0,jm 4 13]) .ret) .skip)) (.seq (jq ([jm 14 5,jb 15 .add 14 1,jm 6 15]) (.block 0 (.loop (.seq (jq ([jm 16 6,jm 17 0,
 je 18 17,jB 19 .lss 16 18]) (jc 19 .skip (.exit 0))) (.seq (.block 1 (jq ([jm 22 0,jm 23 6,jx 24 9 22 23,jL 25 9 24,.a 7 (.alloc 73 [jI,jI,jI,
 jI,jI,jI,(.f (.v (.string ⟨#[]⟩))),jN,jN]),.n (.store 9 (.t 7) (.t 25))]) (jq ((ap [jm 26 1,jL 27 9 7,.a 28 (.call (.t 26) [(.t 27)])] [.a 29
 (.unot (.t 28))])) (jc 29 (jq ([jm 30 0,jm 31 5,jL 32 9 7,jx 33 9 30 31,.n (.store 9 (.t 33) (.t 32))]) (.ops [jm 34 5,jb 35 .add 34 1,jm 5 35]))
 .skip)))) (.ops [jm 20 6,jb 21 .add 20 1,jm 6 21])))))) (jq ([jm 36 0,jm 37 5,.a 38 (.sub 9 73 (.t 36) (some (.t 37)) none none),.n (.clr 25 (.t
 38))]) (jq ([jm 39 0,jm 40 5,.a 41 (.sub 9 73 (.t 39) none (some (.t 40)) none),jm 4 41]) .ret))))))
theorem d0g:Fn Tryz.prog 63 42 [.t 4] c0a:=.of Tryz.func63 (by kernel_rfl)
def g0n:SCode :=
  (jq ([.a 1 (.box 30 (.t 0)),.a 2 (.mv kN)]) (jq ((ap [jL 6 1 1,.a 7 (.call (kC 18) [(.t 6)])] (ap [.a 8 (.call (kC 24) [(.t 7)])] [jm 5 8,jE 9 0 5,
 jE 10 1 5,.a 3 (.alloc 65 [jI,jI,jI,jI,jF,jN,jN,jN,jN]),.n (.store 9 (.t 3) (.t 9)),jm 4 10]))) (jq ((ap [jL 11 1 1,.a 12 (.call (kC 31)
 [(.t 11)])] (ap [.a 13 (.fn 64 [(.t 3)]),.a 14 (.call (kC 63) [(.t 12),(.t 13)])] [jm 2 14]))) .ret)))
theorem n0Z:Fn Tryz.prog 27 15 [.t 2] g0n:=.of Tryz.func27 (by kernel_rfl)
def f0a:SCode :=
 (jq ([.a 2 (.box 73 (.t 0)),.a 3 (.mv kF)]) (jq ((ap [jL 4 9 1,jo 5 6 2,jl 6 5,.a 7 (.call (kC 65) [(.t 4),(.t 6)])] [jm 3 7])) .ret))
theorem k0m:Fn Tryz.prog 64 8 [.t 3] f0a:=.of Tryz.func64 (by kernel_rfl)
def g0l:SCode :=
  (jq ([.a 1 (.box 30 (.t 0)),.a 2 (.mv kN)]) (jq ([.a 3 (.mv kN)]) (.seq (jq ((ap [jL 9 1 1,.a 10 (.call (kC 18) [(.t 9)])] (ap [.a 11 (.call (kC 24)
 [(.t 10)])] [jm 8 11,jE 12 0 8,jE 13 1 8,.a 4 (.alloc 65 [jI,jI,jI,jI,jF,jN,jN,jN,jN]),.n (.store 9 (.t 4) (.t 12)),jm 5 13]))) (jq ([jo
 14 3 4,jl 15 14,jb 16 .eql 15 0]) (jc 16 (jq ([.a 2 (.mv kN)]) .ret) .skip))) (.seq (jq ((ap [jL 17 1 1,.a 18 (.call (kC 27) [(.t 17)])] [je 19 18,
 jk 20 0])) (.block 0 (.loop (jq ([jB 21 .lss 20 19]) (.seq (jc 21 .skip (.exit 0)) (.seq (.block 1 (jq ([jx 22 9 18 20,jL 23 9 22,.a 7 (.alloc 73
 [jI,jI,jI,jI,jI,jI,(.f (.v (.string ⟨#[]⟩))),jN,jN]),.n (.store 9 (.t 7) (.t 23))]) (.ops (ap [jm 24 3,jo 25 6 7,jl 26 25,.a 27 (.bsl 9 1 1
 [(.f (.v (.string ⟨#[]⟩)))] [(0,(.t 26))]),.a 28 (.app 9 1 16 (.t 24) (.t 27))] [jm 3 28])))) (.ops [jb 29 .add 20 1,jm 20 29]))))))) (jq ([jm 30 3,
 jm 2 30]) .ret)))))
theorem n0z:Fn Tryz.prog 32 31 [.t 2] g0l:=.of Tryz.func32 (by kernel_rfl)
end Go.Proofs.YthjgmldnegaaiaaGreatDoor.Mir
