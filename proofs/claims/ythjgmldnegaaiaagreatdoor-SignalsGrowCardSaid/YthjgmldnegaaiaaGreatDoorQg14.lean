/- Lemmas for the proof. No condition. -/
import Derived.Test.YthjgmldnegaaiaaGreatDoorQg13
import Derived.Lib.LaidTab
import Derived.MakeChecks
import Derived.Shelf.SlIterI.Nil
import Derived.Shelf.SlIter.Nil
import Derived.Shelf.SortM.Plain
import Derived.Shelf.SortM.SortNone
import Derived.Ground.GgzProg
import Derived.Ground.SlgmProg
set_option linter.unusedVariables false
set_option linter.unusedSimpArgs false
namespace Go.Proofs.YthjgmldnegaaiaaGreatDoor.Mir
open Go Go.RowKit
set_option maxHeartbeats 4000000
theorem BrOk.take {l:List Ev}(h:BrOk l)(n:Nat):BrOk (l.take n):=⟨m0E h.fold,fun e he=>h.fit e (List.mem_of_mem_take he),fun e he=>h.sig e (List.mem_of_mem_take he)⟩
theorem c0w (l:List Ev)(hbr:BrOk l)(steps:List Rw)(defs:List Rd):Con Tryz.prog 37 [.f (fEv l),.f (fRw steps),.f (fR defs)] [] fun r H'=>r = .f (fEv (e0K l steps defs))∧H'=[]:=h0D l hbr steps defs
theorem x0m {H:List Row}{r n:Nat}{xs:List F}{l:List Ev}(hr:H[r]?=some (.data 73 xs))(hx:xs=l.flatMap Ev.cs)(hn:n=l.length):Vw H (.sl r 0 n) (.f (fEv l)):=by
 subst hx;subst hn
 exact .sl hr (fun e=>by rw [List.eq_nil_of_length_eq_zero e];rfl)
def hdT (hd:List Ev):Int:=if hd.length=0 then 0 else (gt hd (hd.length-1)).time
def f0C (hd:List Ev)(at' v:Int)(defs:List Rd):Pn :=
 if (a0N s0 hd).2.id=0 then (b0m ⟨(a0N s0 hd).2,v,hdT hd,[]⟩ (c0W defs)).2 else (a0u ⟨(a0N s0 hd).2,v,hdT hd,[]⟩ (a0r v++a0r at') []).2
def s0h (hd:List Ev)(at' v:Int)(steps:List Rw)(defs:List Rd):List Ev :=
 if newE hd v (hdT hd)=0 then (if (f0C hd at' v defs).out.length=0 then hd else e0K (hd++(f0C hd at' v defs).out) steps defs) else hd
def r0y (l:List Ev)(at' v:Int)(steps:List Rw)(defs:List Rd):List Ev:=s0h (l.take (pick at' (l.length+1)).toNat) at' v steps defs
theorem n0r {hd:List Ev}{at' v:Int}{defs:List Rd}(h:BrOk hd):PnT (a0N s0 hd).2 (f0C hd at' v defs):=by
 unfold f0C
 split
 ·exact v0V (h.pen _ _) ((c0O defs).1.fit (c0O defs).2.2)
 ·exact q0y (h.pen _ _) (c1e _ _) (by simp)
theorem d1q {hd:List Ev}{at' v:Int}{steps:List Rw}{defs:List Rd}(h:BrOk hd):BrOk (s0h hd at' v steps defs):=by
 unfold s0h
 split
 ·split
  ·exact h
  ·exact w0b (h.app (n0r h))
 ·exact h
theorem d1P {l:List Ev}{at' v:Int}{steps:List Rw}{defs:List Rd}(h:BrOk l):BrOk (r0y l at' v steps defs):=d1q (h.take _)
set_option maxRecDepth 100000 in
theorem n0w (l:List Ev)(hbr:BrOk l)(at' v:Int)(steps:List Rw)(defs:List Rd):Con Tryz.prog 57 [.f (fEv l),D.int at',D.int v,.f (fRw steps),.f (fR defs)] [] fun r H'=>r = .f (fEv (r0y l at' v steps defs))∧H'=[]:=by
 suffices hh:∀ Q:D→List Row→Prop,(∀ out,r0y l at' v steps defs=out→Q (.f (fEv out)) [])→Con Tryz.prog 57 [.f (fEv l),D.int at',D.int v,.f (fRw steps),.f (fR defs)] [] Q from hh _ fun out h=>⟨by rw [h],rfl⟩
 intro Q hQ
 have hF:r0y l at' v steps defs=s0h (l.take (pick at' (l.length+1)).toNat) at' v steps defs:=rfl
 have hll:=hbr.len
 have pk:=b0Y (x:=at') (n:=l.length+1) (by omega)
 obtain ⟨c,hc⟩:∃ c:Nat,pick at' (l.length+1)=c:=⟨(pick at' (l.length+1)).toNat,by omega⟩
 have hcl:c≤l.length:=by omega
 have hs:∀ H:List Row,subS H 9 73 (.f (fEv l)) 0 c=some (.f (fEv (l.take c))):=fun H=>g0D hcl
 have hh:=hbr.take c
 rw [show (pick at' ((l.length:Int)+1)).toNat=c by omega] at hF
 generalize l.take c=hd at hs hh hF
 have hhl:=hh.len
 refine Con.walk good k0v (by simp) ?_
 unfold f0W
 simp only [a0J]
 have e1:((hd.length:Int)-1).toNat=hd.length-1:=by omega
 have htm:0<hd.length→0≤(gt hd (hd.length-1)).time∧(gt hd (hd.length-1)).time≤1099511627776:=fun hk=>by
  have:=rightE_iff.1 (hh.right (a0M (l:=hd) (k:=hd.length-1) (by omega)))
  exact ⟨this.2.2.2.1.1,this.2.2.2.1.2⟩
 have hname:(a0r v++a0r at').length≤1000000:=by have:=a0y v;have:=a0y at';rw [List.length_append];omega
 have hsz:(a0r v).length+(a0r at').length≤1000:=by have:=a0y v;have:=a0y at';omega
 refine HS.seq ?_
 repeat' (with_reducible first|refine Wa.h ?_|refine Wb.h fun K hK=>?_|(refine hK _ ?_;clear hK K)|((fail_if_success refine Wz.h ?_);simp (disch:=omega) only [↓LD,LA,a0A,seval]))
 refine HS.seq ?_
 repeat' (with_reducible first|refine Wa.h ?_|refine Wb.h fun K hK=>?_|(refine hK _ ?_;clear hK K)|refine Wq.h ?_ ?_<;>intro h|((fail_if_success refine Wz.h ?_);first|simp (disch:=omega) only [↓LD,LA,a0A,seval,LEv,hc,hs,a0K,Int.toNat_natCast]|(refine And.intro ?_ ?_;omega)|fail))
 ·(obtain rfl:=List.eq_nil_of_length_eq_zero h)
  have hnw:hdT ([]:List Ev)=0:=rfl
  unfold s0h at hF
  rw [hnw] at hF
  refine HS.view (View.sweep (keep:=[1,2,3,4,10,11]) (s':=⟨frm 77 [(1,D.int at'),(2,D.int v),(3,.f (fRw steps)),(4,.f (fR defs)),(10,jN),(11,.sl 0 0 (List.length ([]:List Ev)))],[rEv ([]:List Ev)],[]⟩) (by kernel_rfl)) ?_
  repeat' (with_reducible first|refine Wx.h ?_|refine Wb.h fun K hK=>?_|(refine hK _ ?_;clear hK K)|((fail_if_success refine Wz.h ?_);simp (disch:=omega) only [↓LD,LA,a0A,seval,rEv,o0I,e1,a0K,Ev.cs]))
  refine a0D (e0j ([]:List Ev) v 0 (by omega) hh.fit) [0] (by kernel_rfl) rfl rfl ?_
  rintro _ _ ⟨hq1,hq2⟩
  by_cases hn:newE ([]:List Ev) v 0=0
  rotate_left
  ·obtain ⟨rfl,rfl⟩:=hq1 hn
   simp (disch:=omega) only [↓LD,LA,a0A,seval,ren,List.getElem?_nil,rEv]
   repeat' (with_reducible first|refine Wx.h ?_|refine Wb.h fun K hK=>?_|(refine hK _ ?_;clear hK K)|(refine wF ?_ ?_;assumption)|((fail_if_success refine Wz.h ?_);simp (disch:=omega) only [↓LD,LA,a0A,seval,rEv]))
   exact end1 rfl rfl (by kernel_rfl) (.sl (T:=73) (xs:=List.flatMap Ev.cs ([]:List Ev)) rfl (fun e=>by first|rfl|(rw [List.eq_nil_of_length_eq_zero e];rfl))) (hQ ([]:List Ev) (by rw [hF,if_neg hn]))
  obtain ⟨rfl,rfl⟩:=hq2 hn
  have hp':=n0r (at':=at') (v:=v) (defs:=defs) hh
  rw [if_pos hn] at hF
  have hok:=hh.ok
  by_cases hz:(a0N s0 ([]:List Ev)).2.id=0
  ·simp (disch:=omega) only [↓LD,LA,a0A,seval,ren,List.getElem?_nil,rEv,pnB,pnD]
   repeat' (with_reducible first|refine Wx.h ?_|refine Wb.h fun K hK=>?_|(refine hK _ ?_;clear hK K)|(refine wT ?_ ?_;assumption)|((fail_if_success refine Wz.h ?_);simp (disch:=omega) only [↓LD,LA,a0A,seval,rEv,pnB,pnD]))
   have hfp:f0C ([]:List Ev) at' v defs=(b0m ⟨(a0N s0 ([]:List Ev)).2,v,0,[]⟩ (c0W defs)).2:=by unfold f0C;rw [if_pos hz,hnw]
   rw [hfp] at hF hp'
   refine a0D (d0f defs) [] (by kernel_rfl) rfl rfl ?_
   rintro _ _ ⟨rfl,rfl⟩
   simp (disch:=omega) only [↓LD,LA,a0A,seval,ren,List.getElem?_nil]
   repeat' (with_reducible first|(refine hK _ ?_;clear hK K)|((fail_if_success refine Wz.h ?_);simp (disch:=omega) only [↓LD,LA,a0A,seval,rEv]))
   refine a0D (f0B ⟨(a0N s0 ([]:List Ev)).2,v,0,[]⟩ (c0W defs) hok (by simp) ((c0O defs).1.fit (c0O defs).2.2)) [1] (by kernel_rfl) rfl rfl ?_
   rintro _ _ ⟨rfl,rfl⟩
   generalize b0m ⟨(a0N s0 ([]:List Ev)).2,v,0,[]⟩ (c0W defs)=p at *
   obtain ⟨x,p'⟩:=p
   dsimp only at hp' hF ⊢
   clear hfp
   have hpl:=hp'.ok.len
   have hap:=hh.app hp'
   simp (disch:=omega) only [↓LD,LA,a0A,seval,ren,List.getElem?_nil,rEv,pnB,pnD]
   repeat' (with_reducible first|refine Wx.h ?_|refine Wb.h fun K hK=>?_|(refine hK _ ?_;clear hK K)|refine Wq.h ?_ ?_<;>intro h<;>try (exfalso;omega)|((fail_if_success refine Wz.h ?_);first|simp (disch:=omega) only [↓LD,LA,a0A,seval,rEv,LEv,a0K]|(refine And.intro ?_ ?_;omega)|fail))
   ·exact end1 rfl rfl (by kernel_rfl) (.sl (T:=73) (xs:=List.flatMap Ev.cs ([]:List Ev)) rfl (fun e=>by first|rfl|(rw [List.eq_nil_of_length_eq_zero e];rfl))) (hQ ([]:List Ev) (by rw [hF,if_pos (by omega)]))
   refine d0M [2] (args0:=[.f (fEv (([]:List Ev)++p'.out)),.f (fRw steps),.f (fR defs)]) (.cons ?_ (.cons .f (.cons .f .nil))) ?_
   ·exact x0m rfl (by rw [List.flatMap_append]) (by simp)
   refine a0D (c0w (([]:List Ev)++p'.out) hap steps defs) [] (by kernel_rfl) rfl rfl ?_
   rintro _ _ ⟨rfl,rfl⟩
   simp (disch:=omega) only [↓LD,LA,a0A,seval,ren,List.getElem?_nil]
   repeat' (with_reducible first|refine Wx.h ?_|(refine hK _ ?_;clear hK K)|((fail_if_success refine Wz.h ?_);simp (disch:=omega) only [↓LD,LA,a0A,seval]))
   exact end1 rfl rfl (by kernel_rfl) .f (hQ _ (by rw [hF,if_neg (by omega)];try rfl))
  ·have hfp:f0C ([]:List Ev) at' v defs=(a0u ⟨(a0N s0 ([]:List Ev)).2,v,0,[]⟩ (a0r v++a0r at') []).2:=by unfold f0C;rw [if_neg hz,hnw]
   rw [hfp] at hF hp'
   simp (disch:=omega) only [↓LD,LA,a0A,seval,ren,List.getElem?_nil,rEv,pnB,pnD]
   repeat' (with_reducible first|refine Wx.h ?_|refine Wb.h fun K hK=>?_|(refine hK _ ?_;clear hK K)|(refine wF ?_ ?_;assumption)|((fail_if_success refine Wz.h ?_);first|simp (disch:=omega) only [↓LD,LA,a0A,seval,rEv,pnB,pnD,a1P]|(refine And.intro ?_ ?_;omega)|fail))
   refine d0Z (args0:=[.pt 1 0,.f (.v (.string (BB (a0r v++a0r at')))),.f (fY [])]) ?_ (.cons .refl (.cons .refl (.cons (.f .ns) .nil)))
   refine a0D (e0M ⟨(a0N s0 ([]:List Ev)).2,v,0,[]⟩ (a0r v++a0r at') [] hok (by simp) hname (by simp)) [1] (by kernel_rfl) rfl rfl ?_
   rintro _ _ ⟨rfl,rfl⟩
   generalize a0u ⟨(a0N s0 ([]:List Ev)).2,v,0,[]⟩ (a0r v++a0r at') []=p at *
   obtain ⟨x,p'⟩:=p
   dsimp only at hp' hF ⊢
   clear hfp
   have hpl:=hp'.ok.len
   have hap:=hh.app hp'
   simp (disch:=omega) only [↓LD,LA,a0A,seval,ren,List.getElem?_nil,rEv,pnB,pnD,duo]
   repeat' (with_reducible first|refine Wx.h ?_|refine Wb.h fun K hK=>?_|(refine hK _ ?_;clear hK K)|refine Wq.h ?_ ?_<;>intro h<;>try (exfalso;omega)|((fail_if_success refine Wz.h ?_);first|simp (disch:=omega) only [↓LD,LA,a0A,seval,rEv,LEv,a0K]|(refine And.intro ?_ ?_;omega)|fail))
   ·exact end1 rfl rfl (by kernel_rfl) (.sl (T:=73) (xs:=List.flatMap Ev.cs ([]:List Ev)) rfl (fun e=>by first|rfl|(rw [List.eq_nil_of_length_eq_zero e];rfl))) (hQ ([]:List Ev) (by rw [hF,if_pos (by omega)]))
   refine d0M [2] (args0:=[.f (fEv (([]:List Ev)++p'.out)),.f (fRw steps),.f (fR defs)]) (.cons ?_ (.cons .f (.cons .f .nil))) ?_
   ·exact x0m rfl (by rw [List.flatMap_append]) (by simp)
   refine a0D (c0w (([]:List Ev)++p'.out) hap steps defs) [] (by kernel_rfl) rfl rfl ?_
   rintro _ _ ⟨rfl,rfl⟩
   simp (disch:=omega) only [↓LD,LA,a0A,seval,ren,List.getElem?_nil]
   repeat' (with_reducible first|refine Wx.h ?_|(refine hK _ ?_;clear hK K)|((fail_if_success refine Wz.h ?_);simp (disch:=omega) only [↓LD,LA,a0A,seval]))
   exact end1 rfl rfl (by kernel_rfl) .f (hQ _ (by rw [hF,if_neg (by omega)];try rfl))
 ·(have htm:=htm (by omega))
  have hnw:hdT hd=(gt hd (hd.length-1)).time:=if_neg h
  unfold s0h at hF
  rw [hnw] at hF
  refine HS.view (View.sweep (keep:=[1,2,3,4,10,11]) (s':=⟨frm 77 [(1,D.int at'),(2,D.int v),(3,.f (fRw steps)),(4,.f (fR defs)),(10,jN),(11,.sl 0 0 (List.length hd))],[rEv hd],[]⟩) (by kernel_rfl)) ?_
  repeat' (with_reducible first|refine Wx.h ?_|refine Wb.h fun K hK=>?_|(refine hK _ ?_;clear hK K)|refine Wq.h ?_ ?_<;>intro h<;>try (exfalso;omega)|((fail_if_success refine Wz.h ?_);first|simp (disch:=omega) only [↓LD,LA,a0A,seval,rEv,o0I,e1,a0K,Ev.cs]|(refine And.intro ?_ ?_;omega)|fail))
  refine a0D (e0j hd v (gt hd (hd.length-1)).time (by omega) hh.fit) [0] (by kernel_rfl) rfl rfl ?_
  rintro _ _ ⟨hq1,hq2⟩
  by_cases hn:newE hd v (gt hd (hd.length-1)).time=0
  rotate_left
  ·obtain ⟨rfl,rfl⟩:=hq1 hn
   simp (disch:=omega) only [↓LD,LA,a0A,seval,ren,List.getElem?_nil,rEv]
   repeat' (with_reducible first|refine Wx.h ?_|refine Wb.h fun K hK=>?_|(refine hK _ ?_;clear hK K)|(refine wF ?_ ?_;assumption)|((fail_if_success refine Wz.h ?_);simp (disch:=omega) only [↓LD,LA,a0A,seval,rEv]))
   exact end1 rfl rfl (by kernel_rfl) (.sl (T:=73) (xs:=List.flatMap Ev.cs hd) rfl (fun e=>by first|rfl|(rw [List.eq_nil_of_length_eq_zero e];rfl))) (hQ hd (by rw [hF,if_neg hn]))
  obtain ⟨rfl,rfl⟩:=hq2 hn
  have hp':=n0r (at':=at') (v:=v) (defs:=defs) hh
  rw [if_pos hn] at hF
  have hok:=hh.ok
  by_cases hz:(a0N s0 hd).2.id=0
  ·simp (disch:=omega) only [↓LD,LA,a0A,seval,ren,List.getElem?_nil,rEv,pnB,pnD]
   repeat' (with_reducible first|refine Wx.h ?_|refine Wb.h fun K hK=>?_|(refine hK _ ?_;clear hK K)|(refine wT ?_ ?_;assumption)|((fail_if_success refine Wz.h ?_);simp (disch:=omega) only [↓LD,LA,a0A,seval,rEv,pnB,pnD]))
   have hfp:f0C hd at' v defs=(b0m ⟨(a0N s0 hd).2,v,(gt hd (hd.length-1)).time,[]⟩ (c0W defs)).2:=by unfold f0C;rw [if_pos hz,hnw]
   rw [hfp] at hF hp'
   refine a0D (d0f defs) [] (by kernel_rfl) rfl rfl ?_
   rintro _ _ ⟨rfl,rfl⟩
   simp (disch:=omega) only [↓LD,LA,a0A,seval,ren,List.getElem?_nil]
   repeat' (with_reducible first|(refine hK _ ?_;clear hK K)|((fail_if_success refine Wz.h ?_);simp (disch:=omega) only [↓LD,LA,a0A,seval,rEv]))
   refine a0D (f0B ⟨(a0N s0 hd).2,v,(gt hd (hd.length-1)).time,[]⟩ (c0W defs) hok (by simp) ((c0O defs).1.fit (c0O defs).2.2)) [1] (by kernel_rfl) rfl rfl ?_
   rintro _ _ ⟨rfl,rfl⟩
   generalize b0m ⟨(a0N s0 hd).2,v,(gt hd (hd.length-1)).time,[]⟩ (c0W defs)=p at *
   obtain ⟨x,p'⟩:=p
   dsimp only at hp' hF ⊢
   clear hfp
   have hpl:=hp'.ok.len
   have hap:=hh.app hp'
   simp (disch:=omega) only [↓LD,LA,a0A,seval,ren,List.getElem?_nil,rEv,pnB,pnD]
   repeat' (with_reducible first|refine Wx.h ?_|refine Wb.h fun K hK=>?_|(refine hK _ ?_;clear hK K)|refine Wq.h ?_ ?_<;>intro h<;>try (exfalso;omega)|((fail_if_success refine Wz.h ?_);first|simp (disch:=omega) only [↓LD,LA,a0A,seval,rEv,LEv,a0K]|(refine And.intro ?_ ?_;omega)|fail))
   ·exact end1 rfl rfl (by kernel_rfl) (.sl (T:=73) (xs:=List.flatMap Ev.cs hd) rfl (fun e=>by first|rfl|(rw [List.eq_nil_of_length_eq_zero e];rfl))) (hQ hd (by rw [hF,if_pos (by omega)]))
   refine d0M [2] (args0:=[.f (fEv (hd++p'.out)),.f (fRw steps),.f (fR defs)]) (.cons ?_ (.cons .f (.cons .f .nil))) ?_
   ·exact x0m rfl (by rw [List.flatMap_append]) (by simp)
   refine a0D (c0w (hd++p'.out) hap steps defs) [] (by kernel_rfl) rfl rfl ?_
   rintro _ _ ⟨rfl,rfl⟩
   simp (disch:=omega) only [↓LD,LA,a0A,seval,ren,List.getElem?_nil]
   repeat' (with_reducible first|refine Wx.h ?_|(refine hK _ ?_;clear hK K)|((fail_if_success refine Wz.h ?_);simp (disch:=omega) only [↓LD,LA,a0A,seval]))
   exact end1 rfl rfl (by kernel_rfl) .f (hQ _ (by rw [hF,if_neg (by omega)];try rfl))
  ·have hfp:f0C hd at' v defs=(a0u ⟨(a0N s0 hd).2,v,(gt hd (hd.length-1)).time,[]⟩ (a0r v++a0r at') []).2:=by unfold f0C;rw [if_neg hz,hnw]
   rw [hfp] at hF hp'
   simp (disch:=omega) only [↓LD,LA,a0A,seval,ren,List.getElem?_nil,rEv,pnB,pnD]
   repeat' (with_reducible first|refine Wx.h ?_|refine Wb.h fun K hK=>?_|(refine hK _ ?_;clear hK K)|(refine wF ?_ ?_;assumption)|((fail_if_success refine Wz.h ?_);first|simp (disch:=omega) only [↓LD,LA,a0A,seval,rEv,pnB,pnD,a1P]|(refine And.intro ?_ ?_;omega)|fail))
   refine d0Z (args0:=[.pt 1 0,.f (.v (.string (BB (a0r v++a0r at')))),.f (fY [])]) ?_ (.cons .refl (.cons .refl (.cons (.f .ns) .nil)))
   refine a0D (e0M ⟨(a0N s0 hd).2,v,(gt hd (hd.length-1)).time,[]⟩ (a0r v++a0r at') [] hok (by simp) hname (by simp)) [1] (by kernel_rfl) rfl rfl ?_
   rintro _ _ ⟨rfl,rfl⟩
   generalize a0u ⟨(a0N s0 hd).2,v,(gt hd (hd.length-1)).time,[]⟩ (a0r v++a0r at') []=p at *
   obtain ⟨x,p'⟩:=p
   dsimp only at hp' hF ⊢
   clear hfp
   have hpl:=hp'.ok.len
   have hap:=hh.app hp'
   simp (disch:=omega) only [↓LD,LA,a0A,seval,ren,List.getElem?_nil,rEv,pnB,pnD,duo]
   repeat' (with_reducible first|refine Wx.h ?_|refine Wb.h fun K hK=>?_|(refine hK _ ?_;clear hK K)|refine Wq.h ?_ ?_<;>intro h<;>try (exfalso;omega)|((fail_if_success refine Wz.h ?_);first|simp (disch:=omega) only [↓LD,LA,a0A,seval,rEv,LEv,a0K]|(refine And.intro ?_ ?_;omega)|fail))
   ·exact end1 rfl rfl (by kernel_rfl) (.sl (T:=73) (xs:=List.flatMap Ev.cs hd) rfl (fun e=>by first|rfl|(rw [List.eq_nil_of_length_eq_zero e];rfl))) (hQ hd (by rw [hF,if_pos (by omega)]))
   refine d0M [2] (args0:=[.f (fEv (hd++p'.out)),.f (fRw steps),.f (fR defs)]) (.cons ?_ (.cons .f (.cons .f .nil))) ?_
   ·exact x0m rfl (by rw [List.flatMap_append]) (by simp)
   refine a0D (c0w (hd++p'.out) hap steps defs) [] (by kernel_rfl) rfl rfl ?_
   rintro _ _ ⟨rfl,rfl⟩
   simp (disch:=omega) only [↓LD,LA,a0A,seval,ren,List.getElem?_nil]
   repeat' (with_reducible first|refine Wx.h ?_|(refine hK _ ?_;clear hK K)|((fail_if_success refine Wz.h ?_);simp (disch:=omega) only [↓LD,LA,a0A,seval]))
   exact end1 rfl rfl (by kernel_rfl) .f (hQ _ (by rw [hF,if_neg (by omega)];try rfl))
instance {steps:List Rw}{defs:List Rd}{H:List Row}{K:Bool→D→List Row→Prop}:Wa (a0m Tryz.prog (.fn 9 []) [.f (fRw steps),.f (fR defs)] H K) (K true (.f (fEv (e0K [] steps defs))) H):=⟨fun h=>a0O (l0H steps defs) rfl rfl rfl h⟩
instance {l:List Ev}{at' v:Int}{steps:List Rw}{defs:List Rd}{H:List Row}{K:Bool→D→List Row→Prop}[hl:Kn (BrOk l)]:Wa (a0m Tryz.prog (.fn 57 []) [.f (fEv l),.f (.v (.int .i64 at')),.f (.v (.int .i64 v)),.f (fRw steps),.f (fR defs)] H K) (K true (.f (fEv (r0y l at' v steps defs))) H):=⟨fun h=>a0O (n0w l hl.h at' v steps defs) rfl rfl rfl h⟩
def fSs (s:List (List Rw)):F:=.s (s.map fRw) s.length
theorem x0Y {g:List (List Rw)}:slcS (.f (fSs g))=some g.length:=id rfl
theorem x0D {g:List (List Rw)}{sz:Nat}{k:IntKind}{i:Int}{K:D→Prop}:idxS sz (.f (fSs g)) (.f (.v (.int k i))) K=((0≤i∧i<g.length)∧K (.rf ((g.map fRw).drop (i.toNat*sz)))):=id rfl
theorem LSs:type_of% @x0Y∧type_of% @x0D:=⟨@x0Y,@x0D⟩
def lnD (s:List (List Rw))(a:List Int)(d:List Rd):D:=.ag [.f (fSs s),.f (fI a),.f (fR d)]
def brI (s:List (List Rw))(a:List Int)(d:List Rd)(i:Nat)(out:Br)(v:Int):List Ev :=
 if i=0 then e0K [] (gt s 0) d else r0y (gt out (pick (IntKind.i64.wrap (i*7+a.length)) out.length).toNat) (if i<a.length then gt a i else 0) (verL v (IntKind.i64.wrap (1+(i:Int).tmod 2))) (gt s i) d
def brV (v:Int)(b:List Ev):Int:=if 0<b.length then max v (gt b (b.length-1)).ver else v
def brA (s:List (List Rw))(a:List Int)(d:List Rd):Nat→Nat→Br→Int→Br
 | 0,_,out,_=>out
 | f+1,i,out,v=>if i<s.length then brA s a d f (i+1) (out++[brI s a d i out v]) (brV v (brI s a d i out v)) else out
def b0c (s:List (List Rw))(a:List Int)(d:List Rd):Br:=brA s a d 5 0 [] 0
theorem g1K {s:List (List Rw)}{a:List Int}{d:List Rd}{f i:Nat}{out:Br}{v:Int}(h:f=0∨¬ i<s.length):brA s a d f i out v=out:=by
 cases f with
 | zero=>rfl
 | succ f=>rw [brA,if_neg (by omega)]
theorem c1y {s:List (List Rw)}{a:List Int}{d:List Rd}{i:Nat}{out:Br}{v:Int}(ho:out.length=i)(hb:∀ b∈out,BrOk b):BrOk (brI s a d i out v):=by
 unfold brI
 split
 ·exact w0b BrOk.nil
 ·have pk:=b0Y (x:=IntKind.i64.wrap (i*7+a.length)) (n:=out.length) (by omega)
  exact d1P (hb _ (a0M (by omega)))
theorem f1J {s:List (List Rw)}{a:List Int}{d:List Rd}:∀ {f i:Nat} {out:Br} {v:Int},out.length=i→(∀ b∈out,BrOk b)→(∀ b∈brA s a d f i out v,BrOk b)∧(brA s a d f i out v).length≤i+f
 | 0,i,out,v,ho,hb=>⟨hb,by rw [brA];omega⟩
 | f+1,i,out,v,ho,hb=>by
  rw [brA]
  split
  ·have:=f1J (s:=s) (a:=a) (d:=d) (f:=f) (i:=i+1) (out:=out++[brI s a d i out v]) (v:=brV v (brI s a d i out v)) (by simp [ho]) (fun b h=>by
    rcases List.mem_append.1 h with h|h
    ·exact hb b h
    ·rw [List.mem_singleton.1 h];exact c1y ho hb)
   exact ⟨this.1,by omega⟩
  ·exact ⟨hb,by omega⟩
theorem s0c (s:List (List Rw))(a:List Int)(d:List Rd):(∀ b∈b0c s a d,BrOk b)∧(b0c s a d).length≤5:=by
 have:=f1J (s:=s) (a:=a) (d:=d) (f:=5) (i:=0) (out:=[]) (v:=0) rfl (fun b h=>by simp at h)
 exact ⟨this.1,by have:=this.2;unfold b0c;omega⟩
theorem d1i {H:List Row}{r n:Nat}{xs:List F}{t:Br}(hr:H[r]?=some (.data 25 xs))(hx:xs=t.map fEv)(hn:n=t.length):Vw H (.sl r 0 n) (.f (fBr t)):=by
 subst hx;subst hn
 exact .sl hr (fun e=>by rw [List.eq_nil_of_length_eq_zero e];rfl)
set_option maxRecDepth 100000 in
theorem k0h (s:List (List Rw))(a:List Int)(d:List Rd):Con Tryz.prog 23 [lnD s a d] [] fun r H'=>r = .f (fBr (b0c s a d))∧H'=[]:=by
 suffices hh:∀ Q:D→List Row→Prop,(∀ o,b0c s a d=o→Q (.f (fBr o)) [])→Con Tryz.prog 23 [lnD s a d] [] Q from hh _ fun o h=>⟨by rw [h],rfl⟩
 intro Q hQ
 refine Con.walk good h0s (by simp) ?_
 unfold e0O
 simp only [a0J,lnD]
 refine HS.seq ?_
 repeat' (with_reducible first|refine Wa.h ?_|refine Wb.h fun K hK=>?_|(refine hK _ ?_;clear hK K)|((fail_if_success refine Wz.h ?_);simp (disch:=omega) only [↓LD,LA,a0A,seval]))
 refine HS.seq ?_
 repeat' (with_reducible first|refine Wa.h ?_|refine Wb.h fun K hK=>?_|(refine hK _ ?_;clear hK K)|((fail_if_success refine Wz.h ?_);simp (disch:=omega) only [↓LD,LA,a0A,seval]))
 refine HS.view (View.void 25) ?_
 refine HS.view (View.slot 3 (.sl 1 0 0) (.no (Nat.lt_succ_self 1))) ?_
 repeat' (with_reducible first|refine Wx.h ?_|refine Wb.h fun K hK=>?_|(refine hK _ ?_;clear hK K)|((fail_if_success refine Wz.h ?_);simp (disch:=omega) only [↓LD,LA,a0A,seval]))
 refine HS.loopG [1,3,4,5] (fun x:Nat × Br × Int=>⟨frm 91 [(1,.pt 0 0),(3,.sl 1 0 x.2.1.length),(4,D.int x.2.2),(5,D.int x.1)],[.box 48 [.f (fSs s),.f (fI a),.f (fR d)],.data 25 (x.2.1.map fEv)],[]⟩) (fun x=>x.1≤5∧x.2.1.length=x.1∧(∀ b∈x.2.1,BrOk b)∧(0≤x.2.2∧x.2.2≤1099511627776)∧b0c s a d=brA s a d (5-x.1) x.1 x.2.1 x.2.2) (fun x=>5-x.1) (0,[],0) (by kernel_rfl) ⟨Nat.zero_le _,rfl,fun b h=>by simp at h,⟨by decide,by decide⟩,rfl⟩ ?_
 rintro ⟨i,out,v⟩ ⟨hi,ho,hb,hv,hE⟩
 dsimp only at hi ho hb hv hE
 by_cases hil:i<s.length∧i<5
 rotate_left
 ·have hx:b0c s a d=out:=by rw [hE,g1K (by omega)]
  by_cases hil2:i<s.length
  ·have h5:i=5:=by omega
   subst h5
   repeat' (with_reducible first|refine Wx.h ?_|refine Wb.h fun K hK=>?_|(refine hK _ ?_;clear hK K)|refine Wq.h ?_ ?_<;>intro h<;>try (exfalso;omega)|((fail_if_success refine Wz.h ?_);simp (disch:=omega) only [↓LD,LA,a0A,seval,LSs,LBr]))
   exact end1 rfl rfl (by kernel_rfl) (d1i rfl rfl rfl) (hQ out hx)
  ·repeat' (with_reducible first|refine Wx.h ?_|refine Wb.h fun K hK=>?_|(refine hK _ ?_;clear hK K)|refine Wq.h ?_ ?_<;>intro h<;>try (exfalso;omega)|((fail_if_success refine Wz.h ?_);simp (disch:=omega) only [↓LD,LA,a0A,seval,LSs,LBr]))
   exact end1 rfl rfl (by kernel_rfl) (d1i rfl rfl rfl) (hQ out hx)
 obtain ⟨hil,hi5⟩:=hil
 have hbk:BrOk (brI s a d i out v):=c1y ho hb
 rw [show 5-i=(5-(i+1))+1 by omega,brA,if_pos hil] at hE
 have hbr:brI s a d i out v=brI s a d i out v:=rfl
 conv at hbr=>rhs;unfold brI
 have e2:(((out.length+1:Nat):Int)-1).toNat=out.length:=by omega
 generalize hbe:brI s a d i out v=b at *
 clear hbe
 have e3:(out.map fEv++[fEv b])[out.length]?=some (fEv b):=by rw [List.getElem?_append_right (by simp)];simp
 have e4:=w0J (l:=out) (x:=b)
 have hbl:=hbk.len
 have e1:((b.length:Int)-1).toNat=b.length-1:=by omega
 have hba:∀ x∈out++[b],BrOk x:=fun x h=>by
  rcases List.mem_append.1 h with h|h
  ·exact hb x h
  ·rw [List.mem_singleton.1 h];exact hbk
 have hvb:0<b.length→1≤(gt b (b.length-1)).ver∧(gt b (b.length-1)).ver≤1099511627776:=fun hk=>f0Q (rightE_iff.1 (hbk.right (a0M (l:=b) (k:=b.length-1) (by omega)))).2.2.1
 have c1:=fun hk=>g0d (g:=b) (k:=b.length-1) hk
 unfold brV at hE
 by_cases hz:i=0
 ·rw [if_pos hz] at hbr
  subst hz
  repeat' (with_reducible first|refine Wx.h ?_|refine We.h fun K hK=>?_|(refine hK _ _ _ _ ?_;clear hK K;try clear hM M)|refine Wb.h fun K hK=>?_|(refine hK _ ?_;clear hK K)|(refine Wy.h ?_ ?_;kernel_rfl)|refine Wq.h ?_ ?_<;>intro h<;>try (exfalso;omega)|((fail_if_success refine Wz.h ?_);first|simp (disch:=omega) only [↓LD,LA,a0A,seval,LSs,LBr,←hbr,LEv,a0K,Ev.cs,List.length_map,e1,e2,e3,c1]|(refine And.intro ?_ ?_;omega)|fail))
  ·rw [if_pos (by omega)] at hE
   have:=hvb (by omega)
   rw [e4,show out.length+1=(out++[b]).length by simp]
   exact Next.mk (0+1,out++[b],max v (gt b (b.length-1)).ver) (by kernel_rfl) ⟨by dsimp only;omega,by simp [ho],hba,⟨by dsimp only;omega,by dsimp only;omega⟩,hE⟩ (by dsimp only;omega)
  ·rw [if_neg (by omega)] at hE
   rw [e4,show out.length+1=(out++[b]).length by simp]
   exact Next.mk (0+1,out++[b],v) (by kernel_rfl) ⟨by dsimp only;omega,by simp [ho],hba,hv,hE⟩ (by dsimp only;omega)
 rw [if_neg hz] at hbr
 have pk:=b0Y (x:=IntKind.i64.wrap (i*7+a.length)) (n:=out.length) (by omega)
 haveI:Kn (BrOk (gt out (pick (IntKind.i64.wrap (i*7+a.length)) out.length).toNat)):=⟨hb _ (a0M (by omega))⟩
 by_cases hia:i<a.length
 ·rw [if_pos hia] at hbr
  repeat' (with_reducible first|refine Wx.h ?_|refine We.h fun K hK=>?_|(refine hK _ _ _ _ ?_;clear hK K;try clear hM M)|refine Wb.h fun K hK=>?_|(refine hK _ ?_;clear hK K)|(refine Wy.h ?_ ?_;kernel_rfl)|refine Wq.h ?_ ?_<;>intro h<;>try (exfalso;omega)|((fail_if_success refine Wz.h ?_);first|simp (disch:=omega) only [↓LD,LA,a0A,seval,LSs,LBr,←hbr,LEv,a0K,Ev.cs,List.length_map,e1,e2,e3,c1]|(refine And.intro ?_ ?_;omega)|fail))
  ·rw [if_pos (by omega)] at hE
   have:=hvb (by omega)
   rw [e4,show out.length+1=(out++[b]).length by simp]
   exact Next.mk (i+1,out++[b],max v (gt b (b.length-1)).ver) (by kernel_rfl) ⟨by dsimp only;omega,by simp [ho],hba,⟨by dsimp only;omega,by dsimp only;omega⟩,hE⟩ (by dsimp only;omega)
  ·rw [if_neg (by omega)] at hE
   rw [e4,show out.length+1=(out++[b]).length by simp]
   exact Next.mk (i+1,out++[b],v) (by kernel_rfl) ⟨by dsimp only;omega,by simp [ho],hba,hv,hE⟩ (by dsimp only;omega)
 have hw:IntKind.i64.wrap ((i:Int)*7+a.length)=(i:Int)*7+a.length:=t0R (by omega) (by omega)
 rw [if_neg hia,hw] at hbr
 rw [hw] at pk
 rw [hw] at this
 repeat' (with_reducible first|refine Wx.h ?_|refine We.h fun K hK=>?_|(refine hK _ _ _ _ ?_;clear hK K;try clear hM M)|refine Wb.h fun K hK=>?_|(refine hK _ ?_;clear hK K)|(refine Wy.h ?_ ?_;kernel_rfl)|refine Wq.h ?_ ?_<;>intro h<;>try (exfalso;omega)|((fail_if_success refine Wz.h ?_);first|simp (disch:=omega) only [↓LD,LA,a0A,seval,LSs,LBr,←hbr,LEv,a0K,Ev.cs,List.length_map,e1,e2,e3,c1]|(refine And.intro ?_ ?_;omega)|fail))
 ·rw [if_pos (by omega)] at hE
  have:=hvb (by omega)
  rw [e4,show out.length+1=(out++[b]).length by simp]
  exact Next.mk (i+1,out++[b],max v (gt b (b.length-1)).ver) (by kernel_rfl) ⟨by dsimp only;omega,by simp [ho],hba,⟨by dsimp only;omega,by dsimp only;omega⟩,hE⟩ (by dsimp only;omega)
 ·rw [if_neg (by omega)] at hE
  rw [e4,show out.length+1=(out++[b]).length by simp]
  exact Next.mk (i+1,out++[b],v) (by kernel_rfl) ⟨by dsimp only;omega,by simp [ho],hba,hv,hE⟩ (by dsimp only;omega)
end Go.Proofs.YthjgmldnegaaiaaGreatDoor.Mir
namespace Go.Proofs.YthjgmldnegaaiaaGreatDoor
open Go Go.RowKit
abbrev y0K:=Option Addr × Nat × List RwIn
def rwsV (x:y0K):List Value:=[.slice x.1 x.2.2.length x.2.1]
def h1C (W:World)(x:y0K):Prop:=InS rwV (rwOk W) 64 W x.1 x.2.1 x.2.2
theorem y0s (W:World):Reader Tryz.prog W 22 rwsV (h1C W) :=
 b0R (n:=6) (B:=64) Tryz.underlying22 (by kernel_rfl) (by kernel_rfl) (fun _=>rfl) (d1L W)
abbrev LnIn:=(Option Addr × Nat × List y0K) × (Option Addr × Nat × List Int) × (Option Addr × Nat × List z0U)
def lnV (x:LnIn):List Value:=[.slice x.1.1 x.1.2.2.length x.1.2.1,.slice x.2.1.1 x.2.1.2.2.length x.2.1.2.1,.slice x.2.2.1 x.2.2.2.2.length x.2.2.2.1]
def lnOk (W:World)(x:LnIn):Prop:=InS rwsV (h1C W) 24 W x.1.1 x.1.2.1 x.1.2.2∧InS (fun n:Int=>[Value.int .i64 n]) (fun n=>(Lit.int .i64 n).wf=true) 8 W x.2.1.1 x.2.1.2.1 x.2.1.2.2∧InS rawV (g1a W) 40 W x.2.2.1 x.2.2.2.1 x.2.2.2.2
theorem c1P (W:World):Reader Tryz.prog W 48 lnV (lnOk W) :=
 Reader.map (d0b Tryz.underlying48 (by kernel_rfl) (a0h (m:=1) rfl (by kernel_rfl) (b0R (n:=1) (B:=24) Tryz.underlying46 (by kernel_rfl) (by kernel_rfl) (fun _=>rfl) (y0s W))
  (a0h (m:=1) rfl (by kernel_rfl) (b0R (n:=1) (B:=8) Tryz.underlying24 (by kernel_rfl) (by kernel_rfl) (fun _=>rfl) (b0F Tryz.underlying3))
  (a0h (m:=1) rfl (by kernel_rfl) (b0R (n:=3) (B:=40) Tryz.underlying23 (by kernel_rfl) (by kernel_rfl) (fun _=>rfl) (y0q W)) (f0N _)))))
  (fun x=>(x.1,x.2.1,x.2.2.1)) (fun _ _=>rfl) (fun _ h=>⟨h.1,h.2.1,h.2.2.1⟩)
set_option maxRecDepth 100000 in
theorem open_S_lines {H:Type}{enc:TypeId × Value→H}{W:World}{ts:List TypeId}{ds:List (DataW H)}(hsz:(DataW.weightsEach Tryz.prog ts ds).all (· ≤ reachBytes)=true){d:DataW H}{ps:List MemPlace}(j:Nat)(htj:ts[j]?=some 48)(hdj:ds[j]?=some d)
  {base:Nat} {v:Value} (hv:Value.okWide Tryz.prog W .any base 48 v) (h:DataW.Trod enc Tryz.prog W 0 (fun _=>true) true 48 v d ps):∃ x:LnIn,v = .agg (lnV x).toArray∧lnOk W x :=
 k0f hsz j htj hdj Tryz.underlying48 (c1P W) hv h
def lnS (x:LnIn):List (List Mir.Rw):=x.1.2.2.map fun y=>y.2.2.map rwDD
def lnA (x:LnIn):List Int:=x.2.1.2.2
def lnR (x:LnIn):List Mir.Rd:=x.2.2.2.2.map rawD
theorem h1g {W:World}{A:Nat→Prop}(hA:∀ b,¬ A b){a:Option Addr}{c:Nat}{xs:List y0K}(h:InS rwsV (h1C W) 24 W a c xs):Mir.RF W A (Mir.fSs (xs.map fun y=>y.2.2.map rwDD)) (.slice a xs.length c):=by
 have h1:=Mir.rf_in (A:=A) (g:=fun x:y0K=>[Mir.fRw (x.2.2.map rwDD)]) h hA fun x hx=>.cons (h1y hA hx) .nil
 have e:∀ l:List y0K,(l.flatMap fun x=>[Mir.fRw (x.2.2.map rwDD)])=(l.map fun y=>y.2.2.map rwDD).map Mir.fRw:=fun l=>by
  induction l with
  | nil=>rfl
  | cons x l ih=>rw [List.flatMap_cons,ih];rfl
 rw [e] at h1
 rw [Mir.fSs,List.length_map];exact h1
theorem r_ln {W:World}{φ:Nat→Nat × Nat}{A:Nat→Prop}{N:Nat}(hA:∀ b,¬ A b){x:LnIn}(h:lnOk W x):Mir.R Tryz.prog W φ A N (Mir.lnD (lnS x) (lnA x) (lnR x)) (.agg (lnV x).toArray) :=
 Mir.r_ag (xs:=[Mir.fSs (lnS x),Mir.fI (lnA x),Mir.fR (lnR x)]) (.cons (h1g hA h.1) (.cons (Mir.rf_ints h.2.1 hA) (.cons (g1D hA h.2.2) .nil))) (by intro u hu;simp [lnV] at hu;rcases hu with rfl|rfl|rfl<;>rfl)
def isOk (W:World)(a:Option Addr)(c:Nat)(xs:List Int):Prop:=InS (fun n:Int=>[Value.int .i64 n]) (fun n=>(Lit.int .i64 n).wf=true) 8 W a c xs
theorem open_is {H:Type}{enc:TypeId × Value→H}{W:World}{ts:List TypeId}{ds:List (DataW H)}(hsz:(DataW.weightsEach Tryz.prog ts ds).all (· ≤ reachBytes)=true){d:DataW H}{ps:List MemPlace}(j:Nat)(htj:ts[j]?=some 24)(hdj:ds[j]?=some d)
  {a:Option Addr} {len cap:Nat} (h:DataW.Trod enc Tryz.prog W 0 (fun _=>true) true 24 (.slice a len cap) d ps):∃ xs:List Int,xs.length=len∧isOk W a cap xs :=
 l0I (n:=1) (B:=8) hsz j htj hdj Tryz.underlying24 (by kernel_rfl) (by kernel_rfl) (fun _=>rfl) (b0F Tryz.underlying3) h
theorem o0C {H:Type}{enc:TypeId × Value→H}{P:Program}{w:World}{base:Nat}{sp:Nat→Bool}{held:Bool}{fuel:Nat}{t e:TypeId}{n:Nat}{cs:List Value}{ss:List (List UInt8)}{p:List MemPlace}
  (ht:P.underlying t=some (.array n e)) (he:P.underlying e=some .string) (hce:P.cellsOf e=1) (hct:P.cellsOf t=n)
  (h:DataW.trod enc P w base sp held fuel t cs=some (.agg (ss.map fun s=>.lit (.string s)),p)):cs=ss.map fun s=>Value.string ⟨s.toArray⟩:=by
 cases fuel with
 | zero=>simp [DataW.trod] at h
 | succ fuel =>
  simp only [DataW.trod,ht,hce,hct,Nat.mul_one] at h
  split at h
  ·rename_i hl
   obtain ⟨xs,hm,hx⟩:=Option.map_eq_some_iff.1 h
   have hxs:xs.map (·.1)=ss.map fun s=>(DataW.lit (.string s):DataW H):=by
    have:=congrArg Prod.fst hx
    simpa using this
   have hxl:xs.length=n:=by simpa using Lib.mapM_length hm
   have hzl:ss.length=n:=by
    have:=congrArg List.length hxs
    simp at this
    omega
   apply List.ext_getElem?
   intro i
   by_cases hi:i<n
   ·obtain ⟨b,hb,hf⟩:=Lib.mapM_at hm i i (by simp [hi])
    obtain ⟨z,hc,rfl,_⟩:=DataW.trod_string he hf
    have h1:cs[i]?=some (.string z):=by
     have:=congrArg (·[0]?) hc
     simpa [List.getElem?_take,List.getElem?_drop] using this
    have h2:(xs.map (·.1))[i]?=some (DataW.lit (.string z.data.toList):DataW H):=by simp [hb]
    rw [hxs] at h2
    simp only [List.getElem?_map,Option.map_eq_some_iff,DataW.lit.injEq,Lit.string.injEq] at h2
    obtain ⟨z',hz',e1⟩:=h2
    rw [h1,List.getElem?_map,hz',Option.map_some,e1]
   ·rw [List.getElem?_eq_none (by omega),List.getElem?_eq_none (by simp;omega)]
  ·cases h
def nameTab:List (List UInt8):=[[97],[98],[106,111,98,45,49],[122,57],[109],[120,45]]
theorem gNames : Tryz.prog.globalNamed "cutover/cutoverhand.names" = some 0 := by kernel_rfl
theorem gNamesType:(Tryz.prog.globals[0]?).map (·.type)=some 173:=by kernel_rfl
theorem names_gl {W : World} (h : laidMetH Tryz.prog [("cutover/cutoverhand.names", Rows.laid_cutover_cutoverhand_names)] W) : ∀ p ∈ Mir.glTab, Mir.RF W (fun _ => False) p.1 p.2 := by
 rw [MakeChecks.laidMetH_plain _ _ _ (by kernel_rfl)] at h
 obtain ⟨ps,⟨g',t',cs,fuel,p,q,hg',ht',hvar,hd,_,_⟩,_⟩:=h
 obtain rfl:=Option.some.inj (gNames.symm.trans hg')
 obtain rfl:=Option.some.inj (gNamesType.symm.trans ht')
 have hcs:=o0C (ss:=nameTab) Tryz.underlying173 Tryz.underlying9 (by kernel_rfl) (by kernel_rfl) hd
 intro x hx
 obtain rfl:=List.mem_singleton.1 hx
 refine .s (nameTab.map fun s=>Value.string ⟨s.toArray⟩) (Nat.le_refl _) rfl ?_ ?_
 ·intro i u hu
  refine ⟨?_,fun hf=>hf⟩
  have h1:=World.var?_cell gNames hvar i
  rw [←hu,←hcs]
  rw [show (Addr.add { block:=0,off:=0 } i:Addr)=⟨0,i,none⟩ by simp [Addr.add];intro h;omega]
  rw [h1,Array.getElem?_toList]
 ·intro i y u hy hu
  rcases i with _|_|_|_|_|_|i
  all_goals (simp [nameTab] at hy hu;try (subst hy;subst hu;exact .v rfl))
end Go.Proofs.YthjgmldnegaaiaaGreatDoor
namespace Go.Proofs.YthjgmldnegaaiaaGreatDoor.Mir
open Go Go.RowKit
set_option maxHeartbeats 4000000
def d0y:SCode :=
  (jq ([.a 2 (.mv kN)]) (jq ([.a 3 (.mv kN)]) (.seq (jq ([jm 6 0,je 7 6,jk 8 0]) (.block 0 (.loop (jq ([jB 9 .lss 8 7]) (.seq (jc 9 .skip (.exit 0))
 (.seq (.block 1 (jq ([jx 10 9 6 8,jL 11 9 10,.a 5 (.alloc 73 [jI,jI,jI,jI,jI,jI,(.f (.v (.string ⟨#[]⟩))),jN,jN]),.n (.store 9 (.t 5) (.t
 11))]) (.ops (ap [jm 12 3,jL 13 9 5,.a 14 (.call (kC 68) [(.t 13)])] (ap [.a 15 (.bsl 73 9 1 [jI,jI,jI,jI,jI,jI,(.f (.v (.string ⟨#[]⟩))),jN,
 jN] [(0,(.t 14))]),.a 16 (.app 73 9 112 (.t 12) (.t 15))] [jm 3 16]))))) (.ops [jb 17 .add 8 1,jm 8 17]))))))) (jq ([jm 18 3,jm 2 18]) .ret))))
theorem f0q:Fn Tryz.prog 51 19 [.t 2] d0y:=.of Tryz.func51 (by kernel_rfl)
def h0a:SCode :=
  (jq ([.a 1 (.box 30 (.t 0)),.a 2 (.mv kN)]) (.seq (jq ([jo 3 0 1,jl 4 3,je 5 4,jb 6 .eql 5 0]) (jc 6 (jq ([.a 2 (.mv kN)]) .ret) .skip)) (jq ((ap
 [jo 7 0 1,jl 8 7,.a 9 (.idx 1 (.t 8) (kI 0)),jl 10 9,.a 11 (.call (kC 51) [(.t 10)])] [jm 2 11])) .ret)))
theorem o0r:Fn Tryz.prog 18 12 [.t 2] h0a:=.of Tryz.func18 (by kernel_rfl)
def v0Q:SCode :=
  (jq ([.a 1 (.box 30 (.t 0)),.a 2 (.mv kN)]) (jq ([.a 13 (.mkmap),jm 3 13]) (.seq (jq ([jo 14 0 1,jl 15 14,je 16 15,jk 17 0]) (.block 0 (.loop (jq
 ([jB 18 .lss 17 16]) (.seq (jc 18 .skip (.exit 0)) (.seq (.block 1 (jq ([jx 19 1 15 17,jl 20 19,jm 5 20]) (jq ([jm 21 5,je 22 21,jk 23 0]) (.block
 2 (.loop (jq ([jB 24 .lss 23 22]) (.seq (jc 24 .skip (.exit 2)) (.seq (.block 3 (jq ([jx 25 9 21 23,jL 26 9 25,.a 7 (.alloc 73 [jI,jI,jI,jI,jI,
 jI,(.f (.v (.string ⟨#[]⟩))),jN,jN]),.n (.store 9 (.t 7) (.t 26))]) (jq ([jm 28 3,jo 29 6 7,jl 30 29,.a 31 (.look true 9 (.ag [jI,jI,jI,jI,
 jI,jI,(.f (.v (.string ⟨#[]⟩))),jN,jN]) (.t 28) (.t 30)),jm 27 31,jE 32 0 27,jE 33 1 27,.a 8 (.alloc 73 [jI,jI,jI,jI,jI,jI,(.f (.v
 (.string ⟨#[]⟩))),jN,jN]),.n (.store 9 (.t 8) (.t 32)),jm 9 33]) (jq ((ap [jm 34 9,.a 35 (.unot (.t 34)),jm 36 35,gO 37 3 7 36 true] (ap [gL 38
 37 36 true,jG 39 (.bin .eql (.t 38) (kI 7)) 36 true] [.a 40 (.pick (.t 36) (.t 39) kF)]))) (jc 40 (.drw [jm 41 3,jo 42 6 7,jl 43 42,jL 44 9 7,.a
 45 (.call (kC 68) [(.t 44)]),.n (.mput 9 (.t 41) (.t 43) (.t 45))] [0,0,2,0,8,31]) .skip))))) (.ops [jb 46 .add 23 1,jm 23 46]))))))))) (.ops
 [jb 47 .add 17 1,jm 17 47]))))))) (jq ([.a 10 (.mv kN)]) (.seq (jq ((ap [jm 48 3,.a 49 (.call (kC 70) [(.t 48)])] (ap [.a 50 (.call (kC 69) [(.t
 49)])] [je 51 50,jk 52 0]))) (.block 4 (.loop (jq ([jB 53 .lss 52 51]) (.seq (jc 53 .skip (.exit 4)) (.seq (.block 5 (jq ([jx 54 1 50 52,jl 55 54,jm
 12 55]) (.ops (ap [jm 56 10,jm 57 3,jm 58 12,.a 59 (.look false 9 (.ag [jI,jI,jI,jI,jI,jI,(.f (.v (.string ⟨#[]⟩))),jN,jN]) (.t 57) (.t
 58)),.a 60 (.bsl 73 9 1 [jI,jI,jI,jI,jI,jI,(.f (.v (.string ⟨#[]⟩))),jN,jN] [(0,(.t 59))]),.a 61 (.app 73 9 112 (.t 56) (.t 60))] [jm 10
 61])))) (.ops [jb 62 .add 52 1,jm 52 62]))))))) (jq ([jm 63 10,jm 2 63]) .ret))))))
theorem a1H:Fn Tryz.prog 31 64 [.t 2] v0Q:=.of Tryz.func31 (by kernel_rfl)
def d0A:SCode :=
  (jq ([jk 4 0]) (.seq (jq ([jm 6 0,je 7 6,jk 8 0]) (.block 0 (.loop (jq ([jB 9 .lss 8 7]) (.seq (jc 9 .skip (.exit 0)) (.seq (.block 1 (jq ([jm 10 8,
 jm 5 10]) (jq ([jm 11 1,jm 12 0,jm 13 5,jx 14 9 12 13,jL 15 9 14,.a 16 (.call (.t 11) [(.t 15)])]) (jc 16 (jq ([jm 17 5,jm 4 17]) .ret) .skip))))
 (.ops [jb 18 .add 8 1,jm 8 18]))))))) (jq ([.a 4 (.mv (kI (-1)))]) .ret)))
theorem e0H:Fn Tryz.prog 100 19 [.t 4] d0A:=.of Tryz.func100 (by kernel_rfl)
def s0p:SCode :=
 (jq ([.a 1 (.box 107 (.t 0)),.a 2 (.mv (.c (.f (.v .nilFunc))))]) (jq ([.a 3 (.fn 113 [(.t 1)]),jm 2 3]) .ret))
theorem x0s:Fn Tryz.prog 70 4 [.t 2] s0p:=.of Tryz.func70 (by kernel_rfl)
theorem t0Z {e:Ev}(h:FitV e):FitN e.defs:=fun x hx=>by have:=h.2.2.2 x hx;omega
set_option maxRecDepth 100000 in
theorem h0U (l:List Ev)(hf:FitL l):Con Tryz.prog 51 [.f (fEv l)] [] fun r H'=>r = .f (fEv l)∧H'=[]:=by
 obtain ⟨hl,hln⟩:=hf
 refine Con.walk good f0q (by simp) ?_
 unfold d0y
 simp only [a0J]
 refine HS.seq ?_
 repeat' (with_reducible first|refine Wa.h ?_|refine Wb.h fun K hK=>?_|(refine hK _ ?_;clear hK K)|((fail_if_success refine Wz.h ?_);simp (disch:=omega) only [↓LD,LA,a0A,seval]))
 refine HS.seq ?_
 repeat' (with_reducible first|refine Wa.h ?_|refine Wb.h fun K hK=>?_|(refine hK _ ?_;clear hK K)|((fail_if_success refine Wz.h ?_);simp (disch:=omega) only [↓LD,LA,a0A,seval]))
 refine HS.view (View.void 73) ?_
 refine HS.view (View.slot 3 (.sl 0 0 0) (.no (by decide))) ?_
 repeat' (with_reducible first|refine Wx.h ?_|refine Wb.h fun K hK=>?_|(refine hK _ ?_;clear hK K)|((fail_if_success refine Wz.h ?_);simp (disch:=omega) only [↓LD,LA,a0A,seval,LEv]))
 refine HS.loopG [3,6,7,8] (fun i:Nat=>⟨frm 19 [(3,.sl 0 0 i),(6,.f (fEv l)),(7,D.int l.length),(8,D.int i)],[.data 73 ((l.take i).flatMap Ev.cs)],[]⟩) (fun i=>i≤l.length) (fun i=>l.length-i) 0 (by kernel_rfl) (Nat.zero_le _) ?_
 rintro i hi
 by_cases hil:i<l.length
 ·have hv:=hln _ (a0M hil)
  have hfn:=t0Z hv
  obtain ⟨f1,f2,f3,f4⟩:=hv
  have hlen:((l.take i).flatMap Ev.cs).length=i*9:=by rw [a0K,List.length_take,Nat.min_eq_left hi]
  have ha:(l.take i).flatMap Ev.cs++Ev.cs (gt l i)=(l.take (i+1)).flatMap Ev.cs:=by
   rw [List.take_succ_eq_append_getElem hil,List.flatMap_append,←a0v hil];simp
  generalize hg:gt l i=e at *
  rw [Ev.cs] at ha
  repeat' (with_reducible first|refine Wx.h ?_|refine Wb.h fun K hK=>?_|(refine hK _ ?_;clear hK K)|refine Wq.h ?_ ?_<;>intro h<;>try (exfalso;omega)|((fail_if_success refine Wz.h ?_);first|simp (disch:=omega) only [↓LD,LA,a0A,seval,LEv,b0t,a0K,Ev.cs,hg,hlen,evD,ha,List.map_cons,List.map_nil,-a0A]|(refine And.intro ?_ ?_;omega)|fail))
  refine ⟨⟨hfn,by omega,by omega⟩,?_⟩
  repeat' (with_reducible first|refine Wx.h ?_|refine Wb.h fun K hK=>?_|(refine hK _ ?_;clear hK K)|((fail_if_success refine Wz.h ?_);first|simp (disch:=omega) only [↓LD,LA,a0A,seval,LEv,b0t,a0K,Ev.cs,hg,hlen,evD,ha,List.map_cons,List.map_nil,-a0A]|(refine And.intro ?_ ?_;omega)|fail))
  exact Next.mk (i+1) (by kernel_rfl) (by omega) (by omega)
 ·rw [List.take_of_length_le (by omega)]
  obtain rfl:i=l.length:=by omega
  repeat' (with_reducible first|refine Wx.h ?_|refine Wb.h fun K hK=>?_|(refine hK _ ?_;clear hK K)|refine Wq.h ?_ ?_<;>intro h<;>try (exfalso;omega)|((fail_if_success refine Wz.h ?_);simp (disch:=omega) only [↓LD,LA,a0A,seval]))
  exact end1 rfl rfl (by kernel_rfl) (x0m rfl rfl rfl) ⟨rfl,rfl⟩
instance {l:List Ev}{H:List Row}{K:D→List Row→Prop}[hl:Kn (FitL l)]:Wa (a0T Tryz.prog (.fn 51 []) [.f (fEv l)] H K) (K (.f (fEv l)) H):=⟨fun h=>a0C (h0U l hl.h) rfl rfl rfl h⟩
instance {l:List Ev}{H:List Row}{K:Bool→D→List Row→Prop}[hl:Kn (FitL l)]:Wa (a0m Tryz.prog (.fn 51 []) [.f (fEv l)] H K) (K true (.f (fEv l)) H):=⟨fun h=>a0O (h0U l hl.h) rfl rfl rfl h⟩
def curL (t:Br):List Ev:=if t.length=0 then [] else gt t 0
theorem TrK.cur {t:Br}(h:TrK t):BrOk (curL t):=by
 unfold curL
 split
 ·exact BrOk.nil
 ·exact (h.gt (by omega)).1
theorem s0k (t:Br)(ht:TrK t):Con Tryz.prog 18 [.ag [.f (fBr t)]] [] fun r H'=>r = .f (fEv (curL t))∧H'=[]:=by
 have hlen:=ht.len
 refine Con.walk good o0r (by simp) ?_
 unfold h0a
 simp only [a0J]
 by_cases hz:t.length=0
 ·rw [curL,if_pos hz]
  repeat' (with_reducible first|refine Wx.h ?_|refine Wb.h fun K hK=>?_|(refine hK _ ?_;clear hK K)|refine Wq.h ?_ ?_<;>intro h<;>try (exfalso;omega)|((fail_if_success refine Wz.h ?_);simp (disch:=omega) only [↓LD,LA,a0A,seval,LBr]))
  exact end1 rfl rfl (by kernel_rfl) .nil ⟨rfl,rfl⟩
 ·rw [curL,if_neg hz]
  haveI:Kn (FitL (gt t 0)):=⟨(ht.gt (by omega)).1.fitL⟩
  repeat' (with_reducible first|refine Wx.h ?_|refine Wb.h fun K hK=>?_|(refine hK _ ?_;clear hK K)|refine Wq.h ?_ ?_<;>intro h<;>try (exfalso;omega)|((fail_if_success refine Wz.h ?_);first|simp (disch:=omega) only [↓LD,LA,a0A,seval,LBr]|(refine And.intro ?_ ?_;omega)|fail))
  exact end1 rfl rfl (by kernel_rfl) .f ⟨rfl,rfl⟩
instance {t:Br}{H:List Row}{K:D→List Row→Prop}[ht:Kn (TrK t)]:Wa (a0T Tryz.prog (.fn 18 []) [.ag [.f (fBr t)]] H K) (K (.f (fEv (curL t))) H):=⟨fun h=>a0C (s0k t ht.h) rfl rfl rfl h⟩
def encM (ms:List Ev):List (Value × D):=ms.map fun e=>(.string (BB e.name),evD e)
def e0I (ms:List Ev)(k:Bs):Option Ev:=ms.find? fun e=>decide (k=e.name)
theorem a1x {a b:Bs}:(BB a==BB b)=decide (a=b):=by
 have h1:(BB a==BB b)=((BB a).data==(BB b).data):=rfl
 rw [h1,Bool.eq_iff_iff,beq_iff_eq,decide_eq_true_iff]
 constructor
 ·intro h;exact Eq.mp v0z (ByteArray.ext h)
 ·intro h;rw [h]
theorem k0a {ms:List Ev}{k:Bs}:e0k (.string (BB k)) (encM ms)=some ((e0I ms k).map evD):=by
 induction ms with
 | nil=>rfl
 | cons e ms ih =>
  show e0k (.string (BB k)) ((.string (BB e.name),evD e) :: encM ms)=_
  unfold e0I at ih ⊢
  rw [e0k,List.find?_cons]
  by_cases h:k=e.name
  ·have h2:d0H (.string (BB k)) (.string (BB e.name))=some true:=by rw [d0H,a1x,decide_eq_true h]
   rw [h2,decide_eq_true h];rfl
  ·have h2:d0H (.string (BB k)) (.string (BB e.name))=some false:=by rw [d0H,a1x,decide_eq_false h]
   rw [h2,decide_eq_false h];exact ih
theorem e1E {ms:List Ev}{e:Ev}(h:e0I ms e.name=none):putD (.string (BB e.name)) (evD e) (encM ms)=encM (ms++[e]):=by
 induction ms with
 | nil=>rfl
 | cons x ms ih =>
  show putD (.string (BB e.name)) (evD e) ((.string (BB x.name),evD x) :: encM ms)=_
  unfold e0I at ih h
  rw [List.find?_cons] at h
  by_cases hx:e.name=x.name
  ·rw [decide_eq_true hx] at h;cases h
  ·rw [decide_eq_false hx] at h
   have h2:d0H (.string (BB e.name)) (.string (BB x.name))≠some true:=by rw [d0H,a1x,decide_eq_false hx];simp
   rw [putD,if_neg h2,ih h];rfl
def y0Z (P:Program)(ok:Bool)(K:TypeId)(z:D)(key:Value):Option Row→Option D
 | some (.map es)=>if d0z P K key then
   match e0k key es with
   | some (some d)=>some (if ok then .tp [d,.bool true] else d)
   | some none=>some (if ok then .tp [z,.bool false] else z)
   | none=>none
  else none
 | _=>none
theorem o0R {P:Program}{H:List Row}{ok:Bool}{K:TypeId}{z:D}{r:Nat}{key:Value}:t0A P H ok K z (.mp r) (.f (.v key))=y0Z P ok K z key H[r]?:=by
 unfold t0A y0Z
 rw [o0d]
 cases H[r]? with
 | none=>rfl
 | some row=>cases row<;>rfl
theorem t0V {x:ByteArray}:d0z Tryz.prog 9 (.string x)=true:=by
 have h:Tryz.prog.underlying 9=some .string:=by kernel_rfl
 unfold d0z;rw [h]
theorem n0S {ms:List Ev}{k:Bs}{z:D}{e:Ev}{ok:Bool}(h:e0I ms k=some e):y0Z Tryz.prog ok 9 z (.string (BB k)) (some (.map (encM ms)))=some (if ok then .tp [evD e,.bool true] else evD e):=by
 rw [y0Z,if_pos t0V,k0a,h];rfl
theorem y0h {ms:List Ev}{k:Bs}{z:D}{ok:Bool}(h:e0I ms k=none):y0Z Tryz.prog ok 9 z (.string (BB k)) (some (.map (encM ms)))=some (if ok then .tp [z,.bool false] else z):=by
 rw [y0Z,if_pos t0V,k0a,h];rfl
def a1a (P:Program)(H:List Row)(K:TypeId)(r:Nat)(key:Value)(x:D):Option Row→Option (List Row)
 | some (.map es)=>if d0z P K key then match e0k key es with
   | some _=>some (H.set r (.map (putD key x es)))
   | none=>none
  else none
 | _=>none
theorem a1X {H:List Row}{e:Ev}:e0E Tryz.prog H (eA e)=some (evD e,[]):=id rfl
theorem g1U {H:List Row}{r:Nat}{x y:D}{key:Value}(hf:e0E Tryz.prog H x=some (y,[])):q0U Tryz.prog H 9 (.mp r) (.f (.v key)) x=a1a Tryz.prog H 9 r key y H[r]?:=by
 unfold q0U a1a
 rw [hf]
 show (if d0z Tryz.prog 9 key=true then (match H[r]? with
  | some (.map es)=>match e0k key es with
   | some _=>some (H.set r (.map (putD key y es)))
   | none=>none
  | _=>none) else none)=_
 generalize d0z Tryz.prog 9 key=b
 cases b<;>cases H[r]? with
 | none=>rfl
 | some row=>cases row<;>rfl
theorem d1O {H:List Row}{r:Nat}{e:Ev}{key:Value}:q0U Tryz.prog H 9 (.mp r) (.f (.v key)) (eA e)=a1a Tryz.prog H 9 r key (evD e) H[r]?:=g1U a1X
theorem b1K {H:List Row}{r:Nat}{e:Ev}{ms:List Ev}(h:e0I ms e.name=none):a1a Tryz.prog H 9 r (.string (BB e.name)) (evD e) (some (.map (encM ms)))=some (H.set r (.map (encM (ms++[e])))):=by
 rw [a1a,if_pos t0V,k0a,h,e1E h]
def addS (ms:List Ev)(e:Ev):List Ev:=if (e0I ms e.name).isNone=true∧e.ty=7 then ms++[e] else ms
def sigM (t:Br):List Ev:=t.foldl (fun ms b=>b.foldl addS ms) []
theorem d1u {ms:List Ev}{e:Ev}:(addS ms e).length≤ms.length+1:=by unfold addS;split<;>simp
instance {e:Ev}{H:List Row}{K:Bool→D→List Row→Prop}:Wa (a0m Tryz.prog (.fn 68 []) [eA e] H K)
  ((FitN e.defs∧e.defs.length≤1000000∧e.data.length≤1000000)∧K true (evD e) H) :=
 ⟨fun h=>a0O (p0Z e h.1.1 h.1.2.1 h.1.2.2) rfl rfl rfl h.2⟩
end Go.Proofs.YthjgmldnegaaiaaGreatDoor.Mir
namespace Go.Proofs.YthjgmldnegaaiaaGreatDoor.Mir
open Go Go.RowKit Go.Shelf Go.Maps Go.Sort
section
variable {P:Program}{w w':World}{φ:Nat→Nat × Nat}{X:Nat→Prop}{H:List Row}
theorem g0a (h:Below w.heap.size w w'):Keep (fun _=>False) w w' :=
 ⟨h.size,fun b hb _=>h.block b hb,fun b cs _ fr hc=>⟨cs,fr,(h.block b (a0a hc)).trans hc,rfl⟩,h.os,h.tape,h.output⟩
theorem y0N (h:HR P w φ X H)(hk:Keep (fun _=>False) w w')(b:Nat)(hb:w.heap.size≤b)(row:Row)(d:D)(v:Value)
  (hrow:∀ (A:Nat→Prop),(∀ c,c<w.heap.size→A c→Av X φ H c)→RowOk P w' (ext1 φ H.length (b,0)) A (H.length+1) H.length row∧R P w' (ext1 φ H.length (b,0)) A (H.length+1) d v) :
  Leaves P w φ X H ⟨d,[],[row]⟩ v w':=by
 obtain ⟨r1,r2,r3⟩:=h.more hk b 0 row hb (fun hav=>(hrow _ hav).1)
 refine ⟨ext1 φ H.length (b,0),fun r hr=>a0l hr,by simpa [Eff.heap,a0B] using r1,?_,hk.mono (fun _ _ h=>h.elim),by simpa [Eff.heap,a0B] using r2⟩
 have:=(hrow _ r3).2
 simpa [Eff.heap,a0B] using this
theorem i0q (h:HR P w φ X H)(hk:Keep (fun _=>False) w w'){d:D}{v:Value}(hd:∀ A,R P w' φ A H.length d v):Leaves P w φ X H ⟨d,[],[]⟩ v w':=by
 obtain ⟨r1,r2,r3⟩:=h.step (H':=H) (φ':=φ) (fun _=>False) hk (fun _ h=>h.elim) (Nat.le_refl _) (fun _ _=>rfl) (fun r x hx hl=>.inr (b0H hx hl)) (fun r x hx=>.inl ⟨hx,fun _ h=>h⟩) h.apart
 exact ⟨φ,fun _ _=>rfl,by simpa [Eff.heap,a0B] using r1,by simpa [Eff.heap,a0B] using hd _,hk.mono (fun _ _ h=>h.elim),by simpa [Eff.heap,a0B] using r2⟩
def o0V (T:TypeId)(n:Nat)(xs:List Value):Eff :=
 if xs.isEmpty then ⟨.f (.v (.slice none 0 0)),[],[]⟩ else ⟨.sl n 0 xs.length,[],[.data T (xs.map F.v)]⟩
theorem o0H (hH:HR P w φ X H)(hb:Below w.heap.size w w'){T:TypeId}{i:TypeInfo}(hT:P.info? T=some i)(hi:i.size=1){xs:List Value}(h1:∀ x∈xs,x.oneCell'=true){v:Value}
  (hrow:w'.ownsRow w.heap.size T 1 v xs.length xs) (hnil:v = .slice none 0 0↔xs=[]):Leaves P w φ X H (o0V T H.length xs) v w':=by
 unfold o0V
 by_cases hx:xs=[]
 ·subst hx
  obtain rfl:=hnil.2 rfl
  exact i0q hH (g0a hb) fun A=>.f (.v rfl)
 ·rw [if_neg (by simpa using hx)]
  obtain ⟨_,hr⟩:=hrow
  rcases hr with ⟨hv,_⟩|⟨g,cap,cur,rfl,hbase,hg,hn,_,hsz,htake⟩
  ·exact absurd (hnil.1 hv) hx
  ·refine y0N hH (g0a hb) g hbase _ _ _ fun A hA=>⟨?_,?_⟩
   ·refine fun _=>⟨[],xs,cur.toList.drop xs.length,?_,by rw [a0L];rfl,by simp,fun j x u hj hu=>?_⟩
    ·rw [a0L]
     refine hg.trans ?_
     rw [List.nil_append]
     have:cur=(xs++cur.toList.drop xs.length).toArray:=by
      rw [←htake,Nat.mul_one]
      apply Array.toList_inj.1
      have h2:(cur.toList.take xs.length).length=xs.length:=by simp;omega
      simp only [h2,List.take_append_drop]
     rw [←this]
    ·rw [List.getElem?_map,hu] at hj
     cases hj
     exact .v (h1 _ (List.mem_of_getElem? hu))
   ·have:=R.sl (P:=P) (w:=w') (φ:=ext1 φ H.length (g,0)) (A:=A) (N:=H.length+1) (r:=H.length) (off:=0) (n:=xs.length) (cap:=cap) (cs:=cur) (T:=T) (fr:=(0,0)) (i:=i) (List.length_pos_iff.2 hx) (by omega) hn (by rw [a0L];exact hg) hT (by rw [a0L,hi];simp;omega)
    rw [a0L] at this
    exact this
end
def insK {α:Type}(le:α→α→Bool)(x:α):List α→List α
 | []=>[x]
 | y :: ys=>match le x y with
  | true=>x :: y :: ys
  | false=>y :: insK le x ys
def l0E {α:Type}(le:α→α→Bool):List α→List α
 | []=>[]
 | x :: xs=>insK le x (l0E le xs)
theorem i0v {α:Type}(le:α→α→Bool)(x:α):∀ ys,(insK le x ys).Perm (x :: ys)
 | []=>.refl _
 | y :: ys=>by
  unfold insK
  split
  ·exact .refl _
  ·exact ((i0v le x ys).cons y).trans (.swap x y ys)
theorem g0O {α:Type}(le:α→α→Bool):∀ xs,(l0E le xs).Perm xs
 | []=>.refl _
 | x :: xs=>(i0v le x _).trans ((g0O le xs).cons x)
theorem f0a {α:Type}{le:α→α→Bool}(tr:∀ a b c,le a b=true→le b c=true→le a c=true)(tot:∀ a b,(le a b||le b a)=true)(x:α):∀ ys,ys.Pairwise (fun a b=>le a b=true)→(insK le x ys).Pairwise (fun a b=>le a b=true)
 | [],_=>by simp [insK]
 | y :: ys,h=>by
  rw [List.pairwise_cons] at h
  unfold insK
  split
  ·rename_i hxy
   refine List.pairwise_cons.2 ⟨fun z hz=>?_,List.pairwise_cons.2 h⟩
   rcases List.mem_cons.1 hz with rfl|hz
   ·exact hxy
   ·exact tr _ _ _ hxy (h.1 z hz)
  ·rename_i hxy
   have hyx:le y x=true:=by
    have:=tot x y
    rw [hxy] at this;simpa using this
   refine List.pairwise_cons.2 ⟨fun z hz=>?_,f0a tr tot x ys h.2⟩
   rcases List.mem_cons.1 ((i0v le x ys).subset hz) with rfl|hz
   ·exact hyx
   ·exact h.1 z hz
theorem e0x {α:Type}{le:α→α→Bool}(tr:∀ a b c,le a b=true→le b c=true→le a c=true)(tot:∀ a b,(le a b||le b a)=true):∀ xs,(l0E le xs).Pairwise (fun a b=>le a b=true)
 | []=>.nil
 | x :: xs=>f0a tr tot x _ (e0x tr tot xs)
theorem d1z {α:Type}{le:α→α→Bool}(tr:∀ a b c,le a b=true→le b c=true→le a c=true)(tot:∀ a b,(le a b||le b a)=true)(anti:∀ a b,le a b=true→le b a=true→a=b){xs ys:List α}(h:ys.Perm xs):ys.mergeSort le=l0E le xs :=
 List.Perm.eq_of_pairwise (le:=fun a b=>le a b=true) (fun a b _ _ h1 h2=>anti a b h1 h2) (List.pairwise_mergeSort tr tot ys) (e0x tr tot xs) (((List.mergeSort_perm ys le).trans h).trans (g0O le xs).symm)
def j0j {α:Type}(ofK:Value→Option α):List Value→Option (List α)
 | []=>some []
 | v :: vs=>match ofK v with
  | some x=>match j0j ofK vs with
   | some xs=>some (x :: xs)
   | none=>none
  | none=>none
theorem p0v {α:Type}{P:Program}{k:TypeId}(ofK:Value→Option α)(lit:α→Lit)(back:Lit→α)(hb:∀ x,back (lit x)=x)(hk:∀ v x,ofK v=some x→keyOf P k v=some (lit x)) :
  ∀ (l:List MapEntry) (ks:List α),j0j ofK (l.map (·.key))=some ks→(∀ x∈l,∃ y,WideElems.rd (H:=Unit) P k (fun _=>some (.nil,[])) x=some y)∧(l.map (WideElems.rg (H:=Unit) P k (fun _=>some (.nil,[])))).map (fun p=>back p.1)=ks
 | [],ks,h=>by cases h;exact ⟨fun x hx=>(by cases hx),rfl⟩
 | e :: l,ks,h=>by
  simp only [List.map_cons,j0j] at h
  split at h
  ·rename_i x hx
   split at h
   ·rename_i xs hxs
    cases h
    obtain ⟨h1,h2⟩:=p0v ofK lit back hb hk l xs hxs
    have hrd:WideElems.rd (H:=Unit) P k (fun _=>some (.nil,[])) e=some (lit x,.nil):=by simp [WideElems.rd,hk _ _ hx]
    refine ⟨fun y hy=>?_,?_⟩
    ·rcases List.mem_cons.1 hy with rfl|hy
     ·exact ⟨_,hrd⟩
     ·exact h1 y hy
    ·simp only [List.map_cons,h2,WideElems.rg,hrd,Option.getD_some,hb]
   ·cases h
  ·cases h
theorem a1Y {α:Type}{P:Program}{k:TypeId}(ofK:Value→Option α)(lit:α→Lit)(back:Lit→α)(hb:∀ x,back (lit x)=x)(hk:∀ v x,ofK v=some x→keyOf P k v=some (lit x))
  {w:World} {q:Nat} {en:Array MapEntry} {clock:Nat} (hq:w.heap[q]?=some (.map en clock)) (hst:MapKept.Stamped en clock) {ks:List α} (hks:j0j ofK (en.toList.map (·.key))=some ks) (hsz:en.size≤maxLen) :
  ∃ es:List (Lit × DataW Unit),w.ownsMap P k (fun _=>some (.nil,[])) q en.size (.map es)∧(es.map fun p=>back p.1).Perm ks∧es.length=en.size:=by
 obtain ⟨h1,h2⟩:=p0v (P:=P) (k:=k) ofK lit back hb hk _ _ hks
 refine ⟨_,⟨en,clock,hq,⟨hsz,hst,h1⟩,Nat.le_refl _,rfl⟩,?_,by rw [length_sorted];simp⟩
 have:=(WideShapes.sorted_perm (en.toList.map (WideElems.rg (H:=Unit) P k (fun _=>some (.nil,[]))))).map (fun p=>back p.1)
 rw [h2] at this
 exact this
theorem d1e {P:Program}{w:World}{φ:Nat→Nat × Nat}{A:Nat→Prop}{N:Nat}{d:D}{vs:Array Value}(h:Rs P w φ A N [d] vs.toList):∃ u,vs = #[u]∧R P w φ A N d u:=by
 obtain ⟨l⟩:=vs
 obtain ⟨h1,h2⟩:=h
 match l,h1 with
 | [u],_=>exact ⟨u,rfl,h2 0 d u rfl rfl⟩
def o0F (k:FuncId)(T:TypeId)(srt:List Value→Option (List Value)):List D→List Row→Option Eff
 | [.fn g [.pt r 0]],H=>match Nat.beq g k with
  | true=>match H[r]? with
   | some (.box _ [.f (.v (.map none))])=>some ⟨.f (.v (.slice none 0 0)),[],[]⟩
   | some (.box _ [.mp q])=>match H[q]? with
    | some (.map es)=>match srt (es.map (·.1)) with
     | some xs=>some (o0V T H.length xs)
     | none=>none
    | _=>none
   | _=>none
  | false=>none
 | _,_=>none
theorem y0F {P:Program}{f k:FuncId}{T:TypeId}(hT0:(P.info? T).map (·.size)=some 1){srt:List Value→Option (List Value)}(hone:∀ l xs,srt l=some xs→∀ x∈xs,x.oneCell'=true)
  (hnil:∀ (w:World) (b:Nat),b<w.heap.size→w.cell? ⟨b,0,none⟩=some (.map none)→Calls P f #[.func (.func k) #[] #[.pointer (some ⟨b,0,none⟩)]] w fun e w'=>e = .returned (.slice none 0 0)∧Below w.heap.size w w')
  (hsome:∀ (w:World) (b q:Nat) (en:Array MapEntry) (clock:Nat) (xs:List Value),b<w.heap.size→w.cell? ⟨b,0,none⟩=some (.map (some q))→w.heap[q]?=some (.map en clock)→MapKept.Stamped en clock→srt (en.toList.map (·.key))=some xs →
   Calls P f #[.func (.func k) #[] #[.pointer (some ⟨b,0,none⟩)]] w fun e w'=>∃ v,e = .returned v∧w'.ownsRow w.heap.size T 1 v xs.length xs∧(v = .slice none 0 0↔xs=[])∧Below w.heap.size w w'):e0o P f (o0F k T srt):=by
 obtain ⟨i,hT,hi⟩:=Option.map_eq_some_iff.1 hT0
 intro args H e hg w φ X vs hH hargs
 unfold o0F at hg
 split at hg
 ·rename_i g r
  split at hg
  ·rename_i hgk
   obtain rfl:g=k:=Nat.eq_of_beq_eq_true hgk
   obtain ⟨u,rfl,hu⟩:=d1e hargs
   cases hu with|fn hs hr =>
   rename_i us
   obtain ⟨u,rfl⟩:∃ u,us = #[u]:=by
    obtain ⟨l⟩:=us
    match l,hs with
    | [u],_=>exact ⟨u,rfl⟩
   have hu:=hr 0 _ u rfl rfl
   cases hu with|pt hrl =>
   split at hg
   ·rename_i T0 hrow
    cases hg
    obtain ⟨h0,cs,h1,h2,h3⟩:=hH.rows r _ hrow
    obtain ⟨u,rfl⟩:∃ u,cs = #[u]:=by
     obtain ⟨l⟩:=cs
     match l,h2.1 with
     | [u],_=>exact ⟨u,rfl⟩
    have hu:=h2.2 0 _ u rfl rfl
    cases hu with|f hu=>cases hu with|v _ =>
    rw [h0]
    refine (hnil w (φ r).1 (a0a h1) (by simp [World.cell?,h1])).mono ?_
    rintro e w' ⟨rfl,hb⟩
    exact ⟨_,rfl,i0q hH (g0a hb) fun A=>.f (.v rfl)⟩
   ·rename_i T0 q hrow
    split at hg
    ·rename_i es hmap
     split at hg
     ·rename_i xs hxs
      cases hg
      obtain ⟨h0,cs,h1,h2,h3⟩:=hH.rows r _ hrow
      obtain ⟨u,rfl⟩:∃ u,cs = #[u]:=by
       obtain ⟨l⟩:=cs
       match l,h2.1 with
       | [u],_=>exact ⟨u,rfl⟩
      have hu:=h2.2 0 _ u rfl rfl
      cases hu with|mp hql =>
      obtain ⟨en,clock,m1,m0,m2,m3⟩:=hH.rows q _ hmap
      have hkeys:en.toList.map (·.key)=es.map (·.1):=by
       apply List.ext_getElem?
       intro j
       rw [List.getElem?_map,List.getElem?_map]
       by_cases hj:j<es.length
       ·have e1:es[j]?=some es[j]:=List.getElem?_eq_getElem hj
        have hj':j<en.size:=by omega
        have e2:en[j]?=some en[j]:=Array.getElem?_eq_getElem hj'
        have e3:en.toList[j]?=some en[j]:=by rw [Array.getElem?_toList];exact e2
        rw [e1,e3]
        exact congrArg some ((m3 j es[j].1 es[j].2 en[j] e1 e2).1)
       ·rw [List.getElem?_eq_none (by rw [Array.length_toList];omega),List.getElem?_eq_none (by omega)];rfl
      rw [h0]
      refine (hsome w (φ r).1 (φ q).1 en clock xs (a0a h1) (by simp [World.cell?,h1]) m1 m0 (by rw [hkeys];exact hxs)).mono ?_
      rintro e w' ⟨v,rfl,hrow,hn,hb⟩
      exact ⟨v,rfl,o0H hH hb hT hi (hone _ _ hxs) hrow hn⟩
     ·cases hg
    ·cases hg
   ·cases hg
  ·cases hg
 ·cases hg
end Go.Proofs.YthjgmldnegaaiaaGreatDoor.Mir
namespace Go.Proofs
open Go.RowKit Go.Maps Go.Sort Go.Shelf
def YthjgmldnegaaiaaGreatDoor.keysS_ren:Go.Shelf.Ren:=⟨fun|7=>70|10=>113|n=>n,fun|23=>107|26=>9|3=>73|28=>112|0=>0|27=>111|33=>154|4=>4|n=>n,fun|n=>n⟩
theorem YthjgmldnegaaiaaGreatDoor.keysS:Go.Proofs.SlLaysZ.n7 Tryz.prog YthjgmldnegaaiaaGreatDoor.keysS_ren:={
 mixed:=by kernel_rfl
 f7:=⟨Tryz.f70.name,by decide,Tryz.func70.trans (congrArg some (by kernel_rfl))⟩
 f10:=⟨Tryz.f113.name,by decide,Tryz.func113.trans (congrArg some (by kernel_rfl))⟩
 t0:=Tryz.underlying0
 a0:=Tryz.isAgg0
 z0:=Tryz.sizeOf0
 v0:=Tryz.zeroValue0
 t4:=Tryz.underlying4
 a4:=Tryz.isAgg4
 z4:=Tryz.sizeOf4
 v4:=Tryz.zeroValue4
 t23:=Tryz.underlying107
 a23:=Tryz.isAgg107
 z23:=Tryz.sizeOf107
 v23:=Tryz.zeroValue107
 t26:=Tryz.underlying9
 a26:=Tryz.isAgg9
 z26:=Tryz.sizeOf9
 v26:=Tryz.zeroValue9
 t27:=Tryz.underlying111
 a27:=Tryz.isAgg111
 z27:=Tryz.sizeOf111
 v27:=Tryz.zeroValue111
 t28:=Tryz.underlying112
 a28:=Tryz.isAgg112
 z28:=Tryz.sizeOf112
 v28:=Tryz.zeroValue112
 t33:=Tryz.underlying154
 a33:=Tryz.isAgg154
 z33:=Tryz.sizeOf154
 v33:=Tryz.zeroValue154 }
def YthjgmldnegaaiaaGreatDoor.sortedS_ren:Go.Shelf.Ren:=⟨fun|6=>69|8=>111|9=>112|11=>149|13=>151|12=>150|23=>174|24=>175|14=>165|15=>166|16=>167|17=>168|18=>169|19=>170|20=>171|21=>172|22=>173|25=>183|26=>184|27=>185|28=>186|29=>187|30=>188|31=>190|n=>n,fun|26=>9|28=>112|24=>76|0=>0|3=>3|37=>184|48=>202|50=>204|4=>4|40=>194|39=>193|45=>199|5=>5|9=>9|51=>209|55=>213|57=>216|58=>217|33=>154|n=>n,fun|n=>n⟩
theorem YthjgmldnegaaiaaGreatDoor.sortedS:Go.Proofs.SlLaysZ.n6 Tryz.prog YthjgmldnegaaiaaGreatDoor.sortedS_ren:={
 mixed:=by kernel_rfl
 f6:=⟨Tryz.f69.name,by decide,Tryz.func69.trans (congrArg some (by kernel_rfl))⟩
 f8:=⟨Tryz.f111.name,by decide,Tryz.func111.trans (congrArg some (by kernel_rfl))⟩
 f11:=⟨Tryz.f149.name,by decide,Tryz.func149.trans (congrArg some (by kernel_rfl))⟩
 t0:=Tryz.underlying0
 a0:=Tryz.isAgg0
 z0:=Tryz.sizeOf0
 v0:=Tryz.zeroValue0
 t24:=Tryz.underlying76
 a24:=Tryz.isAgg76
 z24:=Tryz.sizeOf76
 v24:=Tryz.zeroValue76
 t26:=Tryz.underlying9
 a26:=Tryz.isAgg9
 z26:=Tryz.sizeOf9
 v26:=Tryz.zeroValue9
 t28:=Tryz.underlying112
 a28:=Tryz.isAgg112
 z28:=Tryz.sizeOf112
 v28:=Tryz.zeroValue112
 i26:=by kernel_rfl }
def YthjgmldnegaaiaaGreatDoor.sortS_ren:Go.Shelf.Ren:=⟨fun|6=>112|8=>151|9=>150|19=>174|20=>175|21=>165|22=>166|23=>167|24=>168|25=>169|26=>170|27=>171|28=>172|29=>173|36=>183|31=>184|32=>185|37=>186|38=>187|39=>188|41=>190|n=>n,fun|27=>76|29=>9|3=>3|32=>184|26=>76|0=>0|44=>202|46=>204|4=>4|36=>194|35=>193|41=>199|5=>5|9=>9|53=>209|57=>213|63=>216|64=>217|n=>n,fun|n=>n⟩
theorem YthjgmldnegaaiaaGreatDoor.sortS:Go.Proofs.SlLaysM.n6 Tryz.prog YthjgmldnegaaiaaGreatDoor.sortS_ren:={
 mixed:=by kernel_rfl
 f6:=⟨Tryz.f112.name,by decide,Tryz.func112.trans (congrArg some (by kernel_rfl))⟩
 f8:=Tryz.func151.trans (congrArg some (by kernel_rfl))
 f9:=⟨Tryz.f150.name,by decide,Tryz.func150.trans (congrArg some (by kernel_rfl))⟩
 f19:=Tryz.func174.trans (congrArg some (by kernel_rfl))
 f20:=Tryz.func175.trans (congrArg some (by kernel_rfl))
 f21:=⟨Tryz.f165.name,by decide,Tryz.func165.trans (congrArg some (by kernel_rfl))⟩
 f22:=⟨Tryz.f166.name,by decide,Tryz.func166.trans (congrArg some (by kernel_rfl))⟩
 f23:=⟨Tryz.f167.name,by decide,Tryz.func167.trans (congrArg some (by kernel_rfl))⟩
 f24:=⟨Tryz.f168.name,by decide,Tryz.func168.trans (congrArg some (by kernel_rfl))⟩
 f25:=⟨Tryz.f169.name,by decide,Tryz.func169.trans (congrArg some (by kernel_rfl))⟩
 f26:=⟨Tryz.f170.name,by decide,Tryz.func170.trans (congrArg some (by kernel_rfl))⟩
 f27:=⟨Tryz.f171.name,by decide,Tryz.func171.trans (congrArg some (by kernel_rfl))⟩
 f28:=⟨Tryz.f172.name,by decide,Tryz.func172.trans (congrArg some (by kernel_rfl))⟩
 f29:=⟨Tryz.f173.name,by decide,Tryz.func173.trans (congrArg some (by kernel_rfl))⟩
 f31:=Tryz.func184.trans (congrArg some (by kernel_rfl))
 f32:=Tryz.func185.trans (congrArg some (by kernel_rfl))
 f36:=⟨Tryz.f183.name,by decide,Tryz.func183.trans (congrArg some (by kernel_rfl))⟩
 f37:=⟨Tryz.f186.name,by decide,Tryz.func186.trans (congrArg some (by kernel_rfl))⟩
 f38:=⟨Tryz.f187.name,by decide,Tryz.func187.trans (congrArg some (by kernel_rfl))⟩
 f39:=⟨Tryz.f188.name,by decide,Tryz.func188.trans (congrArg some (by kernel_rfl))⟩
 f41:=⟨Tryz.f190.name,by decide,Tryz.func190.trans (congrArg some (by kernel_rfl))⟩
 t0:=Tryz.underlying0
 a0:=Tryz.isAgg0
 z0:=Tryz.sizeOf0
 v0:=Tryz.zeroValue0
 t3:=Tryz.underlying3
 a3:=Tryz.isAgg3
 z3:=Tryz.sizeOf3
 v3:=Tryz.zeroValue3
 t4:=Tryz.underlying4
 a4:=Tryz.isAgg4
 z4:=Tryz.sizeOf4
 v4:=Tryz.zeroValue4
 t5:=Tryz.underlying5
 a5:=Tryz.isAgg5
 z5:=Tryz.sizeOf5
 v5:=Tryz.zeroValue5
 t9:=Tryz.underlying9
 a9:=Tryz.isAgg9
 z9:=Tryz.sizeOf9
 v9:=Tryz.zeroValue9
 t26:=Tryz.underlying76
 a26:=Tryz.isAgg76
 z26:=Tryz.sizeOf76
 v26:=Tryz.zeroValue76
 t27:=Tryz.underlying76
 a27:=Tryz.isAgg76
 z27:=Tryz.sizeOf76
 v27:=Tryz.zeroValue76
 t29:=Tryz.underlying9
 a29:=Tryz.isAgg9
 z29:=Tryz.sizeOf9
 v29:=Tryz.zeroValue9
 t32:=Tryz.underlying184
 a32:=Tryz.isAgg184
 z32:=Tryz.sizeOf184
 v32:=Tryz.zeroValue184
 t35:=Tryz.underlying193
 a35:=Tryz.isAgg193
 z35:=Tryz.sizeOf193
 v35:=Tryz.zeroValue193
 t36:=Tryz.underlying194
 a36:=Tryz.isAgg194
 z36:=Tryz.sizeOf194
 v36:=Tryz.zeroValue194
 t41:=Tryz.underlying199
 a41:=Tryz.isAgg199
 z41:=Tryz.sizeOf199
 v41:=Tryz.zeroValue199
 t44:=Tryz.underlying202
 a44:=Tryz.isAgg202
 z44:=Tryz.sizeOf202
 v44:=Tryz.zeroValue202
 t46:=Tryz.underlying204
 a46:=Tryz.isAgg204
 z46:=Tryz.sizeOf204
 v46:=Tryz.zeroValue204
 t53:=Tryz.underlying209
 a53:=Tryz.isAgg209
 z53:=Tryz.sizeOf209
 v53:=Tryz.zeroValue209
 t57:=Tryz.underlying213
 a57:=Tryz.isAgg213
 z57:=Tryz.sizeOf213
 v57:=Tryz.zeroValue213
 t63:=Tryz.underlying216
 a63:=Tryz.isAgg216
 z63:=Tryz.sizeOf216
 v63:=Tryz.zeroValue216
 t64:=Tryz.underlying217
 a64:=Tryz.isAgg217
 z64:=Tryz.sizeOf217
 v64:=Tryz.zeroValue217 }
end Go.Proofs
namespace Go.Proofs.YthjgmldnegaaiaaGreatDoor.Mir
open Go Go.RowKit Go.Shelf Go.Maps Go.Sort
def leS:List UInt8→List UInt8→Bool
 | [],_=>true
 | _ :: _,[]=>false
 | x :: xs,y :: ys=>match Nat.blt x.toNat y.toNat with
  | true=>true
  | false=>match Nat.blt y.toNat x.toNat with
   | true=>false
   | false=>leS xs ys
theorem f1l:∀ a b:List UInt8,leS a b=decide (a≤b)
 | [],b=>by simp [leS]
 | x :: xs,[]=>by simp [leS]
 | x :: xs,y :: ys=>by
  have h:((x :: xs)≤(y :: ys))↔x<y∨x=y∧xs≤ys:=List.cons_le_cons_iff
  unfold leS
  split
  ·rename_i h1
   have:x<y:=UInt8.lt_iff_toNat_lt.2 (Nat.blt_eq.mp h1)
   exact (decide_eq_true (h.2 (.inl this))).symm
  ·rename_i h1
   have h1':¬ x<y:=fun e=>by rw [Nat.blt_eq.mpr (UInt8.lt_iff_toNat_lt.1 e)] at h1;cases h1
   split
   ·rename_i h2
    have h2':y<x:=UInt8.lt_iff_toNat_lt.2 (Nat.blt_eq.mp h2)
    refine (decide_eq_false fun e=>?_).symm
    rcases h.1 e with e|⟨rfl,_⟩
    ·exact h1' e
    ·exact h1' h2'
   ·rename_i h2
    have h2':¬ y<x:=fun e=>by rw [Nat.blt_eq.mpr (UInt8.lt_iff_toNat_lt.1 e)] at h2;cases h2
    have hxy:x=y:=by
     apply UInt8.toNat.inj
     simp [UInt8.lt_iff_toNat_lt] at h1' h2'
     omega
    rw [f1l xs ys,decide_eq_decide,h]
    simp [hxy]
theorem g1Z:leS=fun x y=>decide (x≤y):=funext fun a=>funext fun b=>f1l a b
def ofS:Value→Option (List UInt8)
 | .string ⟨⟨l⟩⟩=>match Nat.ble l.length 100000 with
  | true=>some l
  | false=>none
 | _=>none
def sortS (vs:List Value):Option (List Value):=match j0j ofS vs with
 | some ks=>match Nat.ble ks.length 1000000 with
  | true=>some ((l0E leS ks).map encStr)
  | false=>none
 | none=>none
theorem u0l {vs xs:List Value}(h:sortS vs=some xs):∃ ks,j0j ofS vs=some ks∧ks.length≤1000000∧xs=(l0E leS ks).map encStr:=by
 unfold sortS at h
 split at h
 ·rename_i ks hks
  split at h
  ·rename_i hl
   cases h
   exact ⟨ks,hks,Nat.le_of_ble_eq_true hl,rfl⟩
  ·cases h
 ·cases h
theorem e1u (m:Nat):AnyZ.SortsIn Tryz.prog YthjgmldnegaaiaaGreatDoor.sortedS_ren Fence.wide m :=
  ⟨fun blk off cap ss W hH hblk hsz=>callsIn_wide.2 (AnyM.slices_Sort_string YthjgmldnegaaiaaGreatDoor.sortS blk off cap ss W hH hblk hsz),
   fun p cap W=>callsIn_wide.2 (AnyM.slices_Sort_string_none YthjgmldnegaaiaaGreatDoor.sortS p cap W)⟩
theorem l0e:e0o Tryz.prog 69 (o0F 113 9 sortS):=by
 refine y0F (by kernel_rfl) ?_ ?_ ?_
 ·intro l xs h x hx
  obtain ⟨ks,_,_,rfl⟩:=u0l h
  obtain ⟨y,_,rfl⟩:=List.mem_map.1 hx
  rfl
 ·intro w b hb hm
  refine (callsIn_wide (n:=5)).1 ?_
  have hseq:SeqGives Fence.wide 2 Tryz.prog 113 #[.pointer (some ⟨b,0,none⟩)] encStr (fun ss:List (List UInt8)=>ss=[]) 0 w :=
   AnyZ.keys_gives_nil (ρ:=YthjgmldnegaaiaaGreatDoor.keysS_ren) { YthjgmldnegaaiaaGreatDoor.keysS with } Fence.wide _ trivial rfl b _ hb hm
  have cS:=AnyZ.sorted_in YthjgmldnegaaiaaGreatDoor.sortedS Fence.wide 5 trivial trivial trivial trivial rfl (by omega) (e1u _) (enters_of Tryz.func112 (by kernel_rfl) rfl) 113 #[.pointer (some ⟨b,0,none⟩)] trivial (enters_of Tryz.func113 (by kernel_rfl) rfl) _ 0 (Nat.zero_le _) (by omega) _ hseq
  change CallsIn _ _ Tryz.prog 69 _ _ _ at cS
  refine cS.mono ?_
  rintro e w' ⟨v,ss,rfl,rfl,hrow,hnil,hb⟩
  obtain rfl:v = .slice none 0 0:=hnil.2 rfl
  exact ⟨rfl,hb⟩
 ·intro w b q en clock xs hb hm hq hst hxs
  obtain ⟨ks,hks,hlen,rfl⟩:=u0l hxs
  have hen:en.size=ks.length:=by
   have:∀ (l:List Value) (ks:List (List UInt8)),j0j ofS l=some ks→l.length=ks.length:=by
    intro l
    induction l with
    | nil=>intro ks h;cases h;rfl
    | cons v l ih =>
     intro ks h
     unfold j0j at h
     split at h
     ·split at h
      ·rename_i hxs
       cases h
       simp [ih _ hxs]
      ·cases h
     ·cases h
   have:=this _ _ hks
   simpa using this
  have hl0:=hlen
  obtain ⟨es,hown,hperm,hel⟩:=a1Y (P:=Tryz.prog) (k:=9) ofS Lit.string strOf (fun _=>rfl) (fun v x h=>by
   unfold ofS at h
   split at h
   ·rename_i n
    split at h
    ·rename_i hn
     cases h
     have hk:Tryz.prog.underlying 9=some .string:=by kernel_rfl
     have hn':=Nat.le_of_ble_eq_true hn
     have hsz:(ByteArray.mk ⟨x⟩).size≤maxLen:=by
      show x.length≤maxLen
      simp [maxLen];omega
     simp [keyOf,hk,mapKey,hsz]
    ·cases h
   ·cases h) hq hst hks (by simp [maxLen];omega)
  refine (callsIn_wide (n:=5)).1 ?_
  have hseq:SeqGives Fence.wide 2 Tryz.prog 113 #[.pointer (some ⟨b,0,none⟩)] encStr (fun ss=>ss.Perm (strKeys (.map es))) (Maps.size (.map es)) w :=
   AnyZ.keys_gives (ρ:=YthjgmldnegaaiaaGreatDoor.keysS_ren) { YthjgmldnegaaiaaGreatDoor.keysS with } Fence.wide _ trivial rfl (by omega) b q en.size (.map es) _ hb hm hown
  have cS:=AnyZ.sorted_in YthjgmldnegaaiaaGreatDoor.sortedS Fence.wide 5 trivial trivial trivial trivial rfl (by omega) (e1u _) (enters_of Tryz.func112 (by kernel_rfl) rfl) 113 #[.pointer (some ⟨b,0,none⟩)] trivial (enters_of Tryz.func113 (by kernel_rfl) rfl) _ _ (by rw [Maps.size_eq,hel,hen];simp [maxLen];omega) (by rw [Maps.size_eq,hel,hen];omega) _ hseq
  change CallsIn _ _ Tryz.prog 69 _ _ _ at cS
  refine cS.mono ?_
  rintro e w' ⟨v,ss,rfl,hS,hrow,hnil,hb⟩
  have hss:ss.Perm ks:=hS.trans hperm
  have hsort:ss.mergeSort (fun x y=>decide (x≤y))=l0E leS ks:=by
   rw [g1Z]
   exact d1z (le:=fun x y:List UInt8=>decide (x≤y)) (fun a b c h1 h2=>by simp only [decide_eq_true_eq] at *;exact List.le_trans h1 h2) (fun a b=>by simp only [Bool.or_eq_true,decide_eq_true_eq];exact List.le_total a b) (fun a b h1 h2=>by simp only [decide_eq_true_eq] at h1 h2;exact List.le_antisymm h1 h2) hss
  refine ⟨v,rfl,?_,?_,hb⟩
  ·rw [hsort] at hrow
   have:ss.length=((l0E leS ks).map encStr).length:=by
    rw [←hsort];simp
   rw [←this];exact hrow
  ·rw [hnil,List.map_eq_nil_iff,←hsort]
   constructor
   ·rintro rfl;simp
   ·intro h
    have:=congrArg List.length h
    simpa using this
end Go.Proofs.YthjgmldnegaaiaaGreatDoor.Mir
namespace Go.Proofs.YthjgmldnegaaiaaGreatDoor.Mir
open Go Go.RowKit
theorem Con.sound {P:Program}{f:FuncId}{g:List D→List Row→Option Eff}(hs:e0o P f g)(hf:∃ fn,P.funcs[f]?=some fn∧fn.body.isSome=true){args:List D}{H:List Row}{e:Eff}(h:g args H=some e):Con P f args H fun r H'=>r=e.res∧H'=e.heap H :=
 ⟨hf,fun w φ X vs hH ha=>(hs args H e h w φ X vs hH ha).mono fun _ _ ⟨v,h1,h2⟩=>⟨v,e.res,e.heap H,h1,⟨rfl,rfl⟩,LeavesW.of h2⟩⟩
theorem b1s {P:Program}{f:FuncId}(h:((P.funcs[f]?).bind fun fn=>fn.body).isSome=true):∃ fn,P.funcs[f]?=some fn∧fn.body.isSome=true:=by
 cases hf:P.funcs[f]? with
 | none=>rw [hf] at h;cases h
 | some fn=>rw [hf] at h;exact ⟨fn,rfl,h⟩
set_option maxHeartbeats 4000000
def bx74:Row:=.box 107 [.mp 0]
theorem a1e (es:List (Value × D)):Con Tryz.prog 70 [.mp 0] [.map es] fun r H'=>r = .fn 113 [.pt 1 0]∧H'=[.map es,bx74]:=by
 refine Con.walk good x0s (by simp) ?_
 unfold s0p
 simp only [a0J]
 repeat' (with_reducible first|refine Wx.h ?_|refine Wb.h fun K hK=>?_|(refine hK _ ?_;clear hK K)|((fail_if_success refine Wz.h ?_);simp (disch:=omega) only [↓LD,LA,a0A,seval]))
 exact RetS.gather (ds:=[.fn 113 [.pt 1 0]]) (e:=⟨.fn 113 [.pt 1 0],[(0,.map es)],[bx74]⟩) (by kernel_rfl) (by kernel_rfl) ⟨rfl,rfl⟩
def b0u (ms:List Ev):List Bs:=l0E leS (ms.map (·.name))
theorem s0Q:∀ {ms:List Ev},(∀ e∈ms,e.name.length≤100000)→j0j ofS ((encM ms).map (·.1))=some (ms.map (·.name))
 | [],_=>rfl
 | e :: ms,h=>by
  have ih:=s0Q (ms:=ms) fun x hx=>h x (by simp [hx])
  have h1:ofS (.string (BB e.name))=some e.name:=by
   show (match Nat.ble e.name.length 100000 with|true=>some e.name|false=>none)=_
   rw [Nat.ble_eq_true_of_le (h e (by simp))]
  show j0j ofS (.string (BB e.name) :: (encM ms).map (·.1))=_
  rw [j0j,h1,ih];rfl
theorem w0m (ms:List Ev)(hl:ms.length≤1000000)(hn:∀ e∈ms,e.name.length≤100000):Con Tryz.prog 69 [.fn 113 [.pt 1 0]] [.map (encM ms),bx74] fun r H'=>r=(o0V 9 2 ((b0u ms).map encStr)).res∧H'=(o0V 9 2 ((b0u ms).map encStr)).heap [.map (encM ms),bx74]:=by
 refine Con.sound l0e (b1s (by kernel_rfl)) ?_
 show (match sortS ((encM ms).map (·.1)) with|some xs=>some (o0V 9 2 xs)|none=>none)=_
 unfold sortS
 rw [s0Q hn]
 show (match (match Nat.ble (ms.map (·.name)).length 1000000 with|true=>some ((l0E leS (ms.map (·.name))).map encStr)|false=>none) with|some xs=>some (o0V 9 2 xs)|none=>none)=_
 rw [Nat.ble_eq_true_of_le (by rw [List.length_map];exact hl)]
 rfl
theorem a1M (ms:List Ev)(hl:ms.length≤1000000)(hn:∀ e∈ms,e.name.length≤100000)(hz:b0u ms=[]):Con Tryz.prog 69 [.fn 113 [.pt 1 0]] [.map (encM ms),bx74] fun r H'=>r=jN∧H'=[.map (encM ms),bx74]:=by
 have h:=w0m ms hl hn
 rw [hz] at h
 exact h
theorem z0M (ms:List Ev)(hl:ms.length≤1000000)(hn:∀ e∈ms,e.name.length≤100000)(hz:b0u ms≠[]):Con Tryz.prog 69 [.fn 113 [.pt 1 0]] [.map (encM ms),bx74] fun r H'=>r = .sl 2 0 (b0u ms).length∧H'=[.map (encM ms),bx74,.data 9 ((b0u ms).map fun k=>F.v (.string (BB k)))]:=by
 have h:=w0m ms hl hn
 have hr:o0V 9 2 ((b0u ms).map encStr)=⟨.sl 2 0 (b0u ms).length,[],[.data 9 ((b0u ms).map fun k=>F.v (.string (BB k)))]⟩:=by
  unfold o0V
  rw [if_neg (by simpa using hz),List.length_map,List.map_map];rfl
 rw [hr] at h
 exact h
def allL (ms:List Ev):List Ev:=(b0u ms).map fun k=>(e0I ms k).getD default
def fNm (l:List Bs):F:=.s (l.map fun k=>F.v (.string (BB k))) l.length
theorem x0A {g:List Bs}:slcS (.f (fNm g))=some g.length:=id rfl
theorem w0x {g:List Bs}{sz:Nat}{k:IntKind}{i:Int}{K:D→Prop}:idxS sz (.f (fNm g)) (.f (.v (.int k i))) K=((0≤i∧i<g.length)∧K (.rf ((g.map fun k=>F.v (.string (BB k))).drop (i.toNat*sz)))):=id rfl
theorem LNm:type_of% @x0A∧type_of% @w0x:=⟨@x0A,@w0x⟩
theorem c0l (ms:List Ev):(b0u ms).Perm (ms.map (·.name)):=g0O _ _
theorem d1K {ms:List Ev}{k:Bs}(h:k∈b0u ms):∃ e,e0I ms k=some e∧e∈ms∧e.name=k:=by
 have h1:=(c0l ms).mem_iff.1 h
 obtain ⟨e,he,rfl⟩:=List.mem_map.1 h1
 cases hf:e0I ms e.name with
 | none =>
  have:=List.find?_eq_none.1 hf e he
  simp at this
 | some y=>exact ⟨y,rfl,List.mem_of_find?_eq_some hf,by have:=List.find?_some hf;simpa [eq_comm] using this⟩
theorem i1U:inf Tryz.prog 9=some (1,16,[.string ⟨#[]⟩]):=by kernel_rfl
def alR (l:List Ev):D:=if l.length=0 then jN else .sl 0 0 l.length
def alH (l:List Ev):List Row:=if l.length=0 then [] else [rEv l]
set_option maxRecDepth 100000 in
theorem v0Y (t:Br)(ht:TrK t)(hs:∀ e∈sigM t,FitV e∧e.name.length≤100000)(hsl:(sigM t).length≤1000000):Con Tryz.prog 31 [.ag [.f (fBr t)]] [] fun r H'=>r=alR (allL (sigM t))∧H'=alH (allL (sigM t)):=by
 have hlen:=ht.len
 refine Con.walk good a1H (by simp) ?_
 unfold v0Q
 simp only [a0J]
 repeat' (with_reducible first|refine Wx.h ?_|refine Wb.h fun K hK=>?_|(refine hK _ ?_;clear hK K)|((fail_if_success refine Wz.h ?_);simp (disch:=omega) only [↓LD,LA,a0A,seval,LBr]))
 refine HS.loopG [3,15,16,17] (fun x:Nat × List Ev=>⟨frm 64 [(3,.mp 0),(15,.f (fBr t)),(16,D.int t.length),(17,D.int x.1)],[.map (encM x.2)],[]⟩) (fun x=>x.1≤t.length∧sigM t=(t.drop x.1).foldl (fun ms b=>b.foldl addS ms) x.2) (fun x=>t.length-x.1) (0,[]) (by kernel_rfl) ⟨Nat.zero_le _,rfl⟩ ?_
 rintro ⟨i,ms⟩ ⟨hi,hF⟩
 dsimp only at hi hF
 by_cases hil:i<t.length
 ·obtain ⟨ok,ne⟩:=ht.gt hil
  have hfl:=ok.fitL
  rw [a0I hil,List.foldl_cons] at hF
  have hll:=ok.len
  repeat' (with_reducible first|refine Wx.h ?_|refine Wb.h fun K hK=>?_|(refine hK _ ?_;clear hK K)|refine Wq.h ?_ ?_<;>intro h<;>try (exfalso;omega)|((fail_if_success refine Wz.h ?_);first|simp (disch:=omega) only [↓LD,LA,a0A,seval,LBr,LEv]|(refine And.intro ?_ ?_;omega)|fail))
  generalize gt t i=b at *
  refine HS.loopG [3,15,16,17,21,22,23] (fun x:Nat × List Ev=>⟨frm 64 [(3,.mp 0),(15,.f (fBr t)),(16,D.int t.length),(17,D.int i),(21,.f (fEv b)),(22,D.int b.length),(23,D.int x.1)],[.map (encM x.2)],[]⟩) (fun x=>x.1≤b.length∧b.foldl addS ms=(b.drop x.1).foldl addS x.2) (fun x=>b.length-x.1) (0,ms) (by kernel_rfl) ⟨Nat.zero_le _,rfl⟩ ?_
  rintro ⟨j,ns⟩ ⟨hj,hG⟩
  dsimp only at hj hG
  by_cases hjl:j<b.length
  ·rw [a0I hjl,List.foldl_cons] at hG
   obtain ⟨f1,f2,f3,f4⟩:=hfl.2 _ (a0M hjl)
   have hfn:=t0Z (hfl.2 _ (a0M hjl))
   generalize hg:gt b j=e at *
   cases hfe:e0I ns e.name with
   | some y =>
    have hr:=fun (z:D) (ok:Bool)=>n0S (z:=z) (ok:=ok) hfe
    have ha:addS ns e=ns:=if_neg (by rw [hfe];simp)
    rw [ha] at hG
    repeat' (with_reducible first|refine Wx.h ?_|refine Wb.h fun K hK=>?_|(refine hK _ ?_;clear hK K)|refine Wq.h ?_ ?_<;>intro h<;>try (exfalso;omega)|((fail_if_success refine Wz.h ?_);first|simp (disch:=omega) only [↓LD,LA,a0A,seval,LEv,b0t,a0K,hg,Ev.cs,o0R,hr,evD,List.map_cons,List.map_nil,-a0A]|(refine And.intro ?_ ?_;omega)|fail))
    exact Next.mk (j+1,ns) (by kernel_rfl) ⟨by dsimp only;omega,hG⟩ (by dsimp only;omega)
   | none =>
    have hr:=fun (z:D) (ok:Bool)=>y0h (z:=z) (ok:=ok) hfe
    have hm:=fun (H:List Row) (r:Nat)=>b1K (H:=H) (r:=r) hfe
    repeat' (with_reducible first|refine Wx.h ?_|refine We.h fun K hK=>?_|(refine hK _ _ _ _ ?_;clear hK K;try clear hM M)|refine Wb.h fun K hK=>?_|(refine hK _ ?_;clear hK K)|(refine Wy.h ?_ ?_;kernel_rfl)|refine Wq.h ?_ ?_<;>intro h<;>try (exfalso;omega)|((fail_if_success refine Wz.h ?_);first|simp (disch:=omega) only [↓LD,LA,a0A,seval,LEv,b0t,a0K,hg,Ev.cs,o0R,hr,evD,List.map_cons,List.map_nil,-a0A]|(refine And.intro ?_ ?_;omega)|fail))
    ·refine ⟨⟨hfn,by omega,by omega⟩,?_⟩
     repeat' (with_reducible first|refine Wx.h ?_|refine We.h fun K hK=>?_|(refine hK _ _ _ _ ?_;clear hK K;try clear hM M)|refine Wb.h fun K hK=>?_|(refine hK _ ?_;clear hK K)|(refine Wy.h ?_ ?_;kernel_rfl)|((fail_if_success refine Wz.h ?_);simp (disch:=omega) only [↓LD,LA,a0A,seval,LEv,d1O,hm]))
     have ha:addS ns e=ns++[e]:=if_pos ⟨by rw [hfe];rfl,by assumption⟩
     rw [ha] at hG
     exact Next.mk (j+1,ns++[e]) (by kernel_rfl) ⟨by dsimp only;omega,hG⟩ (by dsimp only;omega)
    ·have ha:addS ns e=ns:=if_neg (fun h2=>absurd h2.2 (by assumption))
     rw [ha] at hG
     exact Next.mk (j+1,ns) (by kernel_rfl) ⟨by dsimp only;omega,hG⟩ (by dsimp only;omega)
  ·repeat' (with_reducible first|refine Wx.h ?_|refine Wb.h fun K hK=>?_|(refine hK _ ?_;clear hK K)|refine Wq.h ?_ ?_<;>intro h<;>try (exfalso;omega)|((fail_if_success refine Wz.h ?_);simp (disch:=omega) only [↓LD,LA,a0A,seval,LEv]))
   rw [List.drop_of_length_le (by omega)] at hG
   exact Next.mk (i+1,ns) (by kernel_rfl) ⟨by dsimp only;omega,by rw [hF,hG];rfl⟩ (by dsimp only;omega)
 ·rw [List.drop_of_length_le (by omega)] at hF
  have hF:sigM t=ms:=hF
  rw [hF] at hs hsl ⊢
  clear hF
  repeat' (with_reducible first|refine Wx.h ?_|refine Wb.h fun K hK=>?_|(refine hK _ ?_;clear hK K)|refine Wq.h ?_ ?_<;>intro h<;>try (exfalso;omega)|((fail_if_success refine Wz.h ?_);simp (disch:=omega) only [↓LD,LA,a0A,seval,LBr]))
  refine a0D (a1e (encM ms)) [0] (by kernel_rfl) rfl rfl ?_
  rintro _ _ ⟨rfl,rfl⟩
  simp (disch:=omega) only [↓LD,LA,a0A,seval,ren,List.getElem?_nil,bx74]
  repeat' (with_reducible first|refine Wb.h fun K hK=>?_|(refine hK _ ?_;clear hK K)|((fail_if_success refine Wz.h ?_);simp (disch:=omega) only [↓LD,LA,a0A,seval]))
  by_cases hz:b0u ms=[]
  ·refine a0D (a1M ms hsl (fun e he=>(hs e he).2) hz) [0,1] (by kernel_rfl) rfl rfl ?_
   rintro _ _ ⟨rfl,rfl⟩
   have ha:allL ms=[]:=by unfold allL;rw [hz];rfl
   simp (disch:=omega) only [↓LD,LA,a0A,seval,ren,List.getElem?_nil,bx74]
   repeat' (with_reducible first|refine Wx.h ?_|(refine hK _ ?_;clear hK K)|((fail_if_success refine Wz.h ?_);simp (disch:=omega) only [↓LD,LA,a0A,seval]))
   refine HS.loopG [10,51,52] (fun _:Unit=>⟨frm 64 [(10,jN),(51,jI),(52,jI)],[],[]⟩) (fun _=>True) (fun _=>0) () (by kernel_rfl) trivial ?_
   rintro - -
   repeat' (with_reducible first|refine Wx.h ?_|refine Wb.h fun K hK=>?_|(refine hK _ ?_;clear hK K)|((fail_if_success refine Wz.h ?_);simp (disch:=omega) only [↓LD,LA,a0A,seval]))
   exact end1 rfl rfl (by kernel_rfl) .f ⟨by rw [ha];rfl,by rw [ha];rfl⟩
  ·refine a0D (z0M ms hsl (fun e he=>(hs e he).2) hz) [0,1] (by kernel_rfl) rfl rfl ?_
   rintro _ _ ⟨rfl,rfl⟩
   have hnl:(b0u ms).length=ms.length:=by rw [(c0l ms).length_eq,List.length_map]
   have hfo:=fun k hk=>d1K (ms:=ms) (k:=k) hk
   have hal:allL ms=(b0u ms).map fun k=>(e0I ms k).getD default:=rfl
   generalize b0u ms=ks at *
   obtain ⟨L,hLe⟩:∃ L,allL ms=L:=⟨_,rfl⟩
   rw [hLe] at hal
   have hLl:L.length=ks.length:=by rw [hal,List.length_map]
   simp (disch:=omega) only [↓LD,LA,a0A,seval,ren,List.getElem?_nil,bx74]
   repeat' (with_reducible first|refine Wx.h ?_|(refine hK _ ?_;clear hK K)|((fail_if_success refine Wz.h ?_);simp (disch:=omega) only [↓LD,LA,a0A,seval]))
   refine HS.view (View.fzd 50 rfl rfl i1U (by simp) (by decide) (by decide)) ?_
   rw [show F.s (ks.map fun k=>F.v (.string (BB k))) ks.length=fNm ks from rfl]
   refine HS.view (View.void 73) ?_
   refine HS.view (View.slot 10 (.sl 3 0 0) (.no (by show 3<4;omega))) ?_
   clear hi hF hil h
   refine HS.loopG [3,10,50,51,52] (fun j:Nat=>⟨frm 64 [(3,.mp 0),(10,.sl 1 0 j),(50,.f (fNm ks)),(51,D.int ks.length),(52,D.int j)],[.map (encM ms),.data 73 ((L.take j).flatMap Ev.cs)],[]⟩) (fun j=>j≤ks.length) (fun j=>ks.length-j) 0 (by kernel_rfl) (Nat.zero_le _) ?_
   rintro j hj
   by_cases hjl:j<ks.length
   ·obtain ⟨e,he1,he2,he3⟩:=hfo _ (a0M hjl)
    have hge:gt L j=e:=by
     rw [a0v (by omega)]
     have:L[j]?=some e:=by rw [hal,List.getElem?_map,List.getElem?_eq_getElem hjl,←a0v hjl,Option.map_some,he1];rfl
     rw [List.getElem?_eq_getElem (by omega)] at this
     exact Option.some.inj this
    have hlen2:((L.take j).flatMap Ev.cs).length=j*9:=by rw [a0K,List.length_take,Nat.min_eq_left (by omega)]
    have ha:(L.take j).flatMap Ev.cs++Ev.cs e=(L.take (j+1)).flatMap Ev.cs:=by
     rw [List.take_succ_eq_append_getElem (by omega),List.flatMap_append,←a0v (by omega),hge];simp
    rw [Ev.cs] at ha
    have hr:=fun (z:D) (ok:Bool)=>n0S (z:=z) (ok:=ok) he1
    clear hfo hal he3
    generalize hg:gt ks j=k at *
    repeat' (with_reducible first|refine Wx.h ?_|refine Wb.h fun K hK=>?_|(refine hK _ ?_;clear hK K)|refine Wq.h ?_ ?_<;>intro h<;>try (exfalso;omega)|((fail_if_success refine Wz.h ?_);first|simp (disch:=omega) only [↓LD,LA,a0A,seval,LNm,o0R,hr,hg,hlen2,Ev.cs,evD,ha,a0K]|(refine And.intro ?_ ?_;omega)|fail))
    exact Next.mk (j+1) (by kernel_rfl) (by omega) (by omega)
   ·obtain rfl:j=ks.length:=by omega
    rw [List.take_of_length_le (by omega)]
    repeat' (with_reducible first|refine Wx.h ?_|refine Wb.h fun K hK=>?_|(refine hK _ ?_;clear hK K)|refine Wq.h ?_ ?_<;>intro h<;>try (exfalso;omega)|((fail_if_success refine Wz.h ?_);simp (disch:=omega) only [↓LD,LA,a0A,seval]))
    have hL0:¬ L.length=0:=fun e=>hz (List.eq_nil_of_length_eq_zero (by omega))
    exact endG rfl rfl (ef:=⟨.sl 0 0 ks.length,[],[rEv L]⟩) (by kernel_rfl) ⟨by rw [hLe,alR,if_neg hL0,hLl],by rw [hLe,alH,if_neg hL0];rfl⟩
def c0q:SCode :=
  (jq ([.a 4 (.mv kN)]) (jq ((ap [jm 8 0,jm 9 1,.a 10 (.call (kC 100) [(.t 8),(.t 9)])] [jm 5 10])) (.seq (jq ([jm 11 5,.a 12 (.bin .eql (.t 11) (kI
 (-1)))]) (jc 12 (jq ([jm 13 0,jm 4 13]) .ret) .skip)) (.seq (jq ([jm 14 5,jb 15 .add 14 1,jm 6 15]) (.block 0 (.loop (.seq (jq ([jm 16 6,jm 17 0,
 je 18 17,jB 19 .lss 16 18]) (jc 19 .skip (.exit 0))) (.seq (.block 1 (jq ([jm 22 0,jm 23 6,jx 24 9 22 23,jL 25 9 24,.a 7 (.alloc 73 [jI,jI,jI,
 jI,jI,jI,(.f (.v (.string ⟨#[]⟩))),jN,jN]),.n (.store 9 (.t 7) (.t 25))]) (jq ((ap [jm 26 1,jL 27 9 7,.a 28 (.call (.t 26) [(.t 27)])] [.a 29
 (.unot (.t 28))])) (jc 29 (jq ([jm 30 0,jm 31 5,jL 32 9 7,jx 33 9 30 31,.n (.store 9 (.t 33) (.t 32))]) (.ops [jm 34 5,jb 35 .add 34 1,jm 5 35]))
 .skip)))) (.ops [jm 20 6,jb 21 .add 20 1,jm 6 21])))))) (jq ([jm 36 0,jm 37 5,.a 38 (.sub 9 73 (.t 36) (some (.t 37)) none none),.n (.clr 25 (.t
 38))]) (jq ([jm 39 0,jm 40 5,.a 41 (.sub 9 73 (.t 39) none (some (.t 40)) none),jm 4 41]) .ret))))))
theorem d0r:Fn Tryz.prog 63 42 [.t 4] c0q:=.of Tryz.func63 (by kernel_rfl)
def h0Z:SCode :=
  (jq ([.a 1 (.box 30 (.t 0)),.a 2 (.mv kN)]) (jq ((ap [jL 6 1 1,.a 7 (.call (kC 18) [(.t 6)])] (ap [.a 8 (.call (kC 24) [(.t 7)])] [jm 5 8,jE 9 0 5,
 jE 10 1 5,.a 3 (.alloc 65 [jI,jI,jI,jI,jF,jN,jN,jN,jN]),.n (.store 9 (.t 3) (.t 9)),jm 4 10]))) (jq ((ap [jL 11 1 1,.a 12 (.call (kC 31)
 [(.t 11)])] (ap [.a 13 (.fn 64 [(.t 3)]),.a 14 (.call (kC 63) [(.t 12),(.t 13)])] [jm 2 14]))) .ret)))
theorem o0G:Fn Tryz.prog 27 15 [.t 2] h0Z:=.of Tryz.func27 (by kernel_rfl)
def f0p:SCode :=
 (jq ([.a 2 (.box 73 (.t 0)),.a 3 (.mv kF)]) (jq ((ap [jL 4 9 1,jo 5 6 2,jl 6 5,.a 7 (.call (kC 65) [(.t 4),(.t 6)])] [jm 3 7])) .ret))
theorem l0L:Fn Tryz.prog 64 8 [.t 3] f0p:=.of Tryz.func64 (by kernel_rfl)
set_option maxRecDepth 100000 in
theorem g0E (e:Ev)(s:S12)(hl:s.sgs.length≤1000000):Con Tryz.prog 64 [evD e,.pt 0 0] [stF s] fun r H'=>r=D.bool (c0s s.sgs e.name)∧H'=[stF s]:=by
 have hc:=u0e s e.name hl
 obtain ⟨id,ver,time,closed,cancel,defs,nodes,tms,sgs⟩:=s
 refine Con.walk good l0L (by simp) ?_
 unfold f0p evD
 simp only [a0J]
 repeat' (with_reducible first|refine Wx.h ?_|refine Wb.h fun K hK=>?_|(refine hK _ ?_;clear hK K)|((fail_if_success refine Wz.h ?_);simp (disch:=omega) only [↓LD,LA,a0A,seval,stF]))
 refine a0C hc rfl rfl rfl ?_
 repeat' (with_reducible first|refine Wx.h ?_|(refine hK _ ?_;clear hK K)|((fail_if_success refine Wz.h ?_);simp (disch:=omega) only [↓LD,LA,a0A,seval,stF]))
 exact end1 rfl rfl (by kernel_rfl) .f ⟨rfl,rfl⟩
def idxE (p:Ev→Bool):Nat→List Ev→Int
 | _,[]=>-1
 | i,e :: l=>if p e=true then i else idxE p (i+1) l
set_option maxRecDepth 100000 in
theorem l0C (l:List Ev)(s:S12)(hl:l.length≤1000000)(hs:s.sgs.length≤1000000):Con Tryz.prog 100 [.sl 0 0 l.length,.fn 64 [.pt 1 0]] [rEv l,stF s] fun r H'=>r=D.int (idxE (fun e=>c0s s.sgs e.name) 0 l)∧H'=[rEv l,stF s]:=by
 refine Con.walk good e0H (by simp) ?_
 unfold d0A
 simp only [a0J]
 repeat' (with_reducible first|refine Wx.h ?_|refine Wb.h fun K hK=>?_|(refine hK _ ?_;clear hK K)|((fail_if_success refine Wz.h ?_);simp (disch:=omega) only [↓LD,LA,a0A,seval,rEv]))
 refine HS.loopG [0,1,7,8] (fun i:Nat=>⟨frm 19 [(0,.sl 0 0 l.length),(1,.fn 64 [.pt 1 0]),(7,D.int l.length),(8,D.int i)],[rEv l,stF s],[]⟩) (fun i=>i≤l.length∧idxE (fun e=>c0s s.sgs e.name) 0 l=idxE (fun e=>c0s s.sgs e.name) i (l.drop i)) (fun i=>l.length-i) 0 (by kernel_rfl) ⟨Nat.zero_le _,rfl⟩ ?_
 rintro i ⟨hi,hF⟩
 by_cases hil:i<l.length
 ·rw [a0I hil,idxE] at hF
  generalize hg:gt l i=e at *
  repeat' (with_reducible first|refine Wx.h ?_|refine Wb.h fun K hK=>?_|(refine hK _ ?_;clear hK K)|refine Wq.h ?_ ?_<;>intro h<;>try (exfalso;omega)|((fail_if_success refine Wz.h ?_);first|simp (disch:=omega) only [↓LD,LA,a0A,seval,rEv,o0s,a0K,hg,Ev.cs,List.map_cons,List.map_nil]|(refine And.intro ?_ ?_;omega)|fail))
  refine a0D (g0E e s hs) [1] (by kernel_rfl) rfl rfl ?_
  rintro _ _ ⟨rfl,rfl⟩
  simp (disch:=omega) only [↓LD,LA,a0A,seval,ren,List.getElem?_nil]
  repeat' (with_reducible first|refine Wx.h ?_|refine Wb.h fun K hK=>?_|(refine hK _ ?_;clear hK K)|refine Wq.h ?_ ?_<;>intro h|((fail_if_success refine Wz.h ?_);simp (disch:=omega) only [↓LD,LA,a0A,seval,rEv]))
  ·rw [if_pos (by assumption)] at hF
   exact end1 rfl rfl (by kernel_rfl) .f ⟨by rw [hF],rfl⟩
  ·rw [if_neg (by simp [*])] at hF
   exact Next.mk (i+1) (by kernel_rfl) ⟨by omega,hF⟩ (by omega)
 ·repeat' (with_reducible first|refine Wx.h ?_|refine Wb.h fun K hK=>?_|(refine hK _ ?_;clear hK K)|refine Wq.h ?_ ?_<;>intro h<;>try (exfalso;omega)|((fail_if_success refine Wz.h ?_);simp (disch:=omega) only [↓LD,LA,a0A,seval,rEv]))
  rw [List.drop_of_length_le (by omega)] at hF
  exact end1 rfl rfl (by kernel_rfl) .f ⟨by rw [hF];rfl,rfl⟩
theorem z0n {P:Program}{H2:List Row}{e:Ev}{R:List Ev}{U:TypeId}{k:Nat}(hk:k<R.length):c0V P (.data U (R.flatMap Ev.cs) :: H2) 9 0 (k*9) (eA e) (some (.data U (R.flatMap Ev.cs)))=some (.data U ((R.set k e).flatMap Ev.cs) :: H2):=by
 have h:=r0z (P:=P) (H:=.data U (R.flatMap Ev.cs) :: H2) (n:=9) (r:=0) (off:=k*9) (ys:=Ev.cs e) (U:=U) (xs:=R.flatMap Ev.cs) rfl (by omega)
 rw [if_pos (by rw [a0K];omega)] at h
 refine h.trans ?_
 show some ((Row.data U (R.flatMap Ev.cs) :: H2).set 0 (.data U (splice (R.flatMap Ev.cs) (k*9) (Ev.cs e))))=_
 rw [f0G Ev.cs_len hk];rfl
theorem p0f {p:Ev→Bool}:∀ {l:List Ev} {i:Nat},(idxE p i l = -1∧l.filter (fun e=>!p e)=l)∨∃ k:Nat,idxE p i l=(i+k:Nat)∧k<l.length∧(l.take (k+1)).filter (fun e=>!p e)=l.take k
 | [],i=>.inl ⟨rfl,rfl⟩
 | e :: l,i=>by
  rw [idxE]
  by_cases h:p e=true
  ·rw [if_pos h]
   exact .inr ⟨0,by simp,by simp,by simp [h]⟩
  ·rw [if_neg h]
   rcases p0f (p:=p) (l:=l) (i:=i+1) with ⟨h1,h2⟩|⟨k,h1,h2,h3⟩
   ·exact .inl ⟨h1,by rw [List.filter_cons,if_pos (by simp [h]),h2]⟩
   ·exact .inr ⟨k+1,by rw [h1];congr 1;omega,by simp;omega,by rw [List.take_succ_cons,List.filter_cons,if_pos (by simp [h]),h3,List.take_succ_cons]⟩
theorem b1I {R:List Ev}{c:Nat}{e:Ev}(hc:c<R.length):(R.set c e).take (c+1)=R.take c++[e]:=by
 have h1:(R.take c).length=c:=by rw [List.length_take];omega
 rw [List.set_eq_take_append_cons_drop,if_pos hc,List.take_append,h1,List.take_of_length_le (by omega),show c+1-c=1 by omega]
 rfl
theorem b1A {H2:List Row}{xs:List F}{off m:Nat}(hm:m≠0)(hl:off+m*9≤xs.length):∃ zs,h0B Tryz.prog (.data 73 xs :: H2) 25 (.sl 0 off m)=some (.data 73 (xs.take off++zs) :: H2):=by
 have hu:Tryz.prog.underlying 25=some (.slice 73):=by kernel_rfl
 have hi:inf Tryz.prog 73=some (9,112,[.int .i64 0,.int .i64 0,.int .i64 0,.int .i64 0,.int .i64 0,.int .i64 0,.string ⟨#[]⟩,.slice none 0 0,.slice none 0 0]):=n0J
 have h:∃ vals,h0B Tryz.prog (.data 73 xs :: H2) 25 (.sl 0 off m)=some (.data 73 (splice xs off vals) :: H2):=by
  unfold h0B h0f
  rw [hu]
  dsimp only
  rw [if_neg hm,List.getElem?_cons_zero,hi]
  dsimp only
  rw [if_pos ⟨hl,by omega⟩]
  exact ⟨_,congrArg some (List.append_nil _)⟩
 obtain ⟨vals,h⟩:=h
 refine ⟨vals++xs.drop (off+vals.length),?_⟩
 rw [h,splice,List.append_assoc]
theorem g1R {l:List Ev}{k:Nat}:(l.flatMap Ev.cs).take (k*9)=(l.take k).flatMap Ev.cs:=by
 induction l generalizing k with
 | nil=>simp
 | cons e l ih =>
  cases k with
  | zero=>simp
  | succ k=>rw [List.take_succ_cons,List.flatMap_cons,List.flatMap_cons,List.take_append,List.take_of_length_le (by rw [Ev.cs_len];omega),Ev.cs_len,show (k+1)*9-9=k*9 by omega,ih]
def hadB (s:S12)(e:Ev):Bool:=c0s s.sgs e.name
set_option maxRecDepth 100000 in
theorem i0T (l:List Ev)(s:S12)(h0:l.length≠0)(hl:l.length≤1000000)(hs:s.sgs.length≤1000000):Con Tryz.prog 63 [.sl 0 0 l.length,.fn 64 [.pt 1 0]] [rEv l,stF s] fun r H'=>∃ xs,r=(if (l.filter fun e=>!hadB s e).length=0 then .f (.s [] 0) else .sl 0 0 (l.filter fun e=>!hadB s e).length)∧H'=[.data 73 ((l.filter fun e=>!hadB s e).flatMap Ev.cs++xs),stF s]:=by
 have hi0:=p0f (p:=hadB s) (l:=l) (i:=0)
 have hc:=l0C l s hl hs
 change Con _ _ _ _ fun r H'=>r=D.int (idxE (hadB s) 0 l)∧H'=[rEv l,stF s] at hc
 generalize idxE (hadB s) 0 l=i0 at *
 refine Con.walk good d0r (by simp) ?_
 unfold c0q
 simp only [a0J]
 rcases hi0 with ⟨rfl,hf⟩|⟨k,hk,hkl,hkf⟩
 ·rw [hf]
  repeat' (with_reducible first|refine Wx.h ?_|refine Wb.h fun K hK=>?_|(refine hK _ ?_;clear hK K)|((fail_if_success refine Wz.h ?_);simp (disch:=omega) only [↓LD,LA,a0A,seval]))
  refine a0D hc [0,1] (by kernel_rfl) rfl rfl ?_
  rintro _ _ ⟨rfl,rfl⟩
  simp (disch:=omega) only [↓LD,LA,a0A,seval,ren,List.getElem?_nil,rEv,stF]
  repeat' (with_reducible first|refine Wx.h ?_|refine Wb.h fun K hK=>?_|(refine hK _ ?_;clear hK K)|((fail_if_success refine Wz.h ?_);simp (disch:=omega) only [↓LD,LA,a0A,seval]))
  exact endA rfl rfl ⟨[],by rw [if_neg h0];rfl,by rw [List.append_nil];rfl⟩
 ·rw [Nat.zero_add] at hk
  subst hk
  repeat' (with_reducible first|refine Wx.h ?_|refine Wb.h fun K hK=>?_|(refine hK _ ?_;clear hK K)|((fail_if_success refine Wz.h ?_);simp (disch:=omega) only [↓LD,LA,a0A,seval]))
  refine a0D hc [0,1] (by kernel_rfl) rfl rfl ?_
  rintro _ _ ⟨rfl,rfl⟩
  simp (disch:=omega) only [↓LD,LA,a0A,seval,ren,List.getElem?_nil,rEv,stF]
  repeat' (with_reducible first|refine Wx.h ?_|refine Wb.h fun K hK=>?_|(refine hK _ ?_;clear hK K)|((fail_if_success refine Wz.h ?_);simp (disch:=omega) only [↓LD,LA,a0A,seval,rEv]))
  refine HS.loopG [0,1,5,6] (fun x:Nat × Nat × List Ev=>⟨frm 42 [(0,.sl 0 0 l.length),(1,.fn 64 [.pt 1 0]),(5,D.int x.1),(6,D.int x.2.1)],[rEv x.2.2,stF s],[]⟩) (fun x=>x.1<x.2.1∧x.2.1≤l.length∧x.2.2.length=l.length∧x.2.2.take x.1=(l.take x.2.1).filter (fun e=>!hadB s e)∧x.2.2.drop x.2.1=l.drop x.2.1) (fun x=>l.length-x.2.1) (k,k+1,l) (by kernel_rfl) ⟨by dsimp only;omega,by dsimp only;omega,rfl,hkf.symm,rfl⟩ ?_
  clear hkf hkl
  rintro ⟨c,j,R⟩ ⟨hcj,hj,hR,hT,hD⟩
  dsimp only at hcj hj hR hT hD
  by_cases hjl:j<l.length
  ·have hg:gt R j=gt l j:=by
    have h1:(R.drop j)[0]?=(l.drop j)[0]?:=by rw [hD]
    rw [List.getElem?_drop,List.getElem?_drop,Nat.add_zero,List.getElem?_eq_getElem (by omega),List.getElem?_eq_getElem (by omega)] at h1
    rw [a0v (by omega),a0v (by omega)]
    exact Option.some.inj h1
   generalize he:gt l j=e at *
   have hst:=fun (P:Program) (H2:List Row) (U:TypeId)=>z0n (P:=P) (H2:=H2) (e:=e) (R:=R) (U:=U) (k:=c) (by omega)
   repeat' (with_reducible first|refine Wx.h ?_|refine Wb.h fun K hK=>?_|(refine hK _ ?_;clear hK K)|refine Wq.h ?_ ?_<;>intro h<;>try (exfalso;omega)|((fail_if_success refine Wz.h ?_);first|simp (disch:=omega) only [↓LD,LA,a0A,seval,rEv,o0s,a0K,hR,hg,Ev.cs,List.map_cons,List.map_nil]|(refine And.intro ?_ ?_;omega)|fail))
   refine a0D (g0E e s hs) [1] (by kernel_rfl) rfl rfl ?_
   rintro _ _ ⟨rfl,rfl⟩
   have htk:l.take (j+1)=l.take j++[e]:=by rw [List.take_succ_eq_append_getElem hjl,←a0v hjl,he]
   have hD2:R.drop (j+1)=l.drop (j+1):=by rw [←List.drop_drop,←List.drop_drop,hD]
   simp (disch:=omega) only [↓LD,LA,a0A,seval,ren,List.getElem?_nil,rEv,stF]
   repeat' (with_reducible first|refine Wx.h ?_|refine Wb.h fun K hK=>?_|(refine hK _ ?_;clear hK K)|refine Wq.h ?_ ?_<;>intro h|((fail_if_success refine Wz.h ?_);first|simp (disch:=omega) only [↓LD,LA,a0A,seval,rEv,hst,a0K,hR]|(refine And.intro ?_ ?_;omega)|fail))
   ·have hb:(!hadB s e)=true:=by assumption
    exact Next.mk (c+1,j+1,R.set c e) (by kernel_rfl) ⟨by dsimp only;omega,by dsimp only;omega,by dsimp only;rw [List.length_set];exact hR,by dsimp only;rw [b1I (by omega),hT,htk,List.filter_append,List.filter_cons,if_pos hb,List.filter_nil],by dsimp only;rw [List.drop_set_of_lt (by omega)];exact hD2⟩ (by dsimp only;omega)
   ·have hb:(!hadB s e)=false:=by assumption
    exact Next.mk (c,j+1,R) (by kernel_rfl) ⟨by dsimp only;omega,by dsimp only;omega,hR,by dsimp only;rw [hT,htk,List.filter_append,List.filter_cons,if_neg (by rw [hb];simp),List.filter_nil,List.append_nil],hD2⟩ (by dsimp only;omega)
  ·obtain rfl:j=l.length:=by omega
   rw [List.take_length] at hT
   have hcn:¬ c=l.length:=by omega
   have hpos:0<l.length*9:=by omega
   obtain ⟨zs,hz⟩:=b1A (H2:=[stF s]) (xs:=R.flatMap Ev.cs) (off:=c*9) (m:=l.length-c) (by omega) (by rw [a0K];omega)
   rw [g1R,hT] at hz
   have hcl:c=(l.filter fun e=>!hadB s e).length:=by rw [←hT,List.length_take];omega
   repeat' (with_reducible first|refine Wx.h ?_|refine Wb.h fun K hK=>?_|(refine hK _ ?_;clear hK K)|refine Wq.h ?_ ?_<;>intro h<;>try (exfalso;omega)|((fail_if_success refine Wz.h ?_);first|simp (disch:=omega) only [↓LD,LA,a0A,seval,rEv,hcn,a0K,hR,hpos,hz,↓reduceIte]|(refine And.intro ?_ ?_;omega)|fail))
   by_cases hc0:0=c
   ·simp only [if_pos hc0]
    repeat' (with_reducible first|refine Wx.h ?_|(refine hK _ ?_;clear hK K)|((fail_if_success refine Wz.h ?_);simp (disch:=omega) only [↓LD,LA,a0A,seval,rEv]))
    exact endA rfl rfl ⟨zs,by rw [←hcl,if_pos hc0.symm];rfl,rfl⟩
   ·have hp2:0<(List.flatMap Ev.cs (l.filter fun e=>!hadB s e)++zs).length:=by rw [List.length_append,a0K,←hcl];omega
    simp only [if_neg hc0,if_pos hp2]
    repeat' (with_reducible first|refine Wx.h ?_|(refine hK _ ?_;clear hK K)|((fail_if_success refine Wz.h ?_);simp (disch:=omega) only [↓LD,LA,a0A,seval,rEv]))
    exact endA rfl rfl ⟨zs,by rw [←hcl,if_neg (fun e=>hc0 e.symm)];rfl,rfl⟩
structure SigOk (t:Br)(ms:List Ev):Prop where
 mem:∀ e∈ms,e.ty=7∧∃ b∈t,e∈b
 nd:(ms.map (·.name)).Nodup
theorem findE_none {ms:List Ev}{k:Bs}:(e0I ms k).isNone=true↔k ∉ ms.map (·.name):=by
 unfold e0I
 rw [Option.isNone_iff_eq_none,List.find?_eq_none]
 constructor
 ·intro h hm
  obtain ⟨e,he,rfl⟩:=List.mem_map.1 hm
  have:=h e he
  simp at this
 ·intro h e he hk
  have hk:k=e.name:=by simpa using hk
  exact h (List.mem_map.2 ⟨e,he,hk.symm⟩)
theorem SigOk.add {t:Br}{ms:List Ev}{e:Ev}{b:List Ev}(h:SigOk t ms)(hb:b∈t)(he:e∈b):SigOk t (addS ms e):=by
 unfold addS
 split
 ·rename_i hc
  refine ⟨fun x hx=>?_,?_⟩
  ·rcases List.mem_append.1 hx with hx|hx
   ·exact h.mem x hx
   ·obtain rfl:=List.mem_singleton.1 hx;exact ⟨hc.2,b,hb,he⟩
  ·rw [List.map_append,List.nodup_append]
   refine ⟨h.nd,by simp,fun a ha c hcc=>?_⟩
   rintro rfl
   obtain rfl:a=e.name:=by simpa using hcc
   exact findE_none.1 hc.1 ha
 ·exact h
theorem SigOk.addAll {t:Br}:∀ {l:List Ev} {ms:List Ev} {b:List Ev},SigOk t ms→b∈t→(∀ e∈l,e∈b)→SigOk t (l.foldl addS ms)
 | [],_,_,h,_,_=>h
 | e :: l,ms,b,h,hb,hl=>SigOk.addAll (l:=l) (h.add hb (hl e (by simp))) hb fun x hx=>hl x (by simp [hx])
theorem SigOk.all {t:Br}:∀ {l:Br} {ms:List Ev},SigOk t ms→(∀ b∈l,b∈t)→SigOk t (l.foldl (fun ms b=>b.foldl addS ms) ms)
 | [],_,h,_=>h
 | b :: l,ms,h,hl=>SigOk.all (l:=l) (h.addAll (hl b (by simp)) fun x hx=>hx) fun x hx=>hl x (by simp [hx])
theorem o0M (t:Br):SigOk t (sigM t):=SigOk.all ⟨fun e h=>by simp at h,by simp⟩ fun b hb=>hb
theorem z0y {ms:List Ev}{e:Ev}{k:Bs}(h:k∈ms.map (·.name)):k∈(addS ms e).map (·.name):=by
 unfold addS;split
 ·rw [List.map_append];exact List.mem_append_left _ h
 ·exact h
theorem f0M {k:Bs}:∀ {l:List Ev} {ms:List Ev},k∈ms.map (·.name)→k∈(l.foldl addS ms).map (·.name)
 | [],_,h=>h
 | e :: l,ms,h=>f0M (l:=l) (z0y h)
theorem v0N {k:Bs}:∀ {l:Br} {ms:List Ev},k∈ms.map (·.name)→k∈(l.foldl (fun ms b=>b.foldl addS ms) ms).map (·.name)
 | [],_,h=>h
 | b :: l,ms,h=>v0N (l:=l) (f0M h)
theorem g1g {ms:List Ev}{e:Ev}(h:e.ty=7):e.name∈(addS ms e).map (·.name):=by
 unfold addS
 by_cases hn:(e0I ms e.name).isNone=true
 ·rw [if_pos ⟨hn,h⟩];simp
 ·rw [if_neg (fun hh=>hn hh.1)]
  exact Classical.byContradiction fun hm=>hn (findE_none.2 hm)
theorem p0q {e:Ev}(h7:e.ty=7):∀ {l:List Ev} {ms:List Ev},e∈l→e.name∈(l.foldl addS ms).map (·.name)
 | x :: l,ms,h=>by
  rcases List.mem_cons.1 h with rfl|h
  ·exact f0M (l:=l) (g1g h7)
  ·exact p0q h7 (l:=l) h
theorem f1n {e:Ev}(h7:e.ty=7):∀ {l:Br} {ms:List Ev} {b:List Ev},b∈l→e∈b→e.name∈(l.foldl (fun ms b=>b.foldl addS ms) ms).map (·.name)
 | x :: l,ms,b,h,he=>by
  rcases List.mem_cons.1 h with rfl|h
  ·exact v0N (l:=l) (p0q h7 he)
  ·exact f1n h7 (l:=l) h he
theorem g1p {t:Br}{b:List Ev}{e:Ev}(hb:b∈t)(he:e∈b)(h7:e.ty=7):e.name∈(sigM t).map (·.name):=f1n h7 hb he
theorem y0G (ms:List Ev):(allL ms).map (·.name)=b0u ms:=by
 have key:∀ ks:List Bs,(∀ k∈ks,k∈b0u ms)→(ks.map fun k=>(e0I ms k).getD default).map (·.name)=ks:=by
  intro ks
  induction ks with
  | nil=>intro _;rfl
  | cons k ks ih =>
   intro h
   obtain ⟨e,h1,h2,h3⟩:=d1K (h k (by simp))
   rw [List.map_cons,List.map_cons,h1,ih fun x hx=>h x (by simp [hx])]
   show e.name :: ks=k :: ks
   rw [h3]
 exact key _ fun k h=>h
end Go.Proofs.YthjgmldnegaaiaaGreatDoor.Mir
