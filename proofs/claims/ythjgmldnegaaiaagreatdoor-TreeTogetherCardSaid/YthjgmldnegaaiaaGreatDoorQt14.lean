/- Lemmas for the proof. No condition. -/
import Derived.Test.YthjgmldnegaaiaaGreatDoorQt13
import Derived.Lib.LaidTab
import Derived.MakeChecks
set_option linter.unusedVariables false
set_option linter.unusedSimpArgs false
namespace Go.Proofs.YthjgmldnegaaiaaGreatDoor.Mir
open Go Go.RowKit
set_option maxHeartbeats 4000000
theorem BrOk.take {l:List Ev}(h:BrOk l)(n:Nat):BrOk (l.take n):=⟨l0K h.fold,fun e he=>h.fit e (List.mem_of_mem_take he),fun e he=>h.sig e (List.mem_of_mem_take he)⟩
theorem c0s (l:List Ev)(hbr:BrOk l)(steps:List Rw)(defs:List Rd):Con Tryz.prog 37 [.f (fEv l),.f (fRw steps),.f (fR defs)] [] fun r H'=>r = .f (fEv (e0E l steps defs))∧H'=[]:=h0e l hbr steps defs
theorem b1U {H:List Row}{r n:Nat}{xs:List F}{l:List Ev}(hr:H[r]?=some (.data 73 xs))(hx:xs=l.flatMap Ev.cs)(hn:n=l.length):Vw H (.sl r 0 n) (.f (fEv l)):=by
 subst hx;subst hn
 exact .sl hr (fun e=>by rw [List.eq_nil_of_length_eq_zero e];rfl)
def hdT (hd:List Ev):Int:=if hd.length=0 then 0 else (gt hd (hd.length-1)).time
def f0A (hd:List Ev)(at' v:Int)(defs:List Rd):Pn :=
 if (a0P s0 hd).2.id=0 then (b0q ⟨(a0P s0 hd).2,v,hdT hd,[]⟩ (c0V defs)).2 else (a0v ⟨(a0P s0 hd).2,v,hdT hd,[]⟩ (a0s v++a0s at') []).2
def q0q (hd:List Ev)(at' v:Int)(steps:List Rw)(defs:List Rd):List Ev :=
 if newE hd v (hdT hd)=0 then (if (f0A hd at' v defs).out.length=0 then hd else e0E (hd++(f0A hd at' v defs).out) steps defs) else hd
def p0O (l:List Ev)(at' v:Int)(steps:List Rw)(defs:List Rd):List Ev:=q0q (l.take (pick at' (l.length+1)).toNat) at' v steps defs
theorem n0x {hd:List Ev}{at' v:Int}{defs:List Rd}(h:BrOk hd):PnT (a0P s0 hd).2 (f0A hd at' v defs):=by
 unfold f0A
 split
 ·exact w0d (h.pen _ _) ((c0P defs).1.fit (c0P defs).2.2)
 ·exact r0V (h.pen _ _) (z0e _ _) (by simp)
theorem d1f {hd:List Ev}{at' v:Int}{steps:List Rw}{defs:List Rd}(h:BrOk hd):BrOk (q0q hd at' v steps defs):=by
 unfold q0q
 split
 ·split
  ·exact h
  ·exact u0L (h.app (n0x h))
 ·exact h
theorem c1a {l:List Ev}{at' v:Int}{steps:List Rw}{defs:List Rd}(h:BrOk l):BrOk (p0O l at' v steps defs):=d1f (h.take _)
set_option maxRecDepth 100000 in
theorem n0a (l:List Ev)(hbr:BrOk l)(at' v:Int)(steps:List Rw)(defs:List Rd):Con Tryz.prog 57 [.f (fEv l),D.int at',D.int v,.f (fRw steps),.f (fR defs)] [] fun r H'=>r = .f (fEv (p0O l at' v steps defs))∧H'=[]:=by
 suffices hh:∀ Q:D→List Row→Prop,(∀ out,p0O l at' v steps defs=out→Q (.f (fEv out)) [])→Con Tryz.prog 57 [.f (fEv l),D.int at',D.int v,.f (fRw steps),.f (fR defs)] [] Q from hh _ fun out h=>⟨by rw [h],rfl⟩
 intro Q hQ
 have hF:p0O l at' v steps defs=q0q (l.take (pick at' (l.length+1)).toNat) at' v steps defs:=rfl
 have hll:=hbr.len
 have pk:=b0M (x:=at') (n:=l.length+1) (by omega)
 obtain ⟨c,hc⟩:∃ c:Nat,pick at' (l.length+1)=c:=⟨(pick at' (l.length+1)).toNat,by omega⟩
 have hcl:c≤l.length:=by omega
 have hs:∀ H:List Row,subS H 9 73 (.f (fEv l)) 0 c=some (.f (fEv (l.take c))):=fun H=>f0P hcl
 have hh:=hbr.take c
 rw [show (pick at' ((l.length:Int)+1)).toNat=c by omega] at hF
 generalize l.take c=hd at hs hh hF
 have hhl:=hh.len
 refine Con.walk good k0f (by simp) ?_
 unfold f0g
 simp only [a0J]
 have e1:((hd.length:Int)-1).toNat=hd.length-1:=by omega
 have htm:0<hd.length→0≤(gt hd (hd.length-1)).time∧(gt hd (hd.length-1)).time≤1099511627776:=fun hk=>by
  have:=rightE_iff.1 (hh.right (a0K (l:=hd) (k:=hd.length-1) (by omega)))
  exact ⟨this.2.2.2.1.1,this.2.2.2.1.2⟩
 have hname:(a0s v++a0s at').length≤1000000:=by have:=b0A v;have:=b0A at';rw [List.length_append];omega
 have hsz:(a0s v).length+(a0s at').length≤1000:=by have:=b0A v;have:=b0A at';omega
 refine HS.seq ?_
 repeat' (with_reducible first|refine Wa.h ?_|refine Wb.h fun K hK=>?_|(refine hK _ ?_;clear hK K)|((fail_if_success refine Wz.h ?_);simp (disch:=omega) only [↓LD,LA,a0A,seval]))
 refine HS.seq ?_
 repeat' (with_reducible first|refine Wa.h ?_|refine Wb.h fun K hK=>?_|(refine hK _ ?_;clear hK K)|refine Wq.h ?_ ?_<;>intro h|((fail_if_success refine Wz.h ?_);first|simp (disch:=omega) only [↓LD,LA,a0A,seval,LEv,hc,hs,a0L,Int.toNat_natCast]|(refine And.intro ?_ ?_;omega)|fail))
 ·(obtain rfl:=List.eq_nil_of_length_eq_zero h)
  have hnw:hdT ([]:List Ev)=0:=rfl
  unfold q0q at hF
  rw [hnw] at hF
  refine HS.view (View.sweep (keep:=[1,2,3,4,10,11]) (s':=⟨frm 77 [(1,D.int at'),(2,D.int v),(3,.f (fRw steps)),(4,.f (fR defs)),(10,jN),(11,.sl 0 0 (List.length ([]:List Ev)))],[rEv ([]:List Ev)],[]⟩) (by kernel_rfl)) ?_
  repeat' (with_reducible first|refine Wx.h ?_|refine Wb.h fun K hK=>?_|(refine hK _ ?_;clear hK K)|((fail_if_success refine Wz.h ?_);simp (disch:=omega) only [↓LD,LA,a0A,seval,rEv,i0d,e1,a0L,Ev.cs]))
  refine a0I (e0V ([]:List Ev) v 0 (by omega) hh.fit) [0] (by kernel_rfl) rfl rfl ?_
  rintro _ _ ⟨hq1,hq2⟩
  by_cases hn:newE ([]:List Ev) v 0=0
  rotate_left
  ·obtain ⟨rfl,rfl⟩:=hq1 hn
   simp (disch:=omega) only [↓LD,LA,a0A,seval,ren,List.getElem?_nil,rEv]
   repeat' (with_reducible first|refine Wx.h ?_|refine Wb.h fun K hK=>?_|(refine hK _ ?_;clear hK K)|(refine wF ?_ ?_;assumption)|((fail_if_success refine Wz.h ?_);simp (disch:=omega) only [↓LD,LA,a0A,seval,rEv]))
   exact end1 rfl rfl (by kernel_rfl) (.sl (T:=73) (xs:=List.flatMap Ev.cs ([]:List Ev)) rfl (fun e=>by first|rfl|(rw [List.eq_nil_of_length_eq_zero e];rfl))) (hQ ([]:List Ev) (by rw [hF,if_neg hn]))
  obtain ⟨rfl,rfl⟩:=hq2 hn
  have hp':=n0x (at':=at') (v:=v) (defs:=defs) hh
  rw [if_pos hn] at hF
  have hok:=hh.ok
  by_cases hz:(a0P s0 ([]:List Ev)).2.id=0
  ·simp (disch:=omega) only [↓LD,LA,a0A,seval,ren,List.getElem?_nil,rEv,pnB,pnD]
   repeat' (with_reducible first|refine Wx.h ?_|refine Wb.h fun K hK=>?_|(refine hK _ ?_;clear hK K)|(refine wT ?_ ?_;assumption)|((fail_if_success refine Wz.h ?_);simp (disch:=omega) only [↓LD,LA,a0A,seval,rEv,pnB,pnD]))
   have hfp:f0A ([]:List Ev) at' v defs=(b0q ⟨(a0P s0 ([]:List Ev)).2,v,0,[]⟩ (c0V defs)).2:=by unfold f0A;rw [if_pos hz,hnw]
   rw [hfp] at hF hp'
   refine a0I (d0d defs) [] (by kernel_rfl) rfl rfl ?_
   rintro _ _ ⟨rfl,rfl⟩
   simp (disch:=omega) only [↓LD,LA,a0A,seval,ren,List.getElem?_nil]
   repeat' (with_reducible first|(refine hK _ ?_;clear hK K)|((fail_if_success refine Wz.h ?_);simp (disch:=omega) only [↓LD,LA,a0A,seval,rEv]))
   refine a0I (e0w ⟨(a0P s0 ([]:List Ev)).2,v,0,[]⟩ (c0V defs) hok (by simp) ((c0P defs).1.fit (c0P defs).2.2)) [1] (by kernel_rfl) rfl rfl ?_
   rintro _ _ ⟨rfl,rfl⟩
   generalize b0q ⟨(a0P s0 ([]:List Ev)).2,v,0,[]⟩ (c0V defs)=p at *
   obtain ⟨x,p'⟩:=p
   dsimp only at hp' hF ⊢
   clear hfp
   have hpl:=hp'.ok.len
   have hap:=hh.app hp'
   simp (disch:=omega) only [↓LD,LA,a0A,seval,ren,List.getElem?_nil,rEv,pnB,pnD]
   repeat' (with_reducible first|refine Wx.h ?_|refine Wb.h fun K hK=>?_|(refine hK _ ?_;clear hK K)|refine Wq.h ?_ ?_<;>intro h<;>try (exfalso;omega)|((fail_if_success refine Wz.h ?_);first|simp (disch:=omega) only [↓LD,LA,a0A,seval,rEv,LEv,a0L]|(refine And.intro ?_ ?_;omega)|fail))
   ·exact end1 rfl rfl (by kernel_rfl) (.sl (T:=73) (xs:=List.flatMap Ev.cs ([]:List Ev)) rfl (fun e=>by first|rfl|(rw [List.eq_nil_of_length_eq_zero e];rfl))) (hQ ([]:List Ev) (by rw [hF,if_pos (by omega)]))
   refine d0O [2] (args0:=[.f (fEv (([]:List Ev)++p'.out)),.f (fRw steps),.f (fR defs)]) (.cons ?_ (.cons .f (.cons .f .nil))) ?_
   ·exact b1U rfl (by rw [List.flatMap_append]) (by simp)
   refine a0I (c0s (([]:List Ev)++p'.out) hap steps defs) [] (by kernel_rfl) rfl rfl ?_
   rintro _ _ ⟨rfl,rfl⟩
   simp (disch:=omega) only [↓LD,LA,a0A,seval,ren,List.getElem?_nil]
   repeat' (with_reducible first|refine Wx.h ?_|(refine hK _ ?_;clear hK K)|((fail_if_success refine Wz.h ?_);simp (disch:=omega) only [↓LD,LA,a0A,seval]))
   exact end1 rfl rfl (by kernel_rfl) .f (hQ _ (by rw [hF,if_neg (by omega)];try rfl))
  ·have hfp:f0A ([]:List Ev) at' v defs=(a0v ⟨(a0P s0 ([]:List Ev)).2,v,0,[]⟩ (a0s v++a0s at') []).2:=by unfold f0A;rw [if_neg hz,hnw]
   rw [hfp] at hF hp'
   simp (disch:=omega) only [↓LD,LA,a0A,seval,ren,List.getElem?_nil,rEv,pnB,pnD]
   repeat' (with_reducible first|refine Wx.h ?_|refine Wb.h fun K hK=>?_|(refine hK _ ?_;clear hK K)|(refine wF ?_ ?_;assumption)|((fail_if_success refine Wz.h ?_);first|simp (disch:=omega) only [↓LD,LA,a0A,seval,rEv,pnB,pnD,z0R]|(refine And.intro ?_ ?_;omega)|fail))
   refine d0R (args0:=[.pt 1 0,.f (.v (.string (BB (a0s v++a0s at')))),.f (fY [])]) ?_ (.cons .refl (.cons .refl (.cons (.f .ns) .nil)))
   refine a0I (d0s ⟨(a0P s0 ([]:List Ev)).2,v,0,[]⟩ (a0s v++a0s at') [] hok (by simp) hname (by simp)) [1] (by kernel_rfl) rfl rfl ?_
   rintro _ _ ⟨rfl,rfl⟩
   generalize a0v ⟨(a0P s0 ([]:List Ev)).2,v,0,[]⟩ (a0s v++a0s at') []=p at *
   obtain ⟨x,p'⟩:=p
   dsimp only at hp' hF ⊢
   clear hfp
   have hpl:=hp'.ok.len
   have hap:=hh.app hp'
   simp (disch:=omega) only [↓LD,LA,a0A,seval,ren,List.getElem?_nil,rEv,pnB,pnD,duo]
   repeat' (with_reducible first|refine Wx.h ?_|refine Wb.h fun K hK=>?_|(refine hK _ ?_;clear hK K)|refine Wq.h ?_ ?_<;>intro h<;>try (exfalso;omega)|((fail_if_success refine Wz.h ?_);first|simp (disch:=omega) only [↓LD,LA,a0A,seval,rEv,LEv,a0L]|(refine And.intro ?_ ?_;omega)|fail))
   ·exact end1 rfl rfl (by kernel_rfl) (.sl (T:=73) (xs:=List.flatMap Ev.cs ([]:List Ev)) rfl (fun e=>by first|rfl|(rw [List.eq_nil_of_length_eq_zero e];rfl))) (hQ ([]:List Ev) (by rw [hF,if_pos (by omega)]))
   refine d0O [2] (args0:=[.f (fEv (([]:List Ev)++p'.out)),.f (fRw steps),.f (fR defs)]) (.cons ?_ (.cons .f (.cons .f .nil))) ?_
   ·exact b1U rfl (by rw [List.flatMap_append]) (by simp)
   refine a0I (c0s (([]:List Ev)++p'.out) hap steps defs) [] (by kernel_rfl) rfl rfl ?_
   rintro _ _ ⟨rfl,rfl⟩
   simp (disch:=omega) only [↓LD,LA,a0A,seval,ren,List.getElem?_nil]
   repeat' (with_reducible first|refine Wx.h ?_|(refine hK _ ?_;clear hK K)|((fail_if_success refine Wz.h ?_);simp (disch:=omega) only [↓LD,LA,a0A,seval]))
   exact end1 rfl rfl (by kernel_rfl) .f (hQ _ (by rw [hF,if_neg (by omega)];try rfl))
 ·(have htm:=htm (by omega))
  have hnw:hdT hd=(gt hd (hd.length-1)).time:=if_neg h
  unfold q0q at hF
  rw [hnw] at hF
  refine HS.view (View.sweep (keep:=[1,2,3,4,10,11]) (s':=⟨frm 77 [(1,D.int at'),(2,D.int v),(3,.f (fRw steps)),(4,.f (fR defs)),(10,jN),(11,.sl 0 0 (List.length hd))],[rEv hd],[]⟩) (by kernel_rfl)) ?_
  repeat' (with_reducible first|refine Wx.h ?_|refine Wb.h fun K hK=>?_|(refine hK _ ?_;clear hK K)|refine Wq.h ?_ ?_<;>intro h<;>try (exfalso;omega)|((fail_if_success refine Wz.h ?_);first|simp (disch:=omega) only [↓LD,LA,a0A,seval,rEv,i0d,e1,a0L,Ev.cs]|(refine And.intro ?_ ?_;omega)|fail))
  refine a0I (e0V hd v (gt hd (hd.length-1)).time (by omega) hh.fit) [0] (by kernel_rfl) rfl rfl ?_
  rintro _ _ ⟨hq1,hq2⟩
  by_cases hn:newE hd v (gt hd (hd.length-1)).time=0
  rotate_left
  ·obtain ⟨rfl,rfl⟩:=hq1 hn
   simp (disch:=omega) only [↓LD,LA,a0A,seval,ren,List.getElem?_nil,rEv]
   repeat' (with_reducible first|refine Wx.h ?_|refine Wb.h fun K hK=>?_|(refine hK _ ?_;clear hK K)|(refine wF ?_ ?_;assumption)|((fail_if_success refine Wz.h ?_);simp (disch:=omega) only [↓LD,LA,a0A,seval,rEv]))
   exact end1 rfl rfl (by kernel_rfl) (.sl (T:=73) (xs:=List.flatMap Ev.cs hd) rfl (fun e=>by first|rfl|(rw [List.eq_nil_of_length_eq_zero e];rfl))) (hQ hd (by rw [hF,if_neg hn]))
  obtain ⟨rfl,rfl⟩:=hq2 hn
  have hp':=n0x (at':=at') (v:=v) (defs:=defs) hh
  rw [if_pos hn] at hF
  have hok:=hh.ok
  by_cases hz:(a0P s0 hd).2.id=0
  ·simp (disch:=omega) only [↓LD,LA,a0A,seval,ren,List.getElem?_nil,rEv,pnB,pnD]
   repeat' (with_reducible first|refine Wx.h ?_|refine Wb.h fun K hK=>?_|(refine hK _ ?_;clear hK K)|(refine wT ?_ ?_;assumption)|((fail_if_success refine Wz.h ?_);simp (disch:=omega) only [↓LD,LA,a0A,seval,rEv,pnB,pnD]))
   have hfp:f0A hd at' v defs=(b0q ⟨(a0P s0 hd).2,v,(gt hd (hd.length-1)).time,[]⟩ (c0V defs)).2:=by unfold f0A;rw [if_pos hz,hnw]
   rw [hfp] at hF hp'
   refine a0I (d0d defs) [] (by kernel_rfl) rfl rfl ?_
   rintro _ _ ⟨rfl,rfl⟩
   simp (disch:=omega) only [↓LD,LA,a0A,seval,ren,List.getElem?_nil]
   repeat' (with_reducible first|(refine hK _ ?_;clear hK K)|((fail_if_success refine Wz.h ?_);simp (disch:=omega) only [↓LD,LA,a0A,seval,rEv]))
   refine a0I (e0w ⟨(a0P s0 hd).2,v,(gt hd (hd.length-1)).time,[]⟩ (c0V defs) hok (by simp) ((c0P defs).1.fit (c0P defs).2.2)) [1] (by kernel_rfl) rfl rfl ?_
   rintro _ _ ⟨rfl,rfl⟩
   generalize b0q ⟨(a0P s0 hd).2,v,(gt hd (hd.length-1)).time,[]⟩ (c0V defs)=p at *
   obtain ⟨x,p'⟩:=p
   dsimp only at hp' hF ⊢
   clear hfp
   have hpl:=hp'.ok.len
   have hap:=hh.app hp'
   simp (disch:=omega) only [↓LD,LA,a0A,seval,ren,List.getElem?_nil,rEv,pnB,pnD]
   repeat' (with_reducible first|refine Wx.h ?_|refine Wb.h fun K hK=>?_|(refine hK _ ?_;clear hK K)|refine Wq.h ?_ ?_<;>intro h<;>try (exfalso;omega)|((fail_if_success refine Wz.h ?_);first|simp (disch:=omega) only [↓LD,LA,a0A,seval,rEv,LEv,a0L]|(refine And.intro ?_ ?_;omega)|fail))
   ·exact end1 rfl rfl (by kernel_rfl) (.sl (T:=73) (xs:=List.flatMap Ev.cs hd) rfl (fun e=>by first|rfl|(rw [List.eq_nil_of_length_eq_zero e];rfl))) (hQ hd (by rw [hF,if_pos (by omega)]))
   refine d0O [2] (args0:=[.f (fEv (hd++p'.out)),.f (fRw steps),.f (fR defs)]) (.cons ?_ (.cons .f (.cons .f .nil))) ?_
   ·exact b1U rfl (by rw [List.flatMap_append]) (by simp)
   refine a0I (c0s (hd++p'.out) hap steps defs) [] (by kernel_rfl) rfl rfl ?_
   rintro _ _ ⟨rfl,rfl⟩
   simp (disch:=omega) only [↓LD,LA,a0A,seval,ren,List.getElem?_nil]
   repeat' (with_reducible first|refine Wx.h ?_|(refine hK _ ?_;clear hK K)|((fail_if_success refine Wz.h ?_);simp (disch:=omega) only [↓LD,LA,a0A,seval]))
   exact end1 rfl rfl (by kernel_rfl) .f (hQ _ (by rw [hF,if_neg (by omega)];try rfl))
  ·have hfp:f0A hd at' v defs=(a0v ⟨(a0P s0 hd).2,v,(gt hd (hd.length-1)).time,[]⟩ (a0s v++a0s at') []).2:=by unfold f0A;rw [if_neg hz,hnw]
   rw [hfp] at hF hp'
   simp (disch:=omega) only [↓LD,LA,a0A,seval,ren,List.getElem?_nil,rEv,pnB,pnD]
   repeat' (with_reducible first|refine Wx.h ?_|refine Wb.h fun K hK=>?_|(refine hK _ ?_;clear hK K)|(refine wF ?_ ?_;assumption)|((fail_if_success refine Wz.h ?_);first|simp (disch:=omega) only [↓LD,LA,a0A,seval,rEv,pnB,pnD,z0R]|(refine And.intro ?_ ?_;omega)|fail))
   refine d0R (args0:=[.pt 1 0,.f (.v (.string (BB (a0s v++a0s at')))),.f (fY [])]) ?_ (.cons .refl (.cons .refl (.cons (.f .ns) .nil)))
   refine a0I (d0s ⟨(a0P s0 hd).2,v,(gt hd (hd.length-1)).time,[]⟩ (a0s v++a0s at') [] hok (by simp) hname (by simp)) [1] (by kernel_rfl) rfl rfl ?_
   rintro _ _ ⟨rfl,rfl⟩
   generalize a0v ⟨(a0P s0 hd).2,v,(gt hd (hd.length-1)).time,[]⟩ (a0s v++a0s at') []=p at *
   obtain ⟨x,p'⟩:=p
   dsimp only at hp' hF ⊢
   clear hfp
   have hpl:=hp'.ok.len
   have hap:=hh.app hp'
   simp (disch:=omega) only [↓LD,LA,a0A,seval,ren,List.getElem?_nil,rEv,pnB,pnD,duo]
   repeat' (with_reducible first|refine Wx.h ?_|refine Wb.h fun K hK=>?_|(refine hK _ ?_;clear hK K)|refine Wq.h ?_ ?_<;>intro h<;>try (exfalso;omega)|((fail_if_success refine Wz.h ?_);first|simp (disch:=omega) only [↓LD,LA,a0A,seval,rEv,LEv,a0L]|(refine And.intro ?_ ?_;omega)|fail))
   ·exact end1 rfl rfl (by kernel_rfl) (.sl (T:=73) (xs:=List.flatMap Ev.cs hd) rfl (fun e=>by first|rfl|(rw [List.eq_nil_of_length_eq_zero e];rfl))) (hQ hd (by rw [hF,if_pos (by omega)]))
   refine d0O [2] (args0:=[.f (fEv (hd++p'.out)),.f (fRw steps),.f (fR defs)]) (.cons ?_ (.cons .f (.cons .f .nil))) ?_
   ·exact b1U rfl (by rw [List.flatMap_append]) (by simp)
   refine a0I (c0s (hd++p'.out) hap steps defs) [] (by kernel_rfl) rfl rfl ?_
   rintro _ _ ⟨rfl,rfl⟩
   simp (disch:=omega) only [↓LD,LA,a0A,seval,ren,List.getElem?_nil]
   repeat' (with_reducible first|refine Wx.h ?_|(refine hK _ ?_;clear hK K)|((fail_if_success refine Wz.h ?_);simp (disch:=omega) only [↓LD,LA,a0A,seval]))
   exact end1 rfl rfl (by kernel_rfl) .f (hQ _ (by rw [hF,if_neg (by omega)];try rfl))
instance {steps:List Rw}{defs:List Rd}{H:List Row}{K:Bool→D→List Row→Prop}:Wa (a0j Tryz.prog (.fn 9 []) [.f (fRw steps),.f (fR defs)] H K) (K true (.f (fEv (e0E [] steps defs))) H):=⟨fun h=>a0N (k0m steps defs) rfl rfl rfl h⟩
instance {l:List Ev}{at' v:Int}{steps:List Rw}{defs:List Rd}{H:List Row}{K:Bool→D→List Row→Prop}[hl:Kn (BrOk l)]:Wa (a0j Tryz.prog (.fn 57 []) [.f (fEv l),.f (.v (.int .i64 at')),.f (.v (.int .i64 v)),.f (fRw steps),.f (fR defs)] H K) (K true (.f (fEv (p0O l at' v steps defs))) H):=⟨fun h=>a0N (n0a l hl.h at' v steps defs) rfl rfl rfl h⟩
def fSs (s:List (List Rw)):F:=.s (s.map fRw) s.length
theorem u0A {g:List (List Rw)}:slcS (.f (fSs g))=some g.length:=id rfl
theorem u0V {g:List (List Rw)}{sz:Nat}{k:IntKind}{i:Int}{K:D→Prop}:idxS sz (.f (fSs g)) (.f (.v (.int k i))) K=((0≤i∧i<g.length)∧K (.rf ((g.map fRw).drop (i.toNat*sz)))):=id rfl
theorem LSs:type_of% @u0A∧type_of% @u0V:=⟨@u0A,@u0V⟩
def lnD (s:List (List Rw))(a:List Int)(d:List Rd):D:=.ag [.f (fSs s),.f (fI a),.f (fR d)]
def brI (s:List (List Rw))(a:List Int)(d:List Rd)(i:Nat)(out:Br)(v:Int):List Ev :=
 if i=0 then e0E [] (gt s 0) d else p0O (gt out (pick (IntKind.i64.wrap (i*7+a.length)) out.length).toNat) (if i<a.length then gt a i else 0) (verL v (IntKind.i64.wrap (1+(i:Int).tmod 2))) (gt s i) d
def brV (v:Int)(b:List Ev):Int:=if 0<b.length then max v (gt b (b.length-1)).ver else v
def brA (s:List (List Rw))(a:List Int)(d:List Rd):Nat→Nat→Br→Int→Br
 | 0,_,out,_=>out
 | f+1,i,out,v=>if i<s.length then brA s a d f (i+1) (out++[brI s a d i out v]) (brV v (brI s a d i out v)) else out
def b0c (s:List (List Rw))(a:List Int)(d:List Rd):Br:=brA s a d 5 0 [] 0
theorem g1I {s:List (List Rw)}{a:List Int}{d:List Rd}{f i:Nat}{out:Br}{v:Int}(h:f=0∨¬ i<s.length):brA s a d f i out v=out:=by
 cases f with
 | zero=>rfl
 | succ f=>rw [brA,if_neg (by omega)]
theorem y0v {s:List (List Rw)}{a:List Int}{d:List Rd}{i:Nat}{out:Br}{v:Int}(ho:out.length=i)(hb:∀ b∈out,BrOk b):BrOk (brI s a d i out v):=by
 unfold brI
 split
 ·exact u0L BrOk.nil
 ·have pk:=b0M (x:=IntKind.i64.wrap (i*7+a.length)) (n:=out.length) (by omega)
  exact c1a (hb _ (a0K (by omega)))
theorem e1N {s:List (List Rw)}{a:List Int}{d:List Rd}:∀ {f i:Nat} {out:Br} {v:Int},out.length=i→(∀ b∈out,BrOk b)→(∀ b∈brA s a d f i out v,BrOk b)∧(brA s a d f i out v).length≤i+f
 | 0,i,out,v,ho,hb=>⟨hb,by rw [brA];omega⟩
 | f+1,i,out,v,ho,hb=>by
  rw [brA]
  split
  ·have:=e1N (s:=s) (a:=a) (d:=d) (f:=f) (i:=i+1) (out:=out++[brI s a d i out v]) (v:=brV v (brI s a d i out v)) (by simp [ho]) (fun b h=>by
    rcases List.mem_append.1 h with h|h
    ·exact hb b h
    ·rw [List.mem_singleton.1 h];exact y0v ho hb)
   exact ⟨this.1,by omega⟩
  ·exact ⟨hb,by omega⟩
theorem p0v (s:List (List Rw))(a:List Int)(d:List Rd):(∀ b∈b0c s a d,BrOk b)∧(b0c s a d).length≤5:=by
 have:=e1N (s:=s) (a:=a) (d:=d) (f:=5) (i:=0) (out:=[]) (v:=0) rfl (fun b h=>by simp at h)
 exact ⟨this.1,by have:=this.2;unfold b0c;omega⟩
theorem c1T {H:List Row}{r n:Nat}{xs:List F}{t:Br}(hr:H[r]?=some (.data 25 xs))(hx:xs=t.map fEv)(hn:n=t.length):Vw H (.sl r 0 n) (.f (fBr t)):=by
 subst hx;subst hn
 exact .sl hr (fun e=>by rw [List.eq_nil_of_length_eq_zero e];rfl)
set_option maxRecDepth 100000 in
theorem i0G (s:List (List Rw))(a:List Int)(d:List Rd):Con Tryz.prog 23 [lnD s a d] [] fun r H'=>r = .f (fBr (b0c s a d))∧H'=[]:=by
 suffices hh:∀ Q:D→List Row→Prop,(∀ o,b0c s a d=o→Q (.f (fBr o)) [])→Con Tryz.prog 23 [lnD s a d] [] Q from hh _ fun o h=>⟨by rw [h],rfl⟩
 intro Q hQ
 refine Con.walk good h0k (by simp) ?_
 unfold d0x
 simp only [a0J,lnD]
 refine HS.seq ?_
 repeat' (with_reducible first|refine Wa.h ?_|refine Wb.h fun K hK=>?_|(refine hK _ ?_;clear hK K)|((fail_if_success refine Wz.h ?_);simp (disch:=omega) only [↓LD,LA,a0A,seval]))
 refine HS.seq ?_
 repeat' (with_reducible first|refine Wa.h ?_|refine Wb.h fun K hK=>?_|(refine hK _ ?_;clear hK K)|((fail_if_success refine Wz.h ?_);simp (disch:=omega) only [↓LD,LA,a0A,seval]))
 refine HS.view (View.void 25) ?_
 refine HS.view (View.slot 3 (.sl 1 0 0) (.no (Nat.lt_succ_self 1))) ?_
 repeat' (with_reducible first|refine Wx.h ?_|refine Wb.h fun K hK=>?_|(refine hK _ ?_;clear hK K)|((fail_if_success refine Wz.h ?_);simp (disch:=omega) only [↓LD,LA,a0A,seval]))
 refine HS.loopG [1,3,4,5] (fun x:Nat × Br × Int=>⟨frm 91 [(1,.pt 0 0),(3,.sl 1 0 x.2.1.length),(4,D.int x.2.2),(5,D.int x.1)],[.box 48 [.f (fSs s),.f (fI a),.f (fR d)],.data 25 (x.2.1.map fEv)],[]⟩) (fun x=>x.1≤5∧x.2.1.length=x.1∧(∀ b∈x.2.1,BrOk b)∧(0≤x.2.2∧x.2.2≤1099511627776)∧b0c s a d=brA s a d (5-x.1) x.1 x.2.1 x.2.2) (fun x=>5-x.1) (0,[],0) (by kernel_rfl) ⟨Nat.zero_le _,rfl,fun b h=>by simp at h,⟨by decide,by decide⟩,rfl⟩ ?_
 rintro ⟨i,out,v⟩ ⟨hi,ho,hb,hv,hE⟩
 dsimp only at hi ho hb hv hE
 by_cases hil:i<s.length∧i<5
 rotate_left
 ·have hx:b0c s a d=out:=by rw [hE,g1I (by omega)]
  by_cases hil2:i<s.length
  ·have h5:i=5:=by omega
   subst h5
   repeat' (with_reducible first|refine Wx.h ?_|refine Wb.h fun K hK=>?_|(refine hK _ ?_;clear hK K)|refine Wq.h ?_ ?_<;>intro h<;>try (exfalso;omega)|((fail_if_success refine Wz.h ?_);simp (disch:=omega) only [↓LD,LA,a0A,seval,LSs,LBr]))
   exact end1 rfl rfl (by kernel_rfl) (c1T rfl rfl rfl) (hQ out hx)
  ·repeat' (with_reducible first|refine Wx.h ?_|refine Wb.h fun K hK=>?_|(refine hK _ ?_;clear hK K)|refine Wq.h ?_ ?_<;>intro h<;>try (exfalso;omega)|((fail_if_success refine Wz.h ?_);simp (disch:=omega) only [↓LD,LA,a0A,seval,LSs,LBr]))
   exact end1 rfl rfl (by kernel_rfl) (c1T rfl rfl rfl) (hQ out hx)
 obtain ⟨hil,hi5⟩:=hil
 have hbk:BrOk (brI s a d i out v):=y0v ho hb
 rw [show 5-i=(5-(i+1))+1 by omega,brA,if_pos hil] at hE
 have hbr:brI s a d i out v=brI s a d i out v:=rfl
 conv at hbr=>rhs;unfold brI
 have e2:(((out.length+1:Nat):Int)-1).toNat=out.length:=by omega
 generalize hbe:brI s a d i out v=b at *
 clear hbe
 have e3:(out.map fEv++[fEv b])[out.length]?=some (fEv b):=by rw [List.getElem?_append_right (by simp)];simp
 have e4:=u0F (l:=out) (x:=b)
 have hbl:=hbk.len
 have e1:((b.length:Int)-1).toNat=b.length-1:=by omega
 have hba:∀ x∈out++[b],BrOk x:=fun x h=>by
  rcases List.mem_append.1 h with h|h
  ·exact hb x h
  ·rw [List.mem_singleton.1 h];exact hbk
 have hvb:0<b.length→1≤(gt b (b.length-1)).ver∧(gt b (b.length-1)).ver≤1099511627776:=fun hk=>e0p (rightE_iff.1 (hbk.right (a0K (l:=b) (k:=b.length-1) (by omega)))).2.2.1
 have c1:=fun hk=>f0I (g:=b) (k:=b.length-1) hk
 unfold brV at hE
 by_cases hz:i=0
 ·rw [if_pos hz] at hbr
  subst hz
  repeat' (with_reducible first|refine Wx.h ?_|refine We.h fun K hK=>?_|(refine hK _ _ _ _ ?_;clear hK K;try clear hM M)|refine Wb.h fun K hK=>?_|(refine hK _ ?_;clear hK K)|(refine Wy.h ?_ ?_;kernel_rfl)|refine Wq.h ?_ ?_<;>intro h<;>try (exfalso;omega)|((fail_if_success refine Wz.h ?_);first|simp (disch:=omega) only [↓LD,LA,a0A,seval,LSs,LBr,←hbr,LEv,a0L,Ev.cs,List.length_map,e1,e2,e3,c1]|(refine And.intro ?_ ?_;omega)|fail))
  ·rw [if_pos (by omega)] at hE
   have:=hvb (by omega)
   rw [e4,show out.length+1=(out++[b]).length by simp]
   exact Next.mk (0+1,out++[b],max v (gt b (b.length-1)).ver) (by kernel_rfl) ⟨by dsimp only;omega,by simp [ho],hba,⟨by dsimp only;omega,by dsimp only;omega⟩,hE⟩ (by dsimp only;omega)
  ·rw [if_neg (by omega)] at hE
   rw [e4,show out.length+1=(out++[b]).length by simp]
   exact Next.mk (0+1,out++[b],v) (by kernel_rfl) ⟨by dsimp only;omega,by simp [ho],hba,hv,hE⟩ (by dsimp only;omega)
 rw [if_neg hz] at hbr
 have pk:=b0M (x:=IntKind.i64.wrap (i*7+a.length)) (n:=out.length) (by omega)
 haveI:Kn (BrOk (gt out (pick (IntKind.i64.wrap (i*7+a.length)) out.length).toNat)):=⟨hb _ (a0K (by omega))⟩
 by_cases hia:i<a.length
 ·rw [if_pos hia] at hbr
  repeat' (with_reducible first|refine Wx.h ?_|refine We.h fun K hK=>?_|(refine hK _ _ _ _ ?_;clear hK K;try clear hM M)|refine Wb.h fun K hK=>?_|(refine hK _ ?_;clear hK K)|(refine Wy.h ?_ ?_;kernel_rfl)|refine Wq.h ?_ ?_<;>intro h<;>try (exfalso;omega)|((fail_if_success refine Wz.h ?_);first|simp (disch:=omega) only [↓LD,LA,a0A,seval,LSs,LBr,←hbr,LEv,a0L,Ev.cs,List.length_map,e1,e2,e3,c1]|(refine And.intro ?_ ?_;omega)|fail))
  ·rw [if_pos (by omega)] at hE
   have:=hvb (by omega)
   rw [e4,show out.length+1=(out++[b]).length by simp]
   exact Next.mk (i+1,out++[b],max v (gt b (b.length-1)).ver) (by kernel_rfl) ⟨by dsimp only;omega,by simp [ho],hba,⟨by dsimp only;omega,by dsimp only;omega⟩,hE⟩ (by dsimp only;omega)
  ·rw [if_neg (by omega)] at hE
   rw [e4,show out.length+1=(out++[b]).length by simp]
   exact Next.mk (i+1,out++[b],v) (by kernel_rfl) ⟨by dsimp only;omega,by simp [ho],hba,hv,hE⟩ (by dsimp only;omega)
 have hw:IntKind.i64.wrap ((i:Int)*7+a.length)=(i:Int)*7+a.length:=t0G (by omega) (by omega)
 rw [if_neg hia,hw] at hbr
 rw [hw] at pk
 rw [hw] at this
 repeat' (with_reducible first|refine Wx.h ?_|refine We.h fun K hK=>?_|(refine hK _ _ _ _ ?_;clear hK K;try clear hM M)|refine Wb.h fun K hK=>?_|(refine hK _ ?_;clear hK K)|(refine Wy.h ?_ ?_;kernel_rfl)|refine Wq.h ?_ ?_<;>intro h<;>try (exfalso;omega)|((fail_if_success refine Wz.h ?_);first|simp (disch:=omega) only [↓LD,LA,a0A,seval,LSs,LBr,←hbr,LEv,a0L,Ev.cs,List.length_map,e1,e2,e3,c1]|(refine And.intro ?_ ?_;omega)|fail))
 ·rw [if_pos (by omega)] at hE
  have:=hvb (by omega)
  rw [e4,show out.length+1=(out++[b]).length by simp]
  exact Next.mk (i+1,out++[b],max v (gt b (b.length-1)).ver) (by kernel_rfl) ⟨by dsimp only;omega,by simp [ho],hba,⟨by dsimp only;omega,by dsimp only;omega⟩,hE⟩ (by dsimp only;omega)
 ·rw [if_neg (by omega)] at hE
  rw [e4,show out.length+1=(out++[b]).length by simp]
  exact Next.mk (i+1,out++[b],v) (by kernel_rfl) ⟨by dsimp only;omega,by simp [ho],hba,hv,hE⟩ (by dsimp only;omega)
end Go.Proofs.YthjgmldnegaaiaaGreatDoor.Mir
namespace Go.Proofs.YthjgmldnegaaiaaGreatDoor
open Go Go.RowKit
abbrev x0b:=Option Addr × Nat × List RwIn
def rwsV (x:x0b):List Value:=[.slice x.1 x.2.2.length x.2.1]
def f1D (W:World)(x:x0b):Prop:=InS rwV (rwOk W) 64 W x.1 x.2.1 x.2.2
theorem x0x (W:World):Reader Tryz.prog W 22 rwsV (f1D W) :=
 b0S (n:=6) (B:=64) Tryz.underlying22 (by kernel_rfl) (by kernel_rfl) (fun _=>rfl) (z0M W)
abbrev LnIn:=(Option Addr × Nat × List x0b) × (Option Addr × Nat × List Int) × (Option Addr × Nat × List z0X)
def lnV (x:LnIn):List Value:=[.slice x.1.1 x.1.2.2.length x.1.2.1,.slice x.2.1.1 x.2.1.2.2.length x.2.1.2.1,.slice x.2.2.1 x.2.2.2.2.length x.2.2.2.1]
def lnOk (W:World)(x:LnIn):Prop:=InS rwsV (f1D W) 24 W x.1.1 x.1.2.1 x.1.2.2∧InS (fun n:Int=>[Value.int .i64 n]) (fun n=>(Lit.int .i64 n).wf=true) 8 W x.2.1.1 x.2.1.2.1 x.2.1.2.2∧InS rawV (f1V W) 40 W x.2.2.1 x.2.2.2.1 x.2.2.2.2
theorem y0Y (W:World):Reader Tryz.prog W 48 lnV (lnOk W) :=
 Reader.map (d0k Tryz.underlying48 (by kernel_rfl) (a0h (m:=1) rfl (by kernel_rfl) (b0S (n:=1) (B:=24) Tryz.underlying46 (by kernel_rfl) (by kernel_rfl) (fun _=>rfl) (x0x W))
  (a0h (m:=1) rfl (by kernel_rfl) (b0S (n:=1) (B:=8) Tryz.underlying24 (by kernel_rfl) (by kernel_rfl) (fun _=>rfl) (b0F Tryz.underlying3))
  (a0h (m:=1) rfl (by kernel_rfl) (b0S (n:=3) (B:=40) Tryz.underlying23 (by kernel_rfl) (by kernel_rfl) (fun _=>rfl) (y0C W)) (e0s _)))))
  (fun x=>(x.1,x.2.1,x.2.2.1)) (fun _ _=>rfl) (fun _ h=>⟨h.1,h.2.1,h.2.2.1⟩)
set_option maxRecDepth 100000 in
theorem open_S_lines {H:Type}{enc:TypeId × Value→H}{W:World}{ts:List TypeId}{ds:List (DataW H)}(hsz:(DataW.weightsEach Tryz.prog ts ds).all (· ≤ reachBytes)=true){d:DataW H}{ps:List MemPlace}(j:Nat)(htj:ts[j]?=some 48)(hdj:ds[j]?=some d)
  {base:Nat} {v:Value} (hv:Value.okWide Tryz.prog W .any base 48 v) (h:DataW.Trod enc Tryz.prog W 0 (fun _=>true) true 48 v d ps):∃ x:LnIn,v = .agg (lnV x).toArray∧lnOk W x :=
 k0D hsz j htj hdj Tryz.underlying48 (y0Y W) hv h
def lnS (x:LnIn):List (List Mir.Rw):=x.1.2.2.map fun y=>y.2.2.map rwDD
def lnA (x:LnIn):List Int:=x.2.1.2.2
def lnR (x:LnIn):List Mir.Rd:=x.2.2.2.2.map rawD
theorem h1R {W:World}{A:Nat→Prop}(hA:∀ b,¬ A b){a:Option Addr}{c:Nat}{xs:List x0b}(h:InS rwsV (f1D W) 24 W a c xs):Mir.RF W A (Mir.fSs (xs.map fun y=>y.2.2.map rwDD)) (.slice a xs.length c):=by
 have h1:=Mir.rf_in (A:=A) (g:=fun x:x0b=>[Mir.fRw (x.2.2.map rwDD)]) h hA fun x hx=>.cons (g1k hA hx) .nil
 have e:∀ l:List x0b,(l.flatMap fun x=>[Mir.fRw (x.2.2.map rwDD)])=(l.map fun y=>y.2.2.map rwDD).map Mir.fRw:=fun l=>by
  induction l with
  | nil=>rfl
  | cons x l ih=>rw [List.flatMap_cons,ih];rfl
 rw [e] at h1
 rw [Mir.fSs,List.length_map];exact h1
theorem r_ln {W:World}{φ:Nat→Nat × Nat}{A:Nat→Prop}{N:Nat}(hA:∀ b,¬ A b){x:LnIn}(h:lnOk W x):Mir.R Tryz.prog W φ A N (Mir.lnD (lnS x) (lnA x) (lnR x)) (.agg (lnV x).toArray) :=
 Mir.r_ag (xs:=[Mir.fSs (lnS x),Mir.fI (lnA x),Mir.fR (lnR x)]) (.cons (h1R hA h.1) (.cons (Mir.rf_ints h.2.1 hA) (.cons (f1R hA h.2.2) .nil))) (by intro u hu;simp [lnV] at hu;rcases hu with rfl|rfl|rfl<;>rfl)
def isOk (W:World)(a:Option Addr)(c:Nat)(xs:List Int):Prop:=InS (fun n:Int=>[Value.int .i64 n]) (fun n=>(Lit.int .i64 n).wf=true) 8 W a c xs
theorem open_is {H:Type}{enc:TypeId × Value→H}{W:World}{ts:List TypeId}{ds:List (DataW H)}(hsz:(DataW.weightsEach Tryz.prog ts ds).all (· ≤ reachBytes)=true){d:DataW H}{ps:List MemPlace}(j:Nat)(htj:ts[j]?=some 24)(hdj:ds[j]?=some d)
  {a:Option Addr} {len cap:Nat} (h:DataW.Trod enc Tryz.prog W 0 (fun _=>true) true 24 (.slice a len cap) d ps):∃ xs:List Int,xs.length=len∧isOk W a cap xs :=
 k0g (n:=1) (B:=8) hsz j htj hdj Tryz.underlying24 (by kernel_rfl) (by kernel_rfl) (fun _=>rfl) (b0F Tryz.underlying3) h
theorem o0D {H:Type}{enc:TypeId × Value→H}{P:Program}{w:World}{base:Nat}{sp:Nat→Bool}{held:Bool}{fuel:Nat}{t e:TypeId}{n:Nat}{cs:List Value}{ss:List (List UInt8)}{p:List MemPlace}
  (ht:P.underlying t=some (.array n e)) (he:P.underlying e=some .string) (hce:P.cellsOf e=1) (hct:P.cellsOf t=n)
  (h:DataW.trod enc P w base sp held fuel t cs=some (.agg (ss.map fun s=>.lit (.string s)),p)):cs=ss.map fun s=>Value.string ⟨s.toArray⟩:=by
 cases fuel with
 | zero=>simp [DataW.trod] at h
 | succ fuel =>
  simp only [DataW.trod,ht,hce,hct,Nat.mul_one] at h
  split at h
  ·rename_i hl
   obtain ⟨xs,hm,hx⟩:=Option.map_eq_some_iff.1 h
   have hxs:xs.map (·.1)=ss.map fun s=>(DataW.lit (.string s):DataW H):=by
    have:=congrArg Prod.fst hx
    simpa using this
   have hxl:xs.length=n:=by simpa using Lib.mapM_length hm
   have hzl:ss.length=n:=by
    have:=congrArg List.length hxs
    simp at this
    omega
   apply List.ext_getElem?
   intro i
   by_cases hi:i<n
   ·obtain ⟨b,hb,hf⟩:=Lib.mapM_at hm i i (by simp [hi])
    obtain ⟨z,hc,rfl,_⟩:=DataW.trod_string he hf
    have h1:cs[i]?=some (.string z):=by
     have:=congrArg (·[0]?) hc
     simpa [List.getElem?_take,List.getElem?_drop] using this
    have h2:(xs.map (·.1))[i]?=some (DataW.lit (.string z.data.toList):DataW H):=by simp [hb]
    rw [hxs] at h2
    simp only [List.getElem?_map,Option.map_eq_some_iff,DataW.lit.injEq,Lit.string.injEq] at h2
    obtain ⟨z',hz',e1⟩:=h2
    rw [h1,List.getElem?_map,hz',Option.map_some,e1]
   ·rw [List.getElem?_eq_none (by omega),List.getElem?_eq_none (by simp;omega)]
  ·cases h
def nameTab:List (List UInt8):=[[97],[98],[106,111,98,45,49],[122,57],[109],[120,45]]
theorem gNames : Tryz.prog.globalNamed "cutover/cutoverhand.names" = some 0 := by kernel_rfl
theorem gNamesType:(Tryz.prog.globals[0]?).map (·.type)=some 173:=by kernel_rfl
theorem names_gl {W : World} (h : laidMetH Tryz.prog [("cutover/cutoverhand.names", Rows.laid_cutover_cutoverhand_names)] W) : ∀ p ∈ Mir.glTab, Mir.RF W (fun _ => False) p.1 p.2 := by
 rw [MakeChecks.laidMetH_plain _ _ _ (by kernel_rfl)] at h
 obtain ⟨ps,⟨g',t',cs,fuel,p,q,hg',ht',hvar,hd,_,_⟩,_⟩:=h
 obtain rfl:=Option.some.inj (gNames.symm.trans hg')
 obtain rfl:=Option.some.inj (gNamesType.symm.trans ht')
 have hcs:=o0D (ss:=nameTab) Tryz.underlying173 Tryz.underlying9 (by kernel_rfl) (by kernel_rfl) hd
 intro x hx
 obtain rfl:=List.mem_singleton.1 hx
 refine .s (nameTab.map fun s=>Value.string ⟨s.toArray⟩) (Nat.le_refl _) rfl ?_ ?_
 ·intro i u hu
  refine ⟨?_,fun hf=>hf⟩
  have h1:=World.var?_cell gNames hvar i
  rw [←hu,←hcs]
  rw [show (Addr.add { block:=0,off:=0 } i:Addr)=⟨0,i,none⟩ by simp [Addr.add];intro h;omega]
  rw [h1,Array.getElem?_toList]
 ·intro i y u hy hu
  rcases i with _|_|_|_|_|_|i
  all_goals (simp [nameTab] at hy hu;try (subst hy;subst hu;exact .v rfl))
end Go.Proofs.YthjgmldnegaaiaaGreatDoor
namespace Go.Proofs.YthjgmldnegaaiaaGreatDoor.Mir
open Go Go.RowKit
set_option maxHeartbeats 4000000
theorem begB_iff {a b:List Ev}:begB a b=true↔a <+: b:=by
 unfold begB
 rw [Bool.and_eq_true,decide_eq_true_eq,List.prefix_iff_eq_take]
 constructor
 ·rintro ⟨_,h⟩;exact v0s h
 ·intro h;exact ⟨by rw [h,List.length_take];omega,d0q h⟩
theorem begB_f {a b:List Ev}:begB a b=false↔¬ a <+: b:=by rw [←begB_iff,Bool.not_eq_true]
theorem g0b {α:Type}{l:List α}{n:Nat}(h0:0<n)(hn:n≤l.length):l.take n≠[]:=fun e=>by
 have:=congrArg List.length e
 rw [List.length_take,List.length_nil] at this;omega
theorem d0T {b:List Ev}{n:Nat}(h0:0<n)(hn:n≤b.length):a0U (b.take n)=(gt b (n-1)).ver:=by
 unfold a0U
 rw [List.length_take,Nat.min_eq_left hn,a0q (by rw [List.length_take];omega),a0q (by omega),List.getElem_take]
structure Uni (U:List Ev→Prop):Prop where
 ok:∀ {p},U p→BrOk p∧p≠[]
 down:∀ {p q},U p→q <+: p→q≠[]→U q
 comp:∀ {p q},U p→U q→a0U p=a0U q→p <+: q∨q <+: p
theorem g0c {l:List Im}{id v:Int}:a0Y (b0d l id v)=⟨id,v⟩:=by
 unfold b0d
 split
 ·rename_i h
  unfold a0Y
  rw [List.length_set,if_neg (by omega),a0q (by rw [List.length_set];omega),List.getElem_set_self]
 ·unfold a0Y
  rw [if_neg (by simp),a0q (by simp)]
  simp
theorem v0I {first:Int}:∀ {vs:List Int} {i:Nat} {acc:List Im},vs≠[]→a0Y (ofA first i vs acc)=⟨first+i+vs.length-1,gt vs (vs.length-1)⟩
 | [],i,acc,h=>absurd rfl h
 | [v],i,acc,_=>by
  rw [ofA,ofA,g0c]
  simp [gt]
 | v :: w :: vs,i,acc,_=>by
  rw [ofA,v0I (vs:=w :: vs) (by simp)]
  have e:gt (v :: w :: vs) ((v :: w :: vs).length-1)=gt (w :: vs) ((w :: vs).length-1):=by simp [gt]
  rw [e]
  congr 1
  simp only [List.length_cons];omega
theorem b0u {b:List Ev}(h:b≠[]):a0Y (ofL b)=⟨(gt b 0).id+b.length-1,a0U b⟩:=by
 have hp:0<b.length:=List.length_pos_iff.2 h
 unfold ofL g0o
 rw [if_neg h,v0I (by simpa using h),List.length_map,Int.natCast_zero,Int.add_zero]
 congr 1
 unfold a0U
 rw [a0q (by rw [List.length_map];omega),a0q (by omega),List.getElem_map]
theorem e0c {a b:List Ev}(ha:a≠[])(hb:b≠[])(hn:a0U a≠a0U b):0<cmpI (ofL a) (ofL b)↔a0U b<a0U a:=by
 unfold cmpI
 rw [b0u ha,b0u hb]
 dsimp only
 (repeat' split)<;>omega
theorem q0r {x:List Ev}(hx:x≠[]):∀ {o:Br},(∀ b∈o,b≠[]∧a0U b≠a0U x)→o.Pairwise (fun a b=>a0U b<a0U a)→(∀ b∈o.take (posK x o),a0U x<a0U b)∧(∀ b∈o.drop (posK x o),a0U b<a0U x)
 | [],_,_=>⟨fun b h=>by simp at h,fun b h=>by simp at h⟩
 | c :: o,hm,hp=>by
  obtain ⟨hc,hcv⟩:=hm c (by simp)
  obtain ⟨h1,h2⟩:=List.pairwise_cons.1 hp
  have ih:=q0r hx (o:=o) (fun b hb=>hm b (by simp [hb])) h2
  rw [posK]
  by_cases h:0<cmpI (ofL c) (ofL x)
  ·rw [if_pos h,List.take_succ_cons,List.drop_succ_cons]
   have hv:=(e0c hc hx hcv).1 h
   refine ⟨fun b hb=>?_,ih.2⟩
   rcases List.mem_cons.1 hb with rfl|hb
   ·exact hv
   ·exact ih.1 b hb
  ·rw [if_neg h,List.take_zero,List.drop_zero]
   have hv:a0U c<a0U x:=by have:=mt (e0c hc hx hcv).2 h;omega
   refine ⟨fun b hb=>by simp at hb,fun b hb=>?_⟩
   rcases List.mem_cons.1 hb with rfl|hb
   ·exact hv
   ·have:=h1 b hb;omega
noncomputable def insU (x:List Ev)(o:Br):Br:=o.take (posK x o)++x :: o.drop (posK x o)
theorem insU_mem {x b:List Ev}{o:Br}:b∈insU x o↔b=x∨b∈o:=by
 unfold insU
 rw [List.mem_append,List.mem_cons]
 conv=>rhs;rw [←List.take_append_drop (posK x o) o,List.mem_append]
 constructor
 ·rintro (h|h|h)
  ·exact .inr (.inl h)
  ·exact .inl h
  ·exact .inr (.inr h)
 ·rintro (h|h|h)
  ·exact .inr (.inl h)
  ·exact .inl h
  ·exact .inr (.inr h)
theorem e1x {x:List Ev}{o:Br}(hx:x≠[])(hm:∀ b∈o,b≠[]∧a0U b≠a0U x)(hp:o.Pairwise fun a b=>a0U b<a0U a):(insU x o).Pairwise fun a b=>a0U b<a0U a:=by
 obtain ⟨h1,h2⟩:=q0r hx hm hp
 unfold insU
 generalize posK x o=k at *
 rw [List.pairwise_append,List.pairwise_cons]
 have hp':=hp
 rw [←List.take_append_drop k o,List.pairwise_append] at hp'
 refine ⟨hp'.1,⟨h2,hp'.2.1⟩,fun a ha b hb=>?_⟩
 rcases List.mem_cons.1 hb with rfl|hb
 ·exact h1 a ha
 ·exact hp'.2.2 a ha b hb
noncomputable def addU (t:Br)(x:List Ev):Br:=if t.any (begB x)=true then t else insU x (t.filter fun b=>!begB b x)
structure TrU (U:List Ev→Prop)(t:Br):Prop where
 mem:∀ b∈t,U b
 lt:t.Pairwise fun a b=>a0U b<a0U a
 anti:∀ a∈t,∀ b∈t,a <+: b→a=b
theorem TrU.nil {U:List Ev→Prop}:TrU U []:=⟨fun b h=>by simp at h,.nil,fun a h=>by simp at h⟩
theorem any_beg {t:Br}{x:List Ev}:t.any (begB x)=true↔∃ b∈t,x <+: b:=by
 rw [List.any_eq_true]
 constructor
 ·rintro ⟨b,h1,h2⟩;exact ⟨b,h1,begB_iff.1 h2⟩
 ·rintro ⟨b,h1,h2⟩;exact ⟨b,h1,begB_iff.2 h2⟩
theorem mem_fil {t:Br}{x b:List Ev}:b∈t.filter (fun b=>!begB b x)↔b∈t∧¬ b <+: x:=by
 rw [List.mem_filter,Bool.not_eq_true',begB_f]
theorem c0v {t:Br}{x b:List Ev}(hk:¬ t.any (begB x)=true):b∈addU t x↔b=x∨(b∈t∧¬ b <+: x):=by
 unfold addU
 rw [if_neg hk,insU_mem,mem_fil]
theorem Uni.tip {U:List Ev→Prop}(hu:Uni U){t:Br}(ht:TrU U t){x:List Ev}(hx:U x)(hk:¬ t.any (begB x)=true):∀ b∈t.filter (fun b=>!begB b x),b≠[]∧a0U b≠a0U x:=fun b hb=>by
 obtain ⟨h1,h2⟩:=mem_fil.1 hb
 refine ⟨(hu.ok (ht.mem b h1)).2,fun e=>?_⟩
 rcases hu.comp (ht.mem b h1) hx e with h|h
 ·exact h2 h
 ·exact hk (any_beg.2 ⟨b,h1,h⟩)
theorem g1K {U:List Ev→Prop}(hu:Uni U){t:Br}(ht:TrU U t){x:List Ev}(hx:U x):TrU U (addU t x):=by
 by_cases hk:t.any (begB x)=true
 ·unfold addU;rw [if_pos hk];exact ht
 refine ⟨fun b hb=>?_,?_,fun a ha b hb hab=>?_⟩
 ·rcases (c0v hk).1 hb with rfl|⟨h,_⟩
  ·exact hx
  ·exact ht.mem b h
 ·unfold addU
  rw [if_neg hk]
  exact e1x (hu.ok hx).2 (hu.tip ht hx hk) (ht.lt.sublist List.filter_sublist)
 ·rcases (c0v hk).1 ha with rfl|⟨h1,h2⟩<;>rcases (c0v hk).1 hb with rfl|⟨h3,h4⟩
  ·rfl
  ·exact absurd (any_beg.2 ⟨b,h3,hab⟩) hk
  ·exact absurd hab h2
  ·exact ht.anti a h1 b h3 hab
def Dn (t:Br)(p:List Ev):Prop:=∃ b∈t,p <+: b
theorem dn_add {t:Br}{x p:List Ev}:Dn (addU t x) p↔Dn t p∨p <+: x:=by
 by_cases hk:t.any (begB x)=true
 ·have e:addU t x=t:=by unfold addU;rw [if_pos hk]
  rw [e]
  obtain ⟨b,h1,h2⟩:=any_beg.1 hk
  exact ⟨.inl,fun h=>h.elim id fun h=>⟨b,h1,h.trans h2⟩⟩
 ·constructor
  ·rintro ⟨b,hb,h⟩
   rcases (c0v hk).1 hb with rfl|⟨h1,_⟩
   ·exact .inr h
   ·exact .inl ⟨b,h1,h⟩
  ·rintro (⟨b,h1,h⟩|h)
   ·by_cases h2:b <+: x
    ·exact ⟨x,(c0v hk).2 (.inl rfl),h.trans h2⟩
    ·exact ⟨b,(c0v hk).2 (.inr ⟨h1,h2⟩),h⟩
   ·exact ⟨x,(c0v hk).2 (.inl rfl),h⟩
theorem c1t {α:Type}{a b:List α}(h:a <+: b)(k:b <+: a):a=b:=h.eq_of_length (Nat.le_antisymm h.length_le k.length_le)
theorem h1W {U V:List Ev→Prop}(hu:Uni U)(hv:Uni V){t s:Br}(ht:TrU U t)(hs:TrU V s)(h:∀ p,p≠[]→(Dn t p↔Dn s p)):t=s:=by
 have key:∀ {U V:List Ev→Prop} {t s:Br},Uni U→TrU U t→TrU V s→(∀ p,p≠[]→(Dn t p↔Dn s p))→(∀ p,V p→p≠[])→∀ b∈t,b∈s:=by
  intro U V t s hu ht hs h hv b hb
  have hne:=(hu.ok (ht.mem b hb)).2
  obtain ⟨c,hc,h1⟩:=(h b hne).1 ⟨b,hb,List.prefix_refl b⟩
  obtain ⟨d,hd,h2⟩:=(h c (hv c (hs.mem c hc))).2 ⟨c,hc,List.prefix_refl c⟩
  obtain rfl:=ht.anti b hb d hd (h1.trans h2)
  rw [c1t h1 h2];exact hc
 have m1:=key hu ht hs h fun p hp=>(hv.ok hp).2
 have m2:=key hv hs ht (fun p hp=>(h p hp).symm) fun p hp=>(hu.ok hp).2
 have n1:t.Nodup:=ht.lt.imp fun h e=>by subst e;omega
 have n2:s.Nodup:=hs.lt.imp fun h e=>by subst e;omega
 exact List.Perm.eq_of_pairwise (le:=fun a b=>a0U b<a0U a) (fun a b _ _ h1 h2=>absurd h2 (by omega)) ht.lt hs.lt ((List.perm_ext_iff_of_nodup n1 n2).2 fun b=>⟨m1 b,m2 b⟩)
theorem b1E {α:Type}{p:α→Bool}:∀ {l:List α},l.length=(l.filter p).length+(l.filter fun b=>!p b).length
 | []=>rfl
 | a :: l=>by
  have:=b1E (p:=p) (l:=l)
  cases h:p a<;>simp [h]<;>omega
theorem b1K:∀ {L:Br} {t:Br},t.Nodup→(∀ a∈t,∀ b∈t,a <+: b→a=b)→(∀ b∈t,∃ l∈L,b <+: l)→t.length≤L.length
 | [],t,_,_,h=>by
  cases t with
  | nil=>simp
  | cons b t=>obtain ⟨l,hl,_⟩:=h b (by simp);simp at hl
 | l :: L,t,hn,ha,h=>by
  have h1:(t.filter fun b=>begB b l).length≤1:=by
   have hn':=hn.sublist (List.filter_sublist (p:=fun b=>begB b l) (l:=t))
   have hm:∀ b∈t.filter (fun b=>begB b l),b∈t∧b <+: l:=fun b hb=>by rw [List.mem_filter,begB_iff] at hb;exact hb
   generalize t.filter (fun b=>begB b l)=f at *
   match f with
   | []=>simp
   | [_]=>simp
   | a :: b :: f =>
    obtain ⟨a1,a2⟩:=hm a (by simp)
    obtain ⟨b1,b2⟩:=hm b (by simp)
    have:a=b:=(List.prefix_or_prefix_of_prefix a2 b2).elim (ha a a1 b b1) fun h=>(ha b b1 a a1 h).symm
    subst this
    simp at hn'
  have h2:=b1K (L:=L) (t:=t.filter fun b=>!begB b l) (hn.sublist List.filter_sublist) (fun a h1 b h2=>ha a (List.mem_filter.1 h1).1 b (List.mem_filter.1 h2).1) (fun b hb=>by
   obtain ⟨k1,k2⟩:=mem_fil.1 hb
   obtain ⟨m,hm,hb2⟩:=h b k1
   rcases List.mem_cons.1 hm with rfl|hm
   ·exact absurd hb2 k2
   ·exact ⟨m,hm,hb2⟩)
  have h3:=b1E (l:=t) (p:=fun b=>begB b l)
  rw [List.length_cons];omega
theorem TrU.nd {U:List Ev→Prop}{t:Br}(ht:TrU U t):t.Nodup:=ht.lt.imp fun h e=>by subst e;omega
def p0r:SCode :=
  (jq ([.a 2 (.mv kF)]) (.seq (jq ([jm 5 0,je 6 5,jk 7 0]) (.block 0 (.loop (jq ([jB 8 .lss 7 6]) (.seq (jc 8 .skip (.exit 0)) (.seq (.block 1 (jq ([jm
 9 7,jx 10 9 5 7,jL 11 9 10,.a 4 (.alloc 73 [jI,jI,jI,jI,jI,jI,(.f (.v (.string ⟨#[]⟩))),jN,jN]),jm 3 9,.n (.store 9 (.t 4) (.t 11))])
 (.seq (jq ((ap [jL 12 9 4,.a 13 (.call (kC 60) [(.t 12)])] [.a 14 (.unot (.t 13))])) (jc 14 (jq ([.a 2 (.mv kF)]) .ret) .skip)) (.seq (.drw [jm 15 3,
 jb 16 .gtr 15 0,jm 17 16,gO 18 0 4 17 true,gL 19 18 17 true,gM 20 0 17 true,gM 21 3 17 true,jG 22 (.bin .sub (.t 21) (kI 1)) 17 true,jG 23 (.idx
 9 (.t 20) (.t 22)) 17 true,gO 24 0 23 17 true,gL 25 24 17 true,jG 26 (.bin .add (.t 25) (kI 1)) 17 true,jG 27 (.bin .neq (.t 19) (.t 26)) 17 true,
 gM 28 27 17 true,gO 29 1 4 28 false,gL 30 29 28 false,gM 31 0 28 false,gM 32 3 28 false,jG 33 (.bin .sub (.t 32) (kI 1)) 28 false,jG 34 (.idx 9
 (.t 31) (.t 33)) 28 false,gO 35 1 34 28 false,gL 36 35 28 false,jG 37 (.bin .lss (.t 30) (.t 36)) 28 false,jG 38 (.pick (.t 28) kT (.t 37)) 17
 true,gM 39 38 17 true,gO 40 2 4 39 false,gL 41 40 39 false,gM 42 0 39 false,gM 43 3 39 false,jG 44 (.bin .sub (.t 43) (kI 1)) 39 false,jG 45
 (.idx 9 (.t 42) (.t 44)) 39 false,gO 46 2 45 39 false,gL 47 46 39 false,jG 48 (.bin .lss (.t 41) (.t 47)) 39 false,jG 49 (.pick (.t 39) kT (.t 48))
 17 true,.a 50 (.pick (.t 17) (.t 49) kF)] [0,1,3,7,15,7,7,71,231,487,999,2023,4095,8191,16383,32767,16383,16383,147455,475135,
 999423,2047999,4194303,8388607,16777215,33554431,67108863,33554431,33554431,301989887,973078527,2046820351,4194303999,8589934591,
 17179869183,34359738367]) (jc 50 (jq ([.a 2 (.mv kF)]) .ret) .skip))))) (.ops [jb 51 .add 7 1,jm 7 51]))))))) (jq ([.a 2 (.mv kT)]) .ret)))
theorem x0G:Fn Tryz.prog 25 52 [.t 2] p0r:=.of Tryz.func25 (by kernel_rfl)
theorem f0h:∀ {l:List Ev} {s:S12},(a0P s l).1=0→(∀ e,l.head?=some e→e.id=s.id+1∧s.ver≤e.ver∧s.time≤e.time)∧∀ i,i+1<l.length→(gt l (i+1)).id=(gt l i).id+1∧(gt l i).ver≤(gt l (i+1)).ver∧(gt l i).time≤(gt l (i+1)).time
 | [],_,_=>⟨by simp,by simp⟩
 | e :: l,s,h=>by
  rw [a0P] at h
  by_cases a:(a0G s e).1=0
  ·rw [if_pos a] at h
   obtain ⟨a1,a2,a3,a4,a5,a6,a7,a8⟩:=b0s a
   have ih:=f0h h
   refine ⟨fun e' he=>?_,fun i hi=>?_⟩
   ·cases he;exact ⟨a2,a3,a4⟩
   ·cases i with
    | zero =>
     cases l with
     | nil=>simp at hi
     | cons x l =>
      have:=ih.1 x rfl
      rw [a8] at this
      simpa [gt] using this
    | succ i =>
     have:=ih.2 i (by simpa using hi)
     simpa [gt] using this
  ·rw [if_neg a] at h;exact absurd h a
set_option maxRecDepth 100000 in
theorem a1Y (l:List Ev)(hb:BrOk l):Con Tryz.prog 25 [.f (fEv l)] [] fun r H'=>r=D.bool true∧H'=[]:=by
 have hl:=hb.len
 have hr:=f0G hb.fold
 have hn:=(f0h hb.fold).2
 refine Con.walk good x0G (by simp) ?_
 unfold p0r
 simp only [a0J]
 repeat' (with_reducible first|refine Wx.h ?_|refine Wb.h fun K hK=>?_|(refine hK _ ?_;clear hK K)|((fail_if_success refine Wz.h ?_);simp (disch:=omega) only [↓LD,LA,a0A,seval,LEv]))
 refine HS.loopG [0,5,6,7] (fun i:Nat=>⟨frm 52 [(0,.f (fEv l)),(5,.f (fEv l)),(6,D.int l.length),(7,D.int i)],[],[]⟩) (fun i=>i≤l.length) (fun i=>l.length-i) 0 (by kernel_rfl) (Nat.zero_le _) ?_
 intro i hi
 by_cases hil:i<l.length
 rotate_left
 ·repeat' (with_reducible first|refine Wx.h ?_|refine Wb.h fun K hK=>?_|(refine hK _ ?_;clear hK K)|refine Wq.h ?_ ?_<;>intro h<;>try (exfalso;omega)|((fail_if_success refine Wz.h ?_);simp (disch:=omega) only [↓LD,LA,a0A,seval]))
  exact end1 rfl rfl (by kernel_rfl) .f ⟨rfl,rfl⟩
 have hre:=hr _ (a0K hil)
 have hfi:=hb.fit _ (a0K hil)
 rcases i with _|i
 ·have h0:∀ H:List Row,loadA H 9 (.rf (l.flatMap Ev.cs))=some (.ag ((Ev.cs (gt l 0)).map .f)):=fun H=>by have:=b0W (H:=H) (g:=l) (k:=0) hil;simpa using this
  repeat' (with_reducible first|refine Wx.h ?_|refine Wb.h fun K hK=>?_|(refine hK _ ?_;clear hK K)|refine Wq.h ?_ ?_<;>intro h<;>try (exfalso;omega)|((fail_if_success refine Wz.h ?_);first|simp (disch:=omega) only [↓LD,LA,a0A,seval,LEv,h0,a0L,Ev.cs,-a0A]|(refine And.intro ?_ ?_;omega)|fail))
  refine a0C (g0P (gt l 0) hfi.2.2.2 (by have:=hfi.2.2.1;omega)) rfl rfl rfl ?_
  rw [hre]
  repeat' (with_reducible first|refine Wx.h ?_|refine We.h fun K hK=>?_|refine Wd.h fun K M hK hM=>?_|(refine hK _ _ _ _ ?_;clear hK K;try clear hM M)|(refine hM ?_;clear hM M;try clear hK K)|refine Wb.h fun K hK=>?_|(refine hK _ ?_;clear hK K)|(refine Wy.h ?_ ?_;kernel_rfl)|((fail_if_success refine Wz.h ?_);simp (disch:=omega) only [↓LD,LA,a0A,seval,LEv]))
  exact Next.mk 1 (by kernel_rfl) (by omega) (by omega)
 ·obtain ⟨e1,e2,e3⟩:=hn i hil
  repeat' (with_reducible first|refine Wx.h ?_|refine Wb.h fun K hK=>?_|(refine hK _ ?_;clear hK K)|refine Wq.h ?_ ?_<;>intro h<;>try (exfalso;omega)|((fail_if_success refine Wz.h ?_);first|simp (disch:=omega) only [↓LD,LA,a0A,seval,LEv,b0W,a0L,Ev.cs,-a0A]|(refine And.intro ?_ ?_;omega)|fail))
  refine a0C (g0P (gt l (i+1)) hfi.2.2.2 (by have:=hfi.2.2.1;omega)) rfl rfl rfl ?_
  rw [hre]
  have hid:=(rightE_iff.1 (hr _ (a0K (l:=l) (k:=i) (by omega)))).2.1
  have hi1:((i+1:Nat):Int)-1=(i:Int):=by omega
  repeat' (with_reducible first|refine Wx.h ?_|refine We.h fun K hK=>?_|refine Wd.h fun K M hK hM=>?_|(refine hK _ _ _ _ ?_;clear hK K;try clear hM M)|refine Wb.h fun K hK=>?_|(refine hK _ ?_;clear hK K)|(refine wT ?_ ?_;assumption)|(refine Wy.h ?_ ?_;kernel_rfl)|refine Wq.h ?_ ?_<;>intro h<;>try (exfalso;omega)|((fail_if_success refine Wz.h ?_);first|simp (disch:=omega) only [↓LD,LA,a0A,seval,LEv,s0n,f0I,i0d,a0L,Ev.cs,hi1,Int.toNat_natCast]|(refine And.intro ?_ ?_;omega)|fail))
  exact Next.mk (i+1+1) (by kernel_rfl) (by omega) (by omega)
def PnV (v:Int)(p:Pn):Prop:=p.ver=v∧∀ e∈p.out,e.ver=v
theorem c0W {v:Int}{p:Pn}{e:Ev}(h:PnV v p):PnV v (a0Q p e).2:=by
 rcases e0G p e with ⟨_,h2⟩|⟨_,_,h2,_,h3⟩|⟨_,_,h2,_,f,hf,h3,h4⟩
 ·rw [h2];exact h
 ·rw [h3]
  refine ⟨h.1,fun x hx=>?_⟩
  rcases List.mem_append.1 hx with hx|hx
  ·exact h.2 x hx
  ·obtain rfl:=List.mem_singleton.1 hx;exact h.1
 ·rw [h4]
  refine ⟨h.1,fun x hx=>?_⟩
  rcases List.mem_append.1 hx with hx|hx
  ·exact h.2 x hx
  ·rcases List.mem_cons.1 hx with rfl|hx
   ·exact h.1
   ·obtain rfl:=List.mem_singleton.1 hx;rw [hf];exact h.1
theorem v0K {v:Int}{p:Pn}{ds:List Nd}(h:PnV v p):PnV v (b0q p ds).2:=by
 unfold b0q;repeat' split
 all_goals first|exact h|exact c0W h
theorem w0H {v:Int}{p:Pn}(h:PnV v p):PnV v (b0r p).2:=by
 unfold b0r;repeat' split
 all_goals first|exact h|exact c0W h
theorem a1C {v:Int}{p:Pn}{i t:Int}{ok:Bool}{d:Bs}(h:PnV v p):PnV v (b0O p i t ok d).2:=by
 unfold b0O;repeat' split
 all_goals first|exact h|exact c0W h
theorem g1x {v:Int}{p:Pn}{nm:Bs}{t:Int}(h:PnV v p):PnV v (armP p nm t).2:=by
 unfold armP;repeat' split
 all_goals first|exact h|exact c0W h
theorem r0g {v:Int}{p:Pn}{nm d:Bs}(h:PnV v p):PnV v (a0v p nm d).2:=by
 unfold a0v;repeat' split
 all_goals first|exact h|exact c0W h
theorem b1s {v:Int}{p:Pn}(h:PnV v p):PnV v (b0Z p).2:=by
 unfold b0Z;repeat' split
 all_goals first|exact h|exact c0W h
theorem f1j {v:Int}{p:Pn}(h:PnV v p):PnV v (e0d p).2:=by
 unfold e0d;repeat' split
 all_goals first|exact h|exact c0W h
theorem n0h {v now:Int}:∀ {k i:Nat} {p:Pn} {n:Int},PnV v p→PnV v (d0M now k i p n).2.1
 | 0,_,_,_,h=>h
 | k+1,i,p,n,h=>by
  rw [d0M]
  have hw:=c0W (e:=⟨0,0,0,4,i,(gt p.s.nodes i).tr,[],[],[]⟩) h
  repeat' split
  all_goals first|exact h|exact hw|exact n0h h|exact n0h hw
theorem a1P {v now:Int}:∀ {f:Nat} {p:Pn} {n:Int},PnV v p→PnV v (e0v now f p n).2
 | 0,_,_,h=>h
 | f+1,p,n,h=>by
  rw [e0v]
  have hw:=c0W (e:=⟨0,0,0,6,0,0,(gt p.s.tms (d0V now p.s.tms 0 (-1) p.s.tms).toNat).name,[],[]⟩) h
  repeat' split
  all_goals first|exact h|exact hw|exact a1P hw
theorem g1L {v:Int}{p:Pn}(h:PnV v p):PnV v (e0x p).2:=by
 unfold e0x;split
 ·exact n0h h
 ·exact a1P (n0h h)
theorem e1C {v:Int}{p:Pn}{x:Rw}(h:PnV v p):∀ {f i:Nat},PnV v (finA p x f i)
 | 0,_=>w0H h
 | f+1,i=>by
  rw [finA];repeat' split
  all_goals first|exact a1C h|exact e1C h
theorem f1G {v:Int}{p:Pn}{x:Rw}{l:List Rd}(h:PnV v p):PnV v (e0z p x l):=by
 unfold e0z;repeat' split
 all_goals first|exact h|exact v0K h|exact w0H h|exact e1C h|exact g1x h|exact r0g h|exact g1L h|exact b1s h|exact f1j h
def Gw (lo hi:Int)(l m:List Ev):Prop:=∃ w,m=l++w∧∀ e∈w,lo≤e.ver∧e.ver≤hi
theorem Gw.refl {lo hi:Int}{l:List Ev}:Gw lo hi l l:=⟨[],by simp,fun e h=>by simp at h⟩
theorem k0V {steps:List Rw}{defs:List Rd}:∀ {f i:Nat} {out:List Ev} {v now:Int},0≤v→Gw v (v+22*f) out (g0f steps defs f i out v now)
 | 0,_,_,_,_,_=>Gw.refl
 | f+1,i,out,v,now,h0=>by
  rw [g0f]
  split
  ·split
   ·have hv:=s0W v (mvA (gt steps i))
    generalize verL v (mvA (gt steps i))=v' at *
    have hs:=f1G (x:=gt steps i) (l:=defs) (p:=⟨(a0P s0 out).2,v',now+pick (gt steps i).c 5,[]⟩) (v:=v') ⟨rfl,fun e he=>by simp at he⟩
    obtain ⟨w,hw,hv2⟩:=k0V (steps:=steps) (defs:=defs) (f:=f) (i:=i+1) (out:=out++(e0z ⟨(a0P s0 out).2,v',now+pick (gt steps i).c 5,[]⟩ (gt steps i) defs).out) (v:=v') (now:=now+pick (gt steps i).c 5) (by omega)
    refine ⟨(e0z ⟨(a0P s0 out).2,v',now+pick (gt steps i).c 5,[]⟩ (gt steps i) defs).out++w,by rw [hw,List.append_assoc],fun e he=>?_⟩
    rcases List.mem_append.1 he with he|he
    ·have:=hs.2 e he
     rw [this]
     refine ⟨hv.1,?_⟩
     omega
    ·have:=hv2 e he
     omega
   ·exact Gw.refl
  ·exact Gw.refl
theorem BrOk.ver0 {l:List Ev}(h:BrOk l){e:Ev}(he:e∈l):1≤e.ver:=by
 have:=(rightE_iff.1 (h.right he)).2.2.1
 exact (e0p this).1
theorem q0U {l:List Ev}{steps:List Rw}{defs:List Rd}(h:BrOk l):Gw (if l.length=0 then 1 else a0U l) ((if l.length=0 then 1 else a0U l)+660) l (e0E l steps defs):=by
 unfold e0E
 by_cases hz:l.length=0
 ·rw [if_pos hz,if_pos hz]
  obtain rfl:=List.eq_nil_of_length_eq_zero hz
  exact k0V (by omega)
 ·rw [if_neg hz,if_neg hz]
  have:=h.ver0 (a0K (l:=l) (k:=l.length-1) (by omega))
  exact k0V (f:=30) (v:=(gt l (l.length-1)).ver) (by omega)
theorem f1p {hd:List Ev}{at' v:Int}{defs:List Rd}:∀ e∈(f0A hd at' v defs).out,e.ver=v:=by
 have h0:PnV v ⟨(a0P s0 hd).2,v,hdT hd,[]⟩:=⟨rfl,fun e he=>by simp at he⟩
 unfold f0A
 split
 ·exact (v0K h0).2
 ·exact (r0g h0).2
theorem q0a {l w:List Ev}(h:w≠[]):a0U (l++w)=a0U w:=by
 have hp:0<w.length:=List.length_pos_iff.2 h
 unfold a0U
 rw [List.length_append,a0q (by rw [List.length_append];omega),a0q (by omega),List.getElem_append_right (by omega)]
 congr 2;omega
theorem q0t {l:List Ev}(h:l≠[]):∃ e∈l,a0U l=e.ver:=⟨_,a0K (l:=l) (k:=l.length-1) (by have:=List.length_pos_iff.2 h;omega),rfl⟩
theorem z0i {hd:List Ev}{at' v:Int}{steps:List Rw}{defs:List Rd}(h:BrOk hd):Gw v (v+660) hd (q0q hd at' v steps defs):=by
 unfold q0q
 split
 ·split
  ·exact Gw.refl
  ·rename_i hz
   have hok:=h.app (n0x (at':=at') (v:=v) (defs:=defs) h)
   have hv:=f1p (hd:=hd) (at':=at') (v:=v) (defs:=defs)
   generalize (f0A hd at' v defs).out=w at *
   have hw:w≠[]:=fun e=>hz (by rw [e];rfl)
   have hlv:a0U (hd++w)=v:=by
    rw [q0a hw]
    obtain ⟨e,he,h1⟩:=q0t hw
    rw [h1];exact hv e he
   obtain ⟨x,hx,hxv⟩:=q0U (steps:=steps) (defs:=defs) hok
   rw [if_neg (by rw [List.length_append];have:=List.length_pos_iff.2 hw;omega),hlv] at hxv
   refine ⟨w++x,by rw [hx,List.append_assoc],fun e he=>?_⟩
   rcases List.mem_append.1 he with he|he
   ·rw [hv e he];omega
   ·exact hxv e he
 ·exact Gw.refl
theorem t0h {l:List Ev}(h:BrOk l):∀ (j i:Nat),i≤j→j<l.length→(gt l i).ver≤(gt l j).ver
 | 0,i,hi,hj=>by (obtain rfl:i=0:=by omega);exact Int.le_refl _
 | j+1,i,hi,hj=>by
  by_cases e:i=j+1
  ·subst e;exact Int.le_refl _
  ·have h1:=t0h h j i (by omega) (by omega)
   have h2:=((f0h h.fold).2 j hj).2.1
   omega
theorem w0X {α:Type}{p l:List α}(hp:p <+: l):∃ n,n≤l.length∧p=l.take n:=⟨p.length,hp.length_le,List.prefix_iff_eq_take.1 hp⟩
theorem g1l {p l:List Ev}(h:BrOk l)(hp:p <+: l)(hne:p≠[]):a0U p≤a0U l:=by
 obtain ⟨n,h1,rfl⟩:=w0X hp
 have h0:=List.length_pos_iff.2 hne
 rw [List.length_take] at h0
 rw [d0T (by omega) (by omega)]
 exact t0h h _ _ (by omega) (by omega)
theorem BrOk.pfx {p l:List Ev}(h:BrOk l)(hp:p <+: l):BrOk p:=by
 obtain ⟨n,_,rfl⟩:=w0X hp
 exact h.take _
def Bg (L:Br)(p:List Ev):Prop:=p≠[]∧∃ l∈L,p <+: l
structure LnOk (L:Br)(v:Int):Prop where
 uni:Uni (Bg L)
 le:∀ p,Bg L p→a0U p≤v
theorem LnOk.nil:LnOk [] 0:=⟨⟨fun h=>by obtain ⟨_,l,h,_⟩:=h;simp at h,fun h=>by obtain ⟨_,l,h,_⟩:=h;simp at h,fun h=>by obtain ⟨_,l,h,_⟩:=h;simp at h⟩,fun p h=>by obtain ⟨_,l,h,_⟩:=h;simp at h⟩
theorem bg_app {L:Br}{b p:List Ev}:Bg (L++[b]) p↔Bg L p∨(p≠[]∧p <+: b):=by
 unfold Bg
 constructor
 ·rintro ⟨h1,l,h2,h3⟩
  rcases List.mem_append.1 h2 with h2|h2
  ·exact .inl ⟨h1,l,h2,h3⟩
  ·obtain rfl:=List.mem_singleton.1 h2;exact .inr ⟨h1,h3⟩
 ·rintro (⟨h1,l,h2,h3⟩|⟨h1,h2⟩)
  ·exact ⟨h1,l,by simp [h2],h3⟩
  ·exact ⟨h1,b,by simp,h2⟩
theorem LnOk.add {L:Br}{v lo hi:Int}{h b:List Ev}(hl:LnOk L v)(hh:h=[]∨Bg L h)(hb:BrOk b)(he:Gw lo hi h b)(hv:v<lo):LnOk (L++[b]) (brV v b):=by
 obtain ⟨w,hw,hwv⟩:=he
 have key:∀ p,p≠[]→p <+: b→Bg L p∨v<a0U p:=by
  intro p hp hpb
  by_cases hph:p <+: h
  ·rcases hh with rfl|⟨_,l,h1,h2⟩
   ·exact absurd (List.prefix_nil.1 hph) hp
   ·exact .inl ⟨hp,l,h1,hph.trans h2⟩
  ·right
   have hhp:h <+: p:=((List.prefix_or_prefix_of_prefix hpb (by rw [hw];exact List.prefix_append h w)).resolve_left hph)
   obtain ⟨x,rfl⟩:=hhp
   have hx:x≠[]:=fun e=>hph (by rw [e,List.append_nil];exact List.prefix_refl h)
   rw [hw,List.prefix_append_right_inj] at hpb
   rw [q0a hx]
   obtain ⟨e,he,h1⟩:=q0t hx
   have:=(hwv e (hpb.subset he)).1
   omega
 have okb:∀ p,p≠[]→p <+: b→BrOk p:=fun p _ hp=>hb.pfx hp
 refine ⟨⟨fun {p} hp=>?_,fun {p q} hp hq hne=>?_,fun {p q} hp hq e=>?_⟩,fun p hp=>?_⟩
 ·rcases bg_app.1 hp with h1|⟨h1,h2⟩
  ·exact hl.uni.ok h1
  ·exact ⟨hb.pfx h2,h1⟩
 ·rcases bg_app.1 hp with h1|⟨h1,h2⟩
  ·exact bg_app.2 (.inl (hl.uni.down h1 hq hne))
  ·exact bg_app.2 (.inr ⟨hne,hq.trans h2⟩)
 ·rcases bg_app.1 hp with h1|⟨h1,h2⟩<;>rcases bg_app.1 hq with h3|⟨h3,h4⟩
  ·exact hl.uni.comp h1 h3 e
  ·rcases key q h3 h4 with h5|h5
   ·exact hl.uni.comp h1 h5 e
   ·have:=hl.le p h1;omega
  ·rcases key p h1 h2 with h5|h5
   ·exact hl.uni.comp h5 h3 e
   ·have:=hl.le q h3;omega
  ·exact List.prefix_or_prefix_of_prefix h2 h4
 ·unfold brV
  rcases bg_app.1 hp with h1|⟨h1,h2⟩
  ·have:=hl.le p h1
   split<;>omega
  ·have h3:=g1l hb h2 h1
   have h4:=h2.length_le
   have h5:=List.length_pos_iff.2 h1
   rw [if_pos (by omega)]
   unfold a0U at h3 ⊢
   omega
theorem f1S {n:Nat}{v:Int}(h:0<n):v<verN n v:=by
 cases n with
 | zero=>omega
 | succ n =>
  have h1:=s0z n (p0C v)
  have h2:=o0T v
  rw [verN];omega
theorem q0K {s:List (List Rw)}{a:List Int}{d:List Rd}:∀ {f i:Nat} {out:Br} {v:Int},i+f≤1000→out.length=i→(∀ b∈out,BrOk b)→LnOk out v→0≤v→(i=0→v=0)→∃ v',LnOk (brA s a d f i out v) v'
 | 0,i,out,v,hf,ho,hb,hl,h0,hv0=>⟨v,hl⟩
 | f+1,i,out,v,hf,ho,hb,hl,h0,hv0=>by
  rw [brA]
  split
  ·have hbi:=y0v (s:=s) (a:=a) (d:=d) (v:=v) ho hb
   refine q0K (by omega) (by simp [ho]) (fun b h=>?_) ?_ (by unfold brV;split<;>omega) (by omega)
   ·rcases List.mem_append.1 h with h|h
    ·exact hb b h
    ·rw [List.mem_singleton.1 h];exact hbi
   ·by_cases hi:i=0
    ·have e:brI s a d i out v=e0E [] (gt s 0) d:=by unfold brI;rw [if_pos hi]
     rw [e] at hbi ⊢
     have hx:=q0U (steps:=gt s 0) (defs:=d) BrOk.nil
     rw [if_pos (show ([]:List Ev).length=0 from rfl)] at hx
     exact hl.add (.inl rfl) hbi hx (by rw [hv0 hi];omega)
    ·have e:brI s a d i out v=p0O (gt out (pick (IntKind.i64.wrap (i*7+a.length)) out.length).toNat) (if i<a.length then gt a i else 0) (verL v (IntKind.i64.wrap (1+(i:Int).tmod 2))) (gt s i) d:=by unfold brI;rw [if_neg hi]
     have pk:=b0M (x:=IntKind.i64.wrap (i*7+a.length)) (n:=out.length) (by omega)
     have hgt:v<verL v (IntKind.i64.wrap (1+(i:Int).tmod 2)):=by
      have hm:(i:Int).tmod 2=0∨(i:Int).tmod 2=1:=by rw [Int.tmod_eq_emod_of_nonneg (by omega)];omega
      have hp:0<(pick (IntKind.i64.wrap (1+(i:Int).tmod 2)) 3).toNat:=by
       rcases hm with h|h<;>rw [h]<;>decide
      have:=f1S (v:=v) hp
      unfold verL;omega
     rw [e] at hbi ⊢
     have hgm:gt out (pick (IntKind.i64.wrap (i*7+a.length)) out.length).toNat∈out:=a0K (by omega)
     generalize gt out (pick (IntKind.i64.wrap (i*7+a.length)) out.length).toNat=l0 at *
     unfold p0O at hbi ⊢
     generalize (pick (if i<a.length then gt a i else 0) (l0.length+1)).toNat=c at *
     refine hl.add ?_ hbi (z0i ((hb l0 hgm).take c)) hgt
     by_cases hn:l0.take c=[]
     ·exact .inl hn
     ·exact .inr ⟨hn,l0,hgm,List.take_prefix c l0⟩
  ·exact ⟨v,hl⟩
theorem c1h (s:List (List Rw))(a:List Int)(d:List Rd):Uni (Bg (b0c s a d)):=by
 obtain ⟨v,h⟩:=q0K (s:=s) (a:=a) (d:=d) (f:=5) (i:=0) (out:=[]) (v:=0) (by omega) rfl (fun b h=>by simp at h) LnOk.nil (by omega) (fun _=>rfl)
 exact h.uni
def okI (y x:Im):Bool:=decide (y.id<x.id)&&decide (x.id≤200)&&decide (y.ver<x.ver)&&verB x.ver
def d0B:Im→List Im→Bool
 | _,[]=>true
 | y,x :: l=>okI y x&&d0B x l
def c0x (l:List Im):Bool:=d0B ⟨0,0⟩ l
theorem d0X {x:Im}:∀ {l:List Im} {y:Im},d0B y (l++[x])=(d0B y l&&okI (if l.length=0 then y else a0Y l) x)
 | [],y=>by simp [d0B]
 | z :: l,y=>by
  have e:a0Y (z :: l)=if l.length=0 then z else a0Y l:=by
   unfold a0Y
   rw [if_neg (by simp)]
   cases l with
   | nil=>rfl
   | cons w l=>rw [if_neg (by simp),if_neg (by simp)];simp [gt]
  rw [List.cons_append,d0B,d0X,d0B,Bool.and_assoc,show (if (z :: l).length=0 then y else a0Y (z :: l))=a0Y (z :: l) from if_neg (by simp),e]
theorem c1n {l:List Im}{x:Im}(h:0<l.length):l.set (l.length-1) x=l.take (l.length-1)++[x]:=by
 rw [List.set_eq_take_append_cons_drop,if_pos (by omega),show l.length-1+1=l.length by omega,List.drop_length]
theorem y0O {l:List Im}(h:0<l.length):l=l.take (l.length-1)++[a0Y l]:=by
 have e:a0Y l=gt l (l.length-1):=if_neg (by omega)
 rw [e,a0q (by omega),←List.take_succ_eq_append_getElem (by omega),show l.length-1+1=l.length by omega,List.take_length]
theorem x0a {l:List Im}{id v:Int}(h:c0x l=true)(h1:(a0Y l).id<id)(h2:id≤200)(h3:(a0Y l).ver≤v)(h4:verB v=true):c0x (b0d l id v)=true:=by
 have hv:=e0p h4
 unfold b0d
 by_cases hc:0<l.length∧(gt l (l.length-1)).ver=v
 ·rw [if_pos hc,c1n hc.1]
  have hs:=y0O hc.1
  unfold c0x at h ⊢
  rw [hs,d0X,Bool.and_eq_true] at h
  rw [d0X,Bool.and_eq_true]
  refine ⟨h.1,?_⟩
  have h5:=h.2
  generalize (if (l.take (l.length-1)).length=0 then (⟨0,0⟩:Im) else a0Y (l.take (l.length-1)))=y at *
  have e:(a0Y l).ver=v:=by rw [←hc.2];unfold a0Y;rw [if_neg (by omega)]
  simp only [okI,Bool.and_eq_true,decide_eq_true_eq] at h5 ⊢
  rw [e] at h5
  exact ⟨⟨⟨by omega,h2⟩,h5.1.2⟩,h4⟩
 ·rw [if_neg hc]
  unfold c0x at h ⊢
  rw [d0X,Bool.and_eq_true]
  refine ⟨h,?_⟩
  simp only [okI,Bool.and_eq_true,decide_eq_true_eq]
  by_cases hz:l.length=0
  ·rw [if_pos hz]
   have e:a0Y l=⟨0,0⟩:=if_pos hz
   rw [e] at h1 h3
   exact ⟨⟨⟨h1,h2⟩,by dsimp only;omega⟩,h4⟩
  ·rw [if_neg hz]
   have e:a0Y l=gt l (l.length-1):=if_neg hz
   have:(a0Y l).ver≠v:=fun e2=>hc ⟨by omega,by rw [←e2,e]⟩
   exact ⟨⟨⟨h1,h2⟩,by omega⟩,h4⟩
theorem q0x {first:Int}:∀ {vs:List Int} {i:Nat} {acc:List Im},c0x acc=true→(a0Y acc).id<first+i→first+i+vs.length≤201→(∀ v∈vs,(a0Y acc).ver≤v∧verB v=true)→vs.Pairwise (· ≤ ·)→c0x (ofA first i vs acc)=true
 | [],i,acc,h,_,_,_,_=>h
 | v :: vs,i,acc,h,h1,h2,h3,h4=>by
  obtain ⟨h5,h6⟩:=List.pairwise_cons.1 h4
  obtain ⟨h7,h8⟩:=h3 v (by simp)
  rw [List.length_cons] at h2
  rw [ofA]
  refine q0x (x0a h h1 (by omega) h7 h8) (by rw [g0c];dsimp only;omega) (by omega) (fun w hw=>?_) h6
  rw [g0c]
  exact ⟨h5 w hw,(h3 w (by simp [hw])).2⟩
theorem BrOk.id0 {l:List Ev}(h:BrOk l)(hn:l≠[]):(gt l 0).id=1:=by
 cases l with
 | nil=>exact absurd rfl hn
 | cons e l =>
  have:=((f0h h.fold).1 e rfl).1
  simpa [gt,s0] using this
theorem BrOk.vs {l:List Ev}(h:BrOk l):(l.map (·.ver)).Pairwise (· ≤ ·):=by
 rw [List.pairwise_iff_getElem]
 intro i j hi hj hij
 rw [List.length_map] at hi hj
 rw [List.getElem_map,List.getElem_map,←a0q hi,←a0q hj]
 exact t0h h j i (by omega) hj
theorem a1B {l:List Ev}(h:BrOk l):c0x (ofL l)=true:=by
 unfold ofL
 by_cases hn:l=[]
 ·rw [if_pos hn];rfl
 ·rw [if_neg hn,h.id0 hn]
  have hl:=h.len
  refine q0x rfl (by show (0:Int)<1+((0:Nat):Int);omega) (by rw [List.length_map];omega) (fun v hv=>?_) h.vs
  obtain ⟨e,he,rfl⟩:=List.mem_map.1 hv
  have h1:=(rightE_iff.1 (h.right he)).2.2.1
  have h2:=e0p h1
  exact ⟨by show (0:Int)≤e.ver;omega,h1⟩
noncomputable def f0C (pre:List Im)(b:List Ev):Bool:=decide (1≤(a0Y pre).id)&&decide ((a0Y pre).id≤b.length)&&eqB (ofL (b.take (a0Y pre).id.toNat)) pre
noncomputable def d0p (t:Br)(pre:List Im):Option (List Ev) :=
 if pre.length=0 then some [] else (t.find? (f0C pre)).map fun b=>b.take (a0Y pre).id.toNat
theorem f1W {l:List Ev}(h:ofL l=[]):l=[]:=by
 refine Classical.byContradiction fun hn=>?_
 have h1:=b0u hn
 rw [h] at h1
 have h0:=List.length_pos_iff.2 hn
 have:(ofL l).length≠0:=by
  unfold ofL g0o
  rw [if_neg hn]
  cases hm:l.map (·.ver) with
  | nil=>rw [List.map_eq_nil_iff] at hm;exact absurd hm hn
  | cons v vs =>
   rw [ofA]
   have:∀ (vs:List Int) (i:Nat) (acc:List Im),0<acc.length→0<(ofA (gt l 0).id i vs acc).length:=by
    intro vs
    induction vs with
    | nil=>intro i acc h;exact h
    | cons v vs ih =>
     intro i acc h
     rw [ofA]
     refine ih _ _ ?_
     unfold b0d;split
     ·rw [List.length_set];exact h
     ·simp
   exact Nat.ne_of_gt (this vs 1 (b0d [] ((gt l 0).id+(0:Nat)) v) (by unfold b0d;rw [if_neg (by simp)];simp))
 rw [h] at this
 exact this rfl
theorem q0Q {U:List Ev→Prop}(hu:Uni U){t:Br}(ht:∀ b∈t,U b){hd:List Ev}(hh:U hd):d0p t (ofL hd)=some hd∧Dn t hd∨d0p t (ofL hd)=none∧¬ Dn t hd:=by
 obtain ⟨ok,ne⟩:=hu.ok hh
 have h0:=List.length_pos_iff.2 ne
 have hid:(a0Y (ofL hd)).id=hd.length:=by rw [b0u ne,ok.id0 ne];dsimp only;omega
 have hz:¬ (ofL hd).length=0:=fun e=>ne (f1W (List.eq_nil_of_length_eq_zero e))
 have key:∀ b∈t,f0C (ofL hd) b=true↔hd <+: b:=by
  intro b hb
  unfold f0C
  rw [hid,Int.toNat_natCast,Bool.and_eq_true,Bool.and_eq_true,decide_eq_true_eq,decide_eq_true_eq]
  constructor
  ·rintro ⟨⟨_,h1⟩,h2⟩
   have h2:=v0s h2
   have hp:U (b.take hd.length):=hu.down (ht b hb) (List.take_prefix _ _) (g0b h0 (by omega))
   have hv:a0U (b.take hd.length)=a0U hd:=by
    have h3:=b0u (hu.ok hp).2
    rw [h2,b0u ne] at h3
    exact (Im.mk.inj h3).2.symm
   have hl:(b.take hd.length).length=hd.length:=by rw [List.length_take];omega
   have:b.take hd.length=hd:=(hu.comp hp hh hv).elim (fun h=>h.eq_of_length hl) fun h=>(h.eq_of_length hl.symm).symm
   exact List.prefix_iff_eq_take.2 this.symm
  ·intro h
   have hl:=h.length_le
   refine ⟨⟨by omega,by omega⟩,d0q ?_⟩
   rw [←List.prefix_iff_eq_take.1 h]
 unfold d0p
 rw [if_neg hz]
 cases hf:t.find? (f0C (ofL hd)) with
 | none =>
  refine .inr ⟨rfl,?_⟩
  rintro ⟨b,hb,h⟩
  exact List.find?_eq_none.1 hf b hb ((key b hb).2 h)
 | some b =>
  have hb:=List.mem_of_find?_eq_some hf
  have h1:=(key b hb).1 (List.find?_some hf)
  refine .inl ⟨?_,b,hb,h1⟩
  rw [Option.map_some,hid,Int.toNat_natCast,←List.prefix_iff_eq_take.1 h1]
def y0w:SCode :=
  (jq ([.a 2 (.mv kN)]) (jq ([.a 3 (.mv kN)]) (.seq (jq ([jm 6 0,je 7 6,jk 8 0]) (.block 0 (.loop (jq ([jB 9 .lss 8 7]) (.seq (jc 9 .skip (.exit 0))
 (.seq (.block 1 (jq ([jm 10 8,jx 11 9 6 8,jL 12 9 11,.a 5 (.alloc 73 [jI,jI,jI,jI,jI,jI,(.f (.v (.string ⟨#[]⟩))),jN,jN]),jm 4 10,.n
 (.store 9 (.t 5) (.t 12))]) (.drw [jm 13 3,jm 14 0,.a 15 (.idx 9 (.t 14) (kI 0)),jo 16 0 15,jl 17 16,jm 18 4,jB 19 .add 17 18,jo 20 1 5,jl 21
 20,.a 22 (.call (kC 56) [(.t 13),(.t 19),(.t 21)]),jm 3 22] [0,0,2,6,14,0,62,0,128,511,1023]))) (.ops [jb 23 .add 8 1,jm 8 23])))))))
 (jq ([jm 24 3,jm 2 24]) .ret))))
theorem d1d:Fn Tryz.prog 22 25 [.t 2] y0w:=.of Tryz.func22 (by kernel_rfl)
def g0N:SCode :=
  (jq ([.a 6 (.mv kN)]) (.seq (jq ([jm 8 0,je 9 8,jm 7 9]) (jq ((ap [jm 10 7,jb 11 .gtr 10 0] (ap [jm 12 11,gM 13 0 12 true] (ap [gM 14 7 12 true,jG
 15 (.bin .sub (.t 14) (kI 1)) 12 true,jG 16 (.idx 2 (.t 13) (.t 15)) 12 true,gO 17 1 16 12 true,gL 18 17 12 true,gM 19 2 12 true,jG 20 (.bin .eql
 (.t 18) (.t 19)) 12 true] [.a 21 (.pick (.t 12) (.t 20) kF)])))) (jc 21 (jq ([jm 22 0,jm 23 7,jb 24 .sub 23 1,jm 25 1,jx 26 2 22 24,jo 27 0 26,.n
 (.store 1 (.t 27) (.t 25))]) (jq ([jm 28 0,jm 6 28]) .ret)) .skip))) (jq ((ap [jm 29 0,jm 30 1,jm 31 2,.a 32 (.bld [jI,jI] [(0,1,(.t 30)),(1,
 1,(.t 31))]),.a 33 (.bsl 57 2 1 [jI,jI] [(0,(.t 32))]),.a 34 (.app 57 2 16 (.t 29) (.t 33))] [jm 6 34])) .ret)))
theorem i0O:Fn Tryz.prog 56 35 [.t 6] g0N:=.of Tryz.func56 (by kernel_rfl)
def p0E:SCode :=
  (jq ([.a 2 (.alloc 57 [jI,jI])]) (.seq (jq ([jm 3 0,je 4 3,jb 5 .eql 4 0]) (jc 5 (jq ([.a 6 (.bld [jI,jI] []),.n (.store 2 (.t 2) (.t 6))]) .ret)
 .skip)) (jq ([jm 7 0,jm 8 0,je 9 8,jb 10 .sub 9 1,jx 11 2 7 10,jL 12 2 11,.n (.store 2 (.t 2) (.t 12))]) .ret)))
theorem x0P:Fn Tryz.prog 54 13 [.cA 2 2] p0E:=.of Tryz.func54 (by kernel_rfl)
def l0w:SCode :=
  (jq ([.a 2 (.mv kF)]) (jq ([.a 6 (.bld [jI,jI] []),.a 3 (.alloc 57 [jI,jI]),.n (.store 2 (.t 3) (.t 6))]) (.seq (jq ([jm 7 0,je 8 7,jk 9 0])
 (.block 0 (.loop (jq ([jB 10 .lss 9 8]) (.seq (jc 10 .skip (.exit 0)) (.seq (.block 1 (jq ([jx 11 2 7 9,jL 12 2 11,.a 5 (.alloc 57 [jI,jI]),.n
 (.store 2 (.t 5) (.t 12))]) (.seq (jq ((ap [jo 13 0 5,jl 14 13,jo 15 0 3,jl 16 15,jB 17 .leq 14 16] (ap [jm 18 17,gO 19 0 5 18 false] (ap [gL 20
 19 18 false,jG 21 (.bin .gtr (.t 20) (kI 200)) 18 false] (ap [.a 22 (.pick (.t 18) kT (.t 21)),jm 23 22,gO 24 1 5 23 false] (ap [gL 25 24 23 false,
 gO 26 1 3 23 false,gL 27 26 23 false,jG 28 (.bin .leq (.t 25) (.t 27)) 23 false] (ap [.a 29 (.pick (.t 23) kT (.t 28)),jm 30 29,gO 31 1 5 30 false]
 (ap [gL 32 31 30 false,jG 33 (.call (kC 75) [(.t 32)]) 30 false] [jG 34 (.unot (.t 33)) 30 false,.a 35 (.pick (.t 30) kT (.t 34))])))))))) (jc 35 (jq
 ([.a 2 (.mv kF)]) .ret) .skip)) (.ops [jL 36 2 5,.n (.store 2 (.t 3) (.t 36))])))) (.ops [jb 37 .add 9 1,jm 9 37]))))))) (jq ([.a 2 (.mv kT)])
 .ret))))
theorem t0c:Fn Tryz.prog 40 38 [.t 2] l0w:=.of Tryz.func40 (by kernel_rfl)
def i0r:SCode :=
  (jq ([.a 4 (.alloc 57 [jI,jI])]) (jq ([.a 7 (.bld [jI,jI] []),.a 5 (.alloc 57 [jI,jI]),.n (.store 2 (.t 5) (.t 7))]) (.seq (jq ([jm 8 0,je 9 8,
 jm 10 1,je 11 10,.a 12 (.mm false (.t 9) (.t 11)),jk 13 0]) (.block 0 (.loop (jq ([jB 14 .lss 13 12]) (.seq (jc 14 .skip (.exit 0)) (.seq (.block 1
 (jq ([jm 15 13,jm 6 15]) (.seq (.seq (.drw [jm 16 0,jm 17 6,jx 18 2 16 17,jo 19 1 18,jl 20 19,jm 21 1,jm 22 6,jx 23 2 21 22,jo 24 1 23,jl 25
 24,jB 26 .neq 20 25] [0,0,3,7,15,0,0,96,224,480,1023]) (jc 26 (.exit 0) .skip)) (.seq (.drw [jm 27 0,jm 28 6,jx 29 2 27 28,jo 30 0 29,jl
 31 30,jm 32 1,jm 33 6,jx 34 2 32 33,jo 35 0 34,jl 36 35,.a 37 (.mm false (.t 31) (.t 36)),jm 38 0,jm 39 6,jx 40 2 38 39,jo 41 1 40,jl 42 41,
 .a 43 (.bld [jI,jI] [(0,1,(.t 37)),(1,1,(.t 42))]),.n (.store 2 (.t 5) (.t 43))] [0,0,3,7,15,0,0,96,224,480,1023,0,0,6144,14336,
 30720,65535,131071]) (.seq (.drw [jm 44 0,jm 45 6,jx 46 2 44 45,jo 47 0 46,jl 48 47,jm 49 1,jm 50 6,jx 51 2 49 50,jo 52 0 51,jl 53 52,jB 54
 .neq 48 53] [0,0,3,7,15,0,0,96,224,480,1023]) (jc 54 (.exit 0) .skip)))))) (.ops [jb 55 .add 13 1,jm 13 55]))))))) (jq ([jL 56 2 5,.n
 (.store 2 (.t 4) (.t 56))]) .ret))))
theorem r0c:Fn Tryz.prog 88 57 [.cA 2 4] i0r:=.of Tryz.func88 (by kernel_rfl)
def h0P:SCode :=
  (jq ([jk 4 0]) (jq ((ap [jm 7 0,.a 8 (.call (kC 54) [(.t 7)])] (ap [jm 9 1,.a 10 (.call (kC 54) [(.t 9)])] [.a 5 (.alloc 57 [jI,jI]),.a 6 (.alloc
 57 [jI,jI]),.n (.store 2 (.t 5) (.t 8)),.n (.store 2 (.t 6) (.t 10))]))) (.seq (.drw [jo 11 1 5,jl 12 11,jo 13 1 6,jl 14 13,.a 15 (.call (kC 62)
 [(.t 12),(.t 14)]),jo 16 0 5,jl 17 16,jo 18 0 6,jl 19 18,.a 20 (.call (kC 62) [(.t 17),(.t 19)]),.a 21 (.bsl 3 1 2 [jI,jI] [(0,(.t 15)),(1,
 (.t 20))]),.a 22 (.call (kC 61) [(.t 21)]),jm 4 22] [0,1,0,4,15,0,32,0,128,511,1023,2047,4095]) .ret)))
theorem o0U:Fn Tryz.prog 26 23 [.t 4] h0P:=.of Tryz.func26 (by kernel_rfl)
def r0n:SCode :=
  (jq ([jk 4 0]) (jq ((ap [jm 7 0,.a 8 (.call (kC 99) [(.t 7)])] [jm 5 8])) (jq ((ap [jm 9 1,.a 10 (.call (kC 99) [(.t 9)])] [jm 6 10])) (.seq (jq ([jm
 11 5]) (jc 11 (.seq (jq ([jm 12 6]) (jc 12 (jq ([jk 4 0]) .ret) .skip)) (jq ([.a 4 (.mv (kI (-1)))]) .ret)) .skip)) (.seq (jq ([jm 13 6]) (jc 13 (jq
 ([jk 4 1]) .ret) .skip)) (.seq (jq ([jm 14 0,jm 15 1,jB 16 .lss 14 15]) (jc 16 (jq ([.a 4 (.mv (kI (-1)))]) .ret) .skip)) (.seq (jq ([jm 17 0,jm 18
 1,jB 19 .gtr 17 18]) (jc 19 (jq ([jk 4 1]) .ret) .skip)) (jq ([jk 4 0]) .ret))))))))
theorem x0V:Fn Tryz.prog 62 20 [.t 4] r0n:=.of Tryz.func62 (by kernel_rfl)
def o0a:SCode :=
  (jq ([jk 2 0]) (jq ([jk 3 0]) (.seq (jq ([jm 6 0,je 7 6,jk 8 0]) (.block 0 (.loop (jq ([jB 9 .lss 8 7]) (.seq (jc 9 .skip (.exit 0)) (.seq (.block 1
 (jq ([jx 10 1 6 8,jl 11 10,jm 5 11]) (jq ([jm 12 5,jm 13 3,jB 14 .neq 12 13]) (jc 14 (jq ([jm 15 5,jm 2 15]) .ret) .skip)))) (.ops [jb 16 .add 8
 1,jm 8 16]))))))) (jq ([jm 17 3,jm 2 17]) .ret))))
theorem x0z:Fn Tryz.prog 61 18 [.t 2] o0a:=.of Tryz.func61 (by kernel_rfl)
def q0d:SCode :=
 (jq ([.a 2 (.mv kF)]) (jq ((ap [jm 3 0,jm 4 0,jB 5 .neq 3 4] [jm 2 5])) .ret))
theorem x0A:Fn Tryz.prog 99 6 [.t 2] q0d:=.of Tryz.func99 (by kernel_rfl)
def rIm (l:List Im):Row:=.data 57 (l.flatMap Im.cs)
set_option maxRecDepth 100000 in
theorem s0O (l:List Im)(id v:Int)(h0:0<l.length)(hl:l.length≤1000000)(hv:(gt l (l.length-1)).ver=v):Con Tryz.prog 56 [.sl 0 0 l.length,D.int id,D.int v] [rIm l] fun r H'=>r = .sl 0 0 l.length∧H'=[rIm (b0d l id v)]:=by
 have hg:b0d l id v=l.set (l.length-1) ⟨id,(gt l (l.length-1)).ver⟩:=by unfold b0d;rw [if_pos ⟨h0,hv⟩,hv]
 rw [hg]
 refine Con.walk good i0O (by simp) ?_
 unfold g0N rIm
 simp only [a0J]
 have e1:((l.length:Int)-1).toNat=l.length-1:=by omega
 have e2:=e0y (g:=l) (k:=l.length-1) (by omega)
 have e3:=fun a=>b1F (l:=l) (k:=l.length-1) (a:=a) (by omega)
 repeat' (with_reducible first|refine Wx.h ?_|refine Wb.h fun K hK=>?_|(refine hK _ ?_;clear hK K)|refine Wq.h ?_ ?_<;>intro h<;>try (exfalso;omega)|((fail_if_success refine Wz.h ?_);first|simp (disch:=omega) only [↓LD,LA,a0A,seval,b0z,e1,e2,e3,hv]|(refine And.intro ?_ ?_;omega)|fail))
 exact endA rfl rfl ⟨rfl,rfl⟩
set_option maxRecDepth 100000 in
theorem t0D (l:List Im)(id v:Int)(hl:l.length≤1000000)(hv:¬ (0<l.length∧(gt l (l.length-1)).ver=v)):Con Tryz.prog 56 [.sl 0 0 l.length,D.int id,D.int v] [rIm l] fun r H'=>r = .sl 1 0 (l.length+1)∧H'=[.dead,rIm (b0d l id v)]:=by
 have hg:b0d l id v=l++[⟨id,v⟩]:=by unfold b0d;rw [if_neg hv]
 rw [hg]
 refine Con.walk good i0O (by simp) ?_
 unfold g0N rIm
 simp only [a0J]
 have e1:((l.length:Int)-1).toNat=l.length-1:=by omega
 by_cases h0:0<l.length
 ·have hv:¬ (gt l (l.length-1)).ver=v:=fun e=>hv ⟨h0,e⟩
  have e2:=e0y (g:=l) (k:=l.length-1) (by omega)
  repeat' (with_reducible first|refine Wx.h ?_|refine Wb.h fun K hK=>?_|(refine hK _ ?_;clear hK K)|(refine wF ?_ ?_;assumption)|refine Wq.h ?_ ?_<;>intro h<;>try (exfalso;omega)|((fail_if_success refine Wz.h ?_);first|simp (disch:=omega) only [↓LD,LA,a0A,seval,b0z,e1,e2,v0f]|(refine And.intro ?_ ?_;omega)|fail))
  exact endG rfl rfl (ef:=⟨.sl 1 0 (l.length+1),[(0,.dead)],[.data 57 ((l++[(⟨id,v⟩:Im)]).flatMap Im.cs)]⟩) (by kernel_rfl) ⟨rfl,rfl⟩
 ·repeat' (with_reducible first|refine Wx.h ?_|refine Wb.h fun K hK=>?_|(refine hK _ ?_;clear hK K)|refine Wq.h ?_ ?_<;>intro h<;>try (exfalso;omega)|((fail_if_success refine Wz.h ?_);first|simp (disch:=omega) only [↓LD,LA,a0A,seval,b0z,e1,v0f]|(refine And.intro ?_ ?_;omega)|fail))
  exact endG rfl rfl (ef:=⟨.sl 1 0 (l.length+1),[(0,.dead)],[.data 57 ((l++[(⟨id,v⟩:Im)]).flatMap Im.cs)]⟩) (by kernel_rfl) ⟨rfl,rfl⟩
set_option maxRecDepth 100000 in
theorem b1k (l:List Ev)(hl:IdL l):Con Tryz.prog 22 [.f (fEv l)] [] fun r H'=>r = .f (fIm (ofL l))∧H'=[]:=by
 obtain ⟨hl,hid⟩:=hl
 refine Con.walk good d1d (by simp) ?_
 unfold y0w
 simp only [a0J]
 refine HS.seq ?_
 repeat' (with_reducible first|refine Wa.h ?_|refine Wb.h fun K hK=>?_|(refine hK _ ?_;clear hK K)|((fail_if_success refine Wz.h ?_);simp (disch:=omega) only [↓LD,LA,a0A,seval]))
 refine HS.seq ?_
 repeat' (with_reducible first|refine Wa.h ?_|refine Wb.h fun K hK=>?_|(refine hK _ ?_;clear hK K)|((fail_if_success refine Wz.h ?_);simp (disch:=omega) only [↓LD,LA,a0A,seval]))
 refine HS.view (View.void 57) ?_
 refine HS.view (View.slot 3 (.sl 0 0 0) (.no (by decide))) ?_
 repeat' (with_reducible first|refine Wx.h ?_|refine Wb.h fun K hK=>?_|(refine hK _ ?_;clear hK K)|((fail_if_success refine Wz.h ?_);simp (disch:=omega) only [↓LD,LA,a0A,seval,LEv]))
 refine HS.loopG [0,3,6,7,8] (fun x:Nat × List Im=>⟨frm 25 [(0,.f (fEv l)),(3,.sl 0 0 x.2.length),(6,.f (fEv l)),(7,D.int l.length),(8,D.int x.1)],[rIm x.2],[]⟩) (fun x=>x.1≤l.length∧x.2.length≤x.1∧(l=[]∧x.2=[]∨l≠[]∧ofL l=ofA (gt l 0).id x.1 ((l.drop x.1).map (·.ver)) x.2)) (fun x=>l.length-x.1) (0,[]) (by kernel_rfl) ⟨Nat.zero_le _,Nat.zero_le _,by
  by_cases h:l=[]
  ·exact .inl ⟨h,rfl⟩
  ·exact .inr ⟨h,by unfold ofL g0o;rw [if_neg h];rfl⟩⟩ ?_
 rintro ⟨i,o⟩ ⟨hi,ho,hF⟩
 dsimp only at hi ho hF
 by_cases hil:i<l.length
 ·obtain ⟨hne,hF⟩:=hF.resolve_left (fun h=>by rw [h.1] at hil;simp at hil)
  rw [a0H hil,List.map_cons,ofA] at hF
  obtain ⟨d1,d2⟩:=hid hne
  have ea:=s0n (g:=l) (k:=0) (by omega)
  rw [Nat.zero_mul] at ea
  have hw:ofL l=ofA (gt l 0).id (i+1) ((l.drop (i+1)).map (·.ver)) (b0d o ((gt l 0).id+i) (gt l i).ver):=hF
  clear hF hid
  by_cases hc:0<o.length∧(gt o (o.length-1)).ver=(gt l i).ver
  ·have hgl:(b0d o ((gt l 0).id+i) (gt l i).ver).length=o.length:=by unfold b0d;rw [if_pos hc,List.length_set]
   repeat' (with_reducible first|refine Wx.h ?_|refine We.h fun K hK=>?_|(refine hK _ _ _ _ ?_;clear hK K;try clear hM M)|refine Wb.h fun K hK=>?_|(refine hK _ ?_;clear hK K)|(refine Wy.h ?_ ?_;kernel_rfl)|refine Wq.h ?_ ?_<;>intro h<;>try (exfalso;omega)|((fail_if_success refine Wz.h ?_);first|simp (disch:=omega) only [↓LD,LA,a0A,seval,LEv,rIm,b0W,a0L,ea,Ev.cs,List.map_cons,List.map_nil,-a0A]|(refine And.intro ?_ ?_;omega)|fail))
   all_goals
    refine c0a (s0O o ((gt l 0).id+i) (gt l i).ver hc.1 (by omega) hc.2) [0] (by kernel_rfl) rfl rfl ?_
    simp (disch:=omega) only [↓LD,LA,a0A,seval,ren,List.getElem?_nil,rIm]
    repeat' (with_reducible first|refine Wx.h ?_|refine We.h fun K hK=>?_|(refine hK _ _ _ _ ?_;clear hK K;try clear hM M)|refine Wb.h fun K hK=>?_|(refine hK _ ?_;clear hK K)|(refine Wy.h ?_ ?_;kernel_rfl)|((fail_if_success refine Wz.h ?_);simp (disch:=omega) only [↓LD,LA,a0A,seval,rIm]))
    exact Next.mk (i+1,b0d o ((gt l 0).id+i) (gt l i).ver) (by dsimp only;rw [hgl];kernel_rfl) ⟨by dsimp only;omega,by dsimp only;omega,.inr ⟨hne,hw⟩⟩ (by dsimp only;omega)
  ·have hgl:(b0d o ((gt l 0).id+i) (gt l i).ver).length=o.length+1:=by unfold b0d;rw [if_neg hc];simp
   repeat' (with_reducible first|refine Wx.h ?_|refine We.h fun K hK=>?_|(refine hK _ _ _ _ ?_;clear hK K;try clear hM M)|refine Wb.h fun K hK=>?_|(refine hK _ ?_;clear hK K)|(refine Wy.h ?_ ?_;kernel_rfl)|refine Wq.h ?_ ?_<;>intro h<;>try (exfalso;omega)|((fail_if_success refine Wz.h ?_);first|simp (disch:=omega) only [↓LD,LA,a0A,seval,LEv,rIm,b0W,a0L,ea,Ev.cs,List.map_cons,List.map_nil,-a0A]|(refine And.intro ?_ ?_;omega)|fail))
   all_goals
    refine c0a (t0D o ((gt l 0).id+i) (gt l i).ver (by omega) hc) [0] (by kernel_rfl) rfl rfl ?_
    simp (disch:=omega) only [↓LD,LA,a0A,seval,ren,List.getElem?_nil,rIm]
    repeat' (with_reducible first|refine Wx.h ?_|refine We.h fun K hK=>?_|(refine hK _ _ _ _ ?_;clear hK K;try clear hM M)|refine Wb.h fun K hK=>?_|(refine hK _ ?_;clear hK K)|(refine Wy.h ?_ ?_;kernel_rfl)|((fail_if_success refine Wz.h ?_);simp (disch:=omega) only [↓LD,LA,a0A,seval,rIm]))
    exact Next.mk (i+1,b0d o ((gt l 0).id+i) (gt l i).ver) (by dsimp only;rw [hgl];kernel_rfl) ⟨by dsimp only;omega,by dsimp only;omega,.inr ⟨hne,hw⟩⟩ (by dsimp only;omega)
 ·have hF:ofL l=o:=by
   rcases hF with ⟨h1,h2⟩|⟨h1,h2⟩
   ·rw [h2];unfold ofL;rw [if_pos h1]
   ·rw [h2,List.drop_of_length_le (by omega)];rfl
  rw [hF]
  repeat' (with_reducible first|refine Wx.h ?_|refine Wb.h fun K hK=>?_|(refine hK _ ?_;clear hK K)|refine Wq.h ?_ ?_<;>intro h<;>try (exfalso;omega)|((fail_if_success refine Wz.h ?_);simp (disch:=omega) only [↓LD,LA,a0A,seval]))
  exact end1 rfl rfl (by kernel_rfl) (.sl (T:=57) (xs:=o.flatMap Im.cs) rfl (fun e=>by rw [List.eq_nil_of_length_eq_zero e];rfl)) ⟨rfl,rfl⟩
theorem z0Q (l:List Im)(hl:l.length≤1000000):Con Tryz.prog 54 [.f (fIm l)] [] fun r H'=>r = .ag [D.int (a0Y l).id,D.int (a0Y l).ver]∧H'=[]:=by
 refine Con.walk good x0P (by simp) ?_
 unfold p0E
 simp only [a0J]
 have e1:((l.length:Int)-1).toNat=l.length-1:=by omega
 by_cases h:l.length=0
 ·rw [a0Y,if_pos h]
  repeat' (with_reducible first|refine Wx.h ?_|refine Wb.h fun K hK=>?_|(refine hK _ ?_;clear hK K)|refine Wq.h ?_ ?_<;>intro h<;>try (exfalso;omega)|((fail_if_success refine Wz.h ?_);simp (disch:=omega) only [↓LD,LA,a0A,seval,LIm]))
  exact RetS.still (ds:=[.ag [jI,jI]]) (by kernel_rfl) (by kernel_rfl) (.ags (.cons .f (.cons .f .nil))) ⟨rfl,rfl⟩
 ·rw [a0Y,if_neg h]
  have hk:l.length-1<l.length:=by omega
  repeat' (with_reducible first|refine Wx.h ?_|refine Wb.h fun K hK=>?_|(refine hK _ ?_;clear hK K)|refine Wq.h ?_ ?_<;>intro h<;>try (exfalso;omega)|((fail_if_success refine Wz.h ?_);first|simp (disch:=omega) only [↓LD,LA,a0A,seval,LIm,b0z,h0p,e1,Im.cs,List.map_cons,List.map_nil,-a0A]|(refine And.intro ?_ ?_;omega)|fail))
  generalize gt l (l.length-1)=x
  exact RetS.still (ds:=[.ag [D.int x.id,D.int x.ver]]) (by kernel_rfl) (by kernel_rfl) (.ags (.cons .f (.cons .f .nil))) ⟨rfl,rfl⟩
def cmpZ (a b:Int):Int:=if a<b then -1 else if b<a then 1 else 0
theorem y0n (a:Int):Con Tryz.prog 99 [D.int a] [] fun r H'=>r=D.bool false∧H'=[]:=by
 refine Con.walk good x0A (by simp) ?_
 unfold q0d
 simp only [a0J]
 repeat' (with_reducible first|refine Wx.h ?_|refine Wb.h fun K hK=>?_|(refine hK _ ?_;clear hK K)|((fail_if_success refine Wz.h ?_);simp (disch:=omega) only [↓LD,LA,a0A,seval]))
 exact end1 rfl rfl (by kernel_rfl) .f ⟨rfl,rfl⟩
theorem b1Y (a b:Int):Con Tryz.prog 62 [D.int a,D.int b] [] fun r H'=>r=D.int (cmpZ a b)∧H'=[]:=by
 have h:=y0n
 refine Con.walk good x0V (by simp) ?_
 unfold r0n
 simp only [a0J]
 repeat' (with_reducible first|refine Wx.h ?_|refine Wb.h fun K hK=>?_|(refine hK _ ?_;clear hK K)|((fail_if_success refine Wz.h ?_);simp (disch:=omega) only [↓LD,LA,a0A,seval]))
 refine a0C (h a) rfl rfl rfl ?_
 repeat' (with_reducible first|refine Wx.h ?_|refine Wb.h fun K hK=>?_|(refine hK _ ?_;clear hK K)|((fail_if_success refine Wz.h ?_);simp (disch:=omega) only [↓LD,LA,a0A,seval]))
 refine a0C (h b) rfl rfl rfl ?_
 repeat' (with_reducible first|refine Wx.h ?_|refine Wb.h fun K hK=>?_|(refine hK _ ?_;clear hK K)|refine Wq.h ?_ ?_<;>intro h|((fail_if_success refine Wz.h ?_);simp (disch:=omega) only [↓LD,LA,a0A,seval]))
 all_goals
  refine end1 rfl rfl (by kernel_rfl) .f ⟨congrArg (fun i:Int=>D.f (.v (.int .i64 i))) ?_,rfl⟩
  unfold cmpZ
  (repeat' split)<;>omega
def orL:List Int→Int
 | []=>0
 | x :: l=>if x≠0 then x else orL l
theorem b1e (l:List Int)(hl:l.length≤1000000):Con Tryz.prog 61 [.f (fI l)] [] fun r H'=>r=D.int (orL l)∧H'=[]:=by
 refine Con.walk good x0z (by simp) ?_
 unfold o0a
 simp only [a0J]
 repeat' (with_reducible first|refine Wx.h ?_|refine Wb.h fun K hK=>?_|(refine hK _ ?_;clear hK K)|((fail_if_success refine Wz.h ?_);simp (disch:=omega) only [↓LD,LA,a0A,seval,LSt]))
 refine HS.loopG [3,6,7,8] (fun i:Nat=>⟨frm 18 [(3,jI),(6,.f (fI l)),(7,D.int l.length),(8,D.int i)],[],[]⟩) (fun i=>i≤l.length∧orL l=orL (l.drop i)) (fun i=>l.length-i) 0 (by kernel_rfl) ⟨Nat.zero_le _,rfl⟩ ?_
 rintro i ⟨hi,hF⟩
 by_cases hil:i<l.length
 ·rw [a0H hil,orL] at hF
  by_cases h0:gt l i=0
  ·rw [if_neg (by omega)] at hF
   repeat' (with_reducible first|refine Wx.h ?_|refine Wb.h fun K hK=>?_|(refine hK _ ?_;clear hK K)|(refine wT ?_ ?_;assumption)|refine Wq.h ?_ ?_<;>intro h<;>try (exfalso;omega)|((fail_if_success refine Wz.h ?_);first|simp (disch:=omega) only [↓LD,LA,a0A,seval,LSt]|(refine And.intro ?_ ?_;omega)|fail))
   exact Next.mk (i+1) (by kernel_rfl) ⟨by omega,hF⟩ (by omega)
  ·rw [if_pos h0] at hF
   repeat' (with_reducible first|refine Wx.h ?_|refine Wb.h fun K hK=>?_|(refine hK _ ?_;clear hK K)|(refine wF ?_ ?_;assumption)|refine Wq.h ?_ ?_<;>intro h<;>try (exfalso;omega)|((fail_if_success refine Wz.h ?_);first|simp (disch:=omega) only [↓LD,LA,a0A,seval,LSt]|(refine And.intro ?_ ?_;omega)|fail))
   rw [hF]
   exact end1 rfl rfl (by kernel_rfl) .f ⟨rfl,rfl⟩
 ·rw [List.drop_of_length_le (by omega)] at hF
  repeat' (with_reducible first|refine Wx.h ?_|refine Wb.h fun K hK=>?_|(refine hK _ ?_;clear hK K)|refine Wq.h ?_ ?_<;>intro h<;>try (exfalso;omega)|((fail_if_success refine Wz.h ?_);simp (disch:=omega) only [↓LD,LA,a0A,seval,LSt]))
  rw [hF]
  exact end1 rfl rfl (by kernel_rfl) .f ⟨rfl,rfl⟩
instance {l:List Ev}{H:List Row}{K:D→List Row→Prop}[hl:Kn (IdL l)]:Wa (a0S Tryz.prog (.fn 22 []) [.f (fEv l)] H K) (K (.f (fIm (ofL l))) H):=⟨fun h=>a0C (b1k l hl.h) rfl rfl rfl h⟩
instance {l:List Im}{H:List Row}{K:D→List Row→Prop}[hl:Kn (l.length≤1000000)]:Wa (a0S Tryz.prog (.fn 54 []) [.f (fIm l)] H K) (K (.ag [.f (.v (.int .i64 (a0Y l).id)),.f (.v (.int .i64 (a0Y l).ver))]) H):=⟨fun h=>a0C (z0Q l hl.h) rfl rfl rfl h⟩
instance {l:List Ev}{H:List Row}{K:Bool→D→List Row→Prop}[hl:Kn (IdL l)]:Wa (a0j Tryz.prog (.fn 22 []) [.f (fEv l)] H K) (K true (.f (fIm (ofL l))) H):=⟨fun h=>a0N (b1k l hl.h) rfl rfl rfl h⟩
instance {a b:Int}{H:List Row}{K:Bool→D→List Row→Prop}:Wa (a0j Tryz.prog (.fn 62 []) [.f (.v (.int .i64 a)),.f (.v (.int .i64 b))] H K) (K true (.f (.v (.int .i64 (cmpZ a b)))) H):=⟨fun h=>a0N (b1Y a b) rfl rfl rfl h⟩
set_option maxRecDepth 100000 in
theorem g0s (a b:List Im)(ha:a.length≤1000000)(hb:b.length≤1000000):Con Tryz.prog 26 [.f (fIm a),.f (fIm b)] [] fun r H'=>r=D.int (cmpI a b)∧H'=[]:=by
 haveI:Kn (a.length≤1000000):=⟨ha⟩
 haveI:Kn (b.length≤1000000):=⟨hb⟩
 have hc:cmpI a b=orL [cmpZ (a0Y a).ver (a0Y b).ver,cmpZ (a0Y a).id (a0Y b).id]:=by
  unfold cmpI orL orL orL cmpZ
  (repeat' split)<;>omega
 refine Con.walk good o0U (by simp) ?_
 unfold h0P
 simp only [a0J]
 repeat' (with_reducible first|refine Wx.h ?_|refine We.h fun K hK=>?_|(refine hK _ _ _ _ ?_;clear hK K;try clear hM M)|refine Wb.h fun K hK=>?_|(refine hK _ ?_;clear hK K)|(refine Wy.h ?_ ?_;kernel_rfl)|((fail_if_success refine Wz.h ?_);simp (disch:=omega) only [↓LD,LA,a0A,seval]))
 all_goals
  refine c0i (args0:=[.f (fI [cmpZ (a0Y a).ver (a0Y b).ver,cmpZ (a0Y a).id (a0Y b).id])]) (b1e _ (by simp)) (.cons (.sl (T:=3) (xs:=[iF (cmpZ (a0Y a).ver (a0Y b).ver),iF (cmpZ (a0Y a).id (a0Y b).id)]) rfl (fun e=>absurd e (by decide))) .nil) ⟨.f .v,by simp⟩ ?_
  rw [←hc]
  repeat' (with_reducible first|refine Wx.h ?_|refine We.h fun K hK=>?_|(refine hK _ _ _ _ ?_;clear hK K;try clear hM M)|(refine hK _ ?_;clear hK K)|(refine Wy.h ?_ ?_;kernel_rfl)|((fail_if_success refine Wz.h ?_);simp (disch:=omega) only [↓LD,LA,a0A,seval]))
  exact end1 rfl rfl (by kernel_rfl) .f ⟨rfl,rfl⟩
instance {a b:List Im}{H:List Row}{K:D→List Row→Prop}[ha:Kn (a.length≤1000000)][hb:Kn (b.length≤1000000)]:Wa (a0S Tryz.prog (.fn 26 []) [.f (fIm a),.f (fIm b)] H K) (K (.f (.v (.int .i64 (cmpI a b)))) H):=⟨fun h=>a0C (g0s a b ha.h hb.h) rfl rfl rfl h⟩
instance {a b:List Im}{H:List Row}{K:Bool→D→List Row→Prop}[ha:Kn (a.length≤1000000)][hb:Kn (b.length≤1000000)]:Wa (a0j Tryz.prog (.fn 26 []) [.f (fIm a),.f (fIm b)] H K) (K true (.f (.v (.int .i64 (cmpI a b)))) H):=⟨fun h=>a0N (g0s a b ha.h hb.h) rfl rfl rfl h⟩
theorem c1l {x y:Im}(h:x.id≤y.id∨200<x.id∨x.ver≤y.ver∨verB x.ver=false):okI y x=false:=by
 unfold okI
 rcases h with h|h|h|h
 ·rw [decide_eq_false (by omega)];rfl
 ·rw [decide_eq_false (p:=x.id≤200) (by omega)];simp
 ·rw [decide_eq_false (p:=y.ver<x.ver) (by omega)];simp
 ·rw [h];simp
theorem h1d {x y:Im}(h1:y.id<x.id)(h2:x.id≤200)(h3:y.ver<x.ver)(h4:verB x.ver=true):okI y x=true:=by
 unfold okI
 rw [decide_eq_true h1,decide_eq_true h2,decide_eq_true h3,h4];rfl
set_option maxRecDepth 100000 in
theorem x0H (l:List Im)(hl:l.length≤1000000):Con Tryz.prog 40 [.f (fIm l)] [] fun r H'=>r=D.bool (c0x l)∧H'=[]:=by
 refine Con.walk good t0c (by simp) ?_
 unfold l0w
 simp only [a0J]
 repeat' (with_reducible first|refine Wx.h ?_|refine Wb.h fun K hK=>?_|(refine hK _ ?_;clear hK K)|((fail_if_success refine Wz.h ?_);simp (disch:=omega) only [↓LD,LA,a0A,seval,LIm]))
 refine HS.loopG [3,7,8,9] (fun x:Nat × Im=>⟨frm 38 [(3,.pt 0 0),(7,.f (fIm l)),(8,D.int l.length),(9,D.int x.1)],[.box 57 [D.int x.2.id,D.int x.2.ver]],[]⟩) (fun x=>x.1≤l.length∧c0x l=d0B x.2 (l.drop x.1)) (fun x=>l.length-x.1) (0,⟨0,0⟩) (by kernel_rfl) ⟨Nat.zero_le _,rfl⟩ ?_
 rintro ⟨i,y⟩ ⟨hi,hF⟩
 dsimp only at hi hF
 by_cases hil:i<l.length
 ·rw [a0H hil,d0B] at hF
  have hld:=fun H:List Row=>h0p (H:=H) hil
  generalize gt l i=x at *
  have hf:okI y x=false→D.bool false=D.bool (c0x l):=fun h=>by rw [hF,h,Bool.false_and]
  have ht:okI y x=true→c0x l=d0B x (l.drop (i+1)):=fun h=>by rw [hF,h,Bool.true_and]
  clear hF
  repeat' (with_reducible first|refine Wx.h ?_|refine Wb.h fun K hK=>?_|(refine hK _ ?_;clear hK K)|refine Wq.h ?_ ?_<;>intro h<;>try (exfalso;omega)|((fail_if_success refine Wz.h ?_);first|simp (disch:=omega) only [↓LD,LA,a0A,seval,LIm,b0z,hld,Im.cs,List.map_cons,List.map_nil,-a0A]|(refine And.intro ?_ ?_;omega)|fail))
  ·exact end1 rfl rfl (by kernel_rfl) .f ⟨hf (c1l (.inl (by assumption))),rfl⟩
  ·exact end1 rfl rfl (by kernel_rfl) .f ⟨hf (c1l (.inr (.inl (by assumption)))),rfl⟩
  ·exact end1 rfl rfl (by kernel_rfl) .f ⟨hf (c1l (.inr (.inr (.inl (by assumption))))),rfl⟩
  ·exact end1 rfl rfl (by kernel_rfl) .f ⟨hf (c1l (.inr (.inr (.inr (by simpa using h))))),rfl⟩
  ·exact Next.mk (i+1,x) (by kernel_rfl) ⟨by dsimp only;omega,ht (h1d (by omega) (by omega) (by omega) (by simpa using h))⟩ (by dsimp only;omega)
 ·rw [List.drop_of_length_le (by omega)] at hF
  repeat' (with_reducible first|refine Wx.h ?_|refine Wb.h fun K hK=>?_|(refine hK _ ?_;clear hK K)|refine Wq.h ?_ ?_<;>intro h<;>try (exfalso;omega)|((fail_if_success refine Wz.h ?_);simp (disch:=omega) only [↓LD,LA,a0A,seval,LIm]))
  rw [hF]
  exact end1 rfl rfl (by kernel_rfl) .f ⟨rfl,rfl⟩
def s0C:SCode :=
  (jq ([.a 2 (.box 73 (.t 0)),.a 3 (.box 73 (.t 1)),.a 4 (.mv kF)]) (jq ((ap [jo 5 0 2,jl 6 5,jo 7 0 3,jl 8 7,jB 9 .eql 6 8] (ap [jm 10 9,gO 11 1
 2 10 true] (ap [gL 12 11 10 true,gO 13 1 3 10 true,gL 14 13 10 true,jG 15 (.bin .eql (.t 12) (.t 14)) 10 true] (ap [.a 16 (.pick (.t 10) (.t 15)
 kF),jm 17 16,gO 18 2 2 17 true] (ap [gL 19 18 17 true,gO 20 2 3 17 true,gL 21 20 17 true,jG 22 (.bin .eql (.t 19) (.t 21)) 17 true] (ap [.a 23
 (.pick (.t 17) (.t 22) kF),jm 24 23,gO 25 3 2 24 true] (ap [gL 26 25 24 true,gO 27 3 3 24 true,gL 28 27 24 true,jG 29 (.bin .eql (.t 26) (.t 28))
 24 true] (ap [.a 30 (.pick (.t 24) (.t 29) kF),jm 31 30,gO 32 4 2 31 true] (ap [gL 33 32 31 true,gO 34 4 3 31 true,gL 35 34 31 true,jG 36 (.bin
 .eql (.t 33) (.t 35)) 31 true] (ap [.a 37 (.pick (.t 31) (.t 36) kF),jm 38 37,gO 39 5 2 38 true] (ap [gL 40 39 38 true,gO 41 5 3 38 true,gL 42 41
 38 true,jG 43 (.bin .eql (.t 40) (.t 42)) 38 true] (ap [.a 44 (.pick (.t 38) (.t 43) kF),jm 45 44,gO 46 6 2 45 true] (ap [gL 47 46 45 true,gO 48 6
 3 45 true,gL 49 48 45 true,jG 50 (.bin .eql (.t 47) (.t 49)) 45 true] (ap [.a 51 (.pick (.t 45) (.t 50) kF),jm 52 51,gO 53 7 2 52 true] (ap [gL 54
 53 52 true,gO 55 7 3 52 true,gL 56 55 52 true,jG 57 (.call (kC 124) [(.t 54),(.t 56)]) 52 true] (ap [.a 58 (.pick (.t 52) (.t 57) kF),jm 59 58,gO
 60 8 2 59 true] (ap [gL 61 60 59 true,gO 62 8 3 59 true,gL 63 62 59 true,jG 64 (.call (kC 125) [(.t 61),(.t 63),(kC 126)]) 59 true] [.a 65 (.pick
 (.t 59) (.t 64) kF),jm 4 65])))))))))))))))))) .ret))
theorem x0j:Fn Tryz.prog 77 66 [.t 4] s0C:=.of Tryz.func77 (by kernel_rfl)
def e0n:SCode :=
  (jq ([.a 6 (.mv kF)]) (.seq (jq ([jm 10 0,je 11 10,jm 12 1,je 13 12,jB 14 .neq 11 13]) (jc 14 (jq ([.a 6 (.mv kF)]) .ret) .skip)) (.seq (jq ([jm 15
 0,je 16 15,jk 17 0]) (.block 0 (.loop (jq ([jB 18 .lss 17 16]) (.seq (jc 18 .skip (.exit 0)) (.seq (.block 1 (jq ([jm 19 17,jx 20 3 15 17,jL 21 3
 20,.a 8 (.alloc 123 [jN,jI,jI]),jm 7 19,.n (.store 3 (.t 8) (.t 21))]) (jq ([jm 22 1,jm 23 7,jx 24 3 22 23,jL 25 3 24,.a 9 (.alloc 123 [jN,
 jI,jI]),.n (.store 3 (.t 9) (.t 25))]) (jq ((ap [jm 26 2,jL 27 3 8,jL 28 3 9,.a 29 (.call (.t 26) [(.t 27),(.t 28)])] [.a 30 (.unot (.t 29))]))
 (jc 30 (jq ([.a 6 (.mv kF)]) .ret) .skip))))) (.ops [jb 31 .add 17 1,jm 17 31]))))))) (jq ([.a 6 (.mv kT)]) .ret))))
theorem j0k:Fn Tryz.prog 125 32 [.t 6] e0n:=.of Tryz.func125 (by kernel_rfl)
def h0D:SCode :=
  (jq ([.a 2 (.box 123 (.t 0)),.a 3 (.box 123 (.t 1)),.a 4 (.mv kF)]) (jq ((ap [jo 5 0 2,jl 6 5,jo 7 0 3,jl 8 7,.a 9 (.call (kC 154) [(.t 6),(.t
 8)])] (ap [jm 10 9,gO 11 1 2 10 true] (ap [gL 12 11 10 true,gO 13 1 3 10 true,gL 14 13 10 true,jG 15 (.bin .eql (.t 12) (.t 14)) 10 true] (ap [.a
 16 (.pick (.t 10) (.t 15) kF),jm 17 16,gO 18 2 2 17 true] (ap [gL 19 18 17 true,gO 20 2 3 17 true,gL 21 20 17 true,jG 22 (.bin .eql (.t 19) (.t
 21)) 17 true] [.a 23 (.pick (.t 17) (.t 22) kF),jm 4 23])))))) .ret))
theorem n0o:Fn Tryz.prog 126 24 [.t 4] h0D:=.of Tryz.func126 (by kernel_rfl)
def i0o:SCode :=
  (jq ([.a 4 (.mv kF)]) (.seq (jq ([jm 6 0,je 7 6,jm 8 1,je 9 8,jB 10 .neq 7 9]) (jc 10 (jq ([.a 4 (.mv kF)]) .ret) .skip)) (.seq (jq ([jm 11 0,je
 12 11,jk 13 0]) (.block 0 (.loop (jq ([jB 14 .lss 13 12]) (.seq (jc 14 .skip (.exit 0)) (.seq (.block 1 (jq ([jm 15 13,jm 5 15]) (.seq (.drw [jm 16
 0,jm 17 5,jx 18 1 16 17,jl 19 18,jm 20 1,jm 21 5,jx 22 1 20 21,jl 23 22,jB 24 .neq 19 23] [0,0,3,7,0,0,48,112,255]) (jc 24 (jq ([.a 4
 (.mv kF)]) .ret) .skip)))) (.ops [jb 25 .add 13 1,jm 13 25]))))))) (jq ([.a 4 (.mv kT)]) .ret))))
theorem s0L:Fn Tryz.prog 154 26 [.t 4] i0o:=.of Tryz.func154 (by kernel_rfl)
end Go.Proofs.YthjgmldnegaaiaaGreatDoor.Mir
