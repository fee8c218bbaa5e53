/- Lemmas for the proof. No condition. -/
import Derived.Test.YthjgmldnegaaiaaGreatDoorQp15
import Derived.Test.YthjgmldnegaaiaaGreatDoorCards
import Derived.Deep.DeepHandedRow
set_option linter.unusedVariables false
set_option linter.unusedSimpArgs false
namespace Go.Proofs.YthjgmldnegaaiaaGreatDoor.Mir
open Go Go.RowKit
set_option maxHeartbeats 4000000
theorem v0C {g:List Bp}:slcS (.f (fBp g))=some g.length:=id rfl
theorem t0k {g:List Bp}{sz:Nat}{k:IntKind}{i:Int}{K:D→Prop}:idxS sz (.f (fBp g)) (.f (.v (.int k i))) K=((0≤i∧i<g.length)∧K (.rf ((g.flatMap Bp.cs).drop (i.toNat*sz)))):=id rfl
theorem v0z {H:List Row}{g:List Bp}{k:Nat}(hk:k<g.length):loadA H 4 (.rf ((g.flatMap Bp.cs).drop (k*4)))=some (.ag ((Bp.cs (gt g k)).map .f)):=b0Q Bp.cs_len hk
theorem LBp:type_of% @v0C∧type_of% @t0k:=⟨@v0C,@t0k⟩
instance {l:List Ev}{cuts:List Int}{H:List Row}{K:D→List Row→Prop}[hl:Kn (BrOk l)]:Wa (a0S Tryz.prog (.fn 11 []) [.f (fEv l),.f (fI cuts)] H K) (K (.f (fBp (batL l cuts))) H):=⟨fun k=>a0C (q0Z l cuts hl.h) rfl rfl rfl k⟩
theorem v0t:ofL []=[]:=by unfold ofL;rw [if_pos rfl]
theorem c1g {l:List Ev}:curL [l]=l:=rfl
theorem g0B {l:List Ev}(hb:BrOk l){a b n:Nat}(ha:a≤l.length)(h1:0<n)(h2:b+n≤l.length):AddIn (prt l a) (l.take b) ((l.drop b).take n) :=
 .of (n0J hb) (by simp) (u0U ha) (n0P h1 h2).1 (n0P h1 h2).2
theorem g1J {l:List Ev}(hb:BrOk l){a:Nat}(ha:a≤l.length):TrK (prt l a):=(u0U ha).k (n0J hb) (by simp)
theorem f1D {t:Br}{p:List Im}{l:List Ev}(h:addP t p l=(t,false,0)):x0k t p l=true:=by unfold x0k;rw [h];rfl
set_option maxRecDepth 100000 in
theorem c_law_TreeParts (steps:List Rw)(defs:List Rd)(cuts again:List Int):Con Tryz.prog 3 [.f (fRw steps),.f (fR defs),.f (fI cuts),.f (fI again)] [] fun r H'=>r = .f (.v (.bool true))∧H'=[]:=by
 have hb:BrOk (f0w [] steps defs):=c1b BrOk.nil
 obtain ⟨l,hl⟩:∃ l,f0w [] steps defs=l:=⟨_,rfl⟩
 rw [hl] at hb
 haveI:Kn (BrOk l):=⟨hb⟩
 have hll:=hb.len
 refine Con.walk good h0N (by simp) ?_
 unfold e0B
 simp only [a0I]
 obtain ⟨bs,hbs⟩:∃ bs,batL l cuts=bs:=⟨_,rfl⟩
 have hP0:=Prt.start l cuts
 have hbl:(batL l cuts).length≤l.length:=t0b
 rw [hbs] at hP0 hbl
 repeat' (with_reducible first|refine Wx.h ?_|refine Wb.h fun K hK=>?_|(refine hK _ ?_;clear hK K)|refine Wq.h ?_ ?_<;>intro h|((fail_if_success refine Wz.h ?_);simp (disch:=omega) only [↓LD,LA,a0A,seval,LEv,hl,hbs]))
 ·exact end1 rfl rfl (by kernel_rfl) .f ⟨rfl,rfl⟩
 have hne:l≠[]:=fun e=>by rw [e] at h;simp at h
 refine HS.view (View.bcell 0 0 (.f (.s [] 0)) rfl rfl .ns) ?_
 refine HS.loopG [3,9,10,11,12] (fun x:Nat × Nat=>⟨frm 129 [(3,.f (fI again)),(9,.f (fEv l)),(10,.pt 0 0),(11,.f (fBp bs)),(12,D.int x.1)],[.box 30 [.f (fBr (prt l x.2))]],[]⟩) (fun x=>x.1≤bs.length∧Prt l bs x.1 x.2) (fun x=>bs.length-x.1) (0,0) (by kernel_rfl) ⟨Nat.zero_le _,hP0⟩ ?_
 rintro ⟨i,a⟩ ⟨hi,hP⟩
 dsimp only at hi hP
 by_cases hil:i<bs.length
 ·obtain ⟨n,h1,h2,hg,hP2⟩:=hP.step hil
  have hA:=u0h hb h1 h2
  haveI:=Kn.mk (g0B hb hP.le h1 h2)
  have hld:=fun H:List Row=>v0z (H:=H) hil
  rw [hg] at hld
  by_cases hia:i<again.length
  ·have pk:=b0v (x:=gt again i) (n:=(i:Int)+1) (by omega)
   obtain ⟨c,hc⟩:∃ c:Nat,pick (gt again i) ((i:Int)+1)=c:=⟨(pick (gt again i) ((i:Int)+1)).toNat,by omega⟩
   rw [hc] at pk
   obtain ⟨b,m,hg2,h3,h4⟩:=hP2.old c (by omega)
   have hB:=c1R hb h3 h4 h2
   haveI:=Kn.mk (g0B hb (a:=a+n) h2 h3 (show b+m≤l.length by omega))
   have hld2:=fun H:List Row=>v0z (H:=H) (g:=bs) (k:=c) (by omega)
   rw [hg2] at hld2
   have hk:=f1D hB
   haveI:Kn (TrK (prt l (a+n))):=⟨g1J hb h2⟩
   repeat' (with_reducible first|refine Wx.h ?_|refine We.h fun K hK=>?_|refine Wd.h fun K M hK hM=>?_|(refine hK _ _ _ _ ?_;clear hK K;try clear hM M)|refine Wb.h fun K hK=>?_|(refine hK _ ?_;clear hK K)|(refine Wy.h ?_ ?_;kernel_rfl)|refine Wq.h ?_ ?_<;>intro h<;>try (exfalso;omega)|((fail_if_success refine Wz.h ?_);first|simp (disch:=omega) only [↓LD,LA,a0A,seval,LBp,LBr,hld,hld2,hA,hB,hc,hk,e0N,Bp.cs,Int.toNat_natCast,List.map_cons,List.map_nil,-a0A]|(refine And.intro ?_ ?_;omega)|fail))
   all_goals exact Next.mk (i+1,a+n) (by kernel_rfl) ⟨by dsimp only;omega,hP2⟩ (by dsimp only;omega)
  ·repeat' (with_reducible first|refine Wx.h ?_|refine We.h fun K hK=>?_|(refine hK _ _ _ _ ?_;clear hK K;try clear hM M)|refine Wb.h fun K hK=>?_|(refine hK _ ?_;clear hK K)|(refine Wy.h ?_ ?_;kernel_rfl)|refine Wq.h ?_ ?_<;>intro h<;>try (exfalso;omega)|((fail_if_success refine Wz.h ?_);first|simp (disch:=omega) only [↓LD,LA,a0A,seval,LBp,LBr,hld,hA,Bp.cs,List.map_cons,List.map_nil,-a0A]|(refine And.intro ?_ ?_;omega)|fail))
   all_goals exact Next.mk (i+1,a+n) (by kernel_rfl) ⟨by dsimp only;omega,hP2⟩ (by dsimp only;omega)
 ·have ha:=hP.stop hil
  subst ha
  rw [t0V hne]
  have hW:=x0X hb hne
  have hfl:=hb.fitL
  have hk1:TrK [l]:=by
   have:=g1J hb (Nat.le_refl l.length)
   rwa [t0V hne] at this
  rw [v0t] at hW
  have hin:AddIn [] [] l:=by
   have:=g0B hb (a:=0) (b:=0) (n:=l.length) (Nat.zero_le _) (List.length_pos_iff.2 hne) (by omega)
   rwa [List.take_zero,List.drop_zero,List.take_length,prt,if_pos rfl] at this
  have hcA:=o0A [] (.v (.string ⟨#[]⟩)) (.v (.string ⟨#[]⟩)) [] l hin.tk (by simp) hfl (by have:=hin.hb;rwa [v0t] at this)
  rw [hW] at hcA
  haveI:Kn (TrK [l]):=⟨hk1⟩
  haveI:Kn (FitL l):=⟨hfl⟩
  haveI:Kn (FitL (curL [l])):=⟨hfl⟩
  repeat' (with_reducible first|refine Wx.h ?_|refine Wb.h fun K hK=>?_|(refine hK _ ?_;clear hK K)|refine Wq.h ?_ ?_<;>intro h<;>try (exfalso;omega)|((fail_if_success refine Wz.h ?_);simp (disch:=omega) only [↓LD,LA,a0A,seval,LBp,LBr,LEv]))
  refine e0E (args0:=[.ag [.f (fBr [])],.ag [.f (.v (.string ⟨#[]⟩)),.f (.v (.string ⟨#[]⟩)),.f (fIm []),.f (fEv l)]]) (a0C hcA rfl rfl rfl ?_) (by repeat' (first|exact WDs.nil|refine WDs.cons ?_ ?_|exact WD.refl|exact WD.f .ns|exact WD.f .es|refine WD.ags ?_|refine WD.f (WF.ls ?_)|exact WFs.nil|refine WFs.cons ?_ ?_|exact WF.refl|exact WF.ns|exact WF.es))
  repeat' (with_reducible first|refine Wx.h ?_|refine Wb.h fun K hK=>?_|(refine hK _ ?_;clear hK K)|((fail_if_success refine Wz.h ?_);simp (disch:=omega) only [↓LD,LA,a0A,seval,LBp,LBr,LEv,e0N,c1W,c1g]))
  all_goals exact end1 rfl rfl (by kernel_rfl) .f ⟨rfl,rfl⟩
end Go.Proofs.YthjgmldnegaaiaaGreatDoor.Mir
namespace Go.Proofs.YthjgmldnegaaiaaGreatDoor
open Go Go.RowKit
theorem treeParts_walk (W:World)(hg:∀ p∈Mir.glTab,Mir.RF W (fun _=>False) p.1 p.2)(a0:Option Addr)(c0:Nat)(xs:List RwIn)(a1:Option Addr)(c1:Nat)(ys:List w0i)(a2:Option Addr)(c2:Nat)(cs:List Int)(a3:Option Addr)(c3:Nat)(gs:List Int)(h:InS rwV (rwOk W) 64 W a0 c0 xs)(k:InS rawV (c1O W) 40 W a1 c1 ys)(h2:isOk W a2 c2 cs)(h3:isOk W a3 c3 gs) :
  Calls Tryz.prog 3 #[.slice a0 xs.length c0,.slice a1 ys.length c1,.slice a2 cs.length c2,.slice a3 gs.length c3] W fun e w'=>e = .returned (.bool true)∧Below W.heap.size W w' :=
 Mir.Con.calls (Mir.c_law_TreeParts (xs.map rwDD) (ys.map rawD) cs gs) hg fun _ hA=>.one (.f (f1Y hA h)) (.one (.f (e1u hA k)) (.one (.f (Mir.rf_ints h2 hA)) (.one (.f (Mir.rf_ints h3 hA)) .none)))
end Go.Proofs.YthjgmldnegaaiaaGreatDoor
namespace Go.Proofs.YthjgmldnegaaiaaGreatDoor.treeParts
open Go
set_option maxHeartbeats 0 in
theorem closed:joinedFacts Tryz.prog 3 Tryz.f3 (OpenSpec.ofChange Rows.treePartsSpec).bare Rows.treePartsRow=true:=by
 unfold joinedFacts
 repeat' (with_reducible refine Bool.and_eq_true_iff.2 ⟨?_,?_⟩)
 all_goals as_aux_lemma=>kernel_rfl
end Go.Proofs.YthjgmldnegaaiaaGreatDoor.treeParts
