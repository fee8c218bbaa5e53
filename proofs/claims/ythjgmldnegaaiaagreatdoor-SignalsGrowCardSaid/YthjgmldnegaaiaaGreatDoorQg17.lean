/- Lemmas for the proof. No condition. -/
import Derived.Test.YthjgmldnegaaiaaGreatDoorQg16
import Derived.Test.YthjgmldnegaaiaaGreatDoorCards
import Derived.Deep.DeepHandedRow
set_option linter.unusedVariables false
set_option linter.unusedSimpArgs false
namespace Go.Proofs.YthjgmldnegaaiaaGreatDoor.Mir
open Go Go.RowKit
set_option maxHeartbeats 4000000
theorem d1p {L:Br}(hu:Uni (Bg L))(h8:L.length<8){t:Br}(ht:TrU (Bg L) t){l:List Ev}(hl:l∈L){a n:Nat}(h1:0<n)(h2:a+n≤l.length)(hd:a=0∨Dn t (l.take a)) :
  ∃ f,AddIn t (l.take a) ((l.drop a).take n)∧addP t (ofL (l.take a)) ((l.drop a).take n)=(addU t (l.take (a+n)),f,0)∧TrU (Bg L) (addU t (l.take (a+n)))∧Dn (addU t (l.take (a+n))) (l.take (a+n))∧∀ b∈t,Dn (addU t (l.take (a+n))) b:=by
 have he:(l.drop a).take n≠[]:=j0S h1 (by rw [List.length_drop];omega)
 have hx:Bg L (l.take a++(l.drop a).take n):=by
  rw [j0R]
  exact ⟨j0S (by omega) h2,l,hl,List.take_prefix _ _⟩
 rcases d1Z hu ht he hx (Nat.lt_of_le_of_lt ht.few h8) with ⟨_,h⟩|⟨h,_⟩
 ·rw [j0R] at h hx
  refine ⟨_,.of hu (by omega) ht he (by rw [j0R];exact hx),h,g1B hu ht hx,dn_add.2 (.inr (List.prefix_refl _)),fun b hb=>dn_add.2 (.inl (i1a hb))⟩
 ·refine absurd ?_ h
  rcases hd with rfl|hd
  ·exact .inl rfl
  ·exact .inr hd
theorem f1p {u:Br}(hk:TrK u):(u.length:Int)=1→((misL u).length:Int)=0:=fun h=>by
 obtain ⟨b,rfl⟩:=List.length_eq_one_iff.1 (by omega:u.length=1)
 rw [e1S (hk.ok b (by simp)).1];rfl
instance {s:List (List Rw)}{a:List Int}{d:List Rd}{H:List Row}{K:D→List Row→Prop}:Wa (a0T Tryz.prog (.fn 23 []) [.ag [.f (fSs s),.f (fI a),.f (fR d)]] H K) (K (.f (fBr (b0c s a d))) H):=⟨fun h=>a0C (k0h s a d) rfl rfl rfl h⟩
set_option maxRecDepth 100000 in
theorem c_law_SignalsGrow (s:List (List Rw))(a:List Int)(d:List Rd)(cuts:List Int):Con Tryz.prog 8 [lnD s a d,.f (fI cuts)] [] fun r H'=>r = .f (.v (.bool true))∧H'=[]:=by
 have hu:=d1x s a d
 have hB:=s0c s a d
 obtain ⟨L,hL⟩:∃ L,b0c s a d=L:=⟨_,rfl⟩
 rw [hL] at hu hB
 have h8:L.length<8:=by omega
 refine Con.walk good f0V (by simp) ?_
 unfold d0F lnD
 simp only [a0J]
 repeat' (with_reducible first|refine Wx.h ?_|refine Wb.h fun K hK=>?_|(refine hK _ ?_;clear hK K)|((fail_if_success refine Wz.h ?_);simp (disch:=omega) only [↓LD,LA,a0A,seval,LBr,LSs,hL]))
 refine HS.view (View.bcell 1 0 (.f (.s [] 0)) rfl rfl .ns) ?_
 refine HS.loopG [1,5,6,7,8] (fun x:Nat × Br=>⟨frm 81 [(1,.f (fI cuts)),(5,.pt 0 0),(6,.f (fBr L)),(7,D.int (allL (sigM x.2)).length),(8,D.int x.1)],[.box 30 [.f (fBr x.2)]],[]⟩) (fun x=>x.1≤L.length∧TrU (Bg L) x.2) (fun x=>L.length-x.1) (0,[]) (by kernel_rfl) ⟨Nat.zero_le _,TrU.nil⟩ ?_
 rintro ⟨i,t⟩ ⟨hi,ht⟩
 dsimp only at hi ht
 by_cases hil:i<L.length
 rotate_left
 ·repeat' (with_reducible first|refine Wx.h ?_|refine Wb.h fun K hK=>?_|(refine hK _ ?_;clear hK K)|refine Wq.h ?_ ?_<;>intro h<;>try (exfalso;omega)|((fail_if_success refine Wz.h ?_);simp (disch:=omega) only [↓LD,LA,a0A,seval,LBr]))
  exact end1 rfl rfl (by kernel_rfl) .f ⟨rfl,rfl⟩
 have hgm:=a0M hil
 have hgk:=hB.1 _ hgm
 have hlen:=hgk.len
 generalize hgl:gt L i=l at *
 haveI:Kn (BrOk l):=⟨hgk⟩
 have hP0:=Prt.start l cuts
 have hbl:(batL l cuts).length≤l.length:=u0o
 generalize hbs:batL l cuts=bs at *
 repeat' (with_reducible first|refine Wx.h ?_|refine Wb.h fun K hK=>?_|(refine hK _ ?_;clear hK K)|refine Wq.h ?_ ?_<;>intro h<;>try (exfalso;omega)|((fail_if_success refine Wz.h ?_);first|simp (disch:=omega) only [↓LD,LA,a0A,seval,LBr,LBp,hgl,hbs]|(refine And.intro ?_ ?_;omega)|fail))
 refine HS.loopG [1,5,6,7,8,9,10] (fun x:Nat × Nat × Br=>⟨frm 81 [(1,.f (fI cuts)),(5,.pt 0 0),(6,.f (fBr L)),(7,D.int (allL (sigM x.2.2)).length),(8,D.int i),(9,.f (fBp bs)),(10,D.int x.1)],[.box 30 [.f (fBr x.2.2)]],[]⟩) (fun x=>x.1≤bs.length∧Prt l bs x.1 x.2.1∧TrU (Bg L) x.2.2∧(x.2.1=0∨Dn x.2.2 (l.take x.2.1))) (fun x=>bs.length-x.1) (0,0,t) (by kernel_rfl) ⟨Nat.zero_le _,hP0,ht,.inl rfl⟩ ?_
 clear ht hP0
 rintro ⟨k,b,t⟩ ⟨hk,hP,ht,hd⟩
 dsimp only at hk hP ht hd
 by_cases hkl:k<bs.length
 rotate_left
 ·repeat' (with_reducible first|refine Wx.h ?_|refine Wb.h fun K hK=>?_|(refine hK _ ?_;clear hK K)|refine Wq.h ?_ ?_<;>intro h<;>try (exfalso;omega)|((fail_if_success refine Wz.h ?_);simp (disch:=omega) only [↓LD,LA,a0A,seval,LBr,LBp]))
  exact Next.mk (i+1,t) (by kernel_rfl) ⟨by dsimp only;omega,ht⟩ (by dsimp only;omega)
 obtain ⟨n,h1,h2,hg,hP2⟩:=hP.step hkl
 obtain ⟨f,hin,hA,hu1,hu2,hu3⟩:=d1p hu h8 ht hgm h1 h2 hd
 haveI:=Kn.mk hin
 have hld:=fun H:List Row=>d1n (H:=H) hkl
 rw [hg] at hld
 have hmo:=z0o hu3
 generalize addU t (l.take (b+n))=u at *
 have huk:=hu1.k hu (by omega)
 haveI:Kn (TrK u):=⟨huk⟩
 have hone:=f1p huk
 have hle:=f1y u
 repeat' (with_reducible first|refine Wx.h ?_|refine We.h fun K hK=>?_|(refine hK _ _ _ _ ?_;clear hK K;try clear hM M)|refine Wb.h fun K hK=>?_|(refine hK _ ?_;clear hK K)|(refine Wy.h ?_ ?_;kernel_rfl)|refine Wq.h ?_ ?_<;>intro h<;>try (exfalso;omega)|((fail_if_success refine Wz.h ?_);first|simp (disch:=omega) only [↓LD,LA,a0A,seval,LBp,LBr,LEv,hld,hA,Bp.cs,List.map_cons,List.map_nil,-a0A]|(refine And.intro ?_ ?_;omega)|fail))
 all_goals exact Next.mk (k+1,b+n,u) (by kernel_rfl) ⟨by dsimp only;omega,hP2,hu1,.inr hu2⟩ (by dsimp only;omega)
end Go.Proofs.YthjgmldnegaaiaaGreatDoor.Mir
namespace Go.Proofs.YthjgmldnegaaiaaGreatDoor
open Go Go.RowKit
theorem signalsGrow_walk (W:World)(hg:∀ p∈Mir.glTab,Mir.RF W (fun _=>False) p.1 p.2)(x:LnIn)(a1:Option Addr)(c1:Nat)(cs:List Int)(h:lnOk W x)(h1:isOk W a1 c1 cs) :
  Calls Tryz.prog 8 #[.agg (lnV x).toArray,.slice a1 cs.length c1] W fun e w'=>e = .returned (.bool true)∧Below W.heap.size W w' :=
 Mir.Con.calls (Mir.c_law_SignalsGrow (lnS x) (lnA x) (lnR x) cs) hg fun _ hA=>.one (r_ln hA h) (.one (.f (Mir.rf_ints h1 hA)) .none)
end Go.Proofs.YthjgmldnegaaiaaGreatDoor
namespace Go.Proofs.YthjgmldnegaaiaaGreatDoor.signalsGrow
open Go
set_option maxHeartbeats 0 in
theorem closed:joinedFacts Tryz.prog 8 Tryz.f8 (OpenSpec.ofChange Rows.signalsGrowSpec).bare Rows.signalsGrowRow=true:=by
 unfold joinedFacts
 repeat' (with_reducible refine Bool.and_eq_true_iff.2 ⟨?_,?_⟩)
 all_goals as_aux_lemma=>kernel_rfl
end Go.Proofs.YthjgmldnegaaiaaGreatDoor.signalsGrow
