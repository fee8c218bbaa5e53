/- Lemmas for the proof. No condition. -/
import Derived.Test.YthjgmldnegaaiaaGreatDoorQt16
import Derived.Test.YthjgmldnegaaiaaGreatDoorCards
import Derived.Deep.DeepHandedRow
set_option linter.unusedVariables false
set_option linter.unusedSimpArgs false
namespace Go.Proofs.YthjgmldnegaaiaaGreatDoor.Mir
open Go Go.RowKit
set_option maxHeartbeats 4000000
theorem y0P {H:List Row}{g:List Bp}{sz:Nat}:b0X H sz (.f (fBp g))=some (g.length,g.flatMap Bp.cs):=id rfl
theorem h1M:inf Tryz.prog 38=some (4,80,[.string ⟨#[]⟩,.string ⟨#[]⟩,.slice none 0 0,.slice none 0 0]):=by kernel_rfl
theorem g1w {a b:List Bp}:a.flatMap Bp.cs++b.flatMap Bp.cs=(a++b).flatMap Bp.cs:=List.flatMap_append.symm
theorem e1c {a:Int}{n:Nat}(h0:0≤a)(hn:0<n):∃ m:Nat,a.tmod n=m∧m<n:=by
 have h1:=Int.tmod_nonneg (n:Int) h0
 have h2:=Int.tmod_lt_of_pos a (show (0:Int)<n by omega)
 exact ⟨(a.tmod n).toNat,by omega,by omega⟩
instance {l:List Ev}{H:List Row}{K:Bool→D→List Row→Prop}[hl:Kn (BrOk l)]:Wa (a0j Tryz.prog (.fn 25 []) [.f (fEv l)] H K) (K true (.f (.v (.bool true))) H):=⟨fun h=>a0N (a1Y l hl.h) rfl rfl rfl h⟩
instance tgBr_callW {s:List (List Rw)}{a:List Int}{d:List Rd}{H:List Row}{K:D→List Row→Prop}:Wa (a0S Tryz.prog (.fn 23 []) [.ag [.f (fSs s),.f (fI a),.f (fR d)]] H K) (K (.f (fBr (b0c s a d))) H):=⟨fun h=>a0C (i0G s a d) rfl rfl rfl h⟩
theorem Way.in {L:Br}(hu:Uni (Bg L))(h8:L.length<8){bs:List Bp}(hf:Fed (Bg L) bs){t:Br}{i:Nat}(h:Way L bs t i){p:Bp}(hp:p∈bs):AddIn t p.1 p.2 :=
 .of hu (by omega) h.tr (hf.ok p hp).1 (hf.ok p hp).2
def bM (L:Br)(cuts:List Int)(i:Nat):List Bp:=(L.take i).flatMap fun l=>batL l cuts
theorem g1C {L:Br}{cuts:List Int}{i:Nat}(h:i<L.length):bM L cuts (i+1)=bM L cuts i++batL (gt L i) cuts:=by
 unfold bM
 rw [List.take_succ_eq_append_getElem h,List.flatMap_append,←a0q h];simp
theorem d1y {L:Br}{cuts:List Int}{i:Nat}(hL:∀ l∈L,BrOk l):(bM L cuts i).length≤200*i:=by
 have:=d1V (M:=L.take i) (cuts:=cuts) fun l h=>(hL l (List.mem_of_mem_take h)).len
 rw [List.length_take] at this
 unfold bM;omega
theorem g1r {L:Br}{cuts:List Int}{i:Nat}:Fed (Bg L) (bM L cuts i):=u0c fun l h=>List.mem_of_mem_take h
theorem y0G {L:Br}(hu:Uni (Bg L)){bs:List Bp}(hf:Fed (Bg L) bs)(h8:L.length<8){t:Br}{n i:Nat}(hi:i<bs.length)(hw:Way L bs t (if n=0 then i else bs.length)) :
  (addP t (ofL (gt bs i).1) (gt bs i).2=(addU t (gt bs i).all,!t.any (begB (gt bs i).all),0)∧Way L bs (addU t (gt bs i).all) (if n=0 then i+1 else bs.length))∨(addP t (ofL (gt bs i).1) (gt bs i).2=([],false,4)∧Way L bs t (if n=0 then i+1 else bs.length)):=by
 by_cases h0:n=0
 ·rw [if_pos h0] at hw ⊢
  exact .inl ⟨w0U hu hf hw.tr h8 hi hw.dn,hw.next hu hf hi⟩
 ·rw [if_neg h0] at hw ⊢
  rcases o0O hu hf hw.tr h8 (a0K hi) with h|h
  ·exact .inl ⟨h,hw.add hu hf (a0K hi)⟩
  ·exact .inr ⟨h,hw⟩
set_option maxRecDepth 100000 in
theorem c_law_TreeTogether (s:List (List Rw))(a:List Int)(d:List Rd)(cuts order:List Int):Con Tryz.prog 5 [lnD s a d,.f (fI cuts),.f (fI order)] [] fun r H'=>r = .f (.v (.bool true))∧H'=[]:=by
 have hu:=c1h s a d
 have hB:=p0v s a d
 obtain ⟨L,hL⟩:∃ L,b0c s a d=L:=⟨_,rfl⟩
 rw [hL] at hu hB
 have h8:L.length<8:=by omega
 refine Con.walk good f0D (by simp) ?_
 unfold c0q lnD
 simp only [a0J]
 refine HS.seq ?_
 repeat' (with_reducible first|refine Wa.h ?_|refine Wb.h fun K hK=>?_|(refine hK _ ?_;clear hK K)|((fail_if_success refine Wz.h ?_);simp (disch:=omega) only [↓LD,LA,a0A,seval,LBr,LSs,hL]))
 refine HS.seq ?_
 repeat' (with_reducible first|refine Wa.h ?_|refine Wb.h fun K hK=>?_|(refine hK _ ?_;clear hK K)|((fail_if_success refine Wz.h ?_);simp (disch:=omega) only [↓LD,LA,a0A,seval,LBr,LSs,hL]))
 refine HS.seq ?_
 repeat' (with_reducible first|refine Wa.h ?_|refine Wb.h fun K hK=>?_|(refine hK _ ?_;clear hK K)|((fail_if_success refine Wz.h ?_);simp (disch:=omega) only [↓LD,LA,a0A,seval,LBr,LSs,hL]))
 refine HS.view (View.void 38) ?_
 refine HS.view (View.slot 8 (.sl 1 0 0) (.no (Nat.lt_succ_self 1))) ?_
 repeat' (with_reducible first|refine Wx.h ?_|refine Wb.h fun K hK=>?_|(refine hK _ ?_;clear hK K)|((fail_if_success refine Wz.h ?_);simp (disch:=omega) only [↓LD,LA,a0A,seval,LBr,LSs,hL]))
 refine HS.loopG [1,2,7,8,9] (fun i:Nat=>⟨frm 195 [(1,.f (fI cuts)),(2,.f (fI order)),(7,.f (fBr L)),(8,.sl 0 0 (bM L cuts i).length),(9,D.int i)],[.data 38 ((bM L cuts i).flatMap Bp.cs)],[]⟩) (fun i=>i≤L.length) (fun i=>L.length-i) 0 (by kernel_rfl) (Nat.zero_le _) ?_
 rintro i hi
 by_cases hil:i<L.length
 ·have hgk:=hB.1 _ (a0K hil)
  have hlen:=hgk.len
  haveI:Kn (BrOk (gt L i)):=⟨hgk⟩
  have hbl:(batL (gt L i) cuts).length≤(gt L i).length:=n0z
  have hml:=d1y (cuts:=cuts) (i:=i) hB.1
  have hn:=g1C (cuts:=cuts) hil
  have hc:=g1w (a:=bM L cuts i) (b:=batL (gt L i) cuts)
  rw [←hn] at hc
  have hnl:(bM L cuts (i+1)).length=(bM L cuts i).length+(batL (gt L i) cuts).length:=by rw [hn,List.length_append]
  repeat' (with_reducible first|refine Wx.h ?_|refine Wb.h fun K hK=>?_|(refine hK _ ?_;clear hK K)|refine Wq.h ?_ ?_<;>intro h<;>try (exfalso;omega)|((fail_if_success refine Wz.h ?_);first|simp (disch:=omega) only [↓LD,LA,a0A,seval,LBr,LBp,y0P,n0c,hc]|(refine And.intro ?_ ?_;omega)|fail))
  ·rw [show bM L cuts i=bM L cuts (i+1) by rw [hn,List.eq_nil_of_length_eq_zero h,List.append_nil]]
   exact Next.mk (i+1) (by kernel_rfl) (by omega) (by omega)
  ·rw [←hnl]
   exact Next.mk (i+1) (by kernel_rfl) (by omega) (by omega)
 have hb5:(bM L cuts i).length≤1000:=by
  have:=d1y (cuts:=cuts) (i:=i) hB.1
  omega
 have hfd:=g1r (L:=L) (cuts:=cuts) (i:=i)
 generalize bM L cuts i=bs at *
 refine HS.view (View.fzd 8 rfl rfl h1M n0c (by decide) (by decide)) ?_
 rw [show F.s (bs.flatMap Bp.cs) bs.length=fBp bs from rfl]
 repeat' (with_reducible first|refine Wx.h ?_|refine Wb.h fun K hK=>?_|(refine hK _ ?_;clear hK K)|refine Wq.h ?_ ?_<;>intro h<;>try (exfalso;omega)|((fail_if_success refine Wz.h ?_);simp (disch:=omega) only [↓LD,LA,a0A,seval,LBr,LBp]))
 refine HS.view (View.bcell 1 0 (.f (.s [] 0)) rfl rfl .ns) ?_
 refine HS.view (View.bcell 2 0 (.f (.s [] 0)) rfl rfl .ns) ?_
 refine HS.loopG [2,8,10,11,12] (fun x:Nat × Br=>⟨frm 195 [(2,.f (fI order)),(8,.f (fBp bs)),(10,.pt 0 0),(11,.pt 1 0),(12,D.int x.1)],[.box 30 [.f (fBr x.2)],.box 30 [.f (fBr [])]],[]⟩) (fun x=>x.1≤bs.length∧Way L bs x.2 x.1) (fun x=>bs.length-x.1) (0,[]) (by kernel_rfl) ⟨Nat.zero_le _,Way.nil⟩ ?_
 clear hil hi
 rintro ⟨i,t⟩ ⟨hi,hw⟩
 dsimp only at hi hw
 by_cases hil:i<bs.length
 ·have hA:=w0U hu hfd hw.tr h8 hil hw.dn
  haveI:=Kn.mk (hw.in hu h8 hfd (a0K hil))
  have hld:=fun H:List Row=>h0n (H:=H) hil
  have hN:=hw.next hu hfd hil
  rw [Bp.cs] at hld
  repeat' (with_reducible first|refine Wx.h ?_|refine We.h fun K hK=>?_|(refine hK _ _ _ _ ?_;clear hK K;try clear hM M)|refine Wb.h fun K hK=>?_|(refine hK _ ?_;clear hK K)|(refine Wy.h ?_ ?_;kernel_rfl)|refine Wq.h ?_ ?_<;>intro h<;>try (exfalso;omega)|((fail_if_success refine Wz.h ?_);first|simp (disch:=omega) only [↓LD,LA,a0A,seval,LBp,LBr,hld,hA,List.map_cons,List.map_nil,-a0A]|(refine And.intro ?_ ?_;omega)|fail))
  all_goals exact Next.mk (i+1,addU t (gt bs i).all) (by kernel_rfl) ⟨by dsimp only;omega,hN⟩ (by dsimp only;omega)
 obtain rfl:i=bs.length:=by omega
 clear hi hil
 repeat' (with_reducible first|refine Wx.h ?_|refine Wb.h fun K hK=>?_|(refine hK _ ?_;clear hK K)|refine Wq.h ?_ ?_<;>intro h<;>try (exfalso;omega)|((fail_if_success refine Wz.h ?_);simp (disch:=omega) only [↓LD,LA,a0A,seval,LBp]))
 refine HS.loopG [2,8,10,11,16] (fun x:Nat × Br=>⟨frm 195 [(2,.f (fI order)),(8,.f (fBp bs)),(10,.pt 0 0),(11,.pt 1 0),(16,D.int x.1)],[.box 30 [.f (fBr t)],.box 30 [.f (fBr x.2)]],[]⟩) (fun x=>x.1≤2*bs.length∧Way L bs x.2 0) (fun x=>2*bs.length-x.1) (0,[]) (by kernel_rfl) ⟨Nat.zero_le _,Way.nil⟩ ?_
 rintro ⟨n,b⟩ ⟨hn,hw2⟩
 dsimp only at hn hw2
 by_cases hnl:(n:Int)<2*bs.length
 ·rcases (show n<order.length∨¬ n<order.length from Classical.em _) with hno|hno
  ·have pk:=b0M (x:=gt order n) (n:=bs.length) (by omega)
   obtain ⟨q,hq⟩:∃ q:Nat,pick (gt order n) bs.length=q:=⟨(pick (gt order n) bs.length).toNat,by omega⟩
   rw [hq] at pk
   repeat' (with_reducible first|refine Wx.h ?_|refine Wb.h fun K hK=>?_|(refine hK _ ?_;clear hK K)|(refine wT ?_ ?_;assumption)|refine Wq.h ?_ ?_<;>intro h<;>try (exfalso;omega)|((fail_if_success refine Wz.h ?_);first|simp (disch:=omega) only [↓LD,LA,a0A,seval,LBp,hq]|(refine And.intro ?_ ?_;omega)|fail))
   refine HS.loopG [2,8,10,11,16,17,18] (fun j:Nat=>⟨frm 195 [(2,.f (fI order)),(8,.f (fBp bs)),(10,.pt 0 0),(11,.pt 1 0),(16,D.int n),(17,D.int q),(18,D.int j)],[.box 30 [.f (fBr t)],.box 30 [.f (fBr b)]],[]⟩) (fun j=>j≤bs.length) (fun j=>bs.length-j) 0 (by kernel_rfl) (Nat.zero_le _) ?_
   rintro j hj
   by_cases hjl:j<bs.length
   ·obtain ⟨m,hm,hml⟩:=e1c (a:=(q:Int)+j) (n:=bs.length) (by omega) (by omega)
    have hgm:=a0K hml
    haveI:=Kn.mk (hw2.in hu h8 hfd hgm)
    have hld:=fun H:List Row=>h0n (H:=H) hml
    rw [Bp.cs] at hld
    rcases o0O hu hfd hw2.tr h8 hgm with hA|hA
    ·repeat' (with_reducible first|refine Wx.h ?_|refine We.h fun K hK=>?_|(refine hK _ _ _ _ ?_;clear hK K;try clear hM M)|refine Wb.h fun K hK=>?_|(refine hK _ ?_;clear hK K)|(refine Wy.h ?_ ?_;kernel_rfl)|refine Wq.h ?_ ?_<;>intro h<;>try (exfalso;omega)|((fail_if_success refine Wz.h ?_);first|simp (disch:=omega) only [↓LD,LA,a0A,seval,LBp,LBr,hld,hm,hA,Int.toNat_natCast,List.map_cons,List.map_nil,-a0A]|(refine And.intro ?_ ?_;omega)|fail))
     all_goals exact Next.mk (n+1,addU b (gt bs m).all) (by kernel_rfl) ⟨by dsimp only;omega,hw2.add hu hfd hgm⟩ (by dsimp only;omega)
    ·repeat' (with_reducible first|refine Wx.h ?_|refine We.h fun K hK=>?_|(refine hK _ _ _ _ ?_;clear hK K;try clear hM M)|refine Wb.h fun K hK=>?_|(refine hK _ ?_;clear hK K)|(refine Wy.h ?_ ?_;kernel_rfl)|refine Wq.h ?_ ?_<;>intro h<;>try (exfalso;omega)|((fail_if_success refine Wz.h ?_);first|simp (disch:=omega) only [↓LD,LA,a0A,seval,LBp,LBr,hld,hm,hA,Int.toNat_natCast,List.map_cons,List.map_nil,-a0A]|(refine And.intro ?_ ?_;omega)|fail))
     all_goals exact Next.mk (j+1) (by kernel_rfl) (by omega) (by omega)
   ·repeat' (with_reducible first|refine Wx.h ?_|refine Wb.h fun K hK=>?_|(refine hK _ ?_;clear hK K)|refine Wq.h ?_ ?_<;>intro h<;>try (exfalso;omega)|((fail_if_success refine Wz.h ?_);simp (disch:=omega) only [↓LD,LA,a0A,seval,LBp]))
    all_goals exact Next.mk (n+1,b) (by kernel_rfl) ⟨by dsimp only;omega,hw2⟩ (by dsimp only;omega)
  ·have pk:=b0M (x:=(n:Int)) (n:=bs.length) (by omega)
   obtain ⟨q,hq⟩:∃ q:Nat,pick ((n:Int)) bs.length=q:=⟨(pick ((n:Int)) bs.length).toNat,by omega⟩
   rw [hq] at pk
   repeat' (with_reducible first|refine Wx.h ?_|refine Wb.h fun K hK=>?_|(refine hK _ ?_;clear hK K)|(refine wT ?_ ?_;assumption)|refine Wq.h ?_ ?_<;>intro h<;>try (exfalso;omega)|((fail_if_success refine Wz.h ?_);first|simp (disch:=omega) only [↓LD,LA,a0A,seval,LBp,hq]|(refine And.intro ?_ ?_;omega)|fail))
   refine HS.loopG [2,8,10,11,16,17,18] (fun j:Nat=>⟨frm 195 [(2,.f (fI order)),(8,.f (fBp bs)),(10,.pt 0 0),(11,.pt 1 0),(16,D.int n),(17,D.int q),(18,D.int j)],[.box 30 [.f (fBr t)],.box 30 [.f (fBr b)]],[]⟩) (fun j=>j≤bs.length) (fun j=>bs.length-j) 0 (by kernel_rfl) (Nat.zero_le _) ?_
   rintro j hj
   by_cases hjl:j<bs.length
   ·obtain ⟨m,hm,hml⟩:=e1c (a:=(q:Int)+j) (n:=bs.length) (by omega) (by omega)
    have hgm:=a0K hml
    haveI:=Kn.mk (hw2.in hu h8 hfd hgm)
    have hld:=fun H:List Row=>h0n (H:=H) hml
    rw [Bp.cs] at hld
    rcases o0O hu hfd hw2.tr h8 hgm with hA|hA
    ·repeat' (with_reducible first|refine Wx.h ?_|refine We.h fun K hK=>?_|(refine hK _ _ _ _ ?_;clear hK K;try clear hM M)|refine Wb.h fun K hK=>?_|(refine hK _ ?_;clear hK K)|(refine Wy.h ?_ ?_;kernel_rfl)|refine Wq.h ?_ ?_<;>intro h<;>try (exfalso;omega)|((fail_if_success refine Wz.h ?_);first|simp (disch:=omega) only [↓LD,LA,a0A,seval,LBp,LBr,hld,hm,hA,Int.toNat_natCast,List.map_cons,List.map_nil,-a0A]|(refine And.intro ?_ ?_;omega)|fail))
     all_goals exact Next.mk (n+1,addU b (gt bs m).all) (by kernel_rfl) ⟨by dsimp only;omega,hw2.add hu hfd hgm⟩ (by dsimp only;omega)
    ·repeat' (with_reducible first|refine Wx.h ?_|refine We.h fun K hK=>?_|(refine hK _ _ _ _ ?_;clear hK K;try clear hM M)|refine Wb.h fun K hK=>?_|(refine hK _ ?_;clear hK K)|(refine Wy.h ?_ ?_;kernel_rfl)|refine Wq.h ?_ ?_<;>intro h<;>try (exfalso;omega)|((fail_if_success refine Wz.h ?_);first|simp (disch:=omega) only [↓LD,LA,a0A,seval,LBp,LBr,hld,hm,hA,Int.toNat_natCast,List.map_cons,List.map_nil,-a0A]|(refine And.intro ?_ ?_;omega)|fail))
     all_goals exact Next.mk (j+1) (by kernel_rfl) (by omega) (by omega)
   ·repeat' (with_reducible first|refine Wx.h ?_|refine Wb.h fun K hK=>?_|(refine hK _ ?_;clear hK K)|refine Wq.h ?_ ?_<;>intro h<;>try (exfalso;omega)|((fail_if_success refine Wz.h ?_);simp (disch:=omega) only [↓LD,LA,a0A,seval,LBp]))
    all_goals exact Next.mk (n+1,b) (by kernel_rfl) ⟨by dsimp only;omega,hw2⟩ (by dsimp only;omega)
 clear hn
 repeat' (with_reducible first|refine Wx.h ?_|refine Wb.h fun K hK=>?_|(refine hK _ ?_;clear hK K)|(refine wF ?_ ?_;assumption)|((fail_if_success refine Wz.h ?_);simp (disch:=omega) only [↓LD,LA,a0A,seval,LBp]))
 refine HS.loopG [8,10,11,22] (fun x:Nat × Br=>⟨frm 195 [(8,.f (fBp bs)),(10,.pt 0 0),(11,.pt 1 0),(22,D.int x.1)],[.box 30 [.f (fBr t)],.box 30 [.f (fBr x.2)]],[]⟩) (fun x=>x.1≤bs.length∧Way L bs x.2 (if x.1=0 then 0 else bs.length)) (fun x=>bs.length-x.1) (0,b) (by kernel_rfl) ⟨Nat.zero_le _,hw2⟩ ?_
 clear hnl hw2
 rintro ⟨n,b⟩ ⟨hn,hw2⟩
 dsimp only at hn hw2
 by_cases hnl:n<bs.length
 ·repeat' (with_reducible first|refine Wx.h ?_|refine Wb.h fun K hK=>?_|(refine hK _ ?_;clear hK K)|refine Wq.h ?_ ?_<;>intro h<;>try (exfalso;omega)|((fail_if_success refine Wz.h ?_);simp (disch:=omega) only [↓LD,LA,a0A,seval,LBp]))
  refine HS.loopG [8,10,11,22,23] (fun x:Nat × Br=>⟨frm 195 [(8,.f (fBp bs)),(10,.pt 0 0),(11,.pt 1 0),(22,D.int n),(23,D.int x.1)],[.box 30 [.f (fBr t)],.box 30 [.f (fBr x.2)]],[]⟩) (fun x=>x.1≤bs.length∧Way L bs x.2 (if n=0 then x.1 else bs.length)) (fun x=>bs.length-x.1) (0,b) (by kernel_rfl) ⟨Nat.zero_le _,hw2⟩ ?_
  clear hw2
  rintro ⟨i,b⟩ ⟨hi,hw2⟩
  dsimp only at hi hw2
  by_cases hil:i<bs.length
  ·have hgm:=a0K hil
   haveI:=Kn.mk (hw2.in hu h8 hfd hgm)
   have hld:=fun H:List Row=>h0n (H:=H) hil
   rw [Bp.cs] at hld
   rcases y0G hu hfd h8 hil hw2 with ⟨hA,hN⟩|⟨hA,hN⟩
   ·repeat' (with_reducible first|refine Wx.h ?_|refine We.h fun K hK=>?_|(refine hK _ _ _ _ ?_;clear hK K;try clear hM M)|refine Wb.h fun K hK=>?_|(refine hK _ ?_;clear hK K)|(refine Wy.h ?_ ?_;kernel_rfl)|refine Wq.h ?_ ?_<;>intro h<;>try (exfalso;omega)|((fail_if_success refine Wz.h ?_);first|simp (disch:=omega) only [↓LD,LA,a0A,seval,LBp,LBr,hld,hA,List.map_cons,List.map_nil,-a0A]|(refine And.intro ?_ ?_;omega)|fail))
    all_goals exact Next.mk (i+1,addU b (gt bs i).all) (by kernel_rfl) ⟨by dsimp only;omega,hN⟩ (by dsimp only;omega)
   ·repeat' (with_reducible first|refine Wx.h ?_|refine We.h fun K hK=>?_|(refine hK _ _ _ _ ?_;clear hK K;try clear hM M)|refine Wb.h fun K hK=>?_|(refine hK _ ?_;clear hK K)|(refine Wy.h ?_ ?_;kernel_rfl)|refine Wq.h ?_ ?_<;>intro h<;>try (exfalso;omega)|((fail_if_success refine Wz.h ?_);first|simp (disch:=omega) only [↓LD,LA,a0A,seval,LBp,LBr,hld,hA,List.map_cons,List.map_nil,-a0A]|(refine And.intro ?_ ?_;omega)|fail))
    all_goals exact Next.mk (i+1,b) (by kernel_rfl) ⟨by dsimp only;omega,hN⟩ (by dsimp only;omega)
  ·obtain rfl:i=bs.length:=by omega
   repeat' (with_reducible first|refine Wx.h ?_|refine Wb.h fun K hK=>?_|(refine hK _ ?_;clear hK K)|(refine wF ?_ ?_;assumption)|((fail_if_success refine Wz.h ?_);simp (disch:=omega) only [↓LD,LA,a0A,seval,LBp]))
   all_goals exact Next.mk (n+1,b) (by kernel_rfl) ⟨by dsimp only;omega,by dsimp only;rw [if_neg (by omega)];split at hw2<;>exact hw2⟩ (by dsimp only;omega)
 obtain rfl:n=bs.length:=by omega
 have hwb:Way L bs b bs.length:=by
  split at hw2
  ·rename_i h0;rw [h0];exact hw2
  ·exact hw2
 obtain rfl:=hw.same hu hwb
 clear hw2 hwb hn hnl
 have htk:=hw.tr.k hu (by omega)
 have ht8:=hw.tr.few
 haveI:Kn (TrK t):=⟨htk⟩
 haveI:Kn (t.length≤8∧∃ U,Uni U∧TrU U t):=⟨by omega,_,hu,hw.tr⟩
 haveI:Kn (FitL (curL t)):=⟨htk.cur.fitL⟩
 haveI:Kn (IdL (curL t)):=⟨htk.cur.idL⟩
 haveI:Kn ((ofL (curL t)).length≤1000000):=⟨htk.cur.ofK⟩
 repeat' (with_reducible first|refine Wx.h ?_|refine Wb.h fun K hK=>?_|(refine hK _ ?_;clear hK K)|(refine wF ?_ ?_;assumption)|((fail_if_success refine Wz.h ?_);simp (disch:=omega) only [↓LD,LA,a0A,seval,LBp,LBr,u0v]))
 refine HS.loopG [10,27,28] (fun i:Nat=>⟨frm 195 [(10,.pt 0 0),(27,.f (fEv (curL t))),(28,D.int i)],[.box 30 [.f (fBr t)]],[]⟩) (fun i=>i≤t.length) (fun i=>t.length-i) 0 (by kernel_rfl) (Nat.zero_le _) ?_
 rintro i hi
 by_cases hil:i<t.length
 rotate_left
 ·repeat' (with_reducible first|refine Wx.h ?_|refine Wb.h fun K hK=>?_|(refine hK _ ?_;clear hK K)|refine Wq.h ?_ ?_<;>intro h<;>try (exfalso;omega)|((fail_if_success refine Wz.h ?_);simp (disch:=omega) only [↓LD,LA,a0A,seval,LBr]))
  exact end1 rfl rfl (by kernel_rfl) .f ⟨rfl,rfl⟩
 obtain ⟨ok,ne⟩:=htk.gt hil
 have hcc:=fun h0:0<i=>f1z hu hw.tr h0 hil
 have hfo:=ok.fold
 haveI:Kn (BrOk (gt t i)):=⟨ok⟩
 haveI:Kn (FitL (gt t i)):=⟨ok.fitL⟩
 haveI:Kn (IdL (gt t i)):=⟨ok.idL⟩
 haveI:Kn ((ofL (gt t i)).length≤1000000):=⟨ok.ofK⟩
 have e3:=h1F hil
 by_cases h0:0<i
 ·have hc:=hcc h0
  repeat' (with_reducible first|refine Wx.h ?_|refine We.h fun K hK=>?_|refine Wd.h fun K M hK hM=>?_|(refine hK _ _ _ _ ?_;clear hK K;try clear hM M)|refine Wb.h fun K hK=>?_|(refine hK _ ?_;clear hK K)|(refine Wy.h ?_ ?_;kernel_rfl)|refine Wq.h ?_ ?_<;>intro h<;>try (exfalso;omega)|((fail_if_success refine Wz.h ?_);first|simp (disch:=omega) only [↓LD,LA,a0A,seval,LBr,LEv,hfo,e3,stF]|(refine And.intro ?_ ?_;omega)|fail))
  all_goals exact Next.mk (i+1) (by kernel_rfl) (by omega) (by omega)
 ·repeat' (with_reducible first|refine Wx.h ?_|refine We.h fun K hK=>?_|refine Wd.h fun K M hK hM=>?_|(refine hK _ _ _ _ ?_;clear hK K;try clear hM M)|(refine hM ?_;clear hM M;try clear hK K)|refine Wb.h fun K hK=>?_|(refine hK _ ?_;clear hK K)|(refine Wy.h ?_ ?_;kernel_rfl)|refine Wq.h ?_ ?_<;>intro h<;>try (exfalso;omega)|((fail_if_success refine Wz.h ?_);first|simp (disch:=omega) only [↓LD,LA,a0A,seval,LBr,LEv,hfo,e3,stF]|(refine And.intro ?_ ?_;omega)|fail))
  all_goals exact Next.mk (i+1) (by kernel_rfl) (by omega) (by omega)
end Go.Proofs.YthjgmldnegaaiaaGreatDoor.Mir
namespace Go.Proofs.YthjgmldnegaaiaaGreatDoor
open Go Go.RowKit
theorem treeTogether_walk (W:World)(hg:∀ p∈Mir.glTab,Mir.RF W (fun _=>False) p.1 p.2)(x:LnIn)(a1:Option Addr)(c1:Nat)(cs:List Int)(a2:Option Addr)(c2:Nat)(gs:List Int)(h:lnOk W x)(h1:isOk W a1 c1 cs)(h2:isOk W a2 c2 gs) :
  Calls Tryz.prog 5 #[.agg (lnV x).toArray,.slice a1 cs.length c1,.slice a2 gs.length c2] W fun e w'=>e = .returned (.bool true)∧Below W.heap.size W w' :=
 Mir.Con.calls (Mir.c_law_TreeTogether (lnS x) (lnA x) (lnR x) cs gs) hg fun _ hA=>.one (r_ln hA h) (.one (.f (Mir.rf_ints h1 hA)) (.one (.f (Mir.rf_ints h2 hA)) .none))
end Go.Proofs.YthjgmldnegaaiaaGreatDoor
namespace Go.Proofs.YthjgmldnegaaiaaGreatDoor.treeTogether
open Go
set_option maxHeartbeats 0 in
theorem closed:joinedFacts Tryz.prog 5 Tryz.f5 (OpenSpec.ofChange Rows.treeTogetherSpec).bare Rows.treeTogetherRow=true:=by
 unfold joinedFacts
 repeat' (with_reducible refine Bool.and_eq_true_iff.2 ⟨?_,?_⟩)
 all_goals as_aux_lemma=>kernel_rfl
end Go.Proofs.YthjgmldnegaaiaaGreatDoor.treeTogether
