/- Lemmas for the proof. No condition. -/
import Derived.Test.YthjgmldnegaaiaaGreatDoorQg14
set_option linter.unusedVariables false
set_option linter.unusedSimpArgs false
namespace Go.Proofs.YthjgmldnegaaiaaGreatDoor.Mir
open Go Go.RowKit
set_option maxHeartbeats 4000000
set_option maxRecDepth 100000 in
theorem s0R (l:List Ev)(hl:l.length≤1000000)(hf:∀ e∈l,FitV e):Con Tryz.prog 24 [.f (fEv l)] [] fun r H'=>r = .tp [stD (a0N s0 l).2,D.int (a0N s0 l).1]∧H'=[]:=by
 refine Con.walk good x0x (by simp) ?_
 unfold p0F
 simp only [a0J]
 repeat' (with_reducible first|refine Wx.h ?_|refine Wb.h fun K hK=>?_|(refine hK _ ?_;clear hK K)|((fail_if_success refine Wz.h ?_);simp (disch:=omega) only [↓LD,LA,a0A,seval,LEv]))
 refine HS.view (View.bcell 1 5 (.f (.s [] 0)) rfl rfl .ns) ?_
 refine HS.view (View.void 158) ?_
 refine HS.view (View.void 180) ?_
 refine HS.view (View.void 106) ?_
 refine HS.view (View.bcell 1 6 (.sl 2 0 0) rfl rfl (.no (by show 2<5;omega))) ?_
 refine HS.view (View.bcell 1 7 (.sl 3 0 0) rfl rfl (.no (by show 3<5;omega))) ?_
 refine HS.view (View.bcell 1 8 (.sl 4 0 0) rfl rfl (.no (by show 4<5;omega))) ?_
 refine HS.loopG [2,4,9,10,11] (fun x:Nat × S12=>⟨frm 23 [(2,.pt 0 0),(4,.pt 1 0),(9,.f (fEv l)),(10,D.int l.length),(11,D.int x.1)],[.box 65 [jI,jI,jI,jI,jF,jN,jN,jN,jN],.box 65 (stL 2 3 4 x.2),rN x.2.nodes,rT x.2.tms,rS x.2.sgs],[]⟩)
  (fun x=>x.1≤l.length∧Ok12 x.2∧a0N s0 l=a0N x.2 (l.drop x.1)) (fun x=>l.length-x.1) (0,s0) (by kernel_rfl) ⟨Nat.zero_le _,b1E,rfl⟩ ?_
 rintro ⟨i,s⟩ ⟨hi,ho,hF⟩
 dsimp only at hi ho hF
 by_cases hil:i<l.length
 ·rw [a0I hil,a0N] at hF
  have hv:=hf _ (a0M hil)
  have he:=c1U (e:=gt l i) ho
  unfold b1Y at he
  obtain ⟨hA,_,_⟩:=ho.fitA
  have hid:=ho.id
  have ho2:=d0N (e:=gt l i) ho hv.2.2.2
  repeat' (with_reducible first|refine Wx.h ?_|refine Wb.h fun K hK=>?_|(refine hK _ ?_;clear hK K)|refine Wq.h ?_ ?_<;>intro h<;>try (exfalso;omega)|((fail_if_success refine Wz.h ?_);first|simp (disch:=omega) only [↓LD,LA,a0A,seval,LEv,b0t,a0K,Ev.cs,stL,rN,rT,rS,-a0A,List.map_cons,List.map_nil]|(refine And.intro ?_ ?_;omega)|fail))
  refine a0D (y0z s (gt l i) hA hv.1 hv.2.2 ⟨hid.1,by omega⟩) [1,2,3,4] (by kernel_rfl) rfl rfl ?_
  rintro _ _ ⟨rfl,m,rfl⟩
  generalize c0P s (gt l i)=p at he ⊢
  obtain ⟨v,s'⟩:=p
  dsimp only at he ⊢
  rcases m with _|_|_|m
  ·simp (disch:=omega) only [↓LD,LA,a0A,seval,ren,List.getElem?_nil,stM,stH,stL,rN,rT,rS]
   repeat' (with_reducible first|refine Wx.h ?_|refine Wb.h fun K hK=>?_|(refine hK _ ?_;clear hK K)|refine Wq.h ?_ ?_<;>intro h|((fail_if_success refine Wz.h ?_);simp (disch:=omega) only [↓LD,LA,a0A,seval]))
   ·have hv0:v=0:=by assumption
    rw [if_pos hv0] at he
    rw [←he] at hF ho2
    rw [if_pos rfl] at hF
    exact Next.mk (i+1,s') (by kernel_rfl) ⟨by dsimp only;omega,ho2 rfl,hF⟩ (by dsimp only;omega)
   ·have hv0:¬ v=0:=by assumption
    rw [if_neg hv0] at he
    rw [←he,if_neg hv0] at hF
    rw [hF]
    exact RetS.still (ds:=[.ag [jI,jI,jI,jI,jF,jN,jN,jN,jN],D.int v]) (by kernel_rfl) (by kernel_rfl) (.tps (.cons (.ags (.cons .f (.cons .f (.cons .f (.cons .f (.cons .f (.cons .nil (.cons .nil (.cons .nil (.cons .nil .nil)))))))))) (.cons .f .nil))) ⟨rfl,rfl⟩
  ·simp (disch:=omega) only [↓LD,LA,a0A,seval,ren,List.getElem?_nil,stM,stH,stL,rN,rT,rS]
   repeat' (with_reducible first|refine Wx.h ?_|refine Wb.h fun K hK=>?_|(refine hK _ ?_;clear hK K)|refine Wq.h ?_ ?_<;>intro h|((fail_if_success refine Wz.h ?_);simp (disch:=omega) only [↓LD,LA,a0A,seval]))
   ·have hv0:v=0:=by assumption
    rw [if_pos hv0] at he
    rw [←he] at hF ho2
    rw [if_pos rfl] at hF
    exact Next.mk (i+1,s') (by kernel_rfl) ⟨by dsimp only;omega,ho2 rfl,hF⟩ (by dsimp only;omega)
   ·have hv0:¬ v=0:=by assumption
    rw [if_neg hv0] at he
    rw [←he,if_neg hv0] at hF
    rw [hF]
    exact RetS.still (ds:=[.ag [jI,jI,jI,jI,jF,jN,jN,jN,jN],D.int v]) (by kernel_rfl) (by kernel_rfl) (.tps (.cons (.ags (.cons .f (.cons .f (.cons .f (.cons .f (.cons .f (.cons .nil (.cons .nil (.cons .nil (.cons .nil .nil)))))))))) (.cons .f .nil))) ⟨rfl,rfl⟩
  ·simp (disch:=omega) only [↓LD,LA,a0A,seval,ren,List.getElem?_nil,stM,stH,stL,rN,rT,rS]
   repeat' (with_reducible first|refine Wx.h ?_|refine Wb.h fun K hK=>?_|(refine hK _ ?_;clear hK K)|refine Wq.h ?_ ?_<;>intro h|((fail_if_success refine Wz.h ?_);simp (disch:=omega) only [↓LD,LA,a0A,seval]))
   ·have hv0:v=0:=by assumption
    rw [if_pos hv0] at he
    rw [←he] at hF ho2
    rw [if_pos rfl] at hF
    exact Next.mk (i+1,s') (by kernel_rfl) ⟨by dsimp only;omega,ho2 rfl,hF⟩ (by dsimp only;omega)
   ·have hv0:¬ v=0:=by assumption
    rw [if_neg hv0] at he
    rw [←he,if_neg hv0] at hF
    rw [hF]
    exact RetS.still (ds:=[.ag [jI,jI,jI,jI,jF,jN,jN,jN,jN],D.int v]) (by kernel_rfl) (by kernel_rfl) (.tps (.cons (.ags (.cons .f (.cons .f (.cons .f (.cons .f (.cons .f (.cons .nil (.cons .nil (.cons .nil (.cons .nil .nil)))))))))) (.cons .f .nil))) ⟨rfl,rfl⟩
  ·simp (disch:=omega) only [↓LD,LA,a0A,seval,ren,List.getElem?_nil,stM,stH,stL,rN,rT,rS]
   repeat' (with_reducible first|refine Wx.h ?_|refine Wb.h fun K hK=>?_|(refine hK _ ?_;clear hK K)|refine Wq.h ?_ ?_<;>intro h|((fail_if_success refine Wz.h ?_);simp (disch:=omega) only [↓LD,LA,a0A,seval]))
   ·have hv0:v=0:=by assumption
    rw [if_pos hv0] at he
    rw [←he] at hF ho2
    rw [if_pos rfl] at hF
    exact Next.mk (i+1,s') (by kernel_rfl) ⟨by dsimp only;omega,ho2 rfl,hF⟩ (by dsimp only;omega)
   ·have hv0:¬ v=0:=by assumption
    rw [if_neg hv0] at he
    rw [←he,if_neg hv0] at hF
    rw [hF]
    exact RetS.still (ds:=[.ag [jI,jI,jI,jI,jF,jN,jN,jN,jN],D.int v]) (by kernel_rfl) (by kernel_rfl) (.tps (.cons (.ags (.cons .f (.cons .f (.cons .f (.cons .f (.cons .f (.cons .nil (.cons .nil (.cons .nil (.cons .nil .nil)))))))))) (.cons .f .nil))) ⟨rfl,rfl⟩
 ·repeat' (with_reducible first|refine Wx.h ?_|refine Wb.h fun K hK=>?_|(refine hK _ ?_;clear hK K)|refine Wq.h ?_ ?_<;>intro h<;>try (exfalso;omega)|((fail_if_success refine Wz.h ?_);simp (disch:=omega) only [↓LD,LA,a0A,seval,LEv,stL,rN,rT,rS]))
  rw [List.drop_of_length_le (by omega),a0N] at hF
  rw [hF]
  exact RetS.still (ds:=[.ag (stL 2 3 4 s),D.int 0]) (by kernel_rfl) (by kernel_rfl) (.tps (.cons (g1v rfl rfl rfl) (.cons .f .nil))) ⟨rfl,rfl⟩
theorem i0y (s:S12):Con Tryz.prog 100 [jN,.fn 64 [.pt 0 0]] [stF s] fun r H'=>r=D.int (-1)∧H'=[stF s]:=by
 refine Con.walk good e0H (by simp) ?_
 unfold d0A
 simp only [a0J]
 repeat' (with_reducible first|refine Wx.h ?_|refine Wb.h fun K hK=>?_|(refine hK _ ?_;clear hK K)|((fail_if_success refine Wz.h ?_);simp (disch:=omega) only [↓LD,LA,a0A,seval]))
 refine HS.loopG [7,8] (fun _:Unit=>⟨frm 19 [(7,jI),(8,jI)],[stF s],[]⟩) (fun _=>True) (fun _=>0) () (by kernel_rfl) trivial ?_
 rintro - -
 repeat' (with_reducible first|refine Wx.h ?_|refine Wb.h fun K hK=>?_|(refine hK _ ?_;clear hK K)|((fail_if_success refine Wz.h ?_);simp (disch:=omega) only [↓LD,LA,a0A,seval]))
 exact end1 rfl rfl (by kernel_rfl) .f ⟨rfl,rfl⟩
theorem h0o (s:S12):Con Tryz.prog 63 [jN,.fn 64 [.pt 0 0]] [stF s] fun r H'=>r=jN∧H'=[stF s]:=by
 refine Con.walk good d0r (by simp) ?_
 unfold c0q
 simp only [a0J]
 repeat' (with_reducible first|refine Wx.h ?_|refine Wb.h fun K hK=>?_|(refine hK _ ?_;clear hK K)|((fail_if_success refine Wz.h ?_);simp (disch:=omega) only [↓LD,LA,a0A,seval]))
 refine a0D (i0y s) [0] (by kernel_rfl) rfl rfl ?_
 rintro _ _ ⟨rfl,rfl⟩
 simp (disch:=omega) only [↓LD,LA,a0A,seval,ren,List.getElem?_nil,stF]
 repeat' (with_reducible first|refine Wx.h ?_|refine Wb.h fun K hK=>?_|(refine hK _ ?_;clear hK K)|((fail_if_success refine Wz.h ?_);simp (disch:=omega) only [↓LD,LA,a0A,seval]))
 exact end1 rfl rfl (by kernel_rfl) .f ⟨rfl,rfl⟩
instance {l:List Ev}{H:List Row}{K:D→List Row→Prop}[hl:Kn (FitL l)]:Wa (a0T Tryz.prog (.fn 24 []) [.f (fEv l)] H K)
  (K (.tp [sA (a0N s0 l).2,.f (.v (.int .i64 (a0N s0 l).1))]) H):=⟨fun h=>a0C (s0R l hl.h.1 hl.h.2) rfl rfl rfl h⟩
def misL (t:Br):List Ev:=(allL (sigM t)).filter fun e=>!hadB (a0N s0 (curL t)).2 e
set_option maxRecDepth 100000 in
theorem p0i (t:Br)(ht:TrK t)(hs:∀ e∈sigM t,FitV e∧e.name.length≤100000)(hsl:(sigM t).length≤1000000):Con Tryz.prog 27 [.ag [.f (fBr t)]] [] fun r H'=>∃ xs,r = .f (.s ((misL t).flatMap Ev.cs++xs) (misL t).length)∧H'=[]:=by
 haveI:Kn (TrK t):=⟨ht⟩
 haveI:Kn (FitL (curL t)):=⟨ht.cur.fitL⟩
 have hsg:=ht.cur.ok.wk.fit.fit.sgs
 have hA:=v0Y t ht hs hsl
 refine Con.walk good o0G (by simp) ?_
 unfold h0Z misL
 simp only [a0J]
 have hal:(allL (sigM t)).length≤1000000:=by unfold allL;rw [List.length_map,(c0l _).length_eq,List.length_map];exact hsl
 repeat' (with_reducible first|refine Wx.h ?_|refine Wb.h fun K hK=>?_|(refine hK _ ?_;clear hK K)|((fail_if_success refine Wz.h ?_);simp (disch:=omega) only [↓LD,LA,a0A,seval,LBr]))
 by_cases hz:(allL (sigM t)).length=0
 ·rw [alR,if_pos hz,alH,if_pos hz] at hA
  have hm:((allL (sigM t)).filter fun e=>!hadB (a0N s0 (curL t)).2 e).length=0:=by rw [List.eq_nil_of_length_eq_zero hz];rfl
  refine a0C hA rfl rfl rfl ?_
  repeat' (with_reducible first|refine Wb.h fun K hK=>?_|(refine hK _ ?_;clear hK K)|((fail_if_success refine Wz.h ?_);simp (disch:=omega) only [↓LD,LA,a0A,seval,LBr]))
  refine a0D (h0o (a0N s0 (curL t)).2) [1] (by kernel_rfl) rfl rfl ?_
  rintro _ _ ⟨rfl,rfl⟩
  simp (disch:=omega) only [↓LD,LA,a0A,seval,ren,List.getElem?_nil,stF]
  repeat' (with_reducible first|refine Wx.h ?_|(refine hK _ ?_;clear hK K)|((fail_if_success refine Wz.h ?_);simp (disch:=omega) only [↓LD,LA,a0A,seval,LBr]))
  exact end1 rfl rfl (by kernel_rfl) .nil ⟨[],by rw [List.eq_nil_of_length_eq_zero hm];rfl,rfl⟩
 ·rw [alR,if_neg hz,alH,if_neg hz] at hA
  refine a0D hA [] (by kernel_rfl) rfl rfl ?_
  rintro _ _ ⟨rfl,rfl⟩
  simp (disch:=omega) only [↓LD,LA,a0A,seval,ren,List.getElem?_nil,rEv]
  repeat' (with_reducible first|refine Wb.h fun K hK=>?_|(refine hK _ ?_;clear hK K)|((fail_if_success refine Wz.h ?_);simp (disch:=omega) only [↓LD,LA,a0A,seval,LBr]))
  refine a0D (i0T (allL (sigM t)) (a0N s0 (curL t)).2 hz hal hsg) [2,1] (by kernel_rfl) rfl rfl ?_
  rintro _ _ ⟨xs,rfl,rfl⟩
  by_cases hm:((allL (sigM t)).filter fun e=>!hadB (a0N s0 (curL t)).2 e).length=0
  ·rw [if_pos hm]
   simp (disch:=omega) only [↓LD,LA,a0A,seval,ren,List.getElem?_nil,stF]
   repeat' (with_reducible first|refine Wx.h ?_|(refine hK _ ?_;clear hK K)|((fail_if_success refine Wz.h ?_);simp (disch:=omega) only [↓LD,LA,a0A,seval,LBr]))
   exact end1 rfl rfl (by kernel_rfl) .f ⟨[],by rw [List.eq_nil_of_length_eq_zero hm];rfl,rfl⟩
  ·rw [if_neg hm]
   simp (disch:=omega) only [↓LD,LA,a0A,seval,ren,List.getElem?_nil,stF]
   repeat' (with_reducible first|refine Wx.h ?_|(refine hK _ ?_;clear hK K)|((fail_if_success refine Wz.h ?_);simp (disch:=omega) only [↓LD,LA,a0A,seval,LBr]))
   exact end1 rfl rfl (by kernel_rfl) (.sl (T:=73) (xs:=((allL (sigM t)).filter fun e=>!hadB (a0N s0 (curL t)).2 e).flatMap Ev.cs++xs) rfl (fun e=>absurd e hm)) ⟨xs,rfl,rfl⟩
theorem u0y {t:Br}(ht:TrK t):∀ e∈sigM t,FitV e∧e.name.length≤100000:=fun e he=>by
 obtain ⟨h7,b,hb,heb⟩:=(o0M t).mem e he
 have ok:=(ht.ok b hb).1
 have hr:=(rightE_iff.1 (ok.right heb)).2.2.2.2.2.2.1
 rw [if_pos (by omega)] at hr
 exact ⟨ok.fit e heb,by have:=n0t hr;omega⟩
theorem n0f:∀ {l:List Ev} {ms:List Ev},(l.foldl addS ms).length≤ms.length+l.length
 | [],ms=>by simp
 | e :: l,ms=>by
  have h1:=n0f (l:=l) (ms:=addS ms e)
  have h2:=d1u (ms:=ms) (e:=e)
  rw [List.foldl_cons,List.length_cons];omega
theorem n0g:∀ {l:Br} {ms:List Ev},(∀ b∈l,b.length≤200)→(l.foldl (fun ms b=>b.foldl addS ms) ms).length≤ms.length+200*l.length
 | [],ms,_=>by simp
 | b :: l,ms,h=>by
  have h1:=n0g (l:=l) (ms:=b.foldl addS ms) fun x hx=>h x (by simp [hx])
  have h2:=n0f (l:=b) (ms:=ms)
  have h3:=h b (by simp)
  rw [List.foldl_cons,List.length_cons];omega
theorem v0y {t:Br}(ht:TrK t):(sigM t).length≤1000000:=by
 have h:=n0g (l:=t) (ms:=[]) fun b hb=>(ht.ok b hb).1.len
 have:=ht.len
 unfold sigM
 simp only [List.length_nil] at h
 omega
def sgOf (e:Ev):Sg:=⟨e.name,e.id,e.data⟩
def e0J (l:List Ev):List Sg:=(l.filter fun e=>decide (e.ty=7)).map sgOf
theorem b1Q {l m:List Ev}:e0J (l++m)=e0J l++e0J m:=by simp [e0J]
theorem y0x {e:Ev}{l:List Ev}:e0J (e :: l)=e0J [e]++e0J l:=b1Q (l:=[e])
theorem z0w {s:S12}{e:Ev}(h:(a0d s e).1=0):(a0d s e).2.sgs=s.sgs++e0J [e]:=by
 by_cases h7:e.ty=7
 ·have e1:e0J [e]=[sgOf e]:=by simp [e0J,h7]
  rw [e1]
  unfold a0d at h ⊢
  rw [if_neg (by omega),if_neg (by omega),if_neg (by omega),if_pos h7] at h ⊢
  unfold a0c at h ⊢
  split at h
  ·cases h
  ·rw [if_neg (by assumption)];try rfl
 ·have e1:e0J [e]=[]:=by simp [e0J,h7]
  rw [e1,List.append_nil]
  unfold a0d b0a a0g armL c0R a0o
  rw [if_neg h7]
  repeat' split
  all_goals rfl
theorem s0l:∀ {l:List Ev} {s:S12},(a0N s l).1=0→(a0N s l).2.sgs=s.sgs++e0J l
 | [],s,_=>by simp [a0N,e0J]
 | e :: l,s,h=>by
  rw [a0N] at h ⊢
  by_cases a:(a0H s e).1=0
  ·rw [if_pos a] at h ⊢
   obtain ⟨_,_,_,_,_,_,a7,a8⟩:=b0d a
   rw [s0l h,y0x,a8]
   dsimp only
   rw [z0w a7,List.append_assoc]
  ·rw [if_neg a] at h;exact absurd h a
theorem BrOk.sgs {l:List Ev}(h:BrOk l):(a0N s0 l).2.sgs=e0J l:=by
 rw [s0l h.fold];simp [s0]
theorem g1G {l:List Ev}{e:Ev}(h:e∈l)(h7:e.ty=7):c0s (e0J l) e.name=true:=by
 unfold c0s e0J
 rw [List.any_eq_true]
 exact ⟨sgOf e,List.mem_map.2 ⟨e,List.mem_filter.2 ⟨h,by simp [h7]⟩,rfl⟩,by simp [sgOf]⟩
theorem begB_iff {a b:List Ev}:begB a b=true↔a <+: b:=by
 unfold begB
 rw [Bool.and_eq_true,decide_eq_true_eq,List.prefix_iff_eq_take]
 constructor
 ·rintro ⟨_,h⟩;exact v0I h
 ·intro h;exact ⟨by rw [h,List.length_take];omega,f0S h⟩
theorem begB_f {a b:List Ev}:begB a b=false↔¬ a <+: b:=by rw [←begB_iff,Bool.not_eq_true]
theorem j0S {α:Type}{l:List α}{n:Nat}(h0:0<n)(hn:n≤l.length):l.take n≠[]:=fun e=>by
 have:=congrArg List.length e
 rw [List.length_take,List.length_nil] at this;omega
theorem g0q {b:List Ev}{n:Nat}(h0:0<n)(hn:n≤b.length):a0i (b.take n)=(gt b (n-1)).ver:=by
 unfold a0i
 rw [List.length_take,Nat.min_eq_left hn,a0v (by rw [List.length_take];omega),a0v (by omega),List.getElem_take]
structure Uni (U:List Ev→Prop):Prop where
 ok:∀ {p},U p→BrOk p∧p≠[]
 down:∀ {p q},U p→q <+: p→q≠[]→U q
 comp:∀ {p q},U p→U q→a0i p=a0i q→p <+: q∨q <+: p
theorem g0p {l:List Im}{id v:Int}:a0b (b0y l id v)=⟨id,v⟩:=by
 unfold b0y
 split
 ·rename_i h
  unfold a0b
  rw [List.length_set,if_neg (by omega),a0v (by rw [List.length_set];omega),List.getElem_set_self]
 ·unfold a0b
  rw [if_neg (by simp),a0v (by simp)]
  simp
theorem v0K {first:Int}:∀ {vs:List Int} {i:Nat} {acc:List Im},vs≠[]→a0b (ofA first i vs acc)=⟨first+i+vs.length-1,gt vs (vs.length-1)⟩
 | [],i,acc,h=>absurd rfl h
 | [v],i,acc,_=>by
  rw [ofA,ofA,g0p]
  simp [gt]
 | v :: w :: vs,i,acc,_=>by
  rw [ofA,v0K (vs:=w :: vs) (by simp)]
  have e:gt (v :: w :: vs) ((v :: w :: vs).length-1)=gt (w :: vs) ((w :: vs).length-1):=by simp [gt]
  rw [e]
  congr 1
  simp only [List.length_cons];omega
theorem c0n {b:List Ev}(h:b≠[]):a0b (ofL b)=⟨(gt b 0).id+b.length-1,a0i b⟩:=by
 have hp:0<b.length:=List.length_pos_iff.2 h
 unfold ofL h0e
 rw [if_neg h,v0K (by simpa using h),List.length_map,Int.natCast_zero,Int.add_zero]
 congr 1
 unfold a0i
 rw [a0v (by rw [List.length_map];omega),a0v (by omega),List.getElem_map]
theorem i0C {a b:List Ev}(ha:a≠[])(hb:b≠[])(hn:a0i a≠a0i b):0<cmpI (ofL a) (ofL b)↔a0i b<a0i a:=by
 unfold cmpI
 rw [c0n ha,c0n hb]
 dsimp only
 (repeat' split)<;>omega
theorem p0Q {x:List Ev}(hx:x≠[]):∀ {o:Br},(∀ b∈o,b≠[]∧a0i b≠a0i x)→o.Pairwise (fun a b=>a0i b<a0i a)→(∀ b∈o.take (posK x o),a0i x<a0i b)∧(∀ b∈o.drop (posK x o),a0i b<a0i x)
 | [],_,_=>⟨fun b h=>by simp at h,fun b h=>by simp at h⟩
 | c :: o,hm,hp=>by
  obtain ⟨hc,hcv⟩:=hm c (by simp)
  obtain ⟨h1,h2⟩:=List.pairwise_cons.1 hp
  have ih:=p0Q hx (o:=o) (fun b hb=>hm b (by simp [hb])) h2
  rw [posK]
  by_cases h:0<cmpI (ofL c) (ofL x)
  ·rw [if_pos h,List.take_succ_cons,List.drop_succ_cons]
   have hv:=(i0C hc hx hcv).1 h
   refine ⟨fun b hb=>?_,ih.2⟩
   rcases List.mem_cons.1 hb with rfl|hb
   ·exact hv
   ·exact ih.1 b hb
  ·rw [if_neg h,List.take_zero,List.drop_zero]
   have hv:a0i c<a0i x:=by have:=mt (i0C hc hx hcv).2 h;omega
   refine ⟨fun b hb=>by simp at hb,fun b hb=>?_⟩
   rcases List.mem_cons.1 hb with rfl|hb
   ·exact hv
   ·have:=h1 b hb;omega
noncomputable def insU (x:List Ev)(o:Br):Br:=o.take (posK x o)++x :: o.drop (posK x o)
theorem insU_mem {x b:List Ev}{o:Br}:b∈insU x o↔b=x∨b∈o:=by
 unfold insU
 rw [List.mem_append,List.mem_cons]
 conv=>rhs;rw [←List.take_append_drop (posK x o) o,List.mem_append]
 constructor
 ·rintro (h|h|h)
  ·exact .inr (.inl h)
  ·exact .inl h
  ·exact .inr (.inr h)
 ·rintro (h|h|h)
  ·exact .inr (.inl h)
  ·exact .inl h
  ·exact .inr (.inr h)
theorem g1E {x:List Ev}{o:Br}(hx:x≠[])(hm:∀ b∈o,b≠[]∧a0i b≠a0i x)(hp:o.Pairwise fun a b=>a0i b<a0i a):(insU x o).Pairwise fun a b=>a0i b<a0i a:=by
 obtain ⟨h1,h2⟩:=p0Q hx hm hp
 unfold insU
 generalize posK x o=k at *
 rw [List.pairwise_append,List.pairwise_cons]
 have hp':=hp
 rw [←List.take_append_drop k o,List.pairwise_append] at hp'
 refine ⟨hp'.1,⟨h2,hp'.2.1⟩,fun a ha b hb=>?_⟩
 rcases List.mem_cons.1 hb with rfl|hb
 ·exact h1 a ha
 ·exact hp'.2.2 a ha b hb
noncomputable def addU (t:Br)(x:List Ev):Br:=if t.any (begB x)=true then t else insU x (t.filter fun b=>!begB b x)
structure TrU (U:List Ev→Prop)(t:Br):Prop where
 mem:∀ b∈t,U b
 lt:t.Pairwise fun a b=>a0i b<a0i a
 anti:∀ a∈t,∀ b∈t,a <+: b→a=b
theorem TrU.nil {U:List Ev→Prop}:TrU U []:=⟨fun b h=>by simp at h,.nil,fun a h=>by simp at h⟩
theorem any_beg {t:Br}{x:List Ev}:t.any (begB x)=true↔∃ b∈t,x <+: b:=by
 rw [List.any_eq_true]
 constructor
 ·rintro ⟨b,h1,h2⟩;exact ⟨b,h1,begB_iff.1 h2⟩
 ·rintro ⟨b,h1,h2⟩;exact ⟨b,h1,begB_iff.2 h2⟩
theorem mem_fil {t:Br}{x b:List Ev}:b∈t.filter (fun b=>!begB b x)↔b∈t∧¬ b <+: x:=by
 rw [List.mem_filter,Bool.not_eq_true',begB_f]
theorem d0j {t:Br}{x b:List Ev}(hk:¬ t.any (begB x)=true):b∈addU t x↔b=x∨(b∈t∧¬ b <+: x):=by
 unfold addU
 rw [if_neg hk,insU_mem,mem_fil]
theorem Uni.tip {U:List Ev→Prop}(hu:Uni U){t:Br}(ht:TrU U t){x:List Ev}(hx:U x)(hk:¬ t.any (begB x)=true):∀ b∈t.filter (fun b=>!begB b x),b≠[]∧a0i b≠a0i x:=fun b hb=>by
 obtain ⟨h1,h2⟩:=mem_fil.1 hb
 refine ⟨(hu.ok (ht.mem b h1)).2,fun e=>?_⟩
 rcases hu.comp (ht.mem b h1) hx e with h|h
 ·exact h2 h
 ·exact hk (any_beg.2 ⟨b,h1,h⟩)
theorem g1B {U:List Ev→Prop}(hu:Uni U){t:Br}(ht:TrU U t){x:List Ev}(hx:U x):TrU U (addU t x):=by
 by_cases hk:t.any (begB x)=true
 ·unfold addU;rw [if_pos hk];exact ht
 refine ⟨fun b hb=>?_,?_,fun a ha b hb hab=>?_⟩
 ·rcases (d0j hk).1 hb with rfl|⟨h,_⟩
  ·exact hx
  ·exact ht.mem b h
 ·unfold addU
  rw [if_neg hk]
  exact g1E (hu.ok hx).2 (hu.tip ht hx hk) (ht.lt.sublist List.filter_sublist)
 ·rcases (d0j hk).1 ha with rfl|⟨h1,h2⟩<;>rcases (d0j hk).1 hb with rfl|⟨h3,h4⟩
  ·rfl
  ·exact absurd (any_beg.2 ⟨b,h3,hab⟩) hk
  ·exact absurd hab h2
  ·exact ht.anti a h1 b h3 hab
def Dn (t:Br)(p:List Ev):Prop:=∃ b∈t,p <+: b
theorem dn_add {t:Br}{x p:List Ev}:Dn (addU t x) p↔Dn t p∨p <+: x:=by
 by_cases hk:t.any (begB x)=true
 ·have e:addU t x=t:=by unfold addU;rw [if_pos hk]
  rw [e]
  obtain ⟨b,h1,h2⟩:=any_beg.1 hk
  exact ⟨.inl,fun h=>h.elim id fun h=>⟨b,h1,h.trans h2⟩⟩
 ·constructor
  ·rintro ⟨b,hb,h⟩
   rcases (d0j hk).1 hb with rfl|⟨h1,_⟩
   ·exact .inr h
   ·exact .inl ⟨b,h1,h⟩
  ·rintro (⟨b,h1,h⟩|h)
   ·by_cases h2:b <+: x
    ·exact ⟨x,(d0j hk).2 (.inl rfl),h.trans h2⟩
    ·exact ⟨b,(d0j hk).2 (.inr ⟨h1,h2⟩),h⟩
   ·exact ⟨x,(d0j hk).2 (.inl rfl),h⟩
theorem b1p {α:Type}{p:α→Bool}:∀ {l:List α},l.length=(l.filter p).length+(l.filter fun b=>!p b).length
 | []=>rfl
 | a :: l=>by
  have:=b1p (p:=p) (l:=l)
  cases h:p a<;>simp [h]<;>omega
theorem c1s:∀ {L:Br} {t:Br},t.Nodup→(∀ a∈t,∀ b∈t,a <+: b→a=b)→(∀ b∈t,∃ l∈L,b <+: l)→t.length≤L.length
 | [],t,_,_,h=>by
  cases t with
  | nil=>simp
  | cons b t=>obtain ⟨l,hl,_⟩:=h b (by simp);simp at hl
 | l :: L,t,hn,ha,h=>by
  have h1:(t.filter fun b=>begB b l).length≤1:=by
   have hn':=hn.sublist (List.filter_sublist (p:=fun b=>begB b l) (l:=t))
   have hm:∀ b∈t.filter (fun b=>begB b l),b∈t∧b <+: l:=fun b hb=>by rw [List.mem_filter,begB_iff] at hb;exact hb
   generalize t.filter (fun b=>begB b l)=f at *
   match f with
   | []=>simp
   | [_]=>simp
   | a :: b :: f =>
    obtain ⟨a1,a2⟩:=hm a (by simp)
    obtain ⟨b1,b2⟩:=hm b (by simp)
    have:a=b:=(List.prefix_or_prefix_of_prefix a2 b2).elim (ha a a1 b b1) fun h=>(ha b b1 a a1 h).symm
    subst this
    simp at hn'
  have h2:=c1s (L:=L) (t:=t.filter fun b=>!begB b l) (hn.sublist List.filter_sublist) (fun a h1 b h2=>ha a (List.mem_filter.1 h1).1 b (List.mem_filter.1 h2).1) (fun b hb=>by
   obtain ⟨k1,k2⟩:=mem_fil.1 hb
   obtain ⟨m,hm,hb2⟩:=h b k1
   rcases List.mem_cons.1 hm with rfl|hm
   ·exact absurd hb2 k2
   ·exact ⟨m,hm,hb2⟩)
  have h3:=b1p (l:=t) (p:=fun b=>begB b l)
  rw [List.length_cons];omega
theorem TrU.nd {U:List Ev→Prop}{t:Br}(ht:TrU U t):t.Nodup:=ht.lt.imp fun h e=>by subst e;omega
theorem i0b:∀ {l:List Ev} {s:S12},(a0N s l).1=0→(∀ e,l.head?=some e→e.id=s.id+1∧s.ver≤e.ver∧s.time≤e.time)∧∀ i,i+1<l.length→(gt l (i+1)).id=(gt l i).id+1∧(gt l i).ver≤(gt l (i+1)).ver∧(gt l i).time≤(gt l (i+1)).time
 | [],_,_=>⟨by simp,by simp⟩
 | e :: l,s,h=>by
  rw [a0N] at h
  by_cases a:(a0H s e).1=0
  ·rw [if_pos a] at h
   obtain ⟨a1,a2,a3,a4,a5,a6,a7,a8⟩:=b0d a
   have ih:=i0b h
   refine ⟨fun e' he=>?_,fun i hi=>?_⟩
   ·cases he;exact ⟨a2,a3,a4⟩
   ·cases i with
    | zero =>
     cases l with
     | nil=>simp at hi
     | cons x l =>
      have:=ih.1 x rfl
      rw [a8] at this
      simpa [gt] using this
    | succ i =>
     have:=ih.2 i (by simpa using hi)
     simpa [gt] using this
  ·rw [if_neg a] at h;exact absurd h a
def PnV (v:Int)(p:Pn):Prop:=p.ver=v∧∀ e∈p.out,e.ver=v
theorem c0X {v:Int}{p:Pn}{e:Ev}(h:PnV v p):PnV v (a0P p e).2:=by
 rcases e0P p e with ⟨_,h2⟩|⟨_,_,h2,_,h3⟩|⟨_,_,h2,_,f,hf,h3,h4⟩
 ·rw [h2];exact h
 ·rw [h3]
  refine ⟨h.1,fun x hx=>?_⟩
  rcases List.mem_append.1 hx with hx|hx
  ·exact h.2 x hx
  ·obtain rfl:=List.mem_singleton.1 hx;exact h.1
 ·rw [h4]
  refine ⟨h.1,fun x hx=>?_⟩
  rcases List.mem_append.1 hx with hx|hx
  ·exact h.2 x hx
  ·rcases List.mem_cons.1 hx with rfl|hx
   ·exact h.1
   ·obtain rfl:=List.mem_singleton.1 hx;rw [hf];exact h.1
theorem x0Q {v:Int}{p:Pn}{ds:List Nd}(h:PnV v p):PnV v (b0m p ds).2:=by
 unfold b0m;repeat' split
 all_goals first|exact h|exact c0X h
theorem x0f {v:Int}{p:Pn}(h:PnV v p):PnV v (b0r p).2:=by
 unfold b0r;repeat' split
 all_goals first|exact h|exact c0X h
theorem b1f {v:Int}{p:Pn}{i t:Int}{ok:Bool}{d:Bs}(h:PnV v p):PnV v (b0M p i t ok d).2:=by
 unfold b0M;repeat' split
 all_goals first|exact h|exact c0X h
theorem i1L {v:Int}{p:Pn}{nm:Bs}{t:Int}(h:PnV v p):PnV v (armP p nm t).2:=by
 unfold armP;repeat' split
 all_goals first|exact h|exact c0X h
theorem r0Y {v:Int}{p:Pn}{nm d:Bs}(h:PnV v p):PnV v (a0u p nm d).2:=by
 unfold a0u;repeat' split
 all_goals first|exact h|exact c0X h
theorem c1c {v:Int}{p:Pn}(h:PnV v p):PnV v (b0Z p).2:=by
 unfold b0Z;repeat' split
 all_goals first|exact h|exact c0X h
theorem g1N {v:Int}{p:Pn}(h:PnV v p):PnV v (e0m p).2:=by
 unfold e0m;repeat' split
 all_goals first|exact h|exact c0X h
theorem o0f {v now:Int}:∀ {k i:Nat} {p:Pn} {n:Int},PnV v p→PnV v (d0K now k i p n).2.1
 | 0,_,_,_,h=>h
 | k+1,i,p,n,h=>by
  rw [d0K]
  have hw:=c0X (e:=⟨0,0,0,4,i,(gt p.s.nodes i).tr,[],[],[]⟩) h
  repeat' split
  all_goals first|exact h|exact hw|exact o0f h|exact o0f hw
theorem c1W {v now:Int}:∀ {f:Nat} {p:Pn} {n:Int},PnV v p→PnV v (f0T now f p n).2
 | 0,_,_,h=>h
 | f+1,p,n,h=>by
  rw [f0T]
  have hw:=c0X (e:=⟨0,0,0,6,0,0,(gt p.s.tms (d0P now p.s.tms 0 (-1) p.s.tms).toNat).name,[],[]⟩) h
  repeat' split
  all_goals first|exact h|exact hw|exact c1W hw
theorem g1Q {v:Int}{p:Pn}(h:PnV v p):PnV v (f0J p).2:=by
 unfold f0J;split
 ·exact o0f h
 ·exact c1W (o0f h)
theorem e1d {v:Int}{p:Pn}{x:Rw}(h:PnV v p):∀ {f i:Nat},PnV v (finA p x f i)
 | 0,_=>x0f h
 | f+1,i=>by
  rw [finA];repeat' split
  all_goals first|exact b1f h|exact e1d h
theorem g1o {v:Int}{p:Pn}{x:Rw}{l:List Rd}(h:PnV v p):PnV v (e0z p x l):=by
 unfold e0z;repeat' split
 all_goals first|exact h|exact x0Q h|exact x0f h|exact e1d h|exact i1L h|exact r0Y h|exact g1Q h|exact c1c h|exact g1N h
def Gw (lo hi:Int)(l m:List Ev):Prop:=∃ w,m=l++w∧∀ e∈w,lo≤e.ver∧e.ver≤hi
theorem Gw.refl {lo hi:Int}{l:List Ev}:Gw lo hi l l:=⟨[],by simp,fun e h=>by simp at h⟩
theorem j0l {steps:List Rw}{defs:List Rd}:∀ {f i:Nat} {out:List Ev} {v now:Int},0≤v→Gw v (v+22*f) out (g0L steps defs f i out v now)
 | 0,_,_,_,_,_=>Gw.refl
 | f+1,i,out,v,now,h0=>by
  rw [g0L]
  split
  ·split
   ·have hv:=t0z v (mvA (gt steps i))
    generalize verL v (mvA (gt steps i))=v' at *
    have hs:=g1o (x:=gt steps i) (l:=defs) (p:=⟨(a0N s0 out).2,v',now+pick (gt steps i).c 5,[]⟩) (v:=v') ⟨rfl,fun e he=>by simp at he⟩
    obtain ⟨w,hw,hv2⟩:=j0l (steps:=steps) (defs:=defs) (f:=f) (i:=i+1) (out:=out++(e0z ⟨(a0N s0 out).2,v',now+pick (gt steps i).c 5,[]⟩ (gt steps i) defs).out) (v:=v') (now:=now+pick (gt steps i).c 5) (by omega)
    refine ⟨(e0z ⟨(a0N s0 out).2,v',now+pick (gt steps i).c 5,[]⟩ (gt steps i) defs).out++w,by rw [hw,List.append_assoc],fun e he=>?_⟩
    rcases List.mem_append.1 he with he|he
    ·have:=hs.2 e he
     rw [this]
     refine ⟨hv.1,?_⟩
     omega
    ·have:=hv2 e he
     omega
   ·exact Gw.refl
  ·exact Gw.refl
theorem BrOk.ver0 {l:List Ev}(h:BrOk l){e:Ev}(he:e∈l):1≤e.ver:=by
 have:=(rightE_iff.1 (h.right he)).2.2.1
 exact (f0Q this).1
theorem p0y {l:List Ev}{steps:List Rw}{defs:List Rd}(h:BrOk l):Gw (if l.length=0 then 1 else a0i l) ((if l.length=0 then 1 else a0i l)+660) l (e0K l steps defs):=by
 unfold e0K
 by_cases hz:l.length=0
 ·rw [if_pos hz,if_pos hz]
  obtain rfl:=List.eq_nil_of_length_eq_zero hz
  exact j0l (by omega)
 ·rw [if_neg hz,if_neg hz]
  have:=h.ver0 (a0M (l:=l) (k:=l.length-1) (by omega))
  exact j0l (f:=30) (v:=(gt l (l.length-1)).ver) (by omega)
theorem g1F {hd:List Ev}{at' v:Int}{defs:List Rd}:∀ e∈(f0C hd at' v defs).out,e.ver=v:=by
 have h0:PnV v ⟨(a0N s0 hd).2,v,hdT hd,[]⟩:=⟨rfl,fun e he=>by simp at he⟩
 unfold f0C
 split
 ·exact (x0Q h0).2
 ·exact (r0Y h0).2
theorem s0V {l w:List Ev}(h:w≠[]):a0i (l++w)=a0i w:=by
 have hp:0<w.length:=List.length_pos_iff.2 h
 unfold a0i
 rw [List.length_append,a0v (by rw [List.length_append];omega),a0v (by omega),List.getElem_append_right (by omega)]
 congr 2;omega
theorem p0N {l:List Ev}(h:l≠[]):∃ e∈l,a0i l=e.ver:=⟨_,a0M (l:=l) (k:=l.length-1) (by have:=List.length_pos_iff.2 h;omega),rfl⟩
theorem b1O {hd:List Ev}{at' v:Int}{steps:List Rw}{defs:List Rd}(h:BrOk hd):Gw v (v+660) hd (s0h hd at' v steps defs):=by
 unfold s0h
 split
 ·split
  ·exact Gw.refl
  ·rename_i hz
   have hok:=h.app (n0r (at':=at') (v:=v) (defs:=defs) h)
   have hv:=g1F (hd:=hd) (at':=at') (v:=v) (defs:=defs)
   generalize (f0C hd at' v defs).out=w at *
   have hw:w≠[]:=fun e=>hz (by rw [e];rfl)
   have hlv:a0i (hd++w)=v:=by
    rw [s0V hw]
    obtain ⟨e,he,h1⟩:=p0N hw
    rw [h1];exact hv e he
   obtain ⟨x,hx,hxv⟩:=p0y (steps:=steps) (defs:=defs) hok
   rw [if_neg (by rw [List.length_append];have:=List.length_pos_iff.2 hw;omega),hlv] at hxv
   refine ⟨w++x,by rw [hx,List.append_assoc],fun e he=>?_⟩
   rcases List.mem_append.1 he with he|he
   ·rw [hv e he];omega
   ·exact hxv e he
 ·exact Gw.refl
theorem t0m {l:List Ev}(h:BrOk l):∀ (j i:Nat),i≤j→j<l.length→(gt l i).ver≤(gt l j).ver
 | 0,i,hi,hj=>by (obtain rfl:i=0:=by omega);exact Int.le_refl _
 | j+1,i,hi,hj=>by
  by_cases e:i=j+1
  ·subst e;exact Int.le_refl _
  ·have h1:=t0m h j i (by omega) (by omega)
   have h2:=((i0b h.fold).2 j hj).2.1
   omega
theorem w0V {α:Type}{p l:List α}(hp:p <+: l):∃ n,n≤l.length∧p=l.take n:=⟨p.length,hp.length_le,List.prefix_iff_eq_take.1 hp⟩
theorem h1Y {p l:List Ev}(h:BrOk l)(hp:p <+: l)(hne:p≠[]):a0i p≤a0i l:=by
 obtain ⟨n,h1,rfl⟩:=w0V hp
 have h0:=List.length_pos_iff.2 hne
 rw [List.length_take] at h0
 rw [g0q (by omega) (by omega)]
 exact t0m h _ _ (by omega) (by omega)
theorem BrOk.pfx {p l:List Ev}(h:BrOk l)(hp:p <+: l):BrOk p:=by
 obtain ⟨n,_,rfl⟩:=w0V hp
 exact h.take _
def Bg (L:Br)(p:List Ev):Prop:=p≠[]∧∃ l∈L,p <+: l
structure LnOk (L:Br)(v:Int):Prop where
 uni:Uni (Bg L)
 le:∀ p,Bg L p→a0i p≤v
theorem LnOk.nil:LnOk [] 0:=⟨⟨fun h=>by obtain ⟨_,l,h,_⟩:=h;simp at h,fun h=>by obtain ⟨_,l,h,_⟩:=h;simp at h,fun h=>by obtain ⟨_,l,h,_⟩:=h;simp at h⟩,fun p h=>by obtain ⟨_,l,h,_⟩:=h;simp at h⟩
theorem bg_app {L:Br}{b p:List Ev}:Bg (L++[b]) p↔Bg L p∨(p≠[]∧p <+: b):=by
 unfold Bg
 constructor
 ·rintro ⟨h1,l,h2,h3⟩
  rcases List.mem_append.1 h2 with h2|h2
  ·exact .inl ⟨h1,l,h2,h3⟩
  ·obtain rfl:=List.mem_singleton.1 h2;exact .inr ⟨h1,h3⟩
 ·rintro (⟨h1,l,h2,h3⟩|⟨h1,h2⟩)
  ·exact ⟨h1,l,by simp [h2],h3⟩
  ·exact ⟨h1,b,by simp,h2⟩
theorem LnOk.add {L:Br}{v lo hi:Int}{h b:List Ev}(hl:LnOk L v)(hh:h=[]∨Bg L h)(hb:BrOk b)(he:Gw lo hi h b)(hv:v<lo):LnOk (L++[b]) (brV v b):=by
 obtain ⟨w,hw,hwv⟩:=he
 have key:∀ p,p≠[]→p <+: b→Bg L p∨v<a0i p:=by
  intro p hp hpb
  by_cases hph:p <+: h
  ·rcases hh with rfl|⟨_,l,h1,h2⟩
   ·exact absurd (List.prefix_nil.1 hph) hp
   ·exact .inl ⟨hp,l,h1,hph.trans h2⟩
  ·right
   have hhp:h <+: p:=((List.prefix_or_prefix_of_prefix hpb (by rw [hw];exact List.prefix_append h w)).resolve_left hph)
   obtain ⟨x,rfl⟩:=hhp
   have hx:x≠[]:=fun e=>hph (by rw [e,List.append_nil];exact List.prefix_refl h)
   rw [hw,List.prefix_append_right_inj] at hpb
   rw [s0V hx]
   obtain ⟨e,he,h1⟩:=p0N hx
   have:=(hwv e (hpb.subset he)).1
   omega
 have okb:∀ p,p≠[]→p <+: b→BrOk p:=fun p _ hp=>hb.pfx hp
 refine ⟨⟨fun {p} hp=>?_,fun {p q} hp hq hne=>?_,fun {p q} hp hq e=>?_⟩,fun p hp=>?_⟩
 ·rcases bg_app.1 hp with h1|⟨h1,h2⟩
  ·exact hl.uni.ok h1
  ·exact ⟨hb.pfx h2,h1⟩
 ·rcases bg_app.1 hp with h1|⟨h1,h2⟩
  ·exact bg_app.2 (.inl (hl.uni.down h1 hq hne))
  ·exact bg_app.2 (.inr ⟨hne,hq.trans h2⟩)
 ·rcases bg_app.1 hp with h1|⟨h1,h2⟩<;>rcases bg_app.1 hq with h3|⟨h3,h4⟩
  ·exact hl.uni.comp h1 h3 e
  ·rcases key q h3 h4 with h5|h5
   ·exact hl.uni.comp h1 h5 e
   ·have:=hl.le p h1;omega
  ·rcases key p h1 h2 with h5|h5
   ·exact hl.uni.comp h5 h3 e
   ·have:=hl.le q h3;omega
  ·exact List.prefix_or_prefix_of_prefix h2 h4
 ·unfold brV
  rcases bg_app.1 hp with h1|⟨h1,h2⟩
  ·have:=hl.le p h1
   split<;>omega
  ·have h3:=h1Y hb h2 h1
   have h4:=h2.length_le
   have h5:=List.length_pos_iff.2 h1
   rw [if_pos (by omega)]
   unfold a0i at h3 ⊢
   omega
theorem g1e {n:Nat}{v:Int}(h:0<n):v<verN n v:=by
 cases n with
 | zero=>omega
 | succ n =>
  have h1:=t0c n (r0D v)
  have h2:=o0b v
  rw [verN];omega
theorem p0Y {s:List (List Rw)}{a:List Int}{d:List Rd}:∀ {f i:Nat} {out:Br} {v:Int},i+f≤1000→out.length=i→(∀ b∈out,BrOk b)→LnOk out v→0≤v→(i=0→v=0)→∃ v',LnOk (brA s a d f i out v) v'
 | 0,i,out,v,hf,ho,hb,hl,h0,hv0=>⟨v,hl⟩
 | f+1,i,out,v,hf,ho,hb,hl,h0,hv0=>by
  rw [brA]
  split
  ·have hbi:=c1y (s:=s) (a:=a) (d:=d) (v:=v) ho hb
   refine p0Y (by omega) (by simp [ho]) (fun b h=>?_) ?_ (by unfold brV;split<;>omega) (by omega)
   ·rcases List.mem_append.1 h with h|h
    ·exact hb b h
    ·rw [List.mem_singleton.1 h];exact hbi
   ·by_cases hi:i=0
    ·have e:brI s a d i out v=e0K [] (gt s 0) d:=by unfold brI;rw [if_pos hi]
     rw [e] at hbi ⊢
     have hx:=p0y (steps:=gt s 0) (defs:=d) BrOk.nil
     rw [if_pos (show ([]:List Ev).length=0 from rfl)] at hx
     exact hl.add (.inl rfl) hbi hx (by rw [hv0 hi];omega)
    ·have e:brI s a d i out v=r0y (gt out (pick (IntKind.i64.wrap (i*7+a.length)) out.length).toNat) (if i<a.length then gt a i else 0) (verL v (IntKind.i64.wrap (1+(i:Int).tmod 2))) (gt s i) d:=by unfold brI;rw [if_neg hi]
     have pk:=b0Y (x:=IntKind.i64.wrap (i*7+a.length)) (n:=out.length) (by omega)
     have hgt:v<verL v (IntKind.i64.wrap (1+(i:Int).tmod 2)):=by
      have hm:(i:Int).tmod 2=0∨(i:Int).tmod 2=1:=by rw [Int.tmod_eq_emod_of_nonneg (by omega)];omega
      have hp:0<(pick (IntKind.i64.wrap (1+(i:Int).tmod 2)) 3).toNat:=by
       rcases hm with h|h<;>rw [h]<;>decide
      have:=g1e (v:=v) hp
      unfold verL;omega
     rw [e] at hbi ⊢
     have hgm:gt out (pick (IntKind.i64.wrap (i*7+a.length)) out.length).toNat∈out:=a0M (by omega)
     generalize gt out (pick (IntKind.i64.wrap (i*7+a.length)) out.length).toNat=l0 at *
     unfold r0y at hbi ⊢
     generalize (pick (if i<a.length then gt a i else 0) (l0.length+1)).toNat=c at *
     refine hl.add ?_ hbi (b1O ((hb l0 hgm).take c)) hgt
     by_cases hn:l0.take c=[]
     ·exact .inl hn
     ·exact .inr ⟨hn,l0,hgm,List.take_prefix c l0⟩
  ·exact ⟨v,hl⟩
theorem d1x (s:List (List Rw))(a:List Int)(d:List Rd):Uni (Bg (b0c s a d)):=by
 obtain ⟨v,h⟩:=p0Y (s:=s) (a:=a) (d:=d) (f:=5) (i:=0) (out:=[]) (v:=0) (by omega) rfl (fun b h=>by simp at h) LnOk.nil (by omega) (fun _=>rfl)
 exact h.uni
def okI (y x:Im):Bool:=decide (y.id<x.id)&&decide (x.id≤200)&&decide (y.ver<x.ver)&&verB x.ver
def d0E:Im→List Im→Bool
 | _,[]=>true
 | y,x :: l=>okI y x&&d0E x l
def c0x (l:List Im):Bool:=d0E ⟨0,0⟩ l
theorem d0k {x:Im}:∀ {l:List Im} {y:Im},d0E y (l++[x])=(d0E y l&&okI (if l.length=0 then y else a0b l) x)
 | [],y=>by simp [d0E]
 | z :: l,y=>by
  have e:a0b (z :: l)=if l.length=0 then z else a0b l:=by
   unfold a0b
   rw [if_neg (by simp)]
   cases l with
   | nil=>rfl
   | cons w l=>rw [if_neg (by simp),if_neg (by simp)];simp [gt]
  rw [List.cons_append,d0E,d0k,d0E,Bool.and_assoc,show (if (z :: l).length=0 then y else a0b (z :: l))=a0b (z :: l) from if_neg (by simp),e]
theorem d1N {l:List Im}{x:Im}(h:0<l.length):l.set (l.length-1) x=l.take (l.length-1)++[x]:=by
 rw [List.set_eq_take_append_cons_drop,if_pos (by omega),show l.length-1+1=l.length by omega,List.drop_length]
theorem y0I {l:List Im}(h:0<l.length):l=l.take (l.length-1)++[a0b l]:=by
 have e:a0b l=gt l (l.length-1):=if_neg (by omega)
 rw [e,a0v (by omega),←List.take_succ_eq_append_getElem (by omega),show l.length-1+1=l.length by omega,List.take_length]
theorem y0L {l:List Im}{id v:Int}(h:c0x l=true)(h1:(a0b l).id<id)(h2:id≤200)(h3:(a0b l).ver≤v)(h4:verB v=true):c0x (b0y l id v)=true:=by
 have hv:=f0Q h4
 unfold b0y
 by_cases hc:0<l.length∧(gt l (l.length-1)).ver=v
 ·rw [if_pos hc,d1N hc.1]
  have hs:=y0I hc.1
  unfold c0x at h ⊢
  rw [hs,d0k,Bool.and_eq_true] at h
  rw [d0k,Bool.and_eq_true]
  refine ⟨h.1,?_⟩
  have h5:=h.2
  generalize (if (l.take (l.length-1)).length=0 then (⟨0,0⟩:Im) else a0b (l.take (l.length-1)))=y at *
  have e:(a0b l).ver=v:=by rw [←hc.2];unfold a0b;rw [if_neg (by omega)]
  simp only [okI,Bool.and_eq_true,decide_eq_true_eq] at h5 ⊢
  rw [e] at h5
  exact ⟨⟨⟨by omega,h2⟩,h5.1.2⟩,h4⟩
 ·rw [if_neg hc]
  unfold c0x at h ⊢
  rw [d0k,Bool.and_eq_true]
  refine ⟨h,?_⟩
  simp only [okI,Bool.and_eq_true,decide_eq_true_eq]
  by_cases hz:l.length=0
  ·rw [if_pos hz]
   have e:a0b l=⟨0,0⟩:=if_pos hz
   rw [e] at h1 h3
   exact ⟨⟨⟨h1,h2⟩,by dsimp only;omega⟩,h4⟩
  ·rw [if_neg hz]
   have e:a0b l=gt l (l.length-1):=if_neg hz
   have:(a0b l).ver≠v:=fun e2=>hc ⟨by omega,by rw [←e2,e]⟩
   exact ⟨⟨⟨h1,h2⟩,by omega⟩,h4⟩
theorem p0V {first:Int}:∀ {vs:List Int} {i:Nat} {acc:List Im},c0x acc=true→(a0b acc).id<first+i→first+i+vs.length≤201→(∀ v∈vs,(a0b acc).ver≤v∧verB v=true)→vs.Pairwise (· ≤ ·)→c0x (ofA first i vs acc)=true
 | [],i,acc,h,_,_,_,_=>h
 | v :: vs,i,acc,h,h1,h2,h3,h4=>by
  obtain ⟨h5,h6⟩:=List.pairwise_cons.1 h4
  obtain ⟨h7,h8⟩:=h3 v (by simp)
  rw [List.length_cons] at h2
  rw [ofA]
  refine p0V (y0L h h1 (by omega) h7 h8) (by rw [g0p];dsimp only;omega) (by omega) (fun w hw=>?_) h6
  rw [g0p]
  exact ⟨h5 w hw,(h3 w (by simp [hw])).2⟩
theorem BrOk.id0 {l:List Ev}(h:BrOk l)(hn:l≠[]):(gt l 0).id=1:=by
 cases l with
 | nil=>exact absurd rfl hn
 | cons e l =>
  have:=((i0b h.fold).1 e rfl).1
  simpa [gt,s0] using this
theorem BrOk.vs {l:List Ev}(h:BrOk l):(l.map (·.ver)).Pairwise (· ≤ ·):=by
 rw [List.pairwise_iff_getElem]
 intro i j hi hj hij
 rw [List.length_map] at hi hj
 rw [List.getElem_map,List.getElem_map,←a0v hi,←a0v hj]
 exact t0m h j i (by omega) hj
theorem b1t {l:List Ev}(h:BrOk l):c0x (ofL l)=true:=by
 unfold ofL
 by_cases hn:l=[]
 ·rw [if_pos hn];rfl
 ·rw [if_neg hn,h.id0 hn]
  have hl:=h.len
  refine p0V rfl (by show (0:Int)<1+((0:Nat):Int);omega) (by rw [List.length_map];omega) (fun v hv=>?_) h.vs
  obtain ⟨e,he,rfl⟩:=List.mem_map.1 hv
  have h1:=(rightE_iff.1 (h.right he)).2.2.1
  have h2:=f0Q h1
  exact ⟨by show (0:Int)≤e.ver;omega,h1⟩
noncomputable def f0E (pre:List Im)(b:List Ev):Bool:=decide (1≤(a0b pre).id)&&decide ((a0b pre).id≤b.length)&&eqB (ofL (b.take (a0b pre).id.toNat)) pre
noncomputable def d0u (t:Br)(pre:List Im):Option (List Ev) :=
 if pre.length=0 then some [] else (t.find? (f0E pre)).map fun b=>b.take (a0b pre).id.toNat
theorem g1s {l:List Ev}(h:ofL l=[]):l=[]:=by
 refine Classical.byContradiction fun hn=>?_
 have h1:=c0n hn
 rw [h] at h1
 have h0:=List.length_pos_iff.2 hn
 have:(ofL l).length≠0:=by
  unfold ofL h0e
  rw [if_neg hn]
  cases hm:l.map (·.ver) with
  | nil=>rw [List.map_eq_nil_iff] at hm;exact absurd hm hn
  | cons v vs =>
   rw [ofA]
   have:∀ (vs:List Int) (i:Nat) (acc:List Im),0<acc.length→0<(ofA (gt l 0).id i vs acc).length:=by
    intro vs
    induction vs with
    | nil=>intro i acc h;exact h
    | cons v vs ih =>
     intro i acc h
     rw [ofA]
     refine ih _ _ ?_
     unfold b0y;split
     ·rw [List.length_set];exact h
     ·simp
   exact Nat.ne_of_gt (this vs 1 (b0y [] ((gt l 0).id+(0:Nat)) v) (by unfold b0y;rw [if_neg (by simp)];simp))
 rw [h] at this
 exact this rfl
theorem r0v {U:List Ev→Prop}(hu:Uni U){t:Br}(ht:∀ b∈t,U b){hd:List Ev}(hh:U hd):d0u t (ofL hd)=some hd∧Dn t hd∨d0u t (ofL hd)=none∧¬ Dn t hd:=by
 obtain ⟨ok,ne⟩:=hu.ok hh
 have h0:=List.length_pos_iff.2 ne
 have hid:(a0b (ofL hd)).id=hd.length:=by rw [c0n ne,ok.id0 ne];dsimp only;omega
 have hz:¬ (ofL hd).length=0:=fun e=>ne (g1s (List.eq_nil_of_length_eq_zero e))
 have key:∀ b∈t,f0E (ofL hd) b=true↔hd <+: b:=by
  intro b hb
  unfold f0E
  rw [hid,Int.toNat_natCast,Bool.and_eq_true,Bool.and_eq_true,decide_eq_true_eq,decide_eq_true_eq]
  constructor
  ·rintro ⟨⟨_,h1⟩,h2⟩
   have h2:=v0I h2
   have hp:U (b.take hd.length):=hu.down (ht b hb) (List.take_prefix _ _) (j0S h0 (by omega))
   have hv:a0i (b.take hd.length)=a0i hd:=by
    have h3:=c0n (hu.ok hp).2
    rw [h2,c0n ne] at h3
    exact (Im.mk.inj h3).2.symm
   have hl:(b.take hd.length).length=hd.length:=by rw [List.length_take];omega
   have:b.take hd.length=hd:=(hu.comp hp hh hv).elim (fun h=>h.eq_of_length hl) fun h=>(h.eq_of_length hl.symm).symm
   exact List.prefix_iff_eq_take.2 this.symm
  ·intro h
   have hl:=h.length_le
   refine ⟨⟨by omega,by omega⟩,f0S ?_⟩
   rw [←List.prefix_iff_eq_take.1 h]
 unfold d0u
 rw [if_neg hz]
 cases hf:t.find? (f0E (ofL hd)) with
 | none =>
  refine .inr ⟨rfl,?_⟩
  rintro ⟨b,hb,h⟩
  exact List.find?_eq_none.1 hf b hb ((key b hb).2 h)
 | some b =>
  have hb:=List.mem_of_find?_eq_some hf
  have h1:=(key b hb).1 (List.find?_some hf)
  refine .inl ⟨?_,b,hb,h1⟩
  rw [Option.map_some,hid,Int.toNat_natCast,←List.prefix_iff_eq_take.1 h1]
def z0v:SCode :=
  (jq ([.a 2 (.mv kN)]) (jq ([.a 3 (.mv kN)]) (.seq (jq ([jm 6 0,je 7 6,jk 8 0]) (.block 0 (.loop (jq ([jB 9 .lss 8 7]) (.seq (jc 9 .skip (.exit 0))
 (.seq (.block 1 (jq ([jm 10 8,jx 11 9 6 8,jL 12 9 11,.a 5 (.alloc 73 [jI,jI,jI,jI,jI,jI,(.f (.v (.string ⟨#[]⟩))),jN,jN]),jm 4 10,.n
 (.store 9 (.t 5) (.t 12))]) (.drw [jm 13 3,jm 14 0,.a 15 (.idx 9 (.t 14) (kI 0)),jo 16 0 15,jl 17 16,jm 18 4,jB 19 .add 17 18,jo 20 1 5,jl 21
 20,.a 22 (.call (kC 56) [(.t 13),(.t 19),(.t 21)]),jm 3 22] [0,0,2,6,14,0,62,0,128,511,1023]))) (.ops [jb 23 .add 8 1,jm 8 23])))))))
 (jq ([jm 24 3,jm 2 24]) .ret))))
theorem e1L:Fn Tryz.prog 22 25 [.t 2] z0v:=.of Tryz.func22 (by kernel_rfl)
def g0R:SCode :=
  (jq ([.a 6 (.mv kN)]) (.seq (jq ([jm 8 0,je 9 8,jm 7 9]) (jq ((ap [jm 10 7,jb 11 .gtr 10 0] (ap [jm 12 11,gM 13 0 12 true] (ap [gM 14 7 12 true,jG
 15 (.bin .sub (.t 14) (kI 1)) 12 true,jG 16 (.idx 2 (.t 13) (.t 15)) 12 true,gO 17 1 16 12 true,gL 18 17 12 true,gM 19 2 12 true,jG 20 (.bin .eql
 (.t 18) (.t 19)) 12 true] [.a 21 (.pick (.t 12) (.t 20) kF)])))) (jc 21 (jq ([jm 22 0,jm 23 7,jb 24 .sub 23 1,jm 25 1,jx 26 2 22 24,jo 27 0 26,.n
 (.store 1 (.t 27) (.t 25))]) (jq ([jm 28 0,jm 6 28]) .ret)) .skip))) (jq ((ap [jm 29 0,jm 30 1,jm 31 2,.a 32 (.bld [jI,jI] [(0,1,(.t 30)),(1,
 1,(.t 31))]),.a 33 (.bsl 57 2 1 [jI,jI] [(0,(.t 32))]),.a 34 (.app 57 2 16 (.t 29) (.t 33))] [jm 6 34])) .ret)))
theorem k0S:Fn Tryz.prog 56 35 [.t 6] g0R:=.of Tryz.func56 (by kernel_rfl)
def q0J:SCode :=
  (jq ([.a 2 (.alloc 57 [jI,jI])]) (.seq (jq ([jm 3 0,je 4 3,jb 5 .eql 4 0]) (jc 5 (jq ([.a 6 (.bld [jI,jI] []),.n (.store 2 (.t 2) (.t 6))]) .ret)
 .skip)) (jq ([jm 7 0,jm 8 0,je 9 8,jb 10 .sub 9 1,jx 11 2 7 10,jL 12 2 11,.n (.store 2 (.t 2) (.t 12))]) .ret)))
theorem y0X:Fn Tryz.prog 54 13 [.cA 2 2] q0J:=.of Tryz.func54 (by kernel_rfl)
def l0o:SCode :=
  (jq ([.a 2 (.mv kF)]) (jq ([.a 6 (.bld [jI,jI] []),.a 3 (.alloc 57 [jI,jI]),.n (.store 2 (.t 3) (.t 6))]) (.seq (jq ([jm 7 0,je 8 7,jk 9 0])
 (.block 0 (.loop (jq ([jB 10 .lss 9 8]) (.seq (jc 10 .skip (.exit 0)) (.seq (.block 1 (jq ([jx 11 2 7 9,jL 12 2 11,.a 5 (.alloc 57 [jI,jI]),.n
 (.store 2 (.t 5) (.t 12))]) (.seq (jq ((ap [jo 13 0 5,jl 14 13,jo 15 0 3,jl 16 15,jB 17 .leq 14 16] (ap [jm 18 17,gO 19 0 5 18 false] (ap [gL 20
 19 18 false,jG 21 (.bin .gtr (.t 20) (kI 200)) 18 false] (ap [.a 22 (.pick (.t 18) kT (.t 21)),jm 23 22,gO 24 1 5 23 false] (ap [gL 25 24 23 false,
 gO 26 1 3 23 false,gL 27 26 23 false,jG 28 (.bin .leq (.t 25) (.t 27)) 23 false] (ap [.a 29 (.pick (.t 23) kT (.t 28)),jm 30 29,gO 31 1 5 30 false]
 (ap [gL 32 31 30 false,jG 33 (.call (kC 75) [(.t 32)]) 30 false] [jG 34 (.unot (.t 33)) 30 false,.a 35 (.pick (.t 30) kT (.t 34))])))))))) (jc 35 (jq
 ([.a 2 (.mv kF)]) .ret) .skip)) (.ops [jL 36 2 5,.n (.store 2 (.t 3) (.t 36))])))) (.ops [jb 37 .add 9 1,jm 9 37]))))))) (jq ([.a 2 (.mv kT)])
 .ret))))
theorem t0X:Fn Tryz.prog 40 38 [.t 2] l0o:=.of Tryz.func40 (by kernel_rfl)
def g0x:SCode :=
  (jq ([jk 4 0]) (jq ((ap [jm 7 0,.a 8 (.call (kC 54) [(.t 7)])] (ap [jm 9 1,.a 10 (.call (kC 54) [(.t 9)])] [.a 5 (.alloc 57 [jI,jI]),.a 6 (.alloc
 57 [jI,jI]),.n (.store 2 (.t 5) (.t 8)),.n (.store 2 (.t 6) (.t 10))]))) (.seq (.drw [jo 11 1 5,jl 12 11,jo 13 1 6,jl 14 13,.a 15 (.call (kC 62)
 [(.t 12),(.t 14)]),jo 16 0 5,jl 17 16,jo 18 0 6,jl 19 18,.a 20 (.call (kC 62) [(.t 17),(.t 19)]),.a 21 (.bsl 3 1 2 [jI,jI] [(0,(.t 15)),(1,
 (.t 20))]),.a 22 (.call (kC 61) [(.t 21)]),jm 4 22] [0,1,0,4,15,0,32,0,128,511,1023,2047,4095]) .ret)))
theorem o0l:Fn Tryz.prog 26 23 [.t 4] g0x:=.of Tryz.func26 (by kernel_rfl)
def r0u:SCode :=
  (jq ([jk 4 0]) (jq ((ap [jm 7 0,.a 8 (.call (kC 99) [(.t 7)])] [jm 5 8])) (jq ((ap [jm 9 1,.a 10 (.call (kC 99) [(.t 9)])] [jm 6 10])) (.seq (jq ([jm
 11 5]) (jc 11 (.seq (jq ([jm 12 6]) (jc 12 (jq ([jk 4 0]) .ret) .skip)) (jq ([.a 4 (.mv (kI (-1)))]) .ret)) .skip)) (.seq (jq ([jm 13 6]) (jc 13 (jq
 ([jk 4 1]) .ret) .skip)) (.seq (jq ([jm 14 0,jm 15 1,jB 16 .lss 14 15]) (jc 16 (jq ([.a 4 (.mv (kI (-1)))]) .ret) .skip)) (.seq (jq ([jm 17 0,jm 18
 1,jB 19 .gtr 17 18]) (jc 19 (jq ([jk 4 1]) .ret) .skip)) (jq ([jk 4 0]) .ret))))))))
theorem y0y:Fn Tryz.prog 62 20 [.t 4] r0u:=.of Tryz.func62 (by kernel_rfl)
def p0g:SCode :=
  (jq ([jk 2 0]) (jq ([jk 3 0]) (.seq (jq ([jm 6 0,je 7 6,jk 8 0]) (.block 0 (.loop (jq ([jB 9 .lss 8 7]) (.seq (jc 9 .skip (.exit 0)) (.seq (.block 1
 (jq ([jx 10 1 6 8,jl 11 10,jm 5 11]) (jq ([jm 12 5,jm 13 3,jB 14 .neq 12 13]) (jc 14 (jq ([jm 15 5,jm 2 15]) .ret) .skip)))) (.ops [jb 16 .add 8
 1,jm 8 16]))))))) (jq ([jm 17 3,jm 2 17]) .ret))))
theorem y0l:Fn Tryz.prog 61 18 [.t 2] p0g:=.of Tryz.func61 (by kernel_rfl)
def q0w:SCode :=
 (jq ([.a 2 (.mv kF)]) (jq ((ap [jm 3 0,jm 4 0,jB 5 .neq 3 4] [jm 2 5])) .ret))
theorem z0A:Fn Tryz.prog 99 6 [.t 2] q0w:=.of Tryz.func99 (by kernel_rfl)
def rIm (l:List Im):Row:=.data 57 (l.flatMap Im.cs)
set_option maxRecDepth 100000 in
theorem t0t (l:List Im)(id v:Int)(h0:0<l.length)(hl:l.length≤1000000)(hv:(gt l (l.length-1)).ver=v):Con Tryz.prog 56 [.sl 0 0 l.length,D.int id,D.int v] [rIm l] fun r H'=>r = .sl 0 0 l.length∧H'=[rIm (b0y l id v)]:=by
 have hg:b0y l id v=l.set (l.length-1) ⟨id,(gt l (l.length-1)).ver⟩:=by unfold b0y;rw [if_pos ⟨h0,hv⟩,hv]
 rw [hg]
 refine Con.walk good k0S (by simp) ?_
 unfold g0R rIm
 simp only [a0J]
 have e1:((l.length:Int)-1).toNat=l.length-1:=by omega
 have e2:=j0v (g:=l) (k:=l.length-1) (by omega)
 have e3:=fun a=>c1w (l:=l) (k:=l.length-1) (a:=a) (by omega)
 repeat' (with_reducible first|refine Wx.h ?_|refine Wb.h fun K hK=>?_|(refine hK _ ?_;clear hK K)|refine Wq.h ?_ ?_<;>intro h<;>try (exfalso;omega)|((fail_if_success refine Wz.h ?_);first|simp (disch:=omega) only [↓LD,LA,a0A,seval,d0D,e1,e2,e3,hv]|(refine And.intro ?_ ?_;omega)|fail))
 exact endA rfl rfl ⟨rfl,rfl⟩
set_option maxRecDepth 100000 in
theorem t0W (l:List Im)(id v:Int)(hl:l.length≤1000000)(hv:¬ (0<l.length∧(gt l (l.length-1)).ver=v)):Con Tryz.prog 56 [.sl 0 0 l.length,D.int id,D.int v] [rIm l] fun r H'=>r = .sl 1 0 (l.length+1)∧H'=[.dead,rIm (b0y l id v)]:=by
 have hg:b0y l id v=l++[⟨id,v⟩]:=by unfold b0y;rw [if_neg hv]
 rw [hg]
 refine Con.walk good k0S (by simp) ?_
 unfold g0R rIm
 simp only [a0J]
 have e1:((l.length:Int)-1).toNat=l.length-1:=by omega
 by_cases h0:0<l.length
 ·have hv:¬ (gt l (l.length-1)).ver=v:=fun e=>hv ⟨h0,e⟩
  have e2:=j0v (g:=l) (k:=l.length-1) (by omega)
  repeat' (with_reducible first|refine Wx.h ?_|refine Wb.h fun K hK=>?_|(refine hK _ ?_;clear hK K)|(refine wF ?_ ?_;assumption)|refine Wq.h ?_ ?_<;>intro h<;>try (exfalso;omega)|((fail_if_success refine Wz.h ?_);first|simp (disch:=omega) only [↓LD,LA,a0A,seval,d0D,e1,e2,v0p]|(refine And.intro ?_ ?_;omega)|fail))
  exact endG rfl rfl (ef:=⟨.sl 1 0 (l.length+1),[(0,.dead)],[.data 57 ((l++[(⟨id,v⟩:Im)]).flatMap Im.cs)]⟩) (by kernel_rfl) ⟨rfl,rfl⟩
 ·repeat' (with_reducible first|refine Wx.h ?_|refine Wb.h fun K hK=>?_|(refine hK _ ?_;clear hK K)|refine Wq.h ?_ ?_<;>intro h<;>try (exfalso;omega)|((fail_if_success refine Wz.h ?_);first|simp (disch:=omega) only [↓LD,LA,a0A,seval,d0D,e1,v0p]|(refine And.intro ?_ ?_;omega)|fail))
  exact endG rfl rfl (ef:=⟨.sl 1 0 (l.length+1),[(0,.dead)],[.data 57 ((l++[(⟨id,v⟩:Im)]).flatMap Im.cs)]⟩) (by kernel_rfl) ⟨rfl,rfl⟩
set_option maxRecDepth 100000 in
theorem h1E (l:List Ev)(hl:IdL l):Con Tryz.prog 22 [.f (fEv l)] [] fun r H'=>r = .f (fIm (ofL l))∧H'=[]:=by
 obtain ⟨hl,hid⟩:=hl
 refine Con.walk good e1L (by simp) ?_
 unfold z0v
 simp only [a0J]
 refine HS.seq ?_
 repeat' (with_reducible first|refine Wa.h ?_|refine Wb.h fun K hK=>?_|(refine hK _ ?_;clear hK K)|((fail_if_success refine Wz.h ?_);simp (disch:=omega) only [↓LD,LA,a0A,seval]))
 refine HS.seq ?_
 repeat' (with_reducible first|refine Wa.h ?_|refine Wb.h fun K hK=>?_|(refine hK _ ?_;clear hK K)|((fail_if_success refine Wz.h ?_);simp (disch:=omega) only [↓LD,LA,a0A,seval]))
 refine HS.view (View.void 57) ?_
 refine HS.view (View.slot 3 (.sl 0 0 0) (.no (by decide))) ?_
 repeat' (with_reducible first|refine Wx.h ?_|refine Wb.h fun K hK=>?_|(refine hK _ ?_;clear hK K)|((fail_if_success refine Wz.h ?_);simp (disch:=omega) only [↓LD,LA,a0A,seval,LEv]))
 refine HS.loopG [0,3,6,7,8] (fun x:Nat × List Im=>⟨frm 25 [(0,.f (fEv l)),(3,.sl 0 0 x.2.length),(6,.f (fEv l)),(7,D.int l.length),(8,D.int x.1)],[rIm x.2],[]⟩) (fun x=>x.1≤l.length∧x.2.length≤x.1∧(l=[]∧x.2=[]∨l≠[]∧ofL l=ofA (gt l 0).id x.1 ((l.drop x.1).map (·.ver)) x.2)) (fun x=>l.length-x.1) (0,[]) (by kernel_rfl) ⟨Nat.zero_le _,Nat.zero_le _,by
  by_cases h:l=[]
  ·exact .inl ⟨h,rfl⟩
  ·exact .inr ⟨h,by unfold ofL h0e;rw [if_neg h];rfl⟩⟩ ?_
 rintro ⟨i,o⟩ ⟨hi,ho,hF⟩
 dsimp only at hi ho hF
 by_cases hil:i<l.length
 ·obtain ⟨hne,hF⟩:=hF.resolve_left (fun h=>by rw [h.1] at hil;simp at hil)
  rw [a0I hil,List.map_cons,ofA] at hF
  obtain ⟨d1,d2⟩:=hid hne
  have ea:=b1M (g:=l) (k:=0) (by omega)
  rw [Nat.zero_mul] at ea
  have hw:ofL l=ofA (gt l 0).id (i+1) ((l.drop (i+1)).map (·.ver)) (b0y o ((gt l 0).id+i) (gt l i).ver):=hF
  clear hF hid
  by_cases hc:0<o.length∧(gt o (o.length-1)).ver=(gt l i).ver
  ·have hgl:(b0y o ((gt l 0).id+i) (gt l i).ver).length=o.length:=by unfold b0y;rw [if_pos hc,List.length_set]
   repeat' (with_reducible first|refine Wx.h ?_|refine We.h fun K hK=>?_|(refine hK _ _ _ _ ?_;clear hK K;try clear hM M)|refine Wb.h fun K hK=>?_|(refine hK _ ?_;clear hK K)|(refine Wy.h ?_ ?_;kernel_rfl)|refine Wq.h ?_ ?_<;>intro h<;>try (exfalso;omega)|((fail_if_success refine Wz.h ?_);first|simp (disch:=omega) only [↓LD,LA,a0A,seval,LEv,rIm,b0t,a0K,ea,Ev.cs,List.map_cons,List.map_nil,-a0A]|(refine And.intro ?_ ?_;omega)|fail))
   all_goals
    refine c0a (t0t o ((gt l 0).id+i) (gt l i).ver hc.1 (by omega) hc.2) [0] (by kernel_rfl) rfl rfl ?_
    simp (disch:=omega) only [↓LD,LA,a0A,seval,ren,List.getElem?_nil,rIm]
    repeat' (with_reducible first|refine Wx.h ?_|refine We.h fun K hK=>?_|(refine hK _ _ _ _ ?_;clear hK K;try clear hM M)|refine Wb.h fun K hK=>?_|(refine hK _ ?_;clear hK K)|(refine Wy.h ?_ ?_;kernel_rfl)|((fail_if_success refine Wz.h ?_);simp (disch:=omega) only [↓LD,LA,a0A,seval,rIm]))
    exact Next.mk (i+1,b0y o ((gt l 0).id+i) (gt l i).ver) (by dsimp only;rw [hgl];kernel_rfl) ⟨by dsimp only;omega,by dsimp only;omega,.inr ⟨hne,hw⟩⟩ (by dsimp only;omega)
  ·have hgl:(b0y o ((gt l 0).id+i) (gt l i).ver).length=o.length+1:=by unfold b0y;rw [if_neg hc];simp
   repeat' (with_reducible first|refine Wx.h ?_|refine We.h fun K hK=>?_|(refine hK _ _ _ _ ?_;clear hK K;try clear hM M)|refine Wb.h fun K hK=>?_|(refine hK _ ?_;clear hK K)|(refine Wy.h ?_ ?_;kernel_rfl)|refine Wq.h ?_ ?_<;>intro h<;>try (exfalso;omega)|((fail_if_success refine Wz.h ?_);first|simp (disch:=omega) only [↓LD,LA,a0A,seval,LEv,rIm,b0t,a0K,ea,Ev.cs,List.map_cons,List.map_nil,-a0A]|(refine And.intro ?_ ?_;omega)|fail))
   all_goals
    refine c0a (t0W o ((gt l 0).id+i) (gt l i).ver (by omega) hc) [0] (by kernel_rfl) rfl rfl ?_
    simp (disch:=omega) only [↓LD,LA,a0A,seval,ren,List.getElem?_nil,rIm]
    repeat' (with_reducible first|refine Wx.h ?_|refine We.h fun K hK=>?_|(refine hK _ _ _ _ ?_;clear hK K;try clear hM M)|refine Wb.h fun K hK=>?_|(refine hK _ ?_;clear hK K)|(refine Wy.h ?_ ?_;kernel_rfl)|((fail_if_success refine Wz.h ?_);simp (disch:=omega) only [↓LD,LA,a0A,seval,rIm]))
    exact Next.mk (i+1,b0y o ((gt l 0).id+i) (gt l i).ver) (by dsimp only;rw [hgl];kernel_rfl) ⟨by dsimp only;omega,by dsimp only;omega,.inr ⟨hne,hw⟩⟩ (by dsimp only;omega)
 ·have hF:ofL l=o:=by
   rcases hF with ⟨h1,h2⟩|⟨h1,h2⟩
   ·rw [h2];unfold ofL;rw [if_pos h1]
   ·rw [h2,List.drop_of_length_le (by omega)];rfl
  rw [hF]
  repeat' (with_reducible first|refine Wx.h ?_|refine Wb.h fun K hK=>?_|(refine hK _ ?_;clear hK K)|refine Wq.h ?_ ?_<;>intro h<;>try (exfalso;omega)|((fail_if_success refine Wz.h ?_);simp (disch:=omega) only [↓LD,LA,a0A,seval]))
  exact end1 rfl rfl (by kernel_rfl) (.sl (T:=57) (xs:=o.flatMap Im.cs) rfl (fun e=>by rw [List.eq_nil_of_length_eq_zero e];rfl)) ⟨rfl,rfl⟩
theorem a1S (l:List Im)(hl:l.length≤1000000):Con Tryz.prog 54 [.f (fIm l)] [] fun r H'=>r = .ag [D.int (a0b l).id,D.int (a0b l).ver]∧H'=[]:=by
 refine Con.walk good y0X (by simp) ?_
 unfold q0J
 simp only [a0J]
 have e1:((l.length:Int)-1).toNat=l.length-1:=by omega
 by_cases h:l.length=0
 ·rw [a0b,if_pos h]
  repeat' (with_reducible first|refine Wx.h ?_|refine Wb.h fun K hK=>?_|(refine hK _ ?_;clear hK K)|refine Wq.h ?_ ?_<;>intro h<;>try (exfalso;omega)|((fail_if_success refine Wz.h ?_);simp (disch:=omega) only [↓LD,LA,a0A,seval,LIm]))
  exact RetS.still (ds:=[.ag [jI,jI]]) (by kernel_rfl) (by kernel_rfl) (.ags (.cons .f (.cons .f .nil))) ⟨rfl,rfl⟩
 ·rw [a0b,if_neg h]
  have hk:l.length-1<l.length:=by omega
  repeat' (with_reducible first|refine Wx.h ?_|refine Wb.h fun K hK=>?_|(refine hK _ ?_;clear hK K)|refine Wq.h ?_ ?_<;>intro h<;>try (exfalso;omega)|((fail_if_success refine Wz.h ?_);first|simp (disch:=omega) only [↓LD,LA,a0A,seval,LIm,d0D,h0y,e1,Im.cs,List.map_cons,List.map_nil,-a0A]|(refine And.intro ?_ ?_;omega)|fail))
  generalize gt l (l.length-1)=x
  exact RetS.still (ds:=[.ag [D.int x.id,D.int x.ver]]) (by kernel_rfl) (by kernel_rfl) (.ags (.cons .f (.cons .f .nil))) ⟨rfl,rfl⟩
def cmpZ (a b:Int):Int:=if a<b then -1 else if b<a then 1 else 0
theorem c1k (a:Int):Con Tryz.prog 99 [D.int a] [] fun r H'=>r=D.bool false∧H'=[]:=by
 refine Con.walk good z0A (by simp) ?_
 unfold q0w
 simp only [a0J]
 repeat' (with_reducible first|refine Wx.h ?_|refine Wb.h fun K hK=>?_|(refine hK _ ?_;clear hK K)|((fail_if_success refine Wz.h ?_);simp (disch:=omega) only [↓LD,LA,a0A,seval]))
 exact end1 rfl rfl (by kernel_rfl) .f ⟨rfl,rfl⟩
theorem c1A (a b:Int):Con Tryz.prog 62 [D.int a,D.int b] [] fun r H'=>r=D.int (cmpZ a b)∧H'=[]:=by
 have h:=c1k
 refine Con.walk good y0y (by simp) ?_
 unfold r0u
 simp only [a0J]
 repeat' (with_reducible first|refine Wx.h ?_|refine Wb.h fun K hK=>?_|(refine hK _ ?_;clear hK K)|((fail_if_success refine Wz.h ?_);simp (disch:=omega) only [↓LD,LA,a0A,seval]))
 refine a0C (h a) rfl rfl rfl ?_
 repeat' (with_reducible first|refine Wx.h ?_|refine Wb.h fun K hK=>?_|(refine hK _ ?_;clear hK K)|((fail_if_success refine Wz.h ?_);simp (disch:=omega) only [↓LD,LA,a0A,seval]))
 refine a0C (h b) rfl rfl rfl ?_
 repeat' (with_reducible first|refine Wx.h ?_|refine Wb.h fun K hK=>?_|(refine hK _ ?_;clear hK K)|refine Wq.h ?_ ?_<;>intro h|((fail_if_success refine Wz.h ?_);simp (disch:=omega) only [↓LD,LA,a0A,seval]))
 all_goals
  refine end1 rfl rfl (by kernel_rfl) .f ⟨congrArg (fun i:Int=>D.f (.v (.int .i64 i))) ?_,rfl⟩
  unfold cmpZ
  (repeat' split)<;>omega
def orL:List Int→Int
 | []=>0
 | x :: l=>if x≠0 then x else orL l
theorem d1E (l:List Int)(hl:l.length≤1000000):Con Tryz.prog 61 [.f (fI l)] [] fun r H'=>r=D.int (orL l)∧H'=[]:=by
 refine Con.walk good y0l (by simp) ?_
 unfold p0g
 simp only [a0J]
 repeat' (with_reducible first|refine Wx.h ?_|refine Wb.h fun K hK=>?_|(refine hK _ ?_;clear hK K)|((fail_if_success refine Wz.h ?_);simp (disch:=omega) only [↓LD,LA,a0A,seval,LSt]))
 refine HS.loopG [3,6,7,8] (fun i:Nat=>⟨frm 18 [(3,jI),(6,.f (fI l)),(7,D.int l.length),(8,D.int i)],[],[]⟩) (fun i=>i≤l.length∧orL l=orL (l.drop i)) (fun i=>l.length-i) 0 (by kernel_rfl) ⟨Nat.zero_le _,rfl⟩ ?_
 rintro i ⟨hi,hF⟩
 by_cases hil:i<l.length
 ·rw [a0I hil,orL] at hF
  by_cases h0:gt l i=0
  ·rw [if_neg (by omega)] at hF
   repeat' (with_reducible first|refine Wx.h ?_|refine Wb.h fun K hK=>?_|(refine hK _ ?_;clear hK K)|(refine wT ?_ ?_;assumption)|refine Wq.h ?_ ?_<;>intro h<;>try (exfalso;omega)|((fail_if_success refine Wz.h ?_);first|simp (disch:=omega) only [↓LD,LA,a0A,seval,LSt]|(refine And.intro ?_ ?_;omega)|fail))
   exact Next.mk (i+1) (by kernel_rfl) ⟨by omega,hF⟩ (by omega)
  ·rw [if_pos h0] at hF
   repeat' (with_reducible first|refine Wx.h ?_|refine Wb.h fun K hK=>?_|(refine hK _ ?_;clear hK K)|(refine wF ?_ ?_;assumption)|refine Wq.h ?_ ?_<;>intro h<;>try (exfalso;omega)|((fail_if_success refine Wz.h ?_);first|simp (disch:=omega) only [↓LD,LA,a0A,seval,LSt]|(refine And.intro ?_ ?_;omega)|fail))
   rw [hF]
   exact end1 rfl rfl (by kernel_rfl) .f ⟨rfl,rfl⟩
 ·rw [List.drop_of_length_le (by omega)] at hF
  repeat' (with_reducible first|refine Wx.h ?_|refine Wb.h fun K hK=>?_|(refine hK _ ?_;clear hK K)|refine Wq.h ?_ ?_<;>intro h<;>try (exfalso;omega)|((fail_if_success refine Wz.h ?_);simp (disch:=omega) only [↓LD,LA,a0A,seval,LSt]))
  rw [hF]
  exact end1 rfl rfl (by kernel_rfl) .f ⟨rfl,rfl⟩
instance {l:List Ev}{H:List Row}{K:D→List Row→Prop}[hl:Kn (IdL l)]:Wa (a0T Tryz.prog (.fn 22 []) [.f (fEv l)] H K) (K (.f (fIm (ofL l))) H):=⟨fun h=>a0C (h1E l hl.h) rfl rfl rfl h⟩
instance {l:List Im}{H:List Row}{K:D→List Row→Prop}[hl:Kn (l.length≤1000000)]:Wa (a0T Tryz.prog (.fn 54 []) [.f (fIm l)] H K) (K (.ag [.f (.v (.int .i64 (a0b l).id)),.f (.v (.int .i64 (a0b l).ver))]) H):=⟨fun h=>a0C (a1S l hl.h) rfl rfl rfl h⟩
instance {a b:Int}{H:List Row}{K:Bool→D→List Row→Prop}:Wa (a0m Tryz.prog (.fn 62 []) [.f (.v (.int .i64 a)),.f (.v (.int .i64 b))] H K) (K true (.f (.v (.int .i64 (cmpZ a b)))) H):=⟨fun h=>a0O (c1A a b) rfl rfl rfl h⟩
set_option maxRecDepth 100000 in
theorem r0B (a b:List Im)(ha:a.length≤1000000)(hb:b.length≤1000000):Con Tryz.prog 26 [.f (fIm a),.f (fIm b)] [] fun r H'=>r=D.int (cmpI a b)∧H'=[]:=by
 haveI:Kn (a.length≤1000000):=⟨ha⟩
 haveI:Kn (b.length≤1000000):=⟨hb⟩
 have hc:cmpI a b=orL [cmpZ (a0b a).ver (a0b b).ver,cmpZ (a0b a).id (a0b b).id]:=by
  unfold cmpI orL orL orL cmpZ
  (repeat' split)<;>omega
 refine Con.walk good o0l (by simp) ?_
 unfold g0x
 simp only [a0J]
 repeat' (with_reducible first|refine Wx.h ?_|refine We.h fun K hK=>?_|(refine hK _ _ _ _ ?_;clear hK K;try clear hM M)|refine Wb.h fun K hK=>?_|(refine hK _ ?_;clear hK K)|(refine Wy.h ?_ ?_;kernel_rfl)|((fail_if_success refine Wz.h ?_);simp (disch:=omega) only [↓LD,LA,a0A,seval]))
 all_goals
  refine c0o (args0:=[.f (fI [cmpZ (a0b a).ver (a0b b).ver,cmpZ (a0b a).id (a0b b).id])]) (d1E _ (by simp)) (.cons (.sl (T:=3) (xs:=[iF (cmpZ (a0b a).ver (a0b b).ver),iF (cmpZ (a0b a).id (a0b b).id)]) rfl (fun e=>absurd e (by decide))) .nil) ⟨.f .v,by simp⟩ ?_
  rw [←hc]
  repeat' (with_reducible first|refine Wx.h ?_|refine We.h fun K hK=>?_|(refine hK _ _ _ _ ?_;clear hK K;try clear hM M)|(refine hK _ ?_;clear hK K)|(refine Wy.h ?_ ?_;kernel_rfl)|((fail_if_success refine Wz.h ?_);simp (disch:=omega) only [↓LD,LA,a0A,seval]))
  exact end1 rfl rfl (by kernel_rfl) .f ⟨rfl,rfl⟩
instance {a b:List Im}{H:List Row}{K:D→List Row→Prop}[ha:Kn (a.length≤1000000)][hb:Kn (b.length≤1000000)]:Wa (a0T Tryz.prog (.fn 26 []) [.f (fIm a),.f (fIm b)] H K) (K (.f (.v (.int .i64 (cmpI a b)))) H):=⟨fun h=>a0C (r0B a b ha.h hb.h) rfl rfl rfl h⟩
theorem e1P {x y:Im}(h:x.id≤y.id∨200<x.id∨x.ver≤y.ver∨verB x.ver=false):okI y x=false:=by
 unfold okI
 rcases h with h|h|h|h
 ·rw [decide_eq_false (by omega)];rfl
 ·rw [decide_eq_false (p:=x.id≤200) (by omega)];simp
 ·rw [decide_eq_false (p:=y.ver<x.ver) (by omega)];simp
 ·rw [h];simp
theorem i1V {x y:Im}(h1:y.id<x.id)(h2:x.id≤200)(h3:y.ver<x.ver)(h4:verB x.ver=true):okI y x=true:=by
 unfold okI
 rw [decide_eq_true h1,decide_eq_true h2,decide_eq_true h3,h4];rfl
set_option maxRecDepth 100000 in
theorem x0y (l:List Im)(hl:l.length≤1000000):Con Tryz.prog 40 [.f (fIm l)] [] fun r H'=>r=D.bool (c0x l)∧H'=[]:=by
 refine Con.walk good t0X (by simp) ?_
 unfold l0o
 simp only [a0J]
 repeat' (with_reducible first|refine Wx.h ?_|refine Wb.h fun K hK=>?_|(refine hK _ ?_;clear hK K)|((fail_if_success refine Wz.h ?_);simp (disch:=omega) only [↓LD,LA,a0A,seval,LIm]))
 refine HS.loopG [3,7,8,9] (fun x:Nat × Im=>⟨frm 38 [(3,.pt 0 0),(7,.f (fIm l)),(8,D.int l.length),(9,D.int x.1)],[.box 57 [D.int x.2.id,D.int x.2.ver]],[]⟩) (fun x=>x.1≤l.length∧c0x l=d0E x.2 (l.drop x.1)) (fun x=>l.length-x.1) (0,⟨0,0⟩) (by kernel_rfl) ⟨Nat.zero_le _,rfl⟩ ?_
 rintro ⟨i,y⟩ ⟨hi,hF⟩
 dsimp only at hi hF
 by_cases hil:i<l.length
 ·rw [a0I hil,d0E] at hF
  have hld:=fun H:List Row=>h0y (H:=H) hil
  generalize gt l i=x at *
  have hf:okI y x=false→D.bool false=D.bool (c0x l):=fun h=>by rw [hF,h,Bool.false_and]
  have ht:okI y x=true→c0x l=d0E x (l.drop (i+1)):=fun h=>by rw [hF,h,Bool.true_and]
  clear hF
  repeat' (with_reducible first|refine Wx.h ?_|refine Wb.h fun K hK=>?_|(refine hK _ ?_;clear hK K)|refine Wq.h ?_ ?_<;>intro h<;>try (exfalso;omega)|((fail_if_success refine Wz.h ?_);first|simp (disch:=omega) only [↓LD,LA,a0A,seval,LIm,d0D,hld,Im.cs,List.map_cons,List.map_nil,-a0A]|(refine And.intro ?_ ?_;omega)|fail))
  ·exact end1 rfl rfl (by kernel_rfl) .f ⟨hf (e1P (.inl (by assumption))),rfl⟩
  ·exact end1 rfl rfl (by kernel_rfl) .f ⟨hf (e1P (.inr (.inl (by assumption)))),rfl⟩
  ·exact end1 rfl rfl (by kernel_rfl) .f ⟨hf (e1P (.inr (.inr (.inl (by assumption))))),rfl⟩
  ·exact end1 rfl rfl (by kernel_rfl) .f ⟨hf (e1P (.inr (.inr (.inr (by simpa using h))))),rfl⟩
  ·exact Next.mk (i+1,x) (by kernel_rfl) ⟨by dsimp only;omega,ht (i1V (by omega) (by omega) (by omega) (by simpa using h))⟩ (by dsimp only;omega)
 ·rw [List.drop_of_length_le (by omega)] at hF
  repeat' (with_reducible first|refine Wx.h ?_|refine Wb.h fun K hK=>?_|(refine hK _ ?_;clear hK K)|refine Wq.h ?_ ?_<;>intro h<;>try (exfalso;omega)|((fail_if_success refine Wz.h ?_);simp (disch:=omega) only [↓LD,LA,a0A,seval,LIm]))
  rw [hF]
  exact end1 rfl rfl (by kernel_rfl) .f ⟨rfl,rfl⟩
def s0b:SCode :=
  (jq ([.a 2 (.box 73 (.t 0)),.a 3 (.box 73 (.t 1)),.a 4 (.mv kF)]) (jq ((ap [jo 5 0 2,jl 6 5,jo 7 0 3,jl 8 7,jB 9 .eql 6 8] (ap [jm 10 9,gO 11 1
 2 10 true] (ap [gL 12 11 10 true,gO 13 1 3 10 true,gL 14 13 10 true,jG 15 (.bin .eql (.t 12) (.t 14)) 10 true] (ap [.a 16 (.pick (.t 10) (.t 15)
 kF),jm 17 16,gO 18 2 2 17 true] (ap [gL 19 18 17 true,gO 20 2 3 17 true,gL 21 20 17 true,jG 22 (.bin .eql (.t 19) (.t 21)) 17 true] (ap [.a 23
 (.pick (.t 17) (.t 22) kF),jm 24 23,gO 25 3 2 24 true] (ap [gL 26 25 24 true,gO 27 3 3 24 true,gL 28 27 24 true,jG 29 (.bin .eql (.t 26) (.t 28))
 24 true] (ap [.a 30 (.pick (.t 24) (.t 29) kF),jm 31 30,gO 32 4 2 31 true] (ap [gL 33 32 31 true,gO 34 4 3 31 true,gL 35 34 31 true,jG 36 (.bin
 .eql (.t 33) (.t 35)) 31 true] (ap [.a 37 (.pick (.t 31) (.t 36) kF),jm 38 37,gO 39 5 2 38 true] (ap [gL 40 39 38 true,gO 41 5 3 38 true,gL 42 41
 38 true,jG 43 (.bin .eql (.t 40) (.t 42)) 38 true] (ap [.a 44 (.pick (.t 38) (.t 43) kF),jm 45 44,gO 46 6 2 45 true] (ap [gL 47 46 45 true,gO 48 6
 3 45 true,gL 49 48 45 true,jG 50 (.bin .eql (.t 47) (.t 49)) 45 true] (ap [.a 51 (.pick (.t 45) (.t 50) kF),jm 52 51,gO 53 7 2 52 true] (ap [gL 54
 53 52 true,gO 55 7 3 52 true,gL 56 55 52 true,jG 57 (.call (kC 124) [(.t 54),(.t 56)]) 52 true] (ap [.a 58 (.pick (.t 52) (.t 57) kF),jm 59 58,gO
 60 8 2 59 true] (ap [gL 61 60 59 true,gO 62 8 3 59 true,gL 63 62 59 true,jG 64 (.call (kC 125) [(.t 61),(.t 63),(kC 126)]) 59 true] [.a 65 (.pick
 (.t 59) (.t 64) kF),jm 4 65])))))))))))))))))) .ret))
theorem y0j:Fn Tryz.prog 77 66 [.t 4] s0b:=.of Tryz.func77 (by kernel_rfl)
def e0p:SCode :=
  (jq ([.a 6 (.mv kF)]) (.seq (jq ([jm 10 0,je 11 10,jm 12 1,je 13 12,jB 14 .neq 11 13]) (jc 14 (jq ([.a 6 (.mv kF)]) .ret) .skip)) (.seq (jq ([jm 15
 0,je 16 15,jk 17 0]) (.block 0 (.loop (jq ([jB 18 .lss 17 16]) (.seq (jc 18 .skip (.exit 0)) (.seq (.block 1 (jq ([jm 19 17,jx 20 3 15 17,jL 21 3
 20,.a 8 (.alloc 123 [jN,jI,jI]),jm 7 19,.n (.store 3 (.t 8) (.t 21))]) (jq ([jm 22 1,jm 23 7,jx 24 3 22 23,jL 25 3 24,.a 9 (.alloc 123 [jN,
 jI,jI]),.n (.store 3 (.t 9) (.t 25))]) (jq ((ap [jm 26 2,jL 27 3 8,jL 28 3 9,.a 29 (.call (.t 26) [(.t 27),(.t 28)])] [.a 30 (.unot (.t 29))]))
 (jc 30 (jq ([.a 6 (.mv kF)]) .ret) .skip))))) (.ops [jb 31 .add 17 1,jm 17 31]))))))) (jq ([.a 6 (.mv kT)]) .ret))))
theorem i0O:Fn Tryz.prog 125 32 [.t 6] e0p:=.of Tryz.func125 (by kernel_rfl)
def h0W:SCode :=
  (jq ([.a 2 (.box 123 (.t 0)),.a 3 (.box 123 (.t 1)),.a 4 (.mv kF)]) (jq ((ap [jo 5 0 2,jl 6 5,jo 7 0 3,jl 8 7,.a 9 (.call (kC 154) [(.t 6),(.t
 8)])] (ap [jm 10 9,gO 11 1 2 10 true] (ap [gL 12 11 10 true,gO 13 1 3 10 true,gL 14 13 10 true,jG 15 (.bin .eql (.t 12) (.t 14)) 10 true] (ap [.a
 16 (.pick (.t 10) (.t 15) kF),jm 17 16,gO 18 2 2 17 true] (ap [gL 19 18 17 true,gO 20 2 3 17 true,gL 21 20 17 true,jG 22 (.bin .eql (.t 19) (.t
 21)) 17 true] [.a 23 (.pick (.t 17) (.t 22) kF),jm 4 23])))))) .ret))
theorem o0a:Fn Tryz.prog 126 24 [.t 4] h0W:=.of Tryz.func126 (by kernel_rfl)
def k0K:SCode :=
  (jq ([.a 4 (.mv kF)]) (.seq (jq ([jm 6 0,je 7 6,jm 8 1,je 9 8,jB 10 .neq 7 9]) (jc 10 (jq ([.a 4 (.mv kF)]) .ret) .skip)) (.seq (jq ([jm 11 0,je
 12 11,jk 13 0]) (.block 0 (.loop (jq ([jB 14 .lss 13 12]) (.seq (jc 14 .skip (.exit 0)) (.seq (.block 1 (jq ([jm 15 13,jm 5 15]) (.seq (.drw [jm 16
 0,jm 17 5,jx 18 1 16 17,jl 19 18,jm 20 1,jm 21 5,jx 22 1 20 21,jl 23 22,jB 24 .neq 19 23] [0,0,3,7,0,0,48,112,255]) (jc 24 (jq ([.a 4
 (.mv kF)]) .ret) .skip)))) (.ops [jb 25 .add 13 1,jm 13 25]))))))) (jq ([.a 4 (.mv kT)]) .ret))))
theorem p0W:Fn Tryz.prog 154 26 [.t 4] k0K:=.of Tryz.func154 (by kernel_rfl)
theorem t0x (l m:List Int)(hl:l.length≤1000000)(hm:m.length≤1000000):Con Tryz.prog 154 [.f (fI l),.f (fI m)] [] fun r H'=>r=D.bool (eqB l m)∧H'=[]:=by
 refine Con.walk good p0W (by simp) ?_
 unfold k0K
 simp only [a0J]
 by_cases hlm:(l.length:Int)=m.length
 rotate_left
 ·repeat' (with_reducible first|refine Wx.h ?_|refine Wb.h fun K hK=>?_|(refine hK _ ?_;clear hK K)|(refine wF ?_ ?_;assumption)|((fail_if_success refine Wz.h ?_);simp (disch:=omega) only [↓LD,LA,a0A,seval,LSt]))
  rw [o0J hlm]
  exact end1 rfl rfl (by kernel_rfl) .f ⟨rfl,rfl⟩
 repeat' (with_reducible first|refine Wx.h ?_|refine Wb.h fun K hK=>?_|(refine hK _ ?_;clear hK K)|(refine wT ?_ ?_;assumption)|((fail_if_success refine Wz.h ?_);simp (disch:=omega) only [↓LD,LA,a0A,seval,LSt]))
 refine HS.loopG [0,1,12,13] (fun i:Nat=>⟨frm 26 [(0,.f (fI l)),(1,.f (fI m)),(12,D.int l.length),(13,D.int i)],[],[]⟩) (fun i=>i≤l.length∧l.take i=m.take i) (fun i=>l.length-i) 0 (by kernel_rfl) ⟨Nat.zero_le _,rfl⟩ ?_
 rintro i ⟨hi,ht⟩
 by_cases hil:i<l.length
 ·by_cases e:gt l i=gt m i
  ·repeat' (with_reducible first|refine Wx.h ?_|refine We.h fun K hK=>?_|(refine hK _ _ _ _ ?_;clear hK K;try clear hM M)|refine Wb.h fun K hK=>?_|(refine hK _ ?_;clear hK K)|(refine wT ?_ ?_;assumption)|(refine Wy.h ?_ ?_;kernel_rfl)|refine Wq.h ?_ ?_<;>intro h<;>try (exfalso;omega)|((fail_if_success refine Wz.h ?_);first|simp (disch:=omega) only [↓LD,LA,a0A,seval,LSt]|(refine And.intro ?_ ?_;omega)|fail))
   exact Next.mk (i+1) (by kernel_rfl) ⟨by omega,f0h hlm hil ht e⟩ (by omega)
  ·repeat' (with_reducible first|refine Wx.h ?_|refine We.h fun K hK=>?_|(refine hK _ _ _ _ ?_;clear hK K;try clear hM M)|refine Wb.h fun K hK=>?_|(refine hK _ ?_;clear hK K)|(refine wF ?_ ?_;assumption)|(refine Wy.h ?_ ?_;kernel_rfl)|refine Wq.h ?_ ?_<;>intro h<;>try (exfalso;omega)|((fail_if_success refine Wz.h ?_);first|simp (disch:=omega) only [↓LD,LA,a0A,seval,LSt]|(refine And.intro ?_ ?_;omega)|fail))
   rw [u0a e]
   exact end1 rfl rfl (by kernel_rfl) .f ⟨rfl,rfl⟩
 ·repeat' (with_reducible first|refine Wx.h ?_|refine Wb.h fun K hK=>?_|(refine hK _ ?_;clear hK K)|refine Wq.h ?_ ?_<;>intro h<;>try (exfalso;omega)|((fail_if_success refine Wz.h ?_);simp (disch:=omega) only [↓LD,LA,a0A,seval,LSt]))
  rw [o0c hlm ht (by omega)]
  exact end1 rfl rfl (by kernel_rfl) .f ⟨rfl,rfl⟩
instance {a b:List Int}{H:List Row}{K:D→List Row→Prop}[ha:Kn (a.length≤1000000)][hb:Kn (b.length≤1000000)]:Wa (a0T Tryz.prog (.fn 154 []) [.f (fI a),.f (fI b)] H K) (K (.f (.v (.bool (eqB a b)))) H):=⟨fun h=>a0C (t0x a b ha.h hb.h) rfl rfl rfl h⟩
theorem a1t (x y:Nd)(hx:x.ns.length≤1000000)(hy:y.ns.length≤1000000):Con Tryz.prog 126 [.ag (x.cs.map .f),.ag (y.cs.map .f)] [] fun r H'=>r=D.bool (eqB x y)∧H'=[]:=by
 obtain ⟨a1,a2,a3⟩:=x
 obtain ⟨b1,b2,b3⟩:=y
 dsimp only at hx hy
 haveI:Kn (a1.length≤1000000):=⟨hx⟩
 haveI:Kn (b1.length≤1000000):=⟨hy⟩
 refine Con.walk good o0a (by simp) ?_
 unfold h0W
 simp only [a0J]
 by_cases e4:a1=b1
 ·have hb:=f0S e4
  repeat' (with_reducible first|refine Wx.h ?_|refine Wb.h fun K hK=>?_|(refine hK _ ?_;clear hK K)|refine Wq.h ?_ ?_<;>intro h|((fail_if_success refine Wz.h ?_);simp (disch:=omega) only [↓LD,LA,a0A,seval,Nd.cs,hb]))
  ·rw [f0S (by subst_vars;rfl)];exact end1 rfl rfl (by kernel_rfl) .f ⟨rfl,rfl⟩
  all_goals
   rw [f0R (by intro e;cases e;contradiction)];exact end1 rfl rfl (by kernel_rfl) .f ⟨rfl,rfl⟩
 ·have hb:=f0R e4
  repeat' (with_reducible first|refine Wx.h ?_|refine Wb.h fun K hK=>?_|(refine hK _ ?_;clear hK K)|((fail_if_success refine Wz.h ?_);simp (disch:=omega) only [↓LD,LA,a0A,seval,Nd.cs,hb]))
  all_goals rw [f0R (fun e=>e4 (by cases e;rfl))];exact end1 rfl rfl (by kernel_rfl) .f ⟨rfl,rfl⟩
theorem k0z (l m:List Nd)(g:FuncId)(hl:l.length≤1000000)(hm:m.length≤1000000)
  (hf:∀ x∈l,∀ y∈m,Con Tryz.prog g [.ag (x.cs.map .f),.ag (y.cs.map .f)] [] fun r H'=>r=D.bool (eqB x y)∧H'=[]) :
  Con Tryz.prog 125 [.f (fG l),.f (fG m),.fn g []] [] fun r H'=>r=D.bool (eqB l m)∧H'=[]:=by
 refine Con.walk good i0O (by simp) ?_
 unfold e0p
 simp only [a0J]
 by_cases hlm:(l.length:Int)=m.length
 rotate_left
 ·repeat' (with_reducible first|refine Wx.h ?_|refine Wb.h fun K hK=>?_|(refine hK _ ?_;clear hK K)|(refine wF ?_ ?_;assumption)|((fail_if_success refine Wz.h ?_);simp (disch:=omega) only [↓LD,LA,a0A,seval,LSt]))
  rw [o0J hlm]
  exact end1 rfl rfl (by kernel_rfl) .f ⟨rfl,rfl⟩
 repeat' (with_reducible first|refine Wx.h ?_|refine Wb.h fun K hK=>?_|(refine hK _ ?_;clear hK K)|(refine wT ?_ ?_;assumption)|((fail_if_success refine Wz.h ?_);simp (disch:=omega) only [↓LD,LA,a0A,seval,LSt]))
 refine HS.loopG [1,2,15,16,17] (fun i:Nat=>⟨frm 32 [(1,.f (fG m)),(2,.fn g []),(15,.f (fG l)),(16,D.int l.length),(17,D.int i)],[],[]⟩) (fun i=>i≤l.length∧l.take i=m.take i) (fun i=>l.length-i) 0 (by kernel_rfl) ⟨Nat.zero_le _,rfl⟩ ?_
 rintro i ⟨hi,ht⟩
 by_cases hil:i<l.length
 ·repeat' (with_reducible first|refine Wx.h ?_|refine Wb.h fun K hK=>?_|(refine hK _ ?_;clear hK K)|refine Wq.h ?_ ?_<;>intro h<;>try (exfalso;omega)|((fail_if_success refine Wz.h ?_);first|simp (disch:=omega) only [↓LD,LA,a0A,seval,LSt,d1a,h1M,Nd.cs,-a0A]|(refine And.intro ?_ ?_;omega)|fail))
  refine a0C (hf _ (a0M hil) _ (a0M (l:=m) (k:=i) (by omega))) rfl rfl rfl ?_
  by_cases e:gt l i=gt m i
  ·rw [f0S e]
   repeat' (with_reducible first|refine Wx.h ?_|refine Wb.h fun K hK=>?_|(refine hK _ ?_;clear hK K)|((fail_if_success refine Wz.h ?_);simp (disch:=omega) only [↓LD,LA,a0A,seval,LSt]))
   exact Next.mk (i+1) (by kernel_rfl) ⟨by omega,f0h hlm hil ht e⟩ (by omega)
  ·rw [f0R e]
   repeat' (with_reducible first|refine Wx.h ?_|refine Wb.h fun K hK=>?_|(refine hK _ ?_;clear hK K)|((fail_if_success refine Wz.h ?_);simp (disch:=omega) only [↓LD,LA,a0A,seval,LSt]))
   rw [u0a e]
   exact end1 rfl rfl (by kernel_rfl) .f ⟨rfl,rfl⟩
 ·repeat' (with_reducible first|refine Wx.h ?_|refine Wb.h fun K hK=>?_|(refine hK _ ?_;clear hK K)|refine Wq.h ?_ ?_<;>intro h<;>try (exfalso;omega)|((fail_if_success refine Wz.h ?_);simp (disch:=omega) only [↓LD,LA,a0A,seval,LSt]))
  rw [o0c hlm ht (by omega)]
  exact end1 rfl rfl (by kernel_rfl) .f ⟨rfl,rfl⟩
instance {a b:List Nd}{H:List Row}{K:D→List Row→Prop}[ha:Kn (z0p a)][hb:Kn (z0p b)]:Wa (a0T Tryz.prog (.fn 125 []) [.f (fG a),.f (fG b),.fn 126 []] H K) (K (.f (.v (.bool (eqB a b)))) H):=⟨fun h=>a0C (k0z a b _ ha.h.1 hb.h.1 fun x hx y hy=>a1t x y (ha.h.2 x hx) (hb.h.2 y hy)) rfl rfl rfl h⟩
def n0X:SCode :=
  (jq ([.a 4 (.mv kF)]) (.seq (jq ([jm 6 0,je 7 6,jm 8 1,je 9 8,jB 10 .neq 7 9]) (jc 10 (jq ([.a 4 (.mv kF)]) .ret) .skip)) (.seq (jq ([jm 11 0,je
 12 11,jk 13 0]) (.block 0 (.loop (jq ([jB 14 .lss 13 12]) (.seq (jc 14 .skip (.exit 0)) (.seq (.block 1 (jq ([jm 15 13,jm 5 15]) (.seq (.drw [jm 16
 0,jm 17 5,jx 18 1 16 17,jl 19 18,jm 20 1,jm 21 5,jx 22 1 20 21,jl 23 22,jB 24 .neq 19 23] [0,0,3,7,0,0,48,112,255]) (jc 24 (jq ([.a 4
 (.mv kF)]) .ret) .skip)))) (.ops [jb 25 .add 13 1,jm 13 25]))))))) (jq ([.a 4 (.mv kT)]) .ret))))
theorem s0x:Fn Tryz.prog 124 26 [.t 4] n0X:=.of Tryz.func124 (by kernel_rfl)
def i0p:SCode :=
  (jq ([jk 4 0]) (jq ([jk 5 0]) (.seq (.block 0 (.loop (.seq (.seq (.drw [jm 6 5,jm 7 0,je 8 7,jm 9 1,je 10 9,.a 11 (.mm false (.t 8) (.t 10)),jB
 12 .lss 6 11,jm 13 12,gM 14 0 13 true,gM 15 5 13 true,jG 16 (.idx 9 (.t 14) (.t 15)) 13 true,jG 17 (.loadA 9 (.t 16)) 13 true,gM 18 1 13 true,gM
 19 5 13 true,jG 20 (.idx 9 (.t 18) (.t 19)) 13 true,jG 21 (.loadA 9 (.t 20)) 13 true,jG 22 (.call (kC 77) [(.t 17),(.t 21)]) 13 true,.a 23 (.pick
 (.t 13) (.t 22) kF)] [0,0,2,0,8,30,63,127,255,255,1023,2047,255,255,12543,28927,65535,131071]) (jc 23 .skip (.exit 0))) (.block 1
 (.ops [jm 24 5,jb 25 .add 24 1,jm 5 25]))))) (jq ([jm 26 5,jm 4 26]) .ret))))
theorem s0e:Fn Tryz.prog 45 27 [.t 4] i0p:=.of Tryz.func45 (by kernel_rfl)
def h0G:SCode :=
 (jq ([jk 2 0]) (jq ((ap [jm 3 0,.a 4 (.call (kC 22) [(.t 3)])] (ap [.a 5 (.call (kC 54) [(.t 4)])] [.a 6 (.fld1 1 (.t 5)),jm 2 6]))) .ret))
theorem o0p:Fn Tryz.prog 78 7 [.t 2] h0G:=.of Tryz.func78 (by kernel_rfl)
def m0Y:SCode :=
  (jq ([.a 6 (.mv kF)]) (jq ((ap [jm 8 0,jm 9 1,.a 10 (.call (kC 45) [(.t 8),(.t 9)])] [jm 7 10])) (.seq (.drw [jm 11 7,jm 12 2,jB 13 .geq 11 12,jm
 14 13,gM 15 7 14 true,gM 16 0 14 true,jG 17 (.slen (.t 16)) 14 true,gM 18 1 14 true,jG 19 (.slen (.t 18)) 14 true,jG 20 (.mm false (.t 17) (.t
 19)) 14 true,jG 21 (.bin .lss (.t 15) (.t 20)) 14 true,.a 22 (.pick (.t 14) (.t 21) kF),jm 23 22,gM 24 0 23 true,gM 25 7 23 true,jG 26 (.idx 9
 (.t 24) (.t 25)) 23 true,gO 27 1 26 23 true,gL 28 27 23 true,gM 29 1 23 true,gM 30 7 23 true,jG 31 (.idx 9 (.t 29) (.t 30)) 23 true,gO 32 1 31 23
 true,gL 33 32 23 true,jG 34 (.bin .eql (.t 28) (.t 33)) 23 true,.a 35 (.pick (.t 23) (.t 34) kF),jm 6 35] [0,0,3,7,15,15,47,15,143,495,
 1023,2047,4095,8191,8191,32767,65535,131071,8191,8191,794623,1843199,3940351,8388607,16777215,33554431]) .ret)))
theorem t0P:Fn Tryz.prog 43 36 [.t 6] m0Y:=.of Tryz.func43 (by kernel_rfl)
def p0k:SCode :=
 (jq ([.a 4 (.mv kF)]) (jq ((ap [jl 5 1,jm 6 0,jl 7 2,.a 8 (.call (kC 43) [(.t 5),(.t 6),(.t 7)])] [jm 4 8])) .ret))
theorem y0T:Fn Tryz.prog 42 9 [.t 4] p0k:=.of Tryz.func42 (by kernel_rfl)
def r0h:SCode :=
  (jq ([.a 3 (.mv kF)]) (.seq (.drw [jl 4 1,jm 5 0,.a 6 (.call (kC 45) [(.t 4),(.t 5)]),jl 7 1,je 8 7,jB 9 .eql 6 8,jm 3 9] [0,0,3,0,8,31,
 63]) .ret))
theorem z0F:Fn Tryz.prog 44 10 [.t 3] r0h:=.of Tryz.func44 (by kernel_rfl)
def j0T:SCode :=
 (jq ([.a 4 (.mv kF)]) (jq ((ap [jm 5 0,jm 6 1,.a 7 (.call (kC 76) [(.t 5),(.t 6)])] (ap [jb 8 .geq 7 0] [jm 4 8]))) .ret))
theorem r0S:Fn Tryz.prog 41 9 [.t 4] j0T:=.of Tryz.func41 (by kernel_rfl)
def j0M:SCode :=
  (jq ([.a 1 (.box 30 (.t 0)),.a 2 (.alloc 30 [jN])]) (jq ([.a 3 (.alloc 30 [jN])]) (.seq (jq ([jo 6 0 1,jl 7 6,je 8 7,jk 9 0]) (.block 0 (.loop (jq
 ([jB 10 .lss 9 8]) (.seq (jc 10 .skip (.exit 0)) (.seq (.block 1 (jq ([jx 11 1 7 9,jl 12 11,jm 5 12]) (.drw [jo 13 0 3,jl 14 13,jm 15 5,.a 16
 (.call (kC 51) [(.t 15)]),.a 17 (.bsl 25 1 1 [jN] [(0,(.t 16))]),.a 18 (.app 25 1 24 (.t 14) (.t 17)),jo 19 0 3,.n (.store 1 (.t 19) (.t 18))] [0,
 1,0,4,12,31,63,127]))) (.ops [jb 20 .add 9 1,jm 9 20]))))))) (jq ([jL 21 1 3,.n (.store 1 (.t 2) (.t 21))]) .ret))))
theorem s0f:Fn Tryz.prog 46 22 [.cA 1 2] j0M:=.of Tryz.func46 (by kernel_rfl)
def q0O:SCode :=
  (jq ([.a 2 (.box 30 (.t 0)),.a 3 (.box 25 (.t 1)),.a 4 (.alloc 30 [jN]),jk 5 0]) (jq ([.a 6 (.alloc 30 [jN])]) (.seq (jq ([jo 10 0 2,jl 11 10,je
 12 11,jk 13 0]) (.block 0 (.loop (jq ([jB 14 .lss 13 12]) (.seq (jc 14 .skip (.exit 0)) (.seq (.block 1 (jq ([jx 15 1 11 13,jl 16 15,jm 8 16]) (.seq
 (jq ((ap [jl 17 3,jm 18 8,.a 19 (.call (kC 45) [(.t 17),(.t 18)])] [jm 20 8,je 21 20,jB 22 .eql 19 21])) (jc 22 (.exit 1) .skip)) (.seq (.seq
 (.drw [jm 23 8,.a 24 (.call (kC 78) [(.t 23)]),jl 25 3,.a 26 (.call (kC 78) [(.t 25)]),jB 27 .eql 24 26] [0,1,0,7,15]) (jc 27 (jq ([.a 28 (.bld
 [jN] []),.n (.store 1 (.t 4) (.t 28)),jk 5 1]) .ret) .skip)) (.ops (ap [jo 29 0 6,jl 30 29,jm 31 8,.a 32 (.bsl 25 1 1 [jN] [(0,(.t 31))]),.a 33
 (.app 25 1 24 (.t 30) (.t 32))] [jo 34 0 6,.n (.store 1 (.t 34) (.t 33))])))))) (.ops [jb 35 .add 13 1,jm 13 35]))))))) (.seq (jq ([jo 36 0 6,jl 37
 36,je 38 37,jb 39 .geq 38 8]) (jc 39 (jq ([.a 40 (.bld [jN] []),.n (.store 1 (.t 4) (.t 40)),jk 5 2]) .ret) .skip)) (jq ((ap [jo 41 0 6,jl 42 41,
 .a 43 (.fn 79 [(.t 3)]),.a 44 (.call (kC 76) [(.t 42),(.t 43)])] [jm 9 44])) (.seq (jq ([jm 45 9,jb 46 .lss 45 0]) (jc 46 (.ops [jo 47 0 6,jl 48
 47,je 49 48,jm 9 49]) .skip)) (jq ((ap [jo 50 0 6,jl 51 50,jm 52 9,jl 53 3,.a 54 (.bsl 25 1 1 [jN] [(0,(.t 53))]),.a 55 (.call (kC 80) [(.t
 51),(.t 52),(.t 54)])] [jo 56 0 6,.n (.store 1 (.t 56) (.t 55))])) (jq ((ap [jL 57 1 6,.a 58 (.call (kC 46) [(.t 57)])] [.n (.store 1 (.t 4) (.t
 58)),jk 5 0])) .ret))))))))
theorem y0H:Fn Tryz.prog 47 59 [.cA 1 4,.t 5] q0O:=.of Tryz.func47 (by kernel_rfl)
def g0o:SCode :=
  (jq ([jk 4 0]) (.seq (jq ([jm 6 0,je 7 6,jk 8 0]) (.block 0 (.loop (jq ([jB 9 .lss 8 7]) (.seq (jc 9 .skip (.exit 0)) (.seq (.block 1 (jq ([jm 10 8,
 jm 5 10]) (jq ([jm 11 1,jm 12 0,jm 13 5,jx 14 1 12 13,jl 15 14,.a 16 (.call (.t 11) [(.t 15)])]) (jc 16 (jq ([jm 17 5,jm 4 17]) .ret) .skip))))
 (.ops [jb 18 .add 8 1,jm 8 18]))))))) (jq ([.a 4 (.mv (kI (-1)))]) .ret)))
theorem k0n:Fn Tryz.prog 76 19 [.t 4] g0o:=.of Tryz.func76 (by kernel_rfl)
def l0R:SCode :=
  (jq ([.a 3 (.mv kF)]) (jq ((ap [jl 4 1,.a 5 (.call (kC 22) [(.t 4)])] (ap [jm 6 0,.a 7 (.call (kC 22) [(.t 6)])] (ap [.a 8 (.call (kC 26) [(.t 5),
 (.t 7)])] (ap [jb 9 .gtr 8 0] [jm 3 9]))))) .ret))
theorem t0i:Fn Tryz.prog 79 10 [.t 3] l0R:=.of Tryz.func79 (by kernel_rfl)
def w0u:SCode :=
  (jq ([.a 2 (.box 30 (.t 0)),.a 3 (.box 38 (.t 1)),.a 4 (.alloc 30 [jN]),.a 5 (.mv kF),jk 6 0]) (.seq (jq ((ap [jo 15 3 3,jl 16 15,je 17 16,jb 18
 .eql 17 0] (ap [jm 19 18,gO 20 2 3 19 false] (ap [gL 21 20 19 false,jG 22 (.call (kC 40) [(.t 21)]) 19 false] [jG 23 (.unot (.t 22)) 19 false,.a 24
 (.pick (.t 19) kT (.t 23))])))) (jc 24 (jq ([.a 25 (.bld [jN] []),.n (.store 1 (.t 4) (.t 25)),.a 5 (.mv kF),jk 6 1]) .ret) .skip)) (jq ((ap [jL 27
 1 2,jo 28 2 3,jl 29 28,.a 30 (.call (kC 21) [(.t 27),(.t 29)])] [jm 26 30,jE 31 0 26,jE 32 1 26,jm 7 31,jm 8 32])) (.seq (jq ([jm 33 8,.a 34
 (.unot (.t 33))]) (jc 34 (jq ([.a 35 (.bld [jN] []),.n (.store 1 (.t 4) (.t 35)),.a 5 (.mv kF),jk 6 4]) .ret) .skip)) (jq ((ap [jm 36 7,jo 37 3 3,
 jl 38 37,.a 39 (.app 73 9 112 (.t 36) (.t 38))] [.a 9 (.alloc 25 [jN]),.n (.store 1 (.t 9) (.t 39))])) (.seq (jq ((ap [jl 41 9,.a 42 (.call (kC 24)
 [(.t 41)])] [jm 40 42,jE 43 0 40,jE 44 1 40,.a 10 (.alloc 65 [jI,jI,jI,jI,jF,jN,jN,jN,jN]),.n (.store 9 (.t 10) (.t 43)),jm 11 44])) (jq
 ([jm 45 11,jb 46 .neq 45 0]) (jc 46 (jq ([.a 47 (.bld [jN] []),.n (.store 1 (.t 4) (.t 47)),.a 5 (.mv kF),jk 6 1]) .ret) .skip))) (jq ([jm 48 7,je
 49 48,.a 12 (.alloc 3 [jI]),.n (.store 1 (.t 12) (.t 49))]) (.seq (jq ([jo 50 0 2,jl 51 50,.a 52 (.fn 42 [(.t 9),(.t 12)]),.a 53 (.call (kC 41)
 [(.t 51),(.t 52)])]) (jc 53 (jq ([.a 54 (.bld [jN] []),.n (.store 1 (.t 4) (.t 54)),.a 5 (.mv kF),jk 6 1]) .ret) .skip)) (.seq (jq ([jo 55 0 2,jl
 56 55,.a 57 (.fn 44 [(.t 9)]),.a 58 (.call (kC 41) [(.t 56),(.t 57)])]) (jc 58 (jq ((ap [jL 59 1 2,.a 60 (.call (kC 46) [(.t 59)])] [.n (.store 1
 (.t 4) (.t 60)),.a 5 (.mv kF),jk 6 0])) .ret) .skip)) (jq ((ap [jL 62 1 2,jl 63 9,.a 64 (.call (kC 47) [(.t 62),(.t 63)])] [jm 61 64,jE 65 0 61,
 jE 66 1 61,.a 13 (.alloc 30 [jN]),.n (.store 1 (.t 13) (.t 65)),jm 14 66])) (jq ((ap [jL 67 1 13,jm 68 14,jb 69 .eql 68 0] [jm 70 14,.n (.store 1
 (.t 4) (.t 67)),jm 5 69,jm 6 70])) .ret)))))))))))
theorem a1A:Fn Tryz.prog 12 71 [.cA 1 4,.t 5,.t 6] w0u:=.of Tryz.func12 (by kernel_rfl)
def i0x:SCode :=
  (jq ([.a 2 (.box 30 (.t 0)),.a 4 (.mv kN),.a 5 (.mv kF)]) (jq ((ap [jm 9 1,.a 10 (.call (kC 54) [(.t 9)])] [.a 11 (.fld1 0 (.t 10)),jm 6 11]))
 (.seq (jq ([jm 12 1,je 13 12,jb 14 .eql 13 0]) (jc 14 (jq ([.a 4 (.mv kN),.a 5 (.mv kT)]) .ret) .skip)) (.seq (jq ([jo 15 0 2,jl 16 15,je 17 16,
 jk 18 0]) (.block 0 (.loop (jq ([jB 19 .lss 18 17]) (.seq (jc 19 .skip (.exit 0)) (.seq (.block 1 (jq ([jx 20 1 16 18,jl 21 20,jm 8 21]) (jq ((ap [jm
 22 6,jb 23 .geq 22 1] (ap [jm 24 23,gM 25 6 24 true] (ap [gM 26 8 24 true,jG 27 (.slen (.t 26)) 24 true,jG 28 (.bin .leq (.t 25) (.t 27)) 24 true]
 (ap [.a 29 (.pick (.t 24) (.t 28) kF),jm 30 29,gM 31 8 30 true] (ap [gM 32 6 30 true,jG 33 (.sub 9 73 (.t 31) none (some (.t 32)) none) 30 true,jG
 34 (.call (kC 22) [(.t 33)]) 30 true] (ap [gM 35 1 30 true,jG 36 (.call (kC 55) [(.t 34),(.t 35)]) 30 true] [.a 37 (.pick (.t 30) (.t 36) kF)])))))))
 (jc 37 (jq ((ap [jm 38 8,jm 39 6,.a 40 (.sub 9 73 (.t 38) none (some (.t 39)) none),.a 41 (.call (kC 51) [(.t 40)])] [jm 4 41,.a 5 (.mv kT)]))
 .ret) .skip)))) (.ops [jb 42 .add 18 1,jm 18 42]))))))) (jq ([.a 4 (.mv kN),.a 5 (.mv kF)]) .ret)))))
theorem m0Q:Fn Tryz.prog 21 43 [.t 4,.t 5] i0x:=.of Tryz.func21 (by kernel_rfl)
def q0C:SCode :=
  (jq ([.a 4 (.mv kF)]) (.seq (jq ([jm 6 0,je 7 6,jm 8 1,je 9 8,jB 10 .neq 7 9]) (jc 10 (jq ([.a 4 (.mv kF)]) .ret) .skip)) (.seq (jq ([jm 11 0,je
 12 11,jk 13 0]) (.block 0 (.loop (jq ([jB 14 .lss 13 12]) (.seq (jc 14 .skip (.exit 0)) (.seq (.block 1 (jq ([jm 15 13,jm 5 15]) (.seq (.drw [jm 16
 0,jm 17 5,jx 18 2 16 17,jL 19 2 18,jm 20 1,jm 21 5,jx 22 2 20 21,jL 23 2 22,.a 24 (.aeq false [0,0] (.t 19) (.t 23))] [0,0,3,7,0,0,48,
 112,255]) (jc 24 (jq ([.a 4 (.mv kF)]) .ret) .skip)))) (.ops [jb 25 .add 13 1,jm 13 25]))))))) (jq ([.a 4 (.mv kT)]) .ret))))
theorem y0U:Fn Tryz.prog 55 26 [.t 4] q0C:=.of Tryz.func55 (by kernel_rfl)
set_option maxRecDepth 100000 in
theorem e1T (a b:Bs)(ha:a.length≤1000000):Con Tryz.prog 124 [.f (fY a),.f (fY b)] [] fun r H'=>r=D.bool (eqB a b)∧H'=[]:=by
 refine Con.walk good s0x (by simp) ?_
 unfold n0X
 simp only [a0J]
 by_cases hlm:(a.length:Int)=b.length
 rotate_left
 ·repeat' (with_reducible first|refine Wx.h ?_|refine Wb.h fun K hK=>?_|(refine hK _ ?_;clear hK K)|(refine wF ?_ ?_;assumption)|((fail_if_success refine Wz.h ?_);simp (disch:=omega) only [↓LD,LA,a0A,seval]))
  rw [o0J hlm]
  exact end1 rfl rfl (by kernel_rfl) .f ⟨rfl,rfl⟩
 repeat' (with_reducible first|refine Wx.h ?_|refine Wb.h fun K hK=>?_|(refine hK _ ?_;clear hK K)|(refine wT ?_ ?_;assumption)|((fail_if_success refine Wz.h ?_);simp (disch:=omega) only [↓LD,LA,a0A,seval]))
 refine HS.loopG [0,1,12,13] (fun i:Nat=>⟨frm 26 [(0,.f (fY a)),(1,.f (fY b)),(12,D.int a.length),(13,D.int i)],[],[]⟩) (fun i=>i≤a.length∧a.take i=b.take i) (fun i=>a.length-i) 0 (by kernel_rfl) ⟨Nat.zero_le _,rfl⟩ ?_
 rintro i ⟨hi,ht⟩
 by_cases hil:i<a.length
 ·have hil2:i<b.length:=by omega
  by_cases e:gt a i=gt b i
  ·repeat' (with_reducible first|refine Wx.h ?_|refine We.h fun K hK=>?_|(refine hK _ _ _ _ ?_;clear hK K;try clear hM M)|refine Wb.h fun K hK=>?_|(refine hK _ ?_;clear hK K)|(refine Wy.h ?_ ?_;kernel_rfl)|refine Wq.h ?_ ?_<;>intro h<;>try (exfalso;omega)|((fail_if_success refine Wz.h ?_);first|simp (disch:=omega) only [↓LD,LA,a0A,seval,e]|(refine And.intro ?_ ?_;omega)|fail))
   exact Next.mk (i+1) (by kernel_rfl) ⟨by omega,f0h hlm hil ht e⟩ (by omega)
  ·have e2:¬ ((gt a i).toNat:Int)=((gt b i).toNat:Int):=fun h=>e (UInt8.toNat_inj.1 (by omega))
   repeat' (with_reducible first|refine Wx.h ?_|refine We.h fun K hK=>?_|(refine hK _ _ _ _ ?_;clear hK K;try clear hM M)|refine Wb.h fun K hK=>?_|(refine hK _ ?_;clear hK K)|(refine wF ?_ ?_;assumption)|(refine Wy.h ?_ ?_;kernel_rfl)|refine Wq.h ?_ ?_<;>intro h<;>try (exfalso;omega)|((fail_if_success refine Wz.h ?_);first|simp (disch:=omega) only [↓LD,LA,a0A,seval]|(refine And.intro ?_ ?_;omega)|fail))
   rw [u0a e]
   exact end1 rfl rfl (by kernel_rfl) .f ⟨rfl,rfl⟩
 ·repeat' (with_reducible first|refine Wx.h ?_|refine Wb.h fun K hK=>?_|(refine hK _ ?_;clear hK K)|refine Wq.h ?_ ?_<;>intro h<;>try (exfalso;omega)|((fail_if_success refine Wz.h ?_);simp (disch:=omega) only [↓LD,LA,a0A,seval]))
  rw [o0c hlm ht (by omega)]
  exact end1 rfl rfl (by kernel_rfl) .f ⟨rfl,rfl⟩
instance {a b:Bs}{H:List Row}{K:D→List Row→Prop}[ha:Kn (a.length≤1000000)]:Wa (a0T Tryz.prog (.fn 124 []) [.f (fY a),.f (fY b)] H K) (K (.f (.v (.bool (eqB a b)))) H):=⟨fun h=>a0C (e1T a b ha.h) rfl rfl rfl h⟩
set_option maxRecDepth 100000 in
theorem y0i (a b:Ev)(ha:FitV a)(hb:FitV b):Con Tryz.prog 77 [evD a,evD b] [] fun r H'=>r=D.bool (eqB a b)∧H'=[]:=by
 haveI:Kn (z0p a.defs):=⟨ha.df⟩
 haveI:Kn (z0p b.defs):=⟨hb.df⟩
 haveI:Kn (a.data.length≤1000000):=⟨ha.1⟩
 clear ha hb
 suffices hh:∀ Q:D→List Row→Prop,Q (D.bool (eqB a b)) []→Con Tryz.prog 77 [evD a,evD b] [] Q from hh _ ⟨rfl,rfl⟩
 intro Q hQ
 obtain ⟨a1,a2,a3,a4,a5,a6,a7,a8,a9⟩:=a
 obtain ⟨b1,b2,b3,b4,b5,b6,b7,b8,b9⟩:=b
 dsimp only at *
 have hf:¬ ((⟨a1,a2,a3,a4,a5,a6,a7,a8,a9⟩:Ev)=⟨b1,b2,b3,b4,b5,b6,b7,b8,b9⟩)→Q (D.bool false) []:=fun h=>by rw [f0R h] at hQ;exact hQ
 have ht:a1=b1→a2=b2→a3=b3→a4=b4→a5=b5→a6=b6→a7=b7→a8=b8→Q (D.bool (eqB a9 b9)) []:=by
  rintro rfl rfl rfl rfl rfl rfl rfl rfl
  by_cases e9:a9=b9
  ·rw [f0S e9];rw [e9,e1R] at hQ;exact hQ
  ·rw [f0R e9];exact hf (fun e=>e9 (Ev.mk.inj e).2.2.2.2.2.2.2.2)
 clear hQ
 refine Con.walk good y0j (by simp) ?_
 unfold s0b
 simp only [a0J,evD]
 by_cases e8:a8=b8
 ·have h8:=f0S e8
  repeat' (with_reducible first|refine Wx.h ?_|refine Wb.h fun K hK=>?_|(refine hK _ ?_;clear hK K)|refine Wq.h ?_ ?_<;>intro h|((fail_if_success refine Wz.h ?_);simp (disch:=omega) only [↓LD,LA,a0A,seval,h8]))
  all_goals first
   | exact end1 rfl rfl (by kernel_rfl) .f (ht (by assumption) (by assumption) (by assumption) (by assumption) (by assumption) (by assumption) (by assumption) e8)
   | exact end1 rfl rfl (by kernel_rfl) .f (hf (by intro e;cases e;contradiction))
 ·have h8:=f0R e8
  repeat' (with_reducible first|refine Wx.h ?_|refine Wb.h fun K hK=>?_|(refine hK _ ?_;clear hK K)|refine Wq.h ?_ ?_<;>intro h|((fail_if_success refine Wz.h ?_);simp (disch:=omega) only [↓LD,LA,a0A,seval,h8]))
  all_goals exact end1 rfl rfl (by kernel_rfl) .f (hf (fun e=>e8 (Ev.mk.inj e).2.2.2.2.2.2.2.1))
instance {a b:Ev}{H:List Row}{K:Bool→D→List Row→Prop}[ha:Kn (FitV a)][hb:Kn (FitV b)]:Wa (a0m Tryz.prog (.fn 77 []) [eA a,eA b] H K) (K true (.f (.v (.bool (eqB a b)))) H):=⟨fun h=>a0O (y0i a b ha.h hb.h) rfl rfl rfl h⟩
noncomputable def a0Q:List Ev→List Ev→Nat
 | a :: l,b :: m=>if eqB a b=true then a0Q l m+1 else 0
 | _,_=>0
theorem n0T:∀ (l m:List Ev),a0Q l m≤l.length∧a0Q l m≤m.length
 | a :: l,b :: m=>by
  have ih:=n0T l m
  unfold a0Q
  split<;>simp<;>omega
 | [],m=>by simp [a0Q]
 | a :: l,[]=>by simp [a0Q]
set_option maxRecDepth 100000 in
theorem j0W (l m:List Ev)(hl:FitL l)(hm:FitL m):Con Tryz.prog 45 [.f (fEv l),.f (fEv m)] [] fun r H'=>r=D.int (a0Q l m)∧H'=[]:=by
 obtain ⟨hl,hln⟩:=hl
 obtain ⟨hm,hmn⟩:=hm
 refine Con.walk good s0e (by simp) ?_
 unfold i0p
 simp only [a0J]
 repeat' (with_reducible first|refine Wx.h ?_|refine Wb.h fun K hK=>?_|(refine hK _ ?_;clear hK K)|((fail_if_success refine Wz.h ?_);simp (disch:=omega) only [↓LD,LA,a0A,seval,LEv]))
 refine HS.loopG [0,1,5] (fun i:Nat=>⟨frm 27 [(0,.f (fEv l)),(1,.f (fEv m)),(5,D.int i)],[],[]⟩) (fun i=>i≤l.length∧i≤m.length∧a0Q l m=a0Q (l.drop i) (m.drop i)+i) (fun i=>l.length-i) 0 (by kernel_rfl) ⟨Nat.zero_le _,Nat.zero_le _,rfl⟩ ?_
 rintro i ⟨hi,hj,ha⟩
 by_cases hil:i<l.length∧i<m.length
 ·obtain ⟨hil,him⟩:=hil
  haveI:Kn (FitV (gt l i)):=⟨hln _ (a0M hil)⟩
  haveI:Kn (FitV (gt m i)):=⟨hmn _ (a0M him)⟩
  rw [a0I hil,a0I him,a0Q] at ha
  by_cases e:gt l i=gt m i
  ·have hb:=f0S e
   rw [if_pos hb] at ha
   repeat' (with_reducible first|refine Wx.h ?_|refine We.h fun K hK=>?_|refine Wd.h fun K M hK hM=>?_|(refine hK _ _ _ _ ?_;clear hK K;try clear hM M)|refine Wb.h fun K hK=>?_|(refine hK _ ?_;clear hK K)|(refine Wy.h ?_ ?_;kernel_rfl)|refine Wq.h ?_ ?_<;>intro h<;>try (exfalso;omega)|((fail_if_success refine Wz.h ?_);first|simp (disch:=omega) only [↓LD,LA,a0A,seval,LEv,b0t,a0K,Ev.cs,hb,List.map_cons,List.map_nil,-a0A]|(refine And.intro ?_ ?_;omega)|fail))
   all_goals exact Next.mk (i+1) (by kernel_rfl) ⟨by omega,by omega,by omega⟩ (by omega)
  ·have hb:=f0R e
   rw [if_neg (by rw [hb];simp)] at ha
   repeat' (with_reducible first|refine Wx.h ?_|refine We.h fun K hK=>?_|refine Wd.h fun K M hK hM=>?_|(refine hK _ _ _ _ ?_;clear hK K;try clear hM M)|refine Wb.h fun K hK=>?_|(refine hK _ ?_;clear hK K)|(refine Wy.h ?_ ?_;kernel_rfl)|refine Wq.h ?_ ?_<;>intro h<;>try (exfalso;omega)|((fail_if_success refine Wz.h ?_);first|simp (disch:=omega) only [↓LD,LA,a0A,seval,LEv,b0t,a0K,Ev.cs,hb,List.map_cons,List.map_nil,-a0A]|(refine And.intro ?_ ?_;omega)|fail))
   all_goals
    rw [ha,Nat.zero_add]
    exact end1 rfl rfl (by kernel_rfl) .f ⟨rfl,rfl⟩
 ·have h0:a0Q (l.drop i) (m.drop i)=0:=by
   have h:=n0T (l.drop i) (m.drop i)
   rw [List.length_drop,List.length_drop] at h
   omega
  rw [h0,Nat.zero_add] at ha
  rw [ha]
  clear ha h0
  repeat' (with_reducible first|refine Wx.h ?_|refine We.h fun K hK=>?_|refine Wd.h fun K M hK hM=>?_|(refine hK _ _ _ _ ?_;clear hK K;try clear hM M)|(refine hM ?_;clear hM M;try clear hK K)|refine Wb.h fun K hK=>?_|(refine hK _ ?_;clear hK K)|(refine Wy.h ?_ ?_;kernel_rfl)|refine Wq.h ?_ ?_<;>intro h<;>try (exfalso;omega)|((fail_if_success refine Wz.h ?_);simp (disch:=omega) only [↓LD,LA,a0A,seval,LEv]))
  all_goals exact end1 rfl rfl (by kernel_rfl) .f ⟨rfl,rfl⟩
instance {l m:List Ev}{H:List Row}{K:D→List Row→Prop}[hl:Kn (FitL l)][hm:Kn (FitL m)]:Wa (a0T Tryz.prog (.fn 45 []) [.f (fEv l),.f (fEv m)] H K) (K (.f (.v (.int .i64 (a0Q l m)))) H):=⟨fun h=>a0C (j0W l m hl.h hm.h) rfl rfl rfl h⟩
instance {l m:List Ev}{H:List Row}{K:Bool→D→List Row→Prop}[hl:Kn (FitL l)][hm:Kn (FitL m)]:Wa (a0m Tryz.prog (.fn 45 []) [.f (fEv l),.f (fEv m)] H K) (K true (.f (.v (.int .i64 (a0Q l m)))) H):=⟨fun h=>a0O (j0W l m hl.h hm.h) rfl rfl rfl h⟩
theorem r0N (l:List Ev)(hl:IdL l)(hk:(ofL l).length≤1000000):Con Tryz.prog 78 [.f (fEv l)] [] fun r H'=>r=D.int (a0b (ofL l)).ver∧H'=[]:=by
 haveI:Kn (IdL l):=⟨hl⟩
 haveI:Kn ((ofL l).length≤1000000):=⟨hk⟩
 refine Con.walk good o0p (by simp) ?_
 unfold h0G
 simp only [a0J]
 repeat' (with_reducible first|refine Wx.h ?_|refine Wb.h fun K hK=>?_|(refine hK _ ?_;clear hK K)|((fail_if_success refine Wz.h ?_);simp (disch:=omega) only [↓LD,LA,a0A,seval]))
 exact end1 rfl rfl (by kernel_rfl) .f ⟨rfl,rfl⟩
noncomputable def h0N (l m:List Ev)(k:Int):Bool:=decide (k≤a0Q l m)&&decide ((a0Q l m:Int)<min l.length m.length)&&decide ((gt l (a0Q l m)).ver=(gt m (a0Q l m)).ver)
set_option maxRecDepth 100000 in
theorem y0E (l m:List Ev)(k:Int)(hl:FitL l)(hm:FitL m):Con Tryz.prog 43 [.f (fEv l),.f (fEv m),D.int k] [] fun r H'=>r=D.bool (h0N l m k)∧H'=[]:=by
 haveI:Kn (FitL l):=⟨hl⟩
 haveI:Kn (FitL m):=⟨hm⟩
 have hl1:=hl.1
 have hm1:=hm.1
 refine Con.walk good t0P (by simp) ?_
 unfold m0Y h0N
 simp only [a0J]
 generalize hn:a0Q l m=n
 by_cases h1:k≤(n:Int)
 rotate_left
 ·rw [decide_eq_false h1]
  repeat' (with_reducible first|refine Wx.h ?_|refine We.h fun K hK=>?_|refine Wd.h fun K M hK hM=>?_|(refine hK _ _ _ _ ?_;clear hK K;try clear hM M)|(refine hM ?_;clear hM M;try clear hK K)|refine Wb.h fun K hK=>?_|(refine hK _ ?_;clear hK K)|(refine wF ?_ ?_;assumption)|(refine Wy.h ?_ ?_;kernel_rfl)|((fail_if_success refine Wz.h ?_);simp (disch:=omega) only [↓LD,LA,a0A,seval,LEv,hn]))
  all_goals exact end1 rfl rfl (by kernel_rfl) .f ⟨rfl,rfl⟩
 rw [decide_eq_true h1]
 by_cases h2:(n:Int)<min l.length m.length
 rotate_left
 ·rw [decide_eq_false h2]
  repeat' (with_reducible first|refine Wx.h ?_|refine We.h fun K hK=>?_|refine Wd.h fun K M hK hM=>?_|(refine hK _ _ _ _ ?_;clear hK K;try clear hM M)|(refine hM ?_;clear hM M;try clear hK K)|refine Wb.h fun K hK=>?_|(refine hK _ ?_;clear hK K)|(refine wT ?_ ?_;assumption)|(refine Wy.h ?_ ?_;kernel_rfl)|refine Wq.h ?_ ?_<;>intro h<;>try (exfalso;omega)|((fail_if_success refine Wz.h ?_);simp (disch:=omega) only [↓LD,LA,a0A,seval,LEv,hn]))
  all_goals exact end1 rfl rfl (by kernel_rfl) .f ⟨rfl,rfl⟩
 rw [decide_eq_true h2]
 have hnl:n<l.length:=by omega
 have hnm:n<m.length:=by omega
 by_cases h3:(gt l n).ver=(gt m n).ver
 ·rw [decide_eq_true h3]
  repeat' (with_reducible first|refine Wx.h ?_|refine We.h fun K hK=>?_|refine Wd.h fun K M hK hM=>?_|(refine hK _ _ _ _ ?_;clear hK K;try clear hM M)|refine Wb.h fun K hK=>?_|(refine hK _ ?_;clear hK K)|(refine wT ?_ ?_;assumption)|(refine Wy.h ?_ ?_;kernel_rfl)|refine Wq.h ?_ ?_<;>intro h<;>try (exfalso;omega)|((fail_if_success refine Wz.h ?_);first|simp (disch:=omega) only [↓LD,LA,a0A,seval,LEv,hn,a0K,g0d,Ev.cs]|(refine And.intro ?_ ?_;omega)|fail))
  all_goals exact end1 rfl rfl (by kernel_rfl) .f ⟨rfl,rfl⟩
 ·rw [decide_eq_false h3]
  repeat' (with_reducible first|refine Wx.h ?_|refine We.h fun K hK=>?_|refine Wd.h fun K M hK hM=>?_|(refine hK _ _ _ _ ?_;clear hK K;try clear hM M)|refine Wb.h fun K hK=>?_|(refine hK _ ?_;clear hK K)|(refine wT ?_ ?_;assumption)|(refine wF ?_ ?_;assumption)|(refine Wy.h ?_ ?_;kernel_rfl)|refine Wq.h ?_ ?_<;>intro h<;>try (exfalso;omega)|((fail_if_success refine Wz.h ?_);first|simp (disch:=omega) only [↓LD,LA,a0A,seval,LEv,hn,a0K,g0d,Ev.cs]|(refine And.intro ?_ ?_;omega)|fail))
  all_goals exact end1 rfl rfl (by kernel_rfl) .f ⟨rfl,rfl⟩
end Go.Proofs.YthjgmldnegaaiaaGreatDoor.Mir
