/- Lemmas for the proof. No condition. -/
import Derived.Test.YthjgmldnegaaiaaGreatDoorQp13
set_option linter.unusedVariables false
set_option linter.unusedSimpArgs false
namespace Go.Proofs.YthjgmldnegaaiaaGreatDoor.Mir
open Go Go.RowKit
def okI (y x:Im):Bool:=decide (y.id<x.id)&&decide (x.id≤200)&&decide (y.ver<x.ver)&&verB x.ver
def c0u:Im→List Im→Bool
 | _,[]=>true
 | y,x :: l=>okI y x&&c0u x l
def c0q (l:List Im):Bool:=c0u ⟨0,0⟩ l
theorem d0U {x:Im}:∀ {l:List Im} {y:Im},c0u y (l++[x])=(c0u y l&&okI (if l.length=0 then y else a0a l) x)
 | [],y=>by simp [c0u]
 | z :: l,y=>by
  have e:a0a (z :: l)=if l.length=0 then z else a0a l:=by
   unfold a0a
   rw [if_neg (by simp)]
   cases l with
   | nil=>rfl
   | cons w l=>rw [if_neg (by simp),if_neg (by simp)];simp [gt]
  rw [List.cons_append,c0u,d0U,c0u,Bool.and_assoc,show (if (z :: l).length=0 then y else a0a (z :: l))=a0a (z :: l) from if_neg (by simp),e]
theorem c1m {l:List Im}{x:Im}(h:0<l.length):l.set (l.length-1) x=l.take (l.length-1)++[x]:=by
 rw [List.set_eq_take_append_cons_drop,if_pos (by omega),show l.length-1+1=l.length by omega,List.drop_length]
theorem x0d {l:List Im}(h:0<l.length):l=l.take (l.length-1)++[a0a l]:=by
 have e:a0a l=gt l (l.length-1):=if_neg (by omega)
 rw [e,b0F (by omega),←List.take_succ_eq_append_getElem (by omega),show l.length-1+1=l.length by omega,List.take_length]
theorem x0j {l:List Im}{id v:Int}(h:c0q l=true)(h1:(a0a l).id<id)(h2:id≤200)(h3:(a0a l).ver≤v)(h4:verB v=true):c0q (b0p l id v)=true:=by
 have hv:=k0D h4
 unfold b0p
 by_cases hc:0<l.length∧(gt l (l.length-1)).ver=v
 ·rw [if_pos hc,c1m hc.1]
  have hs:=x0d hc.1
  unfold c0q at h ⊢
  rw [hs,d0U,Bool.and_eq_true] at h
  rw [d0U,Bool.and_eq_true]
  refine ⟨h.1,?_⟩
  have h5:=h.2
  generalize (if (l.take (l.length-1)).length=0 then (⟨0,0⟩:Im) else a0a (l.take (l.length-1)))=y at *
  have e:(a0a l).ver=v:=by rw [←hc.2];unfold a0a;rw [if_neg (by omega)]
  simp only [okI,Bool.and_eq_true,decide_eq_true_eq] at h5 ⊢
  rw [e] at h5
  exact ⟨⟨⟨by omega,h2⟩,h5.1.2⟩,h4⟩
 ·rw [if_neg hc]
  unfold c0q at h ⊢
  rw [d0U,Bool.and_eq_true]
  refine ⟨h,?_⟩
  simp only [okI,Bool.and_eq_true,decide_eq_true_eq]
  by_cases hz:l.length=0
  ·rw [if_pos hz]
   have e:a0a l=⟨0,0⟩:=if_pos hz
   rw [e] at h1 h3
   exact ⟨⟨⟨h1,h2⟩,by dsimp only;omega⟩,h4⟩
  ·rw [if_neg hz]
   have e:a0a l=gt l (l.length-1):=if_neg hz
   have:(a0a l).ver≠v:=fun e2=>hc ⟨by omega,by rw [←e2,e]⟩
   exact ⟨⟨⟨h1,h2⟩,by omega⟩,h4⟩
theorem r0r {first:Int}:∀ {vs:List Int} {i:Nat} {acc:List Im},c0q acc=true→(a0a acc).id<first+i→first+i+vs.length≤201→(∀ v∈vs,(a0a acc).ver≤v∧verB v=true)→vs.Pairwise (· ≤ ·)→c0q (ofA first i vs acc)=true
 | [],i,acc,h,_,_,_,_=>h
 | v :: vs,i,acc,h,h1,h2,h3,h4=>by
  obtain ⟨h5,h6⟩:=List.pairwise_cons.1 h4
  obtain ⟨h7,h8⟩:=h3 v (by simp)
  rw [List.length_cons] at h2
  rw [ofA]
  refine r0r (x0j h h1 (by omega) h7 h8) (by rw [g0M];dsimp only;omega) (by omega) (fun w hw=>?_) h6
  rw [g0M]
  exact ⟨h5 w hw,(h3 w (by simp [hw])).2⟩
theorem BrOk.id0 {l:List Ev}(h:BrOk l)(hn:l≠[]):(gt l 0).id=1:=by
 cases l with
 | nil=>exact absurd rfl hn
 | cons e l =>
  have:=((i0W h.fold).1 e rfl).1
  simpa [gt,s0] using this
theorem BrOk.vs {l:List Ev}(h:BrOk l):(l.map (·.ver)).Pairwise (· ≤ ·):=by
 rw [List.pairwise_iff_getElem]
 intro i j hi hj hij
 rw [List.length_map] at hi hj
 rw [List.getElem_map,List.getElem_map,←b0F hi,←b0F hj]
 exact y0l h j i (by omega) hj
theorem a1w {l:List Ev}(h:BrOk l):c0q (ofL l)=true:=by
 unfold ofL
 by_cases hn:l=[]
 ·rw [if_pos hn];rfl
 ·rw [if_neg hn,h.id0 hn]
  have hl:=h.len
  refine r0r rfl (by show (0:Int)<1+((0:Nat):Int);omega) (by rw [List.length_map];omega) (fun v hv=>?_) h.vs
  obtain ⟨e,he,rfl⟩:=List.mem_map.1 hv
  have h1:=(rightE_iff.1 (h.right he)).2.2.1
  have h2:=k0D h1
  exact ⟨by show (0:Int)≤e.ver;omega,h1⟩
noncomputable def e0h (pre:List Im)(b:List Ev):Bool:=decide (1≤(a0a pre).id)&&decide ((a0a pre).id≤b.length)&&eqB (ofL (b.take (a0a pre).id.toNat)) pre
noncomputable def d0S (t:Br)(pre:List Im):Option (List Ev) :=
 if pre.length=0 then some [] else (t.find? (e0h pre)).map fun b=>b.take (a0a pre).id.toNat
theorem e1I {l:List Ev}(h:ofL l=[]):l=[]:=by
 refine Classical.byContradiction fun hn=>?_
 have h1:=c0g hn
 rw [h] at h1
 have h0:=List.length_pos_iff.2 hn
 have:(ofL l).length≠0:=by
  unfold ofL h0A
  rw [if_neg hn]
  cases hm:l.map (·.ver) with
  | nil=>rw [List.map_eq_nil_iff] at hm;exact absurd hm hn
  | cons v vs =>
   rw [ofA]
   have:∀ (vs:List Int) (i:Nat) (acc:List Im),0<acc.length→0<(ofA (gt l 0).id i vs acc).length:=by
    intro vs
    induction vs with
    | nil=>intro i acc h;exact h
    | cons v vs ih =>
     intro i acc h
     rw [ofA]
     refine ih _ _ ?_
     unfold b0p;split
     ·rw [List.length_set];exact h
     ·simp
   exact Nat.ne_of_gt (this vs 1 (b0p [] ((gt l 0).id+(0:Nat)) v) (by unfold b0p;rw [if_neg (by simp)];simp))
 rw [h] at this
 exact this rfl
theorem p0N {U:List Ev→Prop}(hu:Uni U){t:Br}(ht:∀ b∈t,U b){hd:List Ev}(hh:U hd):d0S t (ofL hd)=some hd∧Dn t hd∨d0S t (ofL hd)=none∧¬ Dn t hd:=by
 obtain ⟨ok,ne⟩:=hu.ok hh
 have h0:=List.length_pos_iff.2 ne
 have hid:(a0a (ofL hd)).id=hd.length:=by rw [c0g ne,ok.id0 ne];dsimp only;omega
 have hz:¬ (ofL hd).length=0:=fun e=>ne (e1I (List.eq_nil_of_length_eq_zero e))
 have key:∀ b∈t,e0h (ofL hd) b=true↔hd <+: b:=by
  intro b hb
  unfold e0h
  rw [hid,Int.toNat_natCast,Bool.and_eq_true,Bool.and_eq_true,decide_eq_true_eq,decide_eq_true_eq]
  constructor
  ·rintro ⟨⟨_,h1⟩,h2⟩
   have h2:=u0v h2
   have hp:U (b.take hd.length):=hu.down (ht b hb) (List.take_prefix _ _) (f0x h0 (by omega))
   have hv:b0d (b.take hd.length)=b0d hd:=by
    have h3:=c0g (hu.ok hp).2
    rw [h2,c0g ne] at h3
    exact (Im.mk.inj h3).2.symm
   have hl:(b.take hd.length).length=hd.length:=by rw [List.length_take];omega
   have:b.take hd.length=hd:=(hu.comp hp hh hv).elim (fun h=>h.eq_of_length hl) fun h=>(h.eq_of_length hl.symm).symm
   exact List.prefix_iff_eq_take.2 this.symm
  ·intro h
   have hl:=h.length_le
   refine ⟨⟨by omega,by omega⟩,d0h ?_⟩
   rw [←List.prefix_iff_eq_take.1 h]
 unfold d0S
 rw [if_neg hz]
 cases hf:t.find? (e0h (ofL hd)) with
 | none =>
  refine .inr ⟨rfl,?_⟩
  rintro ⟨b,hb,h⟩
  exact List.find?_eq_none.1 hf b hb ((key b hb).2 h)
 | some b =>
  have hb:=List.mem_of_find?_eq_some hf
  have h1:=(key b hb).1 (List.find?_some hf)
  refine .inl ⟨?_,b,hb,h1⟩
  rw [Option.map_some,hid,Int.toNat_natCast,←List.prefix_iff_eq_take.1 h1]
def a1L:SCode :=
  (jq ([.a 2 (.mv kN)]) (jq ([.a 3 (.mv kN)]) (.seq (jq ([jm 6 0,je 7 6,jk 8 0]) (.block 0 (.loop (jq ([jB 9 .lss 8 7]) (.seq (jc 9 .skip (.exit 0))
 (.seq (.block 1 (jq ([jm 10 8,jx 11 9 6 8,jL 12 9 11,.a 5 (.alloc 73 [jI,jI,jI,jI,jI,jI,(.f (.v (.string ⟨#[]⟩))),jN,jN]),jm 4 10,.n
 (.store 9 (.t 5) (.t 12))]) (.drw [jm 13 3,jm 14 0,.a 15 (.idx 9 (.t 14) (kI 0)),jo 16 0 15,jl 17 16,jm 18 4,jB 19 .add 17 18,jo 20 1 5,jl 21
 20,.a 22 (.call (kC 56) [(.t 13),(.t 19),(.t 21)]),jm 3 22] [0,0,2,6,14,0,62,0,128,511,1023]))) (.ops [jb 23 .add 8 1,jm 8 23])))))))
 (jq ([jm 24 3,jm 2 24]) .ret))))
theorem c1f:Fn Tryz.prog 22 25 [.t 2] a1L:=.of Tryz.func22 (by kernel_rfl)
def f0v:SCode :=
  (jq ([.a 6 (.mv kN)]) (.seq (jq ([jm 8 0,je 9 8,jm 7 9]) (jq ((ap [jm 10 7,jb 11 .gtr 10 0] (ap [jm 12 11,gM 13 0 12 true] (ap [gM 14 7 12 true,jG
 15 (.bin .sub (.t 14) (kI 1)) 12 true,jG 16 (.idx 2 (.t 13) (.t 15)) 12 true,gO 17 1 16 12 true,gL 18 17 12 true,gM 19 2 12 true,jG 20 (.bin .eql
 (.t 18) (.t 19)) 12 true] [.a 21 (.pick (.t 12) (.t 20) kF)])))) (jc 21 (jq ([jm 22 0,jm 23 7,jb 24 .sub 23 1,jm 25 1,jx 26 2 22 24,jo 27 0 26,.n
 (.store 1 (.t 27) (.t 25))]) (jq ([jm 28 0,jm 6 28]) .ret)) .skip))) (jq ((ap [jm 29 0,jm 30 1,jm 31 2,.a 32 (.bld [jI,jI] [(0,1,(.t 30)),(1,
 1,(.t 31))]),.a 33 (.bsl 57 2 1 [jI,jI] [(0,(.t 32))]),.a 34 (.app 57 2 16 (.t 29) (.t 33))] [jm 6 34])) .ret)))
theorem i0w:Fn Tryz.prog 56 35 [.t 6] f0v:=.of Tryz.func56 (by kernel_rfl)
def p0W:SCode :=
  (jq ([.a 2 (.alloc 57 [jI,jI])]) (.seq (jq ([jm 3 0,je 4 3,jb 5 .eql 4 0]) (jc 5 (jq ([.a 6 (.bld [jI,jI] []),.n (.store 2 (.t 2) (.t 6))]) .ret)
 .skip)) (jq ([jm 7 0,jm 8 0,je 9 8,jb 10 .sub 9 1,jx 11 2 7 10,jL 12 2 11,.n (.store 2 (.t 2) (.t 12))]) .ret)))
theorem x0n:Fn Tryz.prog 54 13 [.cA 2 2] p0W:=.of Tryz.func54 (by kernel_rfl)
def k0n:SCode :=
  (jq ([.a 2 (.mv kF)]) (jq ([.a 6 (.bld [jI,jI] []),.a 3 (.alloc 57 [jI,jI]),.n (.store 2 (.t 3) (.t 6))]) (.seq (jq ([jm 7 0,je 8 7,jk 9 0])
 (.block 0 (.loop (jq ([jB 10 .lss 9 8]) (.seq (jc 10 .skip (.exit 0)) (.seq (.block 1 (jq ([jx 11 2 7 9,jL 12 2 11,.a 5 (.alloc 57 [jI,jI]),.n
 (.store 2 (.t 5) (.t 12))]) (.seq (jq ((ap [jo 13 0 5,jl 14 13,jo 15 0 3,jl 16 15,jB 17 .leq 14 16] (ap [jm 18 17,gO 19 0 5 18 false] (ap [gL 20
 19 18 false,jG 21 (.bin .gtr (.t 20) (kI 200)) 18 false] (ap [.a 22 (.pick (.t 18) kT (.t 21)),jm 23 22,gO 24 1 5 23 false] (ap [gL 25 24 23 false,
 gO 26 1 3 23 false,gL 27 26 23 false,jG 28 (.bin .leq (.t 25) (.t 27)) 23 false] (ap [.a 29 (.pick (.t 23) kT (.t 28)),jm 30 29,gO 31 1 5 30 false]
 (ap [gL 32 31 30 false,jG 33 (.call (kC 75) [(.t 32)]) 30 false] [jG 34 (.unot (.t 33)) 30 false,.a 35 (.pick (.t 30) kT (.t 34))])))))))) (jc 35 (jq
 ([.a 2 (.mv kF)]) .ret) .skip)) (.ops [jL 36 2 5,.n (.store 2 (.t 3) (.t 36))])))) (.ops [jb 37 .add 9 1,jm 9 37]))))))) (jq ([.a 2 (.mv kT)])
 .ret))))
theorem t0L:Fn Tryz.prog 40 38 [.t 2] k0n:=.of Tryz.func40 (by kernel_rfl)
def g0V:SCode :=
  (jq ([jk 4 0]) (jq ((ap [jm 7 0,.a 8 (.call (kC 54) [(.t 7)])] (ap [jm 9 1,.a 10 (.call (kC 54) [(.t 9)])] [.a 5 (.alloc 57 [jI,jI]),.a 6 (.alloc
 57 [jI,jI]),.n (.store 2 (.t 5) (.t 8)),.n (.store 2 (.t 6) (.t 10))]))) (.seq (.drw [jo 11 1 5,jl 12 11,jo 13 1 6,jl 14 13,.a 15 (.call (kC 62)
 [(.t 12),(.t 14)]),jo 16 0 5,jl 17 16,jo 18 0 6,jl 19 18,.a 20 (.call (kC 62) [(.t 17),(.t 19)]),.a 21 (.bsl 3 1 2 [jI,jI] [(0,(.t 15)),(1,
 (.t 20))]),.a 22 (.call (kC 61) [(.t 21)]),jm 4 22] [0,1,0,4,15,0,32,0,128,511,1023,2047,4095]) .ret)))
theorem n0v:Fn Tryz.prog 26 23 [.t 4] g0V:=.of Tryz.func26 (by kernel_rfl)
def q0O:SCode :=
  (jq ([jk 4 0]) (jq ((ap [jm 7 0,.a 8 (.call (kC 99) [(.t 7)])] [jm 5 8])) (jq ((ap [jm 9 1,.a 10 (.call (kC 99) [(.t 9)])] [jm 6 10])) (.seq (jq ([jm
 11 5]) (jc 11 (.seq (jq ([jm 12 6]) (jc 12 (jq ([jk 4 0]) .ret) .skip)) (jq ([.a 4 (.mv (kI (-1)))]) .ret)) .skip)) (.seq (jq ([jm 13 6]) (jc 13 (jq
 ([jk 4 1]) .ret) .skip)) (.seq (jq ([jm 14 0,jm 15 1,jB 16 .lss 14 15]) (jc 16 (jq ([.a 4 (.mv (kI (-1)))]) .ret) .skip)) (.seq (jq ([jm 17 0,jm 18
 1,jB 19 .gtr 17 18]) (jc 19 (jq ([jk 4 1]) .ret) .skip)) (jq ([jk 4 0]) .ret))))))))
theorem x0Z:Fn Tryz.prog 62 20 [.t 4] q0O:=.of Tryz.func62 (by kernel_rfl)
def p0J:SCode :=
  (jq ([jk 2 0]) (jq ([jk 3 0]) (.seq (jq ([jm 6 0,je 7 6,jk 8 0]) (.block 0 (.loop (jq ([jB 9 .lss 8 7]) (.seq (jc 9 .skip (.exit 0)) (.seq (.block 1
 (jq ([jx 10 1 6 8,jl 11 10,jm 5 11]) (jq ([jm 12 5,jm 13 3,jB 14 .neq 12 13]) (jc 14 (jq ([jm 15 5,jm 2 15]) .ret) .skip)))) (.ops [jb 16 .add 8
 1,jm 8 16]))))))) (jq ([jm 17 3,jm 2 17]) .ret))))
theorem x0c:Fn Tryz.prog 61 18 [.t 2] p0J:=.of Tryz.func61 (by kernel_rfl)
def q0U:SCode :=
 (jq ([.a 2 (.mv kF)]) (jq ((ap [jm 3 0,jm 4 0,jB 5 .neq 3 4] [jm 2 5])) .ret))
theorem x0E:Fn Tryz.prog 99 6 [.t 2] q0U:=.of Tryz.func99 (by kernel_rfl)
set_option maxHeartbeats 4000000
def rIm (l:List Im):Row:=.data 57 (l.flatMap Im.cs)
set_option maxRecDepth 100000 in
theorem s0N (l:List Im)(id v:Int)(h0:0<l.length)(hl:l.length≤1000000)(hv:(gt l (l.length-1)).ver=v):Con Tryz.prog 56 [.sl 0 0 l.length,D.int id,D.int v] [rIm l] fun r H'=>r = .sl 0 0 l.length∧H'=[rIm (b0p l id v)]:=by
 have hg:b0p l id v=l.set (l.length-1) ⟨id,(gt l (l.length-1)).ver⟩:=by unfold b0p;rw [if_pos ⟨h0,hv⟩,hv]
 rw [hg]
 refine Con.walk good i0w (by simp) ?_
 unfold f0v rIm
 simp only [a0I]
 have e1:((l.length:Int)-1).toNat=l.length-1:=by omega
 have e2:=i0P (g:=l) (k:=l.length-1) (by omega)
 have e3:=fun a=>y0T (l:=l) (k:=l.length-1) (a:=a) (by omega)
 repeat' (with_reducible first|refine Wx.h ?_|refine Wb.h fun K hK=>?_|(refine hK _ ?_;clear hK K)|refine Wq.h ?_ ?_<;>intro h<;>try (exfalso;omega)|((fail_if_success refine Wz.h ?_);first|simp (disch:=omega) only [↓LD,LA,a0A,seval,c0t,e1,e2,e3,hv]|(refine And.intro ?_ ?_;omega)|fail))
 exact endA rfl rfl ⟨rfl,rfl⟩
set_option maxRecDepth 100000 in
theorem t0O (l:List Im)(id v:Int)(hl:l.length≤1000000)(hv:¬ (0<l.length∧(gt l (l.length-1)).ver=v)):Con Tryz.prog 56 [.sl 0 0 l.length,D.int id,D.int v] [rIm l] fun r H'=>r = .sl 1 0 (l.length+1)∧H'=[.dead,rIm (b0p l id v)]:=by
 have hg:b0p l id v=l++[⟨id,v⟩]:=by unfold b0p;rw [if_neg hv]
 rw [hg]
 refine Con.walk good i0w (by simp) ?_
 unfold f0v rIm
 simp only [a0I]
 have e1:((l.length:Int)-1).toNat=l.length-1:=by omega
 by_cases h0:0<l.length
 ·have hv:¬ (gt l (l.length-1)).ver=v:=fun e=>hv ⟨h0,e⟩
  have e2:=i0P (g:=l) (k:=l.length-1) (by omega)
  repeat' (with_reducible first|refine Wx.h ?_|refine Wb.h fun K hK=>?_|(refine hK _ ?_;clear hK K)|(refine wF ?_ ?_;assumption)|refine Wq.h ?_ ?_<;>intro h<;>try (exfalso;omega)|((fail_if_success refine Wz.h ?_);first|simp (disch:=omega) only [↓LD,LA,a0A,seval,c0t,e1,e2,u0L]|(refine And.intro ?_ ?_;omega)|fail))
  exact endG rfl rfl (ef:=⟨.sl 1 0 (l.length+1),[(0,.dead)],[.data 57 ((l++[(⟨id,v⟩:Im)]).flatMap Im.cs)]⟩) (by kernel_rfl) ⟨rfl,rfl⟩
 ·repeat' (with_reducible first|refine Wx.h ?_|refine Wb.h fun K hK=>?_|(refine hK _ ?_;clear hK K)|refine Wq.h ?_ ?_<;>intro h<;>try (exfalso;omega)|((fail_if_success refine Wz.h ?_);first|simp (disch:=omega) only [↓LD,LA,a0A,seval,c0t,e1,u0L]|(refine And.intro ?_ ?_;omega)|fail))
  exact endG rfl rfl (ef:=⟨.sl 1 0 (l.length+1),[(0,.dead)],[.data 57 ((l++[(⟨id,v⟩:Im)]).flatMap Im.cs)]⟩) (by kernel_rfl) ⟨rfl,rfl⟩
set_option maxRecDepth 100000 in
theorem e1L (l:List Ev)(hl:IdL l):Con Tryz.prog 22 [.f (fEv l)] [] fun r H'=>r = .f (fIm (ofL l))∧H'=[]:=by
 obtain ⟨hl,hid⟩:=hl
 refine Con.walk good c1f (by simp) ?_
 unfold a1L
 simp only [a0I]
 refine HS.seq ?_
 repeat' (with_reducible first|refine Wa.h ?_|refine Wb.h fun K hK=>?_|(refine hK _ ?_;clear hK K)|((fail_if_success refine Wz.h ?_);simp (disch:=omega) only [↓LD,LA,a0A,seval]))
 refine HS.seq ?_
 repeat' (with_reducible first|refine Wa.h ?_|refine Wb.h fun K hK=>?_|(refine hK _ ?_;clear hK K)|((fail_if_success refine Wz.h ?_);simp (disch:=omega) only [↓LD,LA,a0A,seval]))
 refine HS.view (View.void 57) ?_
 refine HS.view (View.slot 3 (.sl 0 0 0) (.no (by decide))) ?_
 repeat' (with_reducible first|refine Wx.h ?_|refine Wb.h fun K hK=>?_|(refine hK _ ?_;clear hK K)|((fail_if_success refine Wz.h ?_);simp (disch:=omega) only [↓LD,LA,a0A,seval,LEv]))
 refine HS.loopG [0,3,6,7,8] (fun x:Nat × List Im=>⟨frm 25 [(0,.f (fEv l)),(3,.sl 0 0 x.2.length),(6,.f (fEv l)),(7,D.int l.length),(8,D.int x.1)],[rIm x.2],[]⟩) (fun x=>x.1≤l.length∧x.2.length≤x.1∧(l=[]∧x.2=[]∨l≠[]∧ofL l=ofA (gt l 0).id x.1 ((l.drop x.1).map (·.ver)) x.2)) (fun x=>l.length-x.1) (0,[]) (by kernel_rfl) ⟨Nat.zero_le _,Nat.zero_le _,by
  by_cases h:l=[]
  ·exact .inl ⟨h,rfl⟩
  ·exact .inr ⟨h,by unfold ofL h0A;rw [if_neg h];rfl⟩⟩ ?_
 rintro ⟨i,o⟩ ⟨hi,ho,hF⟩
 dsimp only at hi ho hF
 by_cases hil:i<l.length
 ·obtain ⟨hne,hF⟩:=hF.resolve_left (fun h=>by rw [h.1] at hil;simp at hil)
  rw [a0H hil,List.map_cons,ofA] at hF
  obtain ⟨d1,d2⟩:=hid hne
  have ea:=y0e (g:=l) (k:=0) (by omega)
  rw [Nat.zero_mul] at ea
  have hw:ofL l=ofA (gt l 0).id (i+1) ((l.drop (i+1)).map (·.ver)) (b0p o ((gt l 0).id+i) (gt l i).ver):=hF
  clear hF hid
  by_cases hc:0<o.length∧(gt o (o.length-1)).ver=(gt l i).ver
  ·have hgl:(b0p o ((gt l 0).id+i) (gt l i).ver).length=o.length:=by unfold b0p;rw [if_pos hc,List.length_set]
   repeat' (with_reducible first|refine Wx.h ?_|refine We.h fun K hK=>?_|(refine hK _ _ _ _ ?_;clear hK K;try clear hM M)|refine Wb.h fun K hK=>?_|(refine hK _ ?_;clear hK K)|(refine Wy.h ?_ ?_;kernel_rfl)|refine Wq.h ?_ ?_<;>intro h<;>try (exfalso;omega)|((fail_if_success refine Wz.h ?_);first|simp (disch:=omega) only [↓LD,LA,a0A,seval,LEv,rIm,b0O,a0N,ea,Ev.cs,List.map_cons,List.map_nil,-a0A]|(refine And.intro ?_ ?_;omega)|fail))
   all_goals
    refine c0Y (s0N o ((gt l 0).id+i) (gt l i).ver hc.1 (by omega) hc.2) [0] (by kernel_rfl) rfl rfl ?_
    simp (disch:=omega) only [↓LD,LA,a0A,seval,ren,List.getElem?_nil,rIm]
    repeat' (with_reducible first|refine Wx.h ?_|refine We.h fun K hK=>?_|(refine hK _ _ _ _ ?_;clear hK K;try clear hM M)|refine Wb.h fun K hK=>?_|(refine hK _ ?_;clear hK K)|(refine Wy.h ?_ ?_;kernel_rfl)|((fail_if_success refine Wz.h ?_);simp (disch:=omega) only [↓LD,LA,a0A,seval,rIm]))
    exact Next.mk (i+1,b0p o ((gt l 0).id+i) (gt l i).ver) (by dsimp only;rw [hgl];kernel_rfl) ⟨by dsimp only;omega,by dsimp only;omega,.inr ⟨hne,hw⟩⟩ (by dsimp only;omega)
  ·have hgl:(b0p o ((gt l 0).id+i) (gt l i).ver).length=o.length+1:=by unfold b0p;rw [if_neg hc];simp
   repeat' (with_reducible first|refine Wx.h ?_|refine We.h fun K hK=>?_|(refine hK _ _ _ _ ?_;clear hK K;try clear hM M)|refine Wb.h fun K hK=>?_|(refine hK _ ?_;clear hK K)|(refine Wy.h ?_ ?_;kernel_rfl)|refine Wq.h ?_ ?_<;>intro h<;>try (exfalso;omega)|((fail_if_success refine Wz.h ?_);first|simp (disch:=omega) only [↓LD,LA,a0A,seval,LEv,rIm,b0O,a0N,ea,Ev.cs,List.map_cons,List.map_nil,-a0A]|(refine And.intro ?_ ?_;omega)|fail))
   all_goals
    refine c0Y (t0O o ((gt l 0).id+i) (gt l i).ver (by omega) hc) [0] (by kernel_rfl) rfl rfl ?_
    simp (disch:=omega) only [↓LD,LA,a0A,seval,ren,List.getElem?_nil,rIm]
    repeat' (with_reducible first|refine Wx.h ?_|refine We.h fun K hK=>?_|(refine hK _ _ _ _ ?_;clear hK K;try clear hM M)|refine Wb.h fun K hK=>?_|(refine hK _ ?_;clear hK K)|(refine Wy.h ?_ ?_;kernel_rfl)|((fail_if_success refine Wz.h ?_);simp (disch:=omega) only [↓LD,LA,a0A,seval,rIm]))
    exact Next.mk (i+1,b0p o ((gt l 0).id+i) (gt l i).ver) (by dsimp only;rw [hgl];kernel_rfl) ⟨by dsimp only;omega,by dsimp only;omega,.inr ⟨hne,hw⟩⟩ (by dsimp only;omega)
 ·have hF:ofL l=o:=by
   rcases hF with ⟨h1,h2⟩|⟨h1,h2⟩
   ·rw [h2];unfold ofL;rw [if_pos h1]
   ·rw [h2,List.drop_of_length_le (by omega)];rfl
  rw [hF]
  repeat' (with_reducible first|refine Wx.h ?_|refine Wb.h fun K hK=>?_|(refine hK _ ?_;clear hK K)|refine Wq.h ?_ ?_<;>intro h<;>try (exfalso;omega)|((fail_if_success refine Wz.h ?_);simp (disch:=omega) only [↓LD,LA,a0A,seval]))
  exact end1 rfl rfl (by kernel_rfl) (.sl (T:=57) (xs:=o.flatMap Im.cs) rfl (fun e=>by rw [List.eq_nil_of_length_eq_zero e];rfl)) ⟨rfl,rfl⟩
theorem z0E (l:List Im)(hl:l.length≤1000000):Con Tryz.prog 54 [.f (fIm l)] [] fun r H'=>r = .ag [D.int (a0a l).id,D.int (a0a l).ver]∧H'=[]:=by
 refine Con.walk good x0n (by simp) ?_
 unfold p0W
 simp only [a0I]
 have e1:((l.length:Int)-1).toNat=l.length-1:=by omega
 by_cases h:l.length=0
 ·rw [a0a,if_pos h]
  repeat' (with_reducible first|refine Wx.h ?_|refine Wb.h fun K hK=>?_|(refine hK _ ?_;clear hK K)|refine Wq.h ?_ ?_<;>intro h<;>try (exfalso;omega)|((fail_if_success refine Wz.h ?_);simp (disch:=omega) only [↓LD,LA,a0A,seval,LIm]))
  exact RetS.still (ds:=[.ag [jI,jI]]) (by kernel_rfl) (by kernel_rfl) (.ags (.cons .f (.cons .f .nil))) ⟨rfl,rfl⟩
 ·rw [a0a,if_neg h]
  have hk:l.length-1<l.length:=by omega
  repeat' (with_reducible first|refine Wx.h ?_|refine Wb.h fun K hK=>?_|(refine hK _ ?_;clear hK K)|refine Wq.h ?_ ?_<;>intro h<;>try (exfalso;omega)|((fail_if_success refine Wz.h ?_);first|simp (disch:=omega) only [↓LD,LA,a0A,seval,LIm,c0t,h0X,e1,Im.cs,List.map_cons,List.map_nil,-a0A]|(refine And.intro ?_ ?_;omega)|fail))
  generalize gt l (l.length-1)=x
  exact RetS.still (ds:=[.ag [D.int x.id,D.int x.ver]]) (by kernel_rfl) (by kernel_rfl) (.ags (.cons .f (.cons .f .nil))) ⟨rfl,rfl⟩
def cmpZ (a b:Int):Int:=if a<b then -1 else if b<a then 1 else 0
theorem y0M (a:Int):Con Tryz.prog 99 [D.int a] [] fun r H'=>r=D.bool false∧H'=[]:=by
 refine Con.walk good x0E (by simp) ?_
 unfold q0U
 simp only [a0I]
 repeat' (with_reducible first|refine Wx.h ?_|refine Wb.h fun K hK=>?_|(refine hK _ ?_;clear hK K)|((fail_if_success refine Wz.h ?_);simp (disch:=omega) only [↓LD,LA,a0A,seval]))
 exact end1 rfl rfl (by kernel_rfl) .f ⟨rfl,rfl⟩
theorem x0w (a b:Int):Con Tryz.prog 62 [D.int a,D.int b] [] fun r H'=>r=D.int (cmpZ a b)∧H'=[]:=by
 have h:=y0M
 refine Con.walk good x0Z (by simp) ?_
 unfold q0O
 simp only [a0I]
 repeat' (with_reducible first|refine Wx.h ?_|refine Wb.h fun K hK=>?_|(refine hK _ ?_;clear hK K)|((fail_if_success refine Wz.h ?_);simp (disch:=omega) only [↓LD,LA,a0A,seval]))
 refine a0C (h a) rfl rfl rfl ?_
 repeat' (with_reducible first|refine Wx.h ?_|refine Wb.h fun K hK=>?_|(refine hK _ ?_;clear hK K)|((fail_if_success refine Wz.h ?_);simp (disch:=omega) only [↓LD,LA,a0A,seval]))
 refine a0C (h b) rfl rfl rfl ?_
 repeat' (with_reducible first|refine Wx.h ?_|refine Wb.h fun K hK=>?_|(refine hK _ ?_;clear hK K)|refine Wq.h ?_ ?_<;>intro h|((fail_if_success refine Wz.h ?_);simp (disch:=omega) only [↓LD,LA,a0A,seval]))
 all_goals
  refine end1 rfl rfl (by kernel_rfl) .f ⟨congrArg (fun i:Int=>D.f (.v (.int .i64 i))) ?_,rfl⟩
  unfold cmpZ
  (repeat' split)<;>omega
def orL:List Int→Int
 | []=>0
 | x :: l=>if x≠0 then x else orL l
theorem b1R (l:List Int)(hl:l.length≤1000000):Con Tryz.prog 61 [.f (fI l)] [] fun r H'=>r=D.int (orL l)∧H'=[]:=by
 refine Con.walk good x0c (by simp) ?_
 unfold p0J
 simp only [a0I]
 repeat' (with_reducible first|refine Wx.h ?_|refine Wb.h fun K hK=>?_|(refine hK _ ?_;clear hK K)|((fail_if_success refine Wz.h ?_);simp (disch:=omega) only [↓LD,LA,a0A,seval,LSt]))
 refine HS.loopG [3,6,7,8] (fun i:Nat=>⟨frm 18 [(3,jI),(6,.f (fI l)),(7,D.int l.length),(8,D.int i)],[],[]⟩) (fun i=>i≤l.length∧orL l=orL (l.drop i)) (fun i=>l.length-i) 0 (by kernel_rfl) ⟨Nat.zero_le _,rfl⟩ ?_
 rintro i ⟨hi,hF⟩
 by_cases hil:i<l.length
 ·rw [a0H hil,orL] at hF
  by_cases h0:gt l i=0
  ·rw [if_neg (by omega)] at hF
   repeat' (with_reducible first|refine Wx.h ?_|refine Wb.h fun K hK=>?_|(refine hK _ ?_;clear hK K)|(refine wT ?_ ?_;assumption)|refine Wq.h ?_ ?_<;>intro h<;>try (exfalso;omega)|((fail_if_success refine Wz.h ?_);first|simp (disch:=omega) only [↓LD,LA,a0A,seval,LSt]|(refine And.intro ?_ ?_;omega)|fail))
   exact Next.mk (i+1) (by kernel_rfl) ⟨by omega,hF⟩ (by omega)
  ·rw [if_pos h0] at hF
   repeat' (with_reducible first|refine Wx.h ?_|refine Wb.h fun K hK=>?_|(refine hK _ ?_;clear hK K)|(refine wF ?_ ?_;assumption)|refine Wq.h ?_ ?_<;>intro h<;>try (exfalso;omega)|((fail_if_success refine Wz.h ?_);first|simp (disch:=omega) only [↓LD,LA,a0A,seval,LSt]|(refine And.intro ?_ ?_;omega)|fail))
   rw [hF]
   exact end1 rfl rfl (by kernel_rfl) .f ⟨rfl,rfl⟩
 ·rw [List.drop_of_length_le (by omega)] at hF
  repeat' (with_reducible first|refine Wx.h ?_|refine Wb.h fun K hK=>?_|(refine hK _ ?_;clear hK K)|refine Wq.h ?_ ?_<;>intro h<;>try (exfalso;omega)|((fail_if_success refine Wz.h ?_);simp (disch:=omega) only [↓LD,LA,a0A,seval,LSt]))
  rw [hF]
  exact end1 rfl rfl (by kernel_rfl) .f ⟨rfl,rfl⟩
instance {l:List Ev}{H:List Row}{K:D→List Row→Prop}[hl:Kn (IdL l)]:Wa (a0S Tryz.prog (.fn 22 []) [.f (fEv l)] H K) (K (.f (fIm (ofL l))) H):=⟨fun h=>a0C (e1L l hl.h) rfl rfl rfl h⟩
instance {l:List Im}{H:List Row}{K:D→List Row→Prop}[hl:Kn (l.length≤1000000)]:Wa (a0S Tryz.prog (.fn 54 []) [.f (fIm l)] H K) (K (.ag [.f (.v (.int .i64 (a0a l).id)),.f (.v (.int .i64 (a0a l).ver))]) H):=⟨fun h=>a0C (z0E l hl.h) rfl rfl rfl h⟩
instance {a b:Int}{H:List Row}{K:Bool→D→List Row→Prop}:Wa (a0j Tryz.prog (.fn 62 []) [.f (.v (.int .i64 a)),.f (.v (.int .i64 b))] H K) (K true (.f (.v (.int .i64 (cmpZ a b)))) H):=⟨fun h=>a0O (x0w a b) rfl rfl rfl h⟩
set_option maxRecDepth 100000 in
theorem p0k (a b:List Im)(ha:a.length≤1000000)(hb:b.length≤1000000):Con Tryz.prog 26 [.f (fIm a),.f (fIm b)] [] fun r H'=>r=D.int (cmpI a b)∧H'=[]:=by
 haveI:Kn (a.length≤1000000):=⟨ha⟩
 haveI:Kn (b.length≤1000000):=⟨hb⟩
 have hc:cmpI a b=orL [cmpZ (a0a a).ver (a0a b).ver,cmpZ (a0a a).id (a0a b).id]:=by
  unfold cmpI orL orL orL cmpZ
  (repeat' split)<;>omega
 refine Con.walk good n0v (by simp) ?_
 unfold g0V
 simp only [a0I]
 repeat' (with_reducible first|refine Wx.h ?_|refine We.h fun K hK=>?_|(refine hK _ _ _ _ ?_;clear hK K;try clear hM M)|refine Wb.h fun K hK=>?_|(refine hK _ ?_;clear hK K)|(refine Wy.h ?_ ?_;kernel_rfl)|((fail_if_success refine Wz.h ?_);simp (disch:=omega) only [↓LD,LA,a0A,seval]))
 all_goals
  refine c0i (args0:=[.f (fI [cmpZ (a0a a).ver (a0a b).ver,cmpZ (a0a a).id (a0a b).id])]) (b1R _ (by simp)) (.cons (.sl (T:=3) (xs:=[iF (cmpZ (a0a a).ver (a0a b).ver),iF (cmpZ (a0a a).id (a0a b).id)]) rfl (fun e=>absurd e (by decide))) .nil) ⟨.f .v,by simp⟩ ?_
  rw [←hc]
  repeat' (with_reducible first|refine Wx.h ?_|refine We.h fun K hK=>?_|(refine hK _ _ _ _ ?_;clear hK K;try clear hM M)|(refine hK _ ?_;clear hK K)|(refine Wy.h ?_ ?_;kernel_rfl)|((fail_if_success refine Wz.h ?_);simp (disch:=omega) only [↓LD,LA,a0A,seval]))
  exact end1 rfl rfl (by kernel_rfl) .f ⟨rfl,rfl⟩
instance {a b:List Im}{H:List Row}{K:D→List Row→Prop}[ha:Kn (a.length≤1000000)][hb:Kn (b.length≤1000000)]:Wa (a0S Tryz.prog (.fn 26 []) [.f (fIm a),.f (fIm b)] H K) (K (.f (.v (.int .i64 (cmpI a b)))) H):=⟨fun h=>a0C (p0k a b ha.h hb.h) rfl rfl rfl h⟩
theorem c1w {x y:Im}(h:x.id≤y.id∨200<x.id∨x.ver≤y.ver∨verB x.ver=false):okI y x=false:=by
 unfold okI
 rcases h with h|h|h|h
 ·rw [decide_eq_false (by omega)];rfl
 ·rw [decide_eq_false (p:=x.id≤200) (by omega)];simp
 ·rw [decide_eq_false (p:=y.ver<x.ver) (by omega)];simp
 ·rw [h];simp
theorem g1X {x y:Im}(h1:y.id<x.id)(h2:x.id≤200)(h3:y.ver<x.ver)(h4:verB x.ver=true):okI y x=true:=by
 unfold okI
 rw [decide_eq_true h1,decide_eq_true h2,decide_eq_true h3,h4];rfl
set_option maxRecDepth 100000 in
theorem x0o (l:List Im)(hl:l.length≤1000000):Con Tryz.prog 40 [.f (fIm l)] [] fun r H'=>r=D.bool (c0q l)∧H'=[]:=by
 refine Con.walk good t0L (by simp) ?_
 unfold k0n
 simp only [a0I]
 repeat' (with_reducible first|refine Wx.h ?_|refine Wb.h fun K hK=>?_|(refine hK _ ?_;clear hK K)|((fail_if_success refine Wz.h ?_);simp (disch:=omega) only [↓LD,LA,a0A,seval,LIm]))
 refine HS.loopG [3,7,8,9] (fun x:Nat × Im=>⟨frm 38 [(3,.pt 0 0),(7,.f (fIm l)),(8,D.int l.length),(9,D.int x.1)],[.box 57 [D.int x.2.id,D.int x.2.ver]],[]⟩) (fun x=>x.1≤l.length∧c0q l=c0u x.2 (l.drop x.1)) (fun x=>l.length-x.1) (0,⟨0,0⟩) (by kernel_rfl) ⟨Nat.zero_le _,rfl⟩ ?_
 rintro ⟨i,y⟩ ⟨hi,hF⟩
 dsimp only at hi hF
 by_cases hil:i<l.length
 ·rw [a0H hil,c0u] at hF
  have hld:=fun H:List Row=>h0X (H:=H) hil
  generalize gt l i=x at *
  have hf:okI y x=false→D.bool false=D.bool (c0q l):=fun h=>by rw [hF,h,Bool.false_and]
  have ht:okI y x=true→c0q l=c0u x (l.drop (i+1)):=fun h=>by rw [hF,h,Bool.true_and]
  clear hF
  repeat' (with_reducible first|refine Wx.h ?_|refine Wb.h fun K hK=>?_|(refine hK _ ?_;clear hK K)|refine Wq.h ?_ ?_<;>intro h<;>try (exfalso;omega)|((fail_if_success refine Wz.h ?_);first|simp (disch:=omega) only [↓LD,LA,a0A,seval,LIm,c0t,hld,Im.cs,List.map_cons,List.map_nil,-a0A]|(refine And.intro ?_ ?_;omega)|fail))
  ·exact end1 rfl rfl (by kernel_rfl) .f ⟨hf (c1w (.inl (by assumption))),rfl⟩
  ·exact end1 rfl rfl (by kernel_rfl) .f ⟨hf (c1w (.inr (.inl (by assumption)))),rfl⟩
  ·exact end1 rfl rfl (by kernel_rfl) .f ⟨hf (c1w (.inr (.inr (.inl (by assumption))))),rfl⟩
  ·exact end1 rfl rfl (by kernel_rfl) .f ⟨hf (c1w (.inr (.inr (.inr (by simpa using h))))),rfl⟩
  ·exact Next.mk (i+1,x) (by kernel_rfl) ⟨by dsimp only;omega,ht (g1X (by omega) (by omega) (by omega) (by simpa using h))⟩ (by dsimp only;omega)
 ·rw [List.drop_of_length_le (by omega)] at hF
  repeat' (with_reducible first|refine Wx.h ?_|refine Wb.h fun K hK=>?_|(refine hK _ ?_;clear hK K)|refine Wq.h ?_ ?_<;>intro h<;>try (exfalso;omega)|((fail_if_success refine Wz.h ?_);simp (disch:=omega) only [↓LD,LA,a0A,seval,LIm]))
  rw [hF]
  exact end1 rfl rfl (by kernel_rfl) .f ⟨rfl,rfl⟩
def o0T:SCode :=
  (jq ([.a 2 (.box 73 (.t 0)),.a 3 (.box 73 (.t 1)),.a 4 (.mv kF)]) (jq ((ap [jo 5 0 2,jl 6 5,jo 7 0 3,jl 8 7,jB 9 .eql 6 8] (ap [jm 10 9,gO 11 1
 2 10 true] (ap [gL 12 11 10 true,gO 13 1 3 10 true,gL 14 13 10 true,jG 15 (.bin .eql (.t 12) (.t 14)) 10 true] (ap [.a 16 (.pick (.t 10) (.t 15)
 kF),jm 17 16,gO 18 2 2 17 true] (ap [gL 19 18 17 true,gO 20 2 3 17 true,gL 21 20 17 true,jG 22 (.bin .eql (.t 19) (.t 21)) 17 true] (ap [.a 23
 (.pick (.t 17) (.t 22) kF),jm 24 23,gO 25 3 2 24 true] (ap [gL 26 25 24 true,gO 27 3 3 24 true,gL 28 27 24 true,jG 29 (.bin .eql (.t 26) (.t 28))
 24 true] (ap [.a 30 (.pick (.t 24) (.t 29) kF),jm 31 30,gO 32 4 2 31 true] (ap [gL 33 32 31 true,gO 34 4 3 31 true,gL 35 34 31 true,jG 36 (.bin
 .eql (.t 33) (.t 35)) 31 true] (ap [.a 37 (.pick (.t 31) (.t 36) kF),jm 38 37,gO 39 5 2 38 true] (ap [gL 40 39 38 true,gO 41 5 3 38 true,gL 42 41
 38 true,jG 43 (.bin .eql (.t 40) (.t 42)) 38 true] (ap [.a 44 (.pick (.t 38) (.t 43) kF),jm 45 44,gO 46 6 2 45 true] (ap [gL 47 46 45 true,gO 48 6
 3 45 true,gL 49 48 45 true,jG 50 (.bin .eql (.t 47) (.t 49)) 45 true] (ap [.a 51 (.pick (.t 45) (.t 50) kF),jm 52 51,gO 53 7 2 52 true] (ap [gL 54
 53 52 true,gO 55 7 3 52 true,gL 56 55 52 true,jG 57 (.call (kC 124) [(.t 54),(.t 56)]) 52 true] (ap [.a 58 (.pick (.t 52) (.t 57) kF),jm 59 58,gO
 60 8 2 59 true] (ap [gL 61 60 59 true,gO 62 8 3 59 true,gL 63 62 59 true,jG 64 (.call (kC 125) [(.t 61),(.t 63),(kC 126)]) 59 true] [.a 65 (.pick
 (.t 59) (.t 64) kF),jm 4 65])))))))))))))))))) .ret))
theorem x0T:Fn Tryz.prog 77 66 [.t 4] o0T:=.of Tryz.func77 (by kernel_rfl)
def e0Z:SCode :=
  (jq ([.a 6 (.mv kF)]) (.seq (jq ([jm 10 0,je 11 10,jm 12 1,je 13 12,jB 14 .neq 11 13]) (jc 14 (jq ([.a 6 (.mv kF)]) .ret) .skip)) (.seq (jq ([jm 15
 0,je 16 15,jk 17 0]) (.block 0 (.loop (jq ([jB 18 .lss 17 16]) (.seq (jc 18 .skip (.exit 0)) (.seq (.block 1 (jq ([jm 19 17,jx 20 3 15 17,jL 21 3
 20,.a 8 (.alloc 123 [jN,jI,jI]),jm 7 19,.n (.store 3 (.t 8) (.t 21))]) (jq ([jm 22 1,jm 23 7,jx 24 3 22 23,jL 25 3 24,.a 9 (.alloc 123 [jN,
 jI,jI]),.n (.store 3 (.t 9) (.t 25))]) (jq ((ap [jm 26 2,jL 27 3 8,jL 28 3 9,.a 29 (.call (.t 26) [(.t 27),(.t 28)])] [.a 30 (.unot (.t 29))]))
 (jc 30 (jq ([.a 6 (.mv kF)]) .ret) .skip))))) (.ops [jb 31 .add 17 1,jm 17 31]))))))) (jq ([.a 6 (.mv kT)]) .ret))))
theorem j0M:Fn Tryz.prog 125 32 [.t 6] e0Z:=.of Tryz.func125 (by kernel_rfl)
def g0p:SCode :=
  (jq ([.a 2 (.box 123 (.t 0)),.a 3 (.box 123 (.t 1)),.a 4 (.mv kF)]) (jq ((ap [jo 5 0 2,jl 6 5,jo 7 0 3,jl 8 7,.a 9 (.call (kC 154) [(.t 6),(.t
 8)])] (ap [jm 10 9,gO 11 1 2 10 true] (ap [gL 12 11 10 true,gO 13 1 3 10 true,gL 14 13 10 true,jG 15 (.bin .eql (.t 12) (.t 14)) 10 true] (ap [.a
 16 (.pick (.t 10) (.t 15) kF),jm 17 16,gO 18 2 2 17 true] (ap [gL 19 18 17 true,gO 20 2 3 17 true,gL 21 20 17 true,jG 22 (.bin .eql (.t 19) (.t
 21)) 17 true] [.a 23 (.pick (.t 17) (.t 22) kF),jm 4 23])))))) .ret))
theorem n0w:Fn Tryz.prog 126 24 [.t 4] g0p:=.of Tryz.func126 (by kernel_rfl)
def k0A:SCode :=
  (jq ([.a 4 (.mv kF)]) (.seq (jq ([jm 6 0,je 7 6,jm 8 1,je 9 8,jB 10 .neq 7 9]) (jc 10 (jq ([.a 4 (.mv kF)]) .ret) .skip)) (.seq (jq ([jm 11 0,je
 12 11,jk 13 0]) (.block 0 (.loop (jq ([jB 14 .lss 13 12]) (.seq (jc 14 .skip (.exit 0)) (.seq (.block 1 (jq ([jm 15 13,jm 5 15]) (.seq (.drw [jm 16
 0,jm 17 5,jx 18 1 16 17,jl 19 18,jm 20 1,jm 21 5,jx 22 1 20 21,jl 23 22,jB 24 .neq 19 23] [0,0,3,7,0,0,48,112,255]) (jc 24 (jq ([.a 4
 (.mv kF)]) .ret) .skip)))) (.ops [jb 25 .add 13 1,jm 13 25]))))))) (jq ([.a 4 (.mv kT)]) .ret))))
theorem o0y:Fn Tryz.prog 154 26 [.t 4] k0A:=.of Tryz.func154 (by kernel_rfl)
theorem t0H (l m:List Int)(hl:l.length≤1000000)(hm:m.length≤1000000):Con Tryz.prog 154 [.f (fI l),.f (fI m)] [] fun r H'=>r=D.bool (eqB l m)∧H'=[]:=by
 refine Con.walk good o0y (by simp) ?_
 unfold k0A
 simp only [a0I]
 by_cases hlm:(l.length:Int)=m.length
 rotate_left
 ·repeat' (with_reducible first|refine Wx.h ?_|refine Wb.h fun K hK=>?_|(refine hK _ ?_;clear hK K)|(refine wF ?_ ?_;assumption)|((fail_if_success refine Wz.h ?_);simp (disch:=omega) only [↓LD,LA,a0A,seval,LSt]))
  rw [d0b hlm]
  exact end1 rfl rfl (by kernel_rfl) .f ⟨rfl,rfl⟩
 repeat' (with_reducible first|refine Wx.h ?_|refine Wb.h fun K hK=>?_|(refine hK _ ?_;clear hK K)|(refine wT ?_ ?_;assumption)|((fail_if_success refine Wz.h ?_);simp (disch:=omega) only [↓LD,LA,a0A,seval,LSt]))
 refine HS.loopG [0,1,12,13] (fun i:Nat=>⟨frm 26 [(0,.f (fI l)),(1,.f (fI m)),(12,D.int l.length),(13,D.int i)],[],[]⟩) (fun i=>i≤l.length∧l.take i=m.take i) (fun i=>l.length-i) 0 (by kernel_rfl) ⟨Nat.zero_le _,rfl⟩ ?_
 rintro i ⟨hi,ht⟩
 by_cases hil:i<l.length
 ·by_cases e:gt l i=gt m i
  ·repeat' (with_reducible first|refine Wx.h ?_|refine We.h fun K hK=>?_|(refine hK _ _ _ _ ?_;clear hK K;try clear hM M)|refine Wb.h fun K hK=>?_|(refine hK _ ?_;clear hK K)|(refine wT ?_ ?_;assumption)|(refine Wy.h ?_ ?_;kernel_rfl)|refine Wq.h ?_ ?_<;>intro h<;>try (exfalso;omega)|((fail_if_success refine Wz.h ?_);first|simp (disch:=omega) only [↓LD,LA,a0A,seval,LSt]|(refine And.intro ?_ ?_;omega)|fail))
   exact Next.mk (i+1) (by kernel_rfl) ⟨by omega,b0o hlm hil ht e⟩ (by omega)
  ·repeat' (with_reducible first|refine Wx.h ?_|refine We.h fun K hK=>?_|(refine hK _ _ _ _ ?_;clear hK K;try clear hM M)|refine Wb.h fun K hK=>?_|(refine hK _ ?_;clear hK K)|(refine wF ?_ ?_;assumption)|(refine Wy.h ?_ ?_;kernel_rfl)|refine Wq.h ?_ ?_<;>intro h<;>try (exfalso;omega)|((fail_if_success refine Wz.h ?_);first|simp (disch:=omega) only [↓LD,LA,a0A,seval,LSt]|(refine And.intro ?_ ?_;omega)|fail))
   rw [f0b e]
   exact end1 rfl rfl (by kernel_rfl) .f ⟨rfl,rfl⟩
 ·repeat' (with_reducible first|refine Wx.h ?_|refine Wb.h fun K hK=>?_|(refine hK _ ?_;clear hK K)|refine Wq.h ?_ ?_<;>intro h<;>try (exfalso;omega)|((fail_if_success refine Wz.h ?_);simp (disch:=omega) only [↓LD,LA,a0A,seval,LSt]))
  rw [d0O hlm ht (by omega)]
  exact end1 rfl rfl (by kernel_rfl) .f ⟨rfl,rfl⟩
instance {a b:List Int}{H:List Row}{K:D→List Row→Prop}[ha:Kn (a.length≤1000000)][hb:Kn (b.length≤1000000)]:Wa (a0S Tryz.prog (.fn 154 []) [.f (fI a),.f (fI b)] H K) (K (.f (.v (.bool (eqB a b)))) H):=⟨fun h=>a0C (t0H a b ha.h hb.h) rfl rfl rfl h⟩
theorem a1X (x y:Nd)(hx:x.ns.length≤1000000)(hy:y.ns.length≤1000000):Con Tryz.prog 126 [.ag (x.cs.map .f),.ag (y.cs.map .f)] [] fun r H'=>r=D.bool (eqB x y)∧H'=[]:=by
 obtain ⟨a1,a2,a3⟩:=x
 obtain ⟨b1,b2,b3⟩:=y
 dsimp only at hx hy
 haveI:Kn (a1.length≤1000000):=⟨hx⟩
 haveI:Kn (b1.length≤1000000):=⟨hy⟩
 refine Con.walk good n0w (by simp) ?_
 unfold g0p
 simp only [a0I]
 by_cases e4:a1=b1
 ·have hb:=d0h e4
  repeat' (with_reducible first|refine Wx.h ?_|refine Wb.h fun K hK=>?_|(refine hK _ ?_;clear hK K)|refine Wq.h ?_ ?_<;>intro h|((fail_if_success refine Wz.h ?_);simp (disch:=omega) only [↓LD,LA,a0A,seval,Nd.cs,hb]))
  ·rw [d0h (by subst_vars;rfl)];exact end1 rfl rfl (by kernel_rfl) .f ⟨rfl,rfl⟩
  all_goals
   rw [c0k (by intro e;cases e;contradiction)];exact end1 rfl rfl (by kernel_rfl) .f ⟨rfl,rfl⟩
 ·have hb:=c0k e4
  repeat' (with_reducible first|refine Wx.h ?_|refine Wb.h fun K hK=>?_|(refine hK _ ?_;clear hK K)|((fail_if_success refine Wz.h ?_);simp (disch:=omega) only [↓LD,LA,a0A,seval,Nd.cs,hb]))
  all_goals rw [c0k (fun e=>e4 (by cases e;rfl))];exact end1 rfl rfl (by kernel_rfl) .f ⟨rfl,rfl⟩
theorem k0c (l m:List Nd)(g:FuncId)(hl:l.length≤1000000)(hm:m.length≤1000000)
  (hf:∀ x∈l,∀ y∈m,Con Tryz.prog g [.ag (x.cs.map .f),.ag (y.cs.map .f)] [] fun r H'=>r=D.bool (eqB x y)∧H'=[]) :
  Con Tryz.prog 125 [.f (fG l),.f (fG m),.fn g []] [] fun r H'=>r=D.bool (eqB l m)∧H'=[]:=by
 refine Con.walk good j0M (by simp) ?_
 unfold e0Z
 simp only [a0I]
 by_cases hlm:(l.length:Int)=m.length
 rotate_left
 ·repeat' (with_reducible first|refine Wx.h ?_|refine Wb.h fun K hK=>?_|(refine hK _ ?_;clear hK K)|(refine wF ?_ ?_;assumption)|((fail_if_success refine Wz.h ?_);simp (disch:=omega) only [↓LD,LA,a0A,seval,LSt]))
  rw [d0b hlm]
  exact end1 rfl rfl (by kernel_rfl) .f ⟨rfl,rfl⟩
 repeat' (with_reducible first|refine Wx.h ?_|refine Wb.h fun K hK=>?_|(refine hK _ ?_;clear hK K)|(refine wT ?_ ?_;assumption)|((fail_if_success refine Wz.h ?_);simp (disch:=omega) only [↓LD,LA,a0A,seval,LSt]))
 refine HS.loopG [1,2,15,16,17] (fun i:Nat=>⟨frm 32 [(1,.f (fG m)),(2,.fn g []),(15,.f (fG l)),(16,D.int l.length),(17,D.int i)],[],[]⟩) (fun i=>i≤l.length∧l.take i=m.take i) (fun i=>l.length-i) 0 (by kernel_rfl) ⟨Nat.zero_le _,rfl⟩ ?_
 rintro i ⟨hi,ht⟩
 by_cases hil:i<l.length
 ·repeat' (with_reducible first|refine Wx.h ?_|refine Wb.h fun K hK=>?_|(refine hK _ ?_;clear hK K)|refine Wq.h ?_ ?_<;>intro h<;>try (exfalso;omega)|((fail_if_success refine Wz.h ?_);first|simp (disch:=omega) only [↓LD,LA,a0A,seval,LSt,c1X,r0w,Nd.cs,-a0A]|(refine And.intro ?_ ?_;omega)|fail))
  refine a0C (hf _ (a0K hil) _ (a0K (l:=m) (k:=i) (by omega))) rfl rfl rfl ?_
  by_cases e:gt l i=gt m i
  ·rw [d0h e]
   repeat' (with_reducible first|refine Wx.h ?_|refine Wb.h fun K hK=>?_|(refine hK _ ?_;clear hK K)|((fail_if_success refine Wz.h ?_);simp (disch:=omega) only [↓LD,LA,a0A,seval,LSt]))
   exact Next.mk (i+1) (by kernel_rfl) ⟨by omega,b0o hlm hil ht e⟩ (by omega)
  ·rw [c0k e]
   repeat' (with_reducible first|refine Wx.h ?_|refine Wb.h fun K hK=>?_|(refine hK _ ?_;clear hK K)|((fail_if_success refine Wz.h ?_);simp (disch:=omega) only [↓LD,LA,a0A,seval,LSt]))
   rw [f0b e]
   exact end1 rfl rfl (by kernel_rfl) .f ⟨rfl,rfl⟩
 ·repeat' (with_reducible first|refine Wx.h ?_|refine Wb.h fun K hK=>?_|(refine hK _ ?_;clear hK K)|refine Wq.h ?_ ?_<;>intro h<;>try (exfalso;omega)|((fail_if_success refine Wz.h ?_);simp (disch:=omega) only [↓LD,LA,a0A,seval,LSt]))
  rw [d0O hlm ht (by omega)]
  exact end1 rfl rfl (by kernel_rfl) .f ⟨rfl,rfl⟩
instance {a b:List Nd}{H:List Row}{K:D→List Row→Prop}[ha:Kn (i0g a)][hb:Kn (i0g b)]:Wa (a0S Tryz.prog (.fn 125 []) [.f (fG a),.f (fG b),.fn 126 []] H K) (K (.f (.v (.bool (eqB a b)))) H):=⟨fun h=>a0C (k0c a b _ ha.h.1 hb.h.1 fun x hx y hy=>a1X x y (ha.h.2 x hx) (hb.h.2 y hy)) rfl rfl rfl h⟩
def g0t:SCode :=
 (jq ([.a 4 (.mv kF)]) (jq ((ap [jm 5 0,jm 6 1,.a 7 (.call (kC 81) [(.t 5),(.t 6),(kC 77)])] [jm 4 7])) .ret))
theorem n0G:Fn Tryz.prog 49 8 [.t 4] g0t:=.of Tryz.func49 (by kernel_rfl)
def r0B:SCode :=
  (jq ([.a 6 (.mv kF)]) (.seq (jq ([jm 10 0,je 11 10,jm 12 1,je 13 12,jB 14 .neq 11 13]) (jc 14 (jq ([.a 6 (.mv kF)]) .ret) .skip)) (.seq (jq ([jm 15
 0,je 16 15,jk 17 0]) (.block 0 (.loop (jq ([jB 18 .lss 17 16]) (.seq (jc 18 .skip (.exit 0)) (.seq (.block 1 (jq ([jm 19 17,jx 20 9 15 17,jL 21 9
 20,.a 8 (.alloc 73 [jI,jI,jI,jI,jI,jI,(.f (.v (.string ⟨#[]⟩))),jN,jN]),jm 7 19,.n (.store 9 (.t 8) (.t 21))]) (jq ([jm 22 1,jm 23 7,jx 24
 9 22 23,jL 25 9 24,.a 9 (.alloc 73 [jI,jI,jI,jI,jI,jI,(.f (.v (.string ⟨#[]⟩))),jN,jN]),.n (.store 9 (.t 9) (.t 25))]) (jq ((ap [jm 26 2,jL
 27 9 8,jL 28 9 9,.a 29 (.call (.t 26) [(.t 27),(.t 28)])] [.a 30 (.unot (.t 29))])) (jc 30 (jq ([.a 6 (.mv kF)]) .ret) .skip))))) (.ops [jb 31 .add
 17 1,jm 17 31]))))))) (jq ([.a 6 (.mv kT)]) .ret))))
theorem x0N:Fn Tryz.prog 81 32 [.t 6] r0B:=.of Tryz.func81 (by kernel_rfl)
def m0F:SCode :=
  (jq ([.a 4 (.mv kF)]) (.seq (jq ([jm 6 0,je 7 6,jm 8 1,je 9 8,jB 10 .neq 7 9]) (jc 10 (jq ([.a 4 (.mv kF)]) .ret) .skip)) (.seq (jq ([jm 11 0,je
 12 11,jk 13 0]) (.block 0 (.loop (jq ([jB 14 .lss 13 12]) (.seq (jc 14 .skip (.exit 0)) (.seq (.block 1 (jq ([jm 15 13,jm 5 15]) (.seq (.drw [jm 16
 0,jm 17 5,jx 18 1 16 17,jl 19 18,jm 20 1,jm 21 5,jx 22 1 20 21,jl 23 22,jB 24 .neq 19 23] [0,0,3,7,0,0,48,112,255]) (jc 24 (jq ([.a 4
 (.mv kF)]) .ret) .skip)))) (.ops [jb 25 .add 13 1,jm 13 25]))))))) (jq ([.a 4 (.mv kT)]) .ret))))
theorem s0m:Fn Tryz.prog 124 26 [.t 4] m0F:=.of Tryz.func124 (by kernel_rfl)
def j0g:SCode :=
  (jq ([jk 4 0]) (jq ([jk 5 0]) (.seq (.block 0 (.loop (.seq (.seq (.drw [jm 6 5,jm 7 0,je 8 7,jm 9 1,je 10 9,.a 11 (.mm false (.t 8) (.t 10)),jB
 12 .lss 6 11,jm 13 12,gM 14 0 13 true,gM 15 5 13 true,jG 16 (.idx 9 (.t 14) (.t 15)) 13 true,jG 17 (.loadA 9 (.t 16)) 13 true,gM 18 1 13 true,gM
 19 5 13 true,jG 20 (.idx 9 (.t 18) (.t 19)) 13 true,jG 21 (.loadA 9 (.t 20)) 13 true,jG 22 (.call (kC 77) [(.t 17),(.t 21)]) 13 true,.a 23 (.pick
 (.t 13) (.t 22) kF)] [0,0,2,0,8,30,63,127,255,255,1023,2047,255,255,12543,28927,65535,131071]) (jc 23 .skip (.exit 0))) (.block 1
 (.ops [jm 24 5,jb 25 .add 24 1,jm 5 25]))))) (jq ([jm 26 5,jm 4 26]) .ret))))
theorem r0N:Fn Tryz.prog 45 27 [.t 4] j0g:=.of Tryz.func45 (by kernel_rfl)
def g0s:SCode :=
 (jq ([jk 2 0]) (jq ((ap [jm 3 0,.a 4 (.call (kC 22) [(.t 3)])] (ap [.a 5 (.call (kC 54) [(.t 4)])] [.a 6 (.fld1 1 (.t 5)),jm 2 6]))) .ret))
theorem n0O:Fn Tryz.prog 78 7 [.t 2] g0s:=.of Tryz.func78 (by kernel_rfl)
def l0u:SCode :=
  (jq ([.a 6 (.mv kF)]) (jq ((ap [jm 8 0,jm 9 1,.a 10 (.call (kC 45) [(.t 8),(.t 9)])] [jm 7 10])) (.seq (.drw [jm 11 7,jm 12 2,jB 13 .geq 11 12,jm
 14 13,gM 15 7 14 true,gM 16 0 14 true,jG 17 (.slen (.t 16)) 14 true,gM 18 1 14 true,jG 19 (.slen (.t 18)) 14 true,jG 20 (.mm false (.t 17) (.t
 19)) 14 true,jG 21 (.bin .lss (.t 15) (.t 20)) 14 true,.a 22 (.pick (.t 14) (.t 21) kF),jm 23 22,gM 24 0 23 true,gM 25 7 23 true,jG 26 (.idx 9
 (.t 24) (.t 25)) 23 true,gO 27 1 26 23 true,gL 28 27 23 true,gM 29 1 23 true,gM 30 7 23 true,jG 31 (.idx 9 (.t 29) (.t 30)) 23 true,gO 32 1 31 23
 true,gL 33 32 23 true,jG 34 (.bin .eql (.t 28) (.t 33)) 23 true,.a 35 (.pick (.t 23) (.t 34) kF),jm 6 35] [0,0,3,7,15,15,47,15,143,495,
 1023,2047,4095,8191,8191,32767,65535,131071,8191,8191,794623,1843199,3940351,8388607,16777215,33554431]) .ret)))
theorem s0L:Fn Tryz.prog 43 36 [.t 6] l0u:=.of Tryz.func43 (by kernel_rfl)
def q0P:SCode :=
 (jq ([.a 4 (.mv kF)]) (jq ((ap [jl 5 1,jm 6 0,jl 7 2,.a 8 (.call (kC 43) [(.t 5),(.t 6),(.t 7)])] [jm 4 8])) .ret))
theorem x0p:Fn Tryz.prog 42 9 [.t 4] q0P:=.of Tryz.func42 (by kernel_rfl)
def q0a:SCode :=
  (jq ([.a 3 (.mv kF)]) (.seq (.drw [jl 4 1,jm 5 0,.a 6 (.call (kC 45) [(.t 4),(.t 5)]),jl 7 1,je 8 7,jB 9 .eql 6 8,jm 3 9] [0,0,3,0,8,31,
 63]) .ret))
theorem w0n:Fn Tryz.prog 44 10 [.t 3] q0a:=.of Tryz.func44 (by kernel_rfl)
def i0e:SCode :=
 (jq ([.a 4 (.mv kF)]) (jq ((ap [jm 5 0,jm 6 1,.a 7 (.call (kC 76) [(.t 5),(.t 6)])] (ap [jb 8 .geq 7 0] [jm 4 8]))) .ret))
theorem r0K:Fn Tryz.prog 41 9 [.t 4] i0e:=.of Tryz.func41 (by kernel_rfl)
def j0Z:SCode :=
  (jq ([.a 1 (.box 30 (.t 0)),.a 2 (.alloc 30 [jN])]) (jq ([.a 3 (.alloc 30 [jN])]) (.seq (jq ([jo 6 0 1,jl 7 6,je 8 7,jk 9 0]) (.block 0 (.loop (jq
 ([jB 10 .lss 9 8]) (.seq (jc 10 .skip (.exit 0)) (.seq (.block 1 (jq ([jx 11 1 7 9,jl 12 11,jm 5 12]) (.drw [jo 13 0 3,jl 14 13,jm 15 5,.a 16
 (.call (kC 51) [(.t 15)]),.a 17 (.bsl 25 1 1 [jN] [(0,(.t 16))]),.a 18 (.app 25 1 24 (.t 14) (.t 17)),jo 19 0 3,.n (.store 1 (.t 19) (.t 18))] [0,
 1,0,4,12,31,63,127]))) (.ops [jb 20 .add 9 1,jm 9 20]))))))) (jq ([jL 21 1 3,.n (.store 1 (.t 2) (.t 21))]) .ret))))
theorem p0O:Fn Tryz.prog 46 22 [.cA 1 2] j0Z:=.of Tryz.func46 (by kernel_rfl)
def o0s:SCode :=
  (jq ([.a 2 (.box 30 (.t 0)),.a 3 (.box 25 (.t 1)),.a 4 (.alloc 30 [jN]),jk 5 0]) (jq ([.a 6 (.alloc 30 [jN])]) (.seq (jq ([jo 10 0 2,jl 11 10,je
 12 11,jk 13 0]) (.block 0 (.loop (jq ([jB 14 .lss 13 12]) (.seq (jc 14 .skip (.exit 0)) (.seq (.block 1 (jq ([jx 15 1 11 13,jl 16 15,jm 8 16]) (.seq
 (jq ((ap [jl 17 3,jm 18 8,.a 19 (.call (kC 45) [(.t 17),(.t 18)])] [jm 20 8,je 21 20,jB 22 .eql 19 21])) (jc 22 (.exit 1) .skip)) (.seq (.seq
 (.drw [jm 23 8,.a 24 (.call (kC 78) [(.t 23)]),jl 25 3,.a 26 (.call (kC 78) [(.t 25)]),jB 27 .eql 24 26] [0,1,0,7,15]) (jc 27 (jq ([.a 28 (.bld
 [jN] []),.n (.store 1 (.t 4) (.t 28)),jk 5 1]) .ret) .skip)) (.ops (ap [jo 29 0 6,jl 30 29,jm 31 8,.a 32 (.bsl 25 1 1 [jN] [(0,(.t 31))]),.a 33
 (.app 25 1 24 (.t 30) (.t 32))] [jo 34 0 6,.n (.store 1 (.t 34) (.t 33))])))))) (.ops [jb 35 .add 13 1,jm 13 35]))))))) (.seq (jq ([jo 36 0 6,jl 37
 36,je 38 37,jb 39 .geq 38 8]) (jc 39 (jq ([.a 40 (.bld [jN] []),.n (.store 1 (.t 4) (.t 40)),jk 5 2]) .ret) .skip)) (jq ((ap [jo 41 0 6,jl 42 41,
 .a 43 (.fn 79 [(.t 3)]),.a 44 (.call (kC 76) [(.t 42),(.t 43)])] [jm 9 44])) (.seq (jq ([jm 45 9,jb 46 .lss 45 0]) (jc 46 (.ops [jo 47 0 6,jl 48
 47,je 49 48,jm 9 49]) .skip)) (jq ((ap [jo 50 0 6,jl 51 50,jm 52 9,jl 53 3,.a 54 (.bsl 25 1 1 [jN] [(0,(.t 53))]),.a 55 (.call (kC 80) [(.t
 51),(.t 52),(.t 54)])] [jo 56 0 6,.n (.store 1 (.t 56) (.t 55))])) (jq ((ap [jL 57 1 6,.a 58 (.call (kC 46) [(.t 57)])] [.n (.store 1 (.t 4) (.t
 58)),jk 5 0])) .ret))))))))
theorem x0a:Fn Tryz.prog 47 59 [.cA 1 4,.t 5] o0s:=.of Tryz.func47 (by kernel_rfl)
def f0u:SCode :=
  (jq ([jk 4 0]) (.seq (jq ([jm 6 0,je 7 6,jk 8 0]) (.block 0 (.loop (jq ([jB 9 .lss 8 7]) (.seq (jc 9 .skip (.exit 0)) (.seq (.block 1 (jq ([jm 10 8,
 jm 5 10]) (jq ([jm 11 1,jm 12 0,jm 13 5,jx 14 1 12 13,jl 15 14,.a 16 (.call (.t 11) [(.t 15)])]) (jc 16 (jq ([jm 17 5,jm 4 17]) .ret) .skip))))
 (.ops [jb 18 .add 8 1,jm 8 18]))))))) (jq ([.a 4 (.mv (kI (-1)))]) .ret)))
theorem j0i:Fn Tryz.prog 76 19 [.t 4] f0u:=.of Tryz.func76 (by kernel_rfl)
def k0o:SCode :=
  (jq ([.a 3 (.mv kF)]) (jq ((ap [jl 4 1,.a 5 (.call (kC 22) [(.t 4)])] (ap [jm 6 0,.a 7 (.call (kC 22) [(.t 6)])] (ap [.a 8 (.call (kC 26) [(.t 5),
 (.t 7)])] (ap [jb 9 .gtr 8 0] [jm 3 9]))))) .ret))
theorem s0v:Fn Tryz.prog 79 10 [.t 3] k0o:=.of Tryz.func79 (by kernel_rfl)
def t0r:SCode :=
  (jq ([.a 2 (.box 30 (.t 0)),.a 3 (.box 38 (.t 1)),.a 4 (.alloc 30 [jN]),.a 5 (.mv kF),jk 6 0]) (.seq (jq ((ap [jo 15 3 3,jl 16 15,je 17 16,jb 18
 .eql 17 0] (ap [jm 19 18,gO 20 2 3 19 false] (ap [gL 21 20 19 false,jG 22 (.call (kC 40) [(.t 21)]) 19 false] [jG 23 (.unot (.t 22)) 19 false,.a 24
 (.pick (.t 19) kT (.t 23))])))) (jc 24 (jq ([.a 25 (.bld [jN] []),.n (.store 1 (.t 4) (.t 25)),.a 5 (.mv kF),jk 6 1]) .ret) .skip)) (jq ((ap [jL 27
 1 2,jo 28 2 3,jl 29 28,.a 30 (.call (kC 21) [(.t 27),(.t 29)])] [jm 26 30,jE 31 0 26,jE 32 1 26,jm 7 31,jm 8 32])) (.seq (jq ([jm 33 8,.a 34
 (.unot (.t 33))]) (jc 34 (jq ([.a 35 (.bld [jN] []),.n (.store 1 (.t 4) (.t 35)),.a 5 (.mv kF),jk 6 4]) .ret) .skip)) (jq ((ap [jm 36 7,jo 37 3 3,
 jl 38 37,.a 39 (.app 73 9 112 (.t 36) (.t 38))] [.a 9 (.alloc 25 [jN]),.n (.store 1 (.t 9) (.t 39))])) (.seq (jq ((ap [jl 41 9,.a 42 (.call (kC 24)
 [(.t 41)])] [jm 40 42,jE 43 0 40,jE 44 1 40,.a 10 (.alloc 65 [jI,jI,jI,jI,jF,jN,jN,jN,jN]),.n (.store 9 (.t 10) (.t 43)),jm 11 44])) (jq
 ([jm 45 11,jb 46 .neq 45 0]) (jc 46 (jq ([.a 47 (.bld [jN] []),.n (.store 1 (.t 4) (.t 47)),.a 5 (.mv kF),jk 6 1]) .ret) .skip))) (jq ([jm 48 7,je
 49 48,.a 12 (.alloc 3 [jI]),.n (.store 1 (.t 12) (.t 49))]) (.seq (jq ([jo 50 0 2,jl 51 50,.a 52 (.fn 42 [(.t 9),(.t 12)]),.a 53 (.call (kC 41)
 [(.t 51),(.t 52)])]) (jc 53 (jq ([.a 54 (.bld [jN] []),.n (.store 1 (.t 4) (.t 54)),.a 5 (.mv kF),jk 6 1]) .ret) .skip)) (.seq (jq ([jo 55 0 2,jl
 56 55,.a 57 (.fn 44 [(.t 9)]),.a 58 (.call (kC 41) [(.t 56),(.t 57)])]) (jc 58 (jq ((ap [jL 59 1 2,.a 60 (.call (kC 46) [(.t 59)])] [.n (.store 1
 (.t 4) (.t 60)),.a 5 (.mv kF),jk 6 0])) .ret) .skip)) (jq ((ap [jL 62 1 2,jl 63 9,.a 64 (.call (kC 47) [(.t 62),(.t 63)])] [jm 61 64,jE 65 0 61,
 jE 66 1 61,.a 13 (.alloc 30 [jN]),.n (.store 1 (.t 13) (.t 65)),jm 14 66])) (jq ((ap [jL 67 1 13,jm 68 14,jb 69 .eql 68 0] [jm 70 14,.n (.store 1
 (.t 4) (.t 67)),jm 5 69,jm 6 70])) .ret)))))))))))
theorem z0T:Fn Tryz.prog 12 71 [.cA 1 4,.t 5,.t 6] t0r:=.of Tryz.func12 (by kernel_rfl)
def f0F:SCode :=
  (jq ([.a 2 (.box 30 (.t 0)),.a 4 (.mv kN),.a 5 (.mv kF)]) (jq ((ap [jm 9 1,.a 10 (.call (kC 54) [(.t 9)])] [.a 11 (.fld1 0 (.t 10)),jm 6 11]))
 (.seq (jq ([jm 12 1,je 13 12,jb 14 .eql 13 0]) (jc 14 (jq ([.a 4 (.mv kN),.a 5 (.mv kT)]) .ret) .skip)) (.seq (jq ([jo 15 0 2,jl 16 15,je 17 16,
 jk 18 0]) (.block 0 (.loop (jq ([jB 19 .lss 18 17]) (.seq (jc 19 .skip (.exit 0)) (.seq (.block 1 (jq ([jx 20 1 16 18,jl 21 20,jm 8 21]) (jq ((ap [jm
 22 6,jb 23 .geq 22 1] (ap [jm 24 23,gM 25 6 24 true] (ap [gM 26 8 24 true,jG 27 (.slen (.t 26)) 24 true,jG 28 (.bin .leq (.t 25) (.t 27)) 24 true]
 (ap [.a 29 (.pick (.t 24) (.t 28) kF),jm 30 29,gM 31 8 30 true] (ap [gM 32 6 30 true,jG 33 (.sub 9 73 (.t 31) none (some (.t 32)) none) 30 true,jG
 34 (.call (kC 22) [(.t 33)]) 30 true] (ap [gM 35 1 30 true,jG 36 (.call (kC 55) [(.t 34),(.t 35)]) 30 true] [.a 37 (.pick (.t 30) (.t 36) kF)])))))))
 (jc 37 (jq ((ap [jm 38 8,jm 39 6,.a 40 (.sub 9 73 (.t 38) none (some (.t 39)) none),.a 41 (.call (kC 51) [(.t 40)])] [jm 4 41,.a 5 (.mv kT)]))
 .ret) .skip)))) (.ops [jb 42 .add 18 1,jm 18 42]))))))) (jq ([.a 4 (.mv kN),.a 5 (.mv kF)]) .ret)))))
theorem g0K:Fn Tryz.prog 21 43 [.t 4,.t 5] f0F:=.of Tryz.func21 (by kernel_rfl)
def p0I:SCode :=
  (jq ([.a 2 (.box 30 (.t 0)),.a 3 (.box 30 (.t 1)),.a 4 (.mv kF)]) (jq ((ap [jo 5 0 2,jl 6 5,jo 7 0 3,jl 8 7,.a 9 (.call (kC 48) [(.t 6),(.t 8),
 (kC 49)])] [jm 4 9])) .ret))
theorem x0I:Fn Tryz.prog 14 10 [.t 4] p0I:=.of Tryz.func14 (by kernel_rfl)
def l0D:SCode :=
  (jq ([.a 2 (.box 30 (.t 0)),.a 3 (.box 38 (.t 1)),.a 4 (.mv kF)]) (jq ((ap [jL 9 1 2,jL 10 4 3,.a 11 (.call (kC 12) [(.t 9),(.t 10)])] [jm 8 11,
 jE 12 0 8,jE 13 1 8,jE 14 2 8,.a 5 (.alloc 30 [jN]),.n (.store 1 (.t 5) (.t 12)),jm 6 13,jm 7 14])) (jq ((ap [jm 15 7,jb 16 .eql 15 0] (ap [jm
 17 16,gM 18 6 17 true] [jG 19 (.unot (.t 18)) 17 true,.a 20 (.pick (.t 17) (.t 19) kF),jm 4 20]))) .ret)))
theorem t0F:Fn Tryz.prog 15 21 [.t 4] l0D:=.of Tryz.func15 (by kernel_rfl)
def h0Z:SCode :=
  (jq ([.a 1 (.box 30 (.t 0)),jk 2 0]) (jq ([jk 3 0]) (.seq (jq ([jo 9 0 1,jl 10 9,je 11 10,jk 12 0]) (.block 0 (.loop (jq ([jB 13 .lss 12 11]) (.seq
 (jc 13 .skip (.exit 0)) (.seq (.block 1 (jq ([jm 14 12,jx 15 1 10 12,jl 16 15,jm 4 14,jm 5 16]) (jq ([jk 6 0]) (.seq (jq ([jo 17 0 1,jl 18 17,jm
 19 4,.a 20 (.sub 1 25 (.t 18) none (some (.t 19)) none),je 21 20,jk 22 0]) (.block 2 (.loop (jq ([jB 23 .lss 22 21]) (.seq (jc 23 .skip (.exit 2))
 (.seq (.block 3 (jq ([jx 24 1 20 22,jl 25 24,jm 8 25]) (.ops (ap [jm 26 6,jm 27 8,jm 28 5,.a 29 (.call (kC 45) [(.t 27),(.t 28)])] [.a 30 (.mm
 true (.t 26) (.t 29)),jm 6 30])))) (.ops [jb 31 .add 22 1,jm 22 31]))))))) (.ops [jm 32 3,jm 33 5,je 34 33,jm 35 6,jB 36 .sub 34 35,jB 37 .add
 32 36,jm 3 37]))))) (.ops [jb 38 .add 12 1,jm 12 38]))))))) (jq ([jm 39 3,jm 2 39]) .ret))))
theorem r0M:Fn Tryz.prog 16 40 [.t 2] h0Z:=.of Tryz.func16 (by kernel_rfl)
def q0G:SCode :=
  (jq ([.a 4 (.mv kF)]) (.seq (jq ([jm 6 0,je 7 6,jm 8 1,je 9 8,jB 10 .neq 7 9]) (jc 10 (jq ([.a 4 (.mv kF)]) .ret) .skip)) (.seq (jq ([jm 11 0,je
 12 11,jk 13 0]) (.block 0 (.loop (jq ([jB 14 .lss 13 12]) (.seq (jc 14 .skip (.exit 0)) (.seq (.block 1 (jq ([jm 15 13,jm 5 15]) (.seq (.drw [jm 16
 0,jm 17 5,jx 18 2 16 17,jL 19 2 18,jm 20 1,jm 21 5,jx 22 2 20 21,jL 23 2 22,.a 24 (.aeq false [0,0] (.t 19) (.t 23))] [0,0,3,7,0,0,48,
 112,255]) (jc 24 (jq ([.a 4 (.mv kF)]) .ret) .skip)))) (.ops [jb 25 .add 13 1,jm 13 25]))))))) (jq ([.a 4 (.mv kT)]) .ret))))
theorem x0e:Fn Tryz.prog 55 26 [.t 4] q0G:=.of Tryz.func55 (by kernel_rfl)
def q0A:SCode :=
  (jq ([.a 6 (.mv kF)]) (.seq (jq ([jm 10 0,je 11 10,jm 12 1,je 13 12,jB 14 .neq 11 13]) (jc 14 (jq ([.a 6 (.mv kF)]) .ret) .skip)) (.seq (jq ([jm 15
 0,je 16 15,jk 17 0]) (.block 0 (.loop (jq ([jB 18 .lss 17 16]) (.seq (jc 18 .skip (.exit 0)) (.seq (.block 1 (jq ([jm 19 17,jx 20 1 15 17,jl 21 20,
 jm 7 19,jm 8 21]) (jq ([jm 22 1,jm 23 7,jx 24 1 22 23,jl 25 24,jm 9 25]) (jq ((ap [jm 26 2,jm 27 8,jm 28 9,.a 29 (.call (.t 26) [(.t 27),(.t
 28)])] [.a 30 (.unot (.t 29))])) (jc 30 (jq ([.a 6 (.mv kF)]) .ret) .skip))))) (.ops [jb 31 .add 17 1,jm 17 31]))))))) (jq ([.a 6 (.mv kT)]) .ret))))
theorem w0v:Fn Tryz.prog 48 32 [.t 6] q0A:=.of Tryz.func48 (by kernel_rfl)
set_option maxRecDepth 100000 in
theorem c1s (a b:Bs)(ha:a.length≤1000000):Con Tryz.prog 124 [.f (fY a),.f (fY b)] [] fun r H'=>r=D.bool (eqB a b)∧H'=[]:=by
 refine Con.walk good s0m (by simp) ?_
 unfold m0F
 simp only [a0I]
 by_cases hlm:(a.length:Int)=b.length
 rotate_left
 ·repeat' (with_reducible first|refine Wx.h ?_|refine Wb.h fun K hK=>?_|(refine hK _ ?_;clear hK K)|(refine wF ?_ ?_;assumption)|((fail_if_success refine Wz.h ?_);simp (disch:=omega) only [↓LD,LA,a0A,seval]))
  rw [d0b hlm]
  exact end1 rfl rfl (by kernel_rfl) .f ⟨rfl,rfl⟩
 repeat' (with_reducible first|refine Wx.h ?_|refine Wb.h fun K hK=>?_|(refine hK _ ?_;clear hK K)|(refine wT ?_ ?_;assumption)|((fail_if_success refine Wz.h ?_);simp (disch:=omega) only [↓LD,LA,a0A,seval]))
 refine HS.loopG [0,1,12,13] (fun i:Nat=>⟨frm 26 [(0,.f (fY a)),(1,.f (fY b)),(12,D.int a.length),(13,D.int i)],[],[]⟩) (fun i=>i≤a.length∧a.take i=b.take i) (fun i=>a.length-i) 0 (by kernel_rfl) ⟨Nat.zero_le _,rfl⟩ ?_
 rintro i ⟨hi,ht⟩
 by_cases hil:i<a.length
 ·have hil2:i<b.length:=by omega
  by_cases e:gt a i=gt b i
  ·repeat' (with_reducible first|refine Wx.h ?_|refine We.h fun K hK=>?_|(refine hK _ _ _ _ ?_;clear hK K;try clear hM M)|refine Wb.h fun K hK=>?_|(refine hK _ ?_;clear hK K)|(refine Wy.h ?_ ?_;kernel_rfl)|refine Wq.h ?_ ?_<;>intro h<;>try (exfalso;omega)|((fail_if_success refine Wz.h ?_);first|simp (disch:=omega) only [↓LD,LA,a0A,seval,e]|(refine And.intro ?_ ?_;omega)|fail))
   exact Next.mk (i+1) (by kernel_rfl) ⟨by omega,b0o hlm hil ht e⟩ (by omega)
  ·have e2:¬ ((gt a i).toNat:Int)=((gt b i).toNat:Int):=fun h=>e (UInt8.toNat_inj.1 (by omega))
   repeat' (with_reducible first|refine Wx.h ?_|refine We.h fun K hK=>?_|(refine hK _ _ _ _ ?_;clear hK K;try clear hM M)|refine Wb.h fun K hK=>?_|(refine hK _ ?_;clear hK K)|(refine wF ?_ ?_;assumption)|(refine Wy.h ?_ ?_;kernel_rfl)|refine Wq.h ?_ ?_<;>intro h<;>try (exfalso;omega)|((fail_if_success refine Wz.h ?_);first|simp (disch:=omega) only [↓LD,LA,a0A,seval]|(refine And.intro ?_ ?_;omega)|fail))
   rw [f0b e]
   exact end1 rfl rfl (by kernel_rfl) .f ⟨rfl,rfl⟩
 ·repeat' (with_reducible first|refine Wx.h ?_|refine Wb.h fun K hK=>?_|(refine hK _ ?_;clear hK K)|refine Wq.h ?_ ?_<;>intro h<;>try (exfalso;omega)|((fail_if_success refine Wz.h ?_);simp (disch:=omega) only [↓LD,LA,a0A,seval]))
  rw [d0O hlm ht (by omega)]
  exact end1 rfl rfl (by kernel_rfl) .f ⟨rfl,rfl⟩
instance {a b:Bs}{H:List Row}{K:D→List Row→Prop}[ha:Kn (a.length≤1000000)]:Wa (a0S Tryz.prog (.fn 124 []) [.f (fY a),.f (fY b)] H K) (K (.f (.v (.bool (eqB a b)))) H):=⟨fun h=>a0C (c1s a b ha.h) rfl rfl rfl h⟩
set_option maxRecDepth 100000 in
theorem m0f (a b:Ev)(ha:FitV a)(hb:FitV b):Con Tryz.prog 77 [evD a,evD b] [] fun r H'=>r=D.bool (eqB a b)∧H'=[]:=by
 haveI:Kn (i0g a.defs):=⟨ha.df⟩
 haveI:Kn (i0g b.defs):=⟨hb.df⟩
 haveI:Kn (a.data.length≤1000000):=⟨ha.1⟩
 clear ha hb
 suffices hh:∀ Q:D→List Row→Prop,Q (D.bool (eqB a b)) []→Con Tryz.prog 77 [evD a,evD b] [] Q from hh _ ⟨rfl,rfl⟩
 intro Q hQ
 obtain ⟨a1,a2,a3,a4,a5,a6,a7,a8,a9⟩:=a
 obtain ⟨b1,b2,b3,b4,b5,b6,b7,b8,b9⟩:=b
 dsimp only at *
 have hf:¬ ((⟨a1,a2,a3,a4,a5,a6,a7,a8,a9⟩:Ev)=⟨b1,b2,b3,b4,b5,b6,b7,b8,b9⟩)→Q (D.bool false) []:=fun h=>by rw [c0k h] at hQ;exact hQ
 have ht:a1=b1→a2=b2→a3=b3→a4=b4→a5=b5→a6=b6→a7=b7→a8=b8→Q (D.bool (eqB a9 b9)) []:=by
  rintro rfl rfl rfl rfl rfl rfl rfl rfl
  by_cases e9:a9=b9
  ·rw [d0h e9];rw [e9,e0N] at hQ;exact hQ
  ·rw [c0k e9];exact hf (fun e=>e9 (Ev.mk.inj e).2.2.2.2.2.2.2.2)
 clear hQ
 refine Con.walk good x0T (by simp) ?_
 unfold o0T
 simp only [a0I,evD]
 by_cases e8:a8=b8
 ·have h8:=d0h e8
  repeat' (with_reducible first|refine Wx.h ?_|refine Wb.h fun K hK=>?_|(refine hK _ ?_;clear hK K)|refine Wq.h ?_ ?_<;>intro h|((fail_if_success refine Wz.h ?_);simp (disch:=omega) only [↓LD,LA,a0A,seval,h8]))
  all_goals first
   | exact end1 rfl rfl (by kernel_rfl) .f (ht (by assumption) (by assumption) (by assumption) (by assumption) (by assumption) (by assumption) (by assumption) e8)
   | exact end1 rfl rfl (by kernel_rfl) .f (hf (by intro e;cases e;contradiction))
 ·have h8:=c0k e8
  repeat' (with_reducible first|refine Wx.h ?_|refine Wb.h fun K hK=>?_|(refine hK _ ?_;clear hK K)|refine Wq.h ?_ ?_<;>intro h|((fail_if_success refine Wz.h ?_);simp (disch:=omega) only [↓LD,LA,a0A,seval,h8]))
  all_goals exact end1 rfl rfl (by kernel_rfl) .f (hf (fun e=>e8 (Ev.mk.inj e).2.2.2.2.2.2.2.1))
instance {a b:Ev}{H:List Row}{K:D→List Row→Prop}[ha:Kn (FitV a)][hb:Kn (FitV b)]:Wa (a0S Tryz.prog (.fn 77 []) [eA a,eA b] H K) (K (.f (.v (.bool (eqB a b)))) H):=⟨fun h=>a0C (m0f a b ha.h hb.h) rfl rfl rfl h⟩
instance {a b:Ev}{H:List Row}{K:Bool→D→List Row→Prop}[ha:Kn (FitV a)][hb:Kn (FitV b)]:Wa (a0j Tryz.prog (.fn 77 []) [eA a,eA b] H K) (K true (.f (.v (.bool (eqB a b)))) H):=⟨fun h=>a0O (m0f a b ha.h hb.h) rfl rfl rfl h⟩
set_option maxRecDepth 100000 in
theorem b1M (l m:List Ev)(hl:FitL l)(hm:FitL m):Con Tryz.prog 81 [.f (fEv l),.f (fEv m),.fn 77 []] [] fun r H'=>r=D.bool (eqB l m)∧H'=[]:=by
 obtain ⟨hl,hln⟩:=hl
 obtain ⟨hm,hmn⟩:=hm
 refine Con.walk good x0N (by simp) ?_
 unfold r0B
 simp only [a0I]
 by_cases hlm:(l.length:Int)=m.length
 rotate_left
 ·repeat' (with_reducible first|refine Wx.h ?_|refine Wb.h fun K hK=>?_|(refine hK _ ?_;clear hK K)|(refine wF ?_ ?_;assumption)|((fail_if_success refine Wz.h ?_);simp (disch:=omega) only [↓LD,LA,a0A,seval,LEv]))
  rw [d0b hlm]
  exact end1 rfl rfl (by kernel_rfl) .f ⟨rfl,rfl⟩
 repeat' (with_reducible first|refine Wx.h ?_|refine Wb.h fun K hK=>?_|(refine hK _ ?_;clear hK K)|(refine wT ?_ ?_;assumption)|((fail_if_success refine Wz.h ?_);simp (disch:=omega) only [↓LD,LA,a0A,seval,LEv]))
 refine HS.loopG [1,2,15,16,17] (fun i:Nat=>⟨frm 32 [(1,.f (fEv m)),(2,.fn 77 []),(15,.f (fEv l)),(16,D.int l.length),(17,D.int i)],[],[]⟩) (fun i=>i≤l.length∧l.take i=m.take i) (fun i=>l.length-i) 0 (by kernel_rfl) ⟨Nat.zero_le _,rfl⟩ ?_
 rintro i ⟨hi,ht⟩
 by_cases hil:i<l.length
 ·haveI:Kn (FitV (gt l i)):=⟨hln _ (a0K hil)⟩
  haveI:Kn (FitV (gt m i)):=⟨hmn _ (a0K (by omega))⟩
  by_cases e:gt l i=gt m i
  ·have hb:=d0h e
   repeat' (with_reducible first|refine Wx.h ?_|refine Wb.h fun K hK=>?_|(refine hK _ ?_;clear hK K)|refine Wq.h ?_ ?_<;>intro h<;>try (exfalso;omega)|((fail_if_success refine Wz.h ?_);first|simp (disch:=omega) only [↓LD,LA,a0A,seval,LEv,b0O,a0N,Ev.cs,hb,List.map_cons,List.map_nil,-a0A]|(refine And.intro ?_ ?_;omega)|fail))
   exact Next.mk (i+1) (by kernel_rfl) ⟨by omega,b0o hlm hil ht e⟩ (by omega)
  ·have hb:=c0k e
   repeat' (with_reducible first|refine Wx.h ?_|refine Wb.h fun K hK=>?_|(refine hK _ ?_;clear hK K)|refine Wq.h ?_ ?_<;>intro h<;>try (exfalso;omega)|((fail_if_success refine Wz.h ?_);first|simp (disch:=omega) only [↓LD,LA,a0A,seval,LEv,b0O,a0N,Ev.cs,hb,List.map_cons,List.map_nil,-a0A]|(refine And.intro ?_ ?_;omega)|fail))
   rw [f0b e]
   exact end1 rfl rfl (by kernel_rfl) .f ⟨rfl,rfl⟩
 ·repeat' (with_reducible first|refine Wx.h ?_|refine Wb.h fun K hK=>?_|(refine hK _ ?_;clear hK K)|refine Wq.h ?_ ?_<;>intro h<;>try (exfalso;omega)|((fail_if_success refine Wz.h ?_);simp (disch:=omega) only [↓LD,LA,a0A,seval,LEv]))
  rw [d0O hlm ht (by omega)]
  exact end1 rfl rfl (by kernel_rfl) .f ⟨rfl,rfl⟩
theorem p0S (l m:List Ev)(hl:FitL l)(hm:FitL m):Con Tryz.prog 49 [.f (fEv l),.f (fEv m)] [] fun r H'=>r=D.bool (eqB l m)∧H'=[]:=by
 refine Con.walk good n0G (by simp) ?_
 unfold g0t
 simp only [a0I]
 repeat' (with_reducible first|refine Wx.h ?_|refine Wb.h fun K hK=>?_|(refine hK _ ?_;clear hK K)|((fail_if_success refine Wz.h ?_);simp (disch:=omega) only [↓LD,LA,a0A,seval]))
 refine a0C (b1M l m hl hm) rfl rfl rfl ?_
 repeat' (with_reducible first|refine Wx.h ?_|(refine hK _ ?_;clear hK K)|((fail_if_success refine Wz.h ?_);simp (disch:=omega) only [↓LD,LA,a0A,seval]))
 exact end1 rfl rfl (by kernel_rfl) .f ⟨rfl,rfl⟩
noncomputable def a0M:List Ev→List Ev→Nat
 | a :: l,b :: m=>if eqB a b=true then a0M l m+1 else 0
 | _,_=>0
theorem g0E:∀ (l m:List Ev),a0M l m≤l.length∧a0M l m≤m.length
 | a :: l,b :: m=>by
  have ih:=g0E l m
  unfold a0M
  split<;>simp<;>omega
 | [],m=>by simp [a0M]
 | a :: l,[]=>by simp [a0M]
set_option maxRecDepth 100000 in
theorem i0D (l m:List Ev)(hl:FitL l)(hm:FitL m):Con Tryz.prog 45 [.f (fEv l),.f (fEv m)] [] fun r H'=>r=D.int (a0M l m)∧H'=[]:=by
 obtain ⟨hl,hln⟩:=hl
 obtain ⟨hm,hmn⟩:=hm
 refine Con.walk good r0N (by simp) ?_
 unfold j0g
 simp only [a0I]
 repeat' (with_reducible first|refine Wx.h ?_|refine Wb.h fun K hK=>?_|(refine hK _ ?_;clear hK K)|((fail_if_success refine Wz.h ?_);simp (disch:=omega) only [↓LD,LA,a0A,seval,LEv]))
 refine HS.loopG [0,1,5] (fun i:Nat=>⟨frm 27 [(0,.f (fEv l)),(1,.f (fEv m)),(5,D.int i)],[],[]⟩) (fun i=>i≤l.length∧i≤m.length∧a0M l m=a0M (l.drop i) (m.drop i)+i) (fun i=>l.length-i) 0 (by kernel_rfl) ⟨Nat.zero_le _,Nat.zero_le _,rfl⟩ ?_
 rintro i ⟨hi,hj,ha⟩
 by_cases hil:i<l.length∧i<m.length
 ·obtain ⟨hil,him⟩:=hil
  haveI:Kn (FitV (gt l i)):=⟨hln _ (a0K hil)⟩
  haveI:Kn (FitV (gt m i)):=⟨hmn _ (a0K him)⟩
  rw [a0H hil,a0H him,a0M] at ha
  by_cases e:gt l i=gt m i
  ·have hb:=d0h e
   rw [if_pos hb] at ha
   repeat' (with_reducible first|refine Wx.h ?_|refine We.h fun K hK=>?_|refine Wd.h fun K M hK hM=>?_|(refine hK _ _ _ _ ?_;clear hK K;try clear hM M)|refine Wb.h fun K hK=>?_|(refine hK _ ?_;clear hK K)|(refine Wy.h ?_ ?_;kernel_rfl)|refine Wq.h ?_ ?_<;>intro h<;>try (exfalso;omega)|((fail_if_success refine Wz.h ?_);first|simp (disch:=omega) only [↓LD,LA,a0A,seval,LEv,b0O,a0N,Ev.cs,hb,List.map_cons,List.map_nil,-a0A]|(refine And.intro ?_ ?_;omega)|fail))
   all_goals exact Next.mk (i+1) (by kernel_rfl) ⟨by omega,by omega,by omega⟩ (by omega)
  ·have hb:=c0k e
   rw [if_neg (by rw [hb];simp)] at ha
   repeat' (with_reducible first|refine Wx.h ?_|refine We.h fun K hK=>?_|refine Wd.h fun K M hK hM=>?_|(refine hK _ _ _ _ ?_;clear hK K;try clear hM M)|refine Wb.h fun K hK=>?_|(refine hK _ ?_;clear hK K)|(refine Wy.h ?_ ?_;kernel_rfl)|refine Wq.h ?_ ?_<;>intro h<;>try (exfalso;omega)|((fail_if_success refine Wz.h ?_);first|simp (disch:=omega) only [↓LD,LA,a0A,seval,LEv,b0O,a0N,Ev.cs,hb,List.map_cons,List.map_nil,-a0A]|(refine And.intro ?_ ?_;omega)|fail))
   all_goals
    rw [ha,Nat.zero_add]
    exact end1 rfl rfl (by kernel_rfl) .f ⟨rfl,rfl⟩
 ·have h0:a0M (l.drop i) (m.drop i)=0:=by
   have h:=g0E (l.drop i) (m.drop i)
   rw [List.length_drop,List.length_drop] at h
   omega
  rw [h0,Nat.zero_add] at ha
  rw [ha]
  clear ha h0
  repeat' (with_reducible first|refine Wx.h ?_|refine We.h fun K hK=>?_|refine Wd.h fun K M hK hM=>?_|(refine hK _ _ _ _ ?_;clear hK K;try clear hM M)|(refine hM ?_;clear hM M;try clear hK K)|refine Wb.h fun K hK=>?_|(refine hK _ ?_;clear hK K)|(refine Wy.h ?_ ?_;kernel_rfl)|refine Wq.h ?_ ?_<;>intro h<;>try (exfalso;omega)|((fail_if_success refine Wz.h ?_);simp (disch:=omega) only [↓LD,LA,a0A,seval,LEv]))
  all_goals exact end1 rfl rfl (by kernel_rfl) .f ⟨rfl,rfl⟩
instance {l m:List Ev}{H:List Row}{K:D→List Row→Prop}[hl:Kn (FitL l)][hm:Kn (FitL m)]:Wa (a0S Tryz.prog (.fn 45 []) [.f (fEv l),.f (fEv m)] H K) (K (.f (.v (.int .i64 (a0M l m)))) H):=⟨fun h=>a0C (i0D l m hl.h hm.h) rfl rfl rfl h⟩
instance {l m:List Ev}{H:List Row}{K:D→List Row→Prop}[hl:Kn (FitL l)][hm:Kn (FitL m)]:Wa (a0S Tryz.prog (.fn 49 []) [.f (fEv l),.f (fEv m)] H K) (K (.f (.v (.bool (eqB l m)))) H):=⟨fun h=>a0C (p0S l m hl.h hm.h) rfl rfl rfl h⟩
instance {l m:List Ev}{H:List Row}{K:Bool→D→List Row→Prop}[hl:Kn (FitL l)][hm:Kn (FitL m)]:Wa (a0j Tryz.prog (.fn 45 []) [.f (fEv l),.f (fEv m)] H K) (K true (.f (.v (.int .i64 (a0M l m)))) H):=⟨fun h=>a0O (i0D l m hl.h hm.h) rfl rfl rfl h⟩
theorem o0n (l:List Ev)(hl:IdL l)(hk:(ofL l).length≤1000000):Con Tryz.prog 78 [.f (fEv l)] [] fun r H'=>r=D.int (a0a (ofL l)).ver∧H'=[]:=by
 haveI:Kn (IdL l):=⟨hl⟩
 haveI:Kn ((ofL l).length≤1000000):=⟨hk⟩
 refine Con.walk good n0O (by simp) ?_
 unfold g0s
 simp only [a0I]
 repeat' (with_reducible first|refine Wx.h ?_|refine Wb.h fun K hK=>?_|(refine hK _ ?_;clear hK K)|((fail_if_success refine Wz.h ?_);simp (disch:=omega) only [↓LD,LA,a0A,seval]))
 exact end1 rfl rfl (by kernel_rfl) .f ⟨rfl,rfl⟩
noncomputable def g0c (l m:List Ev)(k:Int):Bool:=decide (k≤a0M l m)&&decide ((a0M l m:Int)<min l.length m.length)&&decide ((gt l (a0M l m)).ver=(gt m (a0M l m)).ver)
set_option maxRecDepth 100000 in
theorem w0a (l m:List Ev)(k:Int)(hl:FitL l)(hm:FitL m):Con Tryz.prog 43 [.f (fEv l),.f (fEv m),D.int k] [] fun r H'=>r=D.bool (g0c l m k)∧H'=[]:=by
 haveI:Kn (FitL l):=⟨hl⟩
 haveI:Kn (FitL m):=⟨hm⟩
 have hl1:=hl.1
 have hm1:=hm.1
 refine Con.walk good s0L (by simp) ?_
 unfold l0u g0c
 simp only [a0I]
 generalize hn:a0M l m=n
 by_cases h1:k≤(n:Int)
 rotate_left
 ·rw [decide_eq_false h1]
  repeat' (with_reducible first|refine Wx.h ?_|refine We.h fun K hK=>?_|refine Wd.h fun K M hK hM=>?_|(refine hK _ _ _ _ ?_;clear hK K;try clear hM M)|(refine hM ?_;clear hM M;try clear hK K)|refine Wb.h fun K hK=>?_|(refine hK _ ?_;clear hK K)|(refine wF ?_ ?_;assumption)|(refine Wy.h ?_ ?_;kernel_rfl)|((fail_if_success refine Wz.h ?_);simp (disch:=omega) only [↓LD,LA,a0A,seval,LEv,hn]))
  all_goals exact end1 rfl rfl (by kernel_rfl) .f ⟨rfl,rfl⟩
 rw [decide_eq_true h1]
 by_cases h2:(n:Int)<min l.length m.length
 rotate_left
 ·rw [decide_eq_false h2]
  repeat' (with_reducible first|refine Wx.h ?_|refine We.h fun K hK=>?_|refine Wd.h fun K M hK hM=>?_|(refine hK _ _ _ _ ?_;clear hK K;try clear hM M)|(refine hM ?_;clear hM M;try clear hK K)|refine Wb.h fun K hK=>?_|(refine hK _ ?_;clear hK K)|(refine wT ?_ ?_;assumption)|(refine Wy.h ?_ ?_;kernel_rfl)|refine Wq.h ?_ ?_<;>intro h<;>try (exfalso;omega)|((fail_if_success refine Wz.h ?_);simp (disch:=omega) only [↓LD,LA,a0A,seval,LEv,hn]))
  all_goals exact end1 rfl rfl (by kernel_rfl) .f ⟨rfl,rfl⟩
 rw [decide_eq_true h2]
 have hnl:n<l.length:=by omega
 have hnm:n<m.length:=by omega
 by_cases h3:(gt l n).ver=(gt m n).ver
 ·rw [decide_eq_true h3]
  repeat' (with_reducible first|refine Wx.h ?_|refine We.h fun K hK=>?_|refine Wd.h fun K M hK hM=>?_|(refine hK _ _ _ _ ?_;clear hK K;try clear hM M)|refine Wb.h fun K hK=>?_|(refine hK _ ?_;clear hK K)|(refine wT ?_ ?_;assumption)|(refine Wy.h ?_ ?_;kernel_rfl)|refine Wq.h ?_ ?_<;>intro h<;>try (exfalso;omega)|((fail_if_success refine Wz.h ?_);first|simp (disch:=omega) only [↓LD,LA,a0A,seval,LEv,hn,a0N,j0n,Ev.cs]|(refine And.intro ?_ ?_;omega)|fail))
  all_goals exact end1 rfl rfl (by kernel_rfl) .f ⟨rfl,rfl⟩
 ·rw [decide_eq_false h3]
  repeat' (with_reducible first|refine Wx.h ?_|refine We.h fun K hK=>?_|refine Wd.h fun K M hK hM=>?_|(refine hK _ _ _ _ ?_;clear hK K;try clear hM M)|refine Wb.h fun K hK=>?_|(refine hK _ ?_;clear hK K)|(refine wT ?_ ?_;assumption)|(refine wF ?_ ?_;assumption)|(refine Wy.h ?_ ?_;kernel_rfl)|refine Wq.h ?_ ?_<;>intro h<;>try (exfalso;omega)|((fail_if_success refine Wz.h ?_);first|simp (disch:=omega) only [↓LD,LA,a0A,seval,LEv,hn,a0N,j0n,Ev.cs]|(refine And.intro ?_ ?_;omega)|fail))
  all_goals exact end1 rfl rfl (by kernel_rfl) .f ⟨rfl,rfl⟩
def e0A:SCode :=
  (jq ([.a 2 (.mv kN)]) (jq ([.a 3 (.mv kN)]) (.seq (jq ([jm 6 0,je 7 6,jk 8 0]) (.block 0 (.loop (jq ([jB 9 .lss 8 7]) (.seq (jc 9 .skip (.exit 0))
 (.seq (.block 1 (jq ([jx 10 9 6 8,jL 11 9 10,.a 5 (.alloc 73 [jI,jI,jI,jI,jI,jI,(.f (.v (.string ⟨#[]⟩))),jN,jN]),.n (.store 9 (.t 5) (.t
 11))]) (.ops (ap [jm 12 3,jL 13 9 5,.a 14 (.call (kC 68) [(.t 13)])] (ap [.a 15 (.bsl 73 9 1 [jI,jI,jI,jI,jI,jI,(.f (.v (.string ⟨#[]⟩))),jN,
 jN] [(0,(.t 14))]),.a 16 (.app 73 9 112 (.t 12) (.t 15))] [jm 3 16]))))) (.ops [jb 17 .add 8 1,jm 8 17]))))))) (jq ([jm 18 3,jm 2 18]) .ret))))
theorem e0u:Fn Tryz.prog 51 19 [.t 2] e0A:=.of Tryz.func51 (by kernel_rfl)
def g0d:SCode :=
  (jq ([.a 1 (.box 30 (.t 0)),.a 2 (.mv kN)]) (.seq (jq ([jo 3 0 1,jl 4 3,je 5 4,jb 6 .eql 5 0]) (jc 6 (jq ([.a 2 (.mv kN)]) .ret) .skip)) (jq ((ap
 [jo 7 0 1,jl 8 7,.a 9 (.idx 1 (.t 8) (kI 0)),jl 10 9,.a 11 (.call (kC 51) [(.t 10)])] [jm 2 11])) .ret)))
theorem n0k:Fn Tryz.prog 18 12 [.t 2] g0d:=.of Tryz.func18 (by kernel_rfl)
theorem b1T {e:Ev}(h:FitV e):FitN e.defs:=fun x hx=>by have:=h.2.2.2 x hx;omega
set_option maxRecDepth 100000 in
theorem g0m (l:List Ev)(hf:FitL l):Con Tryz.prog 51 [.f (fEv l)] [] fun r H'=>r = .f (fEv l)∧H'=[]:=by
 obtain ⟨hl,hln⟩:=hf
 refine Con.walk good e0u (by simp) ?_
 unfold e0A
 simp only [a0I]
 refine HS.seq ?_
 repeat' (with_reducible first|refine Wa.h ?_|refine Wb.h fun K hK=>?_|(refine hK _ ?_;clear hK K)|((fail_if_success refine Wz.h ?_);simp (disch:=omega) only [↓LD,LA,a0A,seval]))
 refine HS.seq ?_
 repeat' (with_reducible first|refine Wa.h ?_|refine Wb.h fun K hK=>?_|(refine hK _ ?_;clear hK K)|((fail_if_success refine Wz.h ?_);simp (disch:=omega) only [↓LD,LA,a0A,seval]))
 refine HS.view (View.void 73) ?_
 refine HS.view (View.slot 3 (.sl 0 0 0) (.no (by decide))) ?_
 repeat' (with_reducible first|refine Wx.h ?_|refine Wb.h fun K hK=>?_|(refine hK _ ?_;clear hK K)|((fail_if_success refine Wz.h ?_);simp (disch:=omega) only [↓LD,LA,a0A,seval,LEv]))
 refine HS.loopG [3,6,7,8] (fun i:Nat=>⟨frm 19 [(3,.sl 0 0 i),(6,.f (fEv l)),(7,D.int l.length),(8,D.int i)],[.data 73 ((l.take i).flatMap Ev.cs)],[]⟩) (fun i=>i≤l.length) (fun i=>l.length-i) 0 (by kernel_rfl) (Nat.zero_le _) ?_
 rintro i hi
 by_cases hil:i<l.length
 ·have hv:=hln _ (a0K hil)
  have hfn:=b1T hv
  obtain ⟨f1,f2,f3,f4⟩:=hv
  have hlen:((l.take i).flatMap Ev.cs).length=i*9:=by rw [a0N,List.length_take,Nat.min_eq_left hi]
  have ha:(l.take i).flatMap Ev.cs++Ev.cs (gt l i)=(l.take (i+1)).flatMap Ev.cs:=by
   rw [List.take_succ_eq_append_getElem hil,List.flatMap_append,←b0F hil];simp
  generalize hg:gt l i=e at *
  rw [Ev.cs] at ha
  repeat' (with_reducible first|refine Wx.h ?_|refine Wb.h fun K hK=>?_|(refine hK _ ?_;clear hK K)|refine Wq.h ?_ ?_<;>intro h<;>try (exfalso;omega)|((fail_if_success refine Wz.h ?_);first|simp (disch:=omega) only [↓LD,LA,a0A,seval,LEv,b0O,a0N,Ev.cs,hg,hlen,evD,ha,List.map_cons,List.map_nil,-a0A]|(refine And.intro ?_ ?_;omega)|fail))
  refine ⟨⟨hfn,by omega,by omega⟩,?_⟩
  repeat' (with_reducible first|refine Wx.h ?_|refine Wb.h fun K hK=>?_|(refine hK _ ?_;clear hK K)|((fail_if_success refine Wz.h ?_);first|simp (disch:=omega) only [↓LD,LA,a0A,seval,LEv,b0O,a0N,Ev.cs,hg,hlen,evD,ha,List.map_cons,List.map_nil,-a0A]|(refine And.intro ?_ ?_;omega)|fail))
  exact Next.mk (i+1) (by kernel_rfl) (by omega) (by omega)
 ·rw [List.take_of_length_le (by omega)]
  obtain rfl:i=l.length:=by omega
  repeat' (with_reducible first|refine Wx.h ?_|refine Wb.h fun K hK=>?_|(refine hK _ ?_;clear hK K)|refine Wq.h ?_ ?_<;>intro h<;>try (exfalso;omega)|((fail_if_success refine Wz.h ?_);simp (disch:=omega) only [↓LD,LA,a0A,seval]))
  exact end1 rfl rfl (by kernel_rfl) (g1Y rfl rfl rfl) ⟨rfl,rfl⟩
instance {l:List Ev}{H:List Row}{K:D→List Row→Prop}[hl:Kn (FitL l)]:Wa (a0S Tryz.prog (.fn 51 []) [.f (fEv l)] H K) (K (.f (fEv l)) H):=⟨fun h=>a0C (g0m l hl.h) rfl rfl rfl h⟩
instance {l:List Ev}{H:List Row}{K:Bool→D→List Row→Prop}[hl:Kn (FitL l)]:Wa (a0j Tryz.prog (.fn 51 []) [.f (fEv l)] H K) (K true (.f (fEv l)) H):=⟨fun h=>a0O (g0m l hl.h) rfl rfl rfl h⟩
def curL (t:Br):List Ev:=if t.length=0 then [] else gt t 0
theorem r0g (t:Br)(ht:TrK t):Con Tryz.prog 18 [.ag [.f (fBr t)]] [] fun r H'=>r = .f (fEv (curL t))∧H'=[]:=by
 have hlen:=ht.len
 refine Con.walk good n0k (by simp) ?_
 unfold g0d
 simp only [a0I]
 by_cases hz:t.length=0
 ·rw [curL,if_pos hz]
  repeat' (with_reducible first|refine Wx.h ?_|refine Wb.h fun K hK=>?_|(refine hK _ ?_;clear hK K)|refine Wq.h ?_ ?_<;>intro h<;>try (exfalso;omega)|((fail_if_success refine Wz.h ?_);simp (disch:=omega) only [↓LD,LA,a0A,seval,LBr]))
  exact end1 rfl rfl (by kernel_rfl) .nil ⟨rfl,rfl⟩
 ·rw [curL,if_neg hz]
  haveI:Kn (FitL (gt t 0)):=⟨(ht.gt (by omega)).1.fitL⟩
  repeat' (with_reducible first|refine Wx.h ?_|refine Wb.h fun K hK=>?_|(refine hK _ ?_;clear hK K)|refine Wq.h ?_ ?_<;>intro h<;>try (exfalso;omega)|((fail_if_success refine Wz.h ?_);first|simp (disch:=omega) only [↓LD,LA,a0A,seval,LBr]|(refine And.intro ?_ ?_;omega)|fail))
  exact end1 rfl rfl (by kernel_rfl) .f ⟨rfl,rfl⟩
instance {t:Br}{H:List Row}{K:D→List Row→Prop}[ht:Kn (TrK t)]:Wa (a0S Tryz.prog (.fn 18 []) [.ag [.f (fBr t)]] H K) (K (.f (fEv (curL t))) H):=⟨fun h=>a0C (r0g t ht.h) rfl rfl rfl h⟩
set_option maxRecDepth 100000 in
theorem w0q (l:Br)(g:FuncId)(caps:List D)(H:List Row)(p:List Ev→Bool)(hl:l.length≤1000000)
  (hf:∀ x∈l,Con Tryz.prog g (.f (fEv x) :: caps) H fun r H'=>r=D.bool (p x)∧H'=H):Con Tryz.prog 76 [.f (fBr l),.fn g caps] H fun r H'=>r=D.int (idxF p 0 l)∧H'=H:=by
 refine Con.walk good j0i (by simp) ?_
 unfold f0u
 simp only [a0I]
 repeat' (with_reducible first|refine Wx.h ?_|refine Wb.h fun K hK=>?_|(refine hK _ ?_;clear hK K)|((fail_if_success refine Wz.h ?_);simp (disch:=omega) only [↓LD,LA,a0A,seval,LBr]))
 refine HS.loopP (fun x:Nat=>[(0,.f (fBr l)),(1,.fn g caps),(7,D.int l.length),(8,D.int x)]) (fun _=>H)
  (fun x=>x≤l.length∧idxF p 0 l=idxF p x (l.drop x)) (fun x=>l.length-x) 0 rfl (by kernel_rfl) ⟨Nat.zero_le _,rfl⟩ ?_
 rintro k ⟨hk,hr⟩
 repeat' (with_reducible first|refine Wx.h ?_|refine Wb.h fun K hK=>?_|(refine hK _ ?_;clear hK K)|refine Wq.h ?_ ?_<;>intro h|((fail_if_success refine Wz.h ?_);first|simp (disch:=omega) only [↓LD,LA,a0A,seval,LBr]|(refine And.intro ?_ ?_;omega)|fail))
 rotate_left
 ·refine endA rfl rfl ⟨congrArg D.int ?_,rfl⟩
  rw [hr,List.drop_of_length_le (by omega)];try rfl
 refine a0o (hf _ (a0K (by omega))) ?_
 rintro _ H' ⟨rfl,hH⟩
 rw [hH];clear hH H'
 repeat' (with_reducible first|refine Wx.h ?_|refine Wb.h fun K hK=>?_|(refine hK _ ?_;clear hK K)|refine Wq.h ?_ ?_<;>intro h|((fail_if_success refine Wz.h ?_);simp (disch:=omega) only [↓LD,LA,a0A,seval,D.bool]))
 ·refine endA rfl rfl ⟨congrArg D.int ?_,rfl⟩
  rw [hr,a0H (by omega),idxF,if_pos h]
 ·refine NextP.mk (k+1) rfl (by kernel_rfl) ?_ ?_
  ·refine ⟨by omega,?_⟩
   rw [hr,a0H (by omega),idxF,if_neg (by simp [h])]
  ·omega
theorem h0n (l:Br)(g:FuncId)(caps:List D)(H:List Row)(p:List Ev→Bool)(hl:l.length≤1000000)
  (hf:∀ x∈l,Con Tryz.prog g (.f (fEv x) :: caps) H fun r H'=>r=D.bool (p x)∧H'=H):Con Tryz.prog 41 [.f (fBr l),.fn g caps] H fun r H'=>r=D.bool (l.any p)∧H'=H:=by
 refine Con.walk good r0K (by simp) ?_
 unfold i0e
 simp only [a0I]
 repeat' (with_reducible first|refine Wx.h ?_|refine Wb.h fun K hK=>?_|(refine hK _ ?_;clear hK K)|((fail_if_success refine Wz.h ?_);simp (disch:=omega) only [↓LD,LA,a0A,seval]))
 refine a0o (w0q l g caps H p hl hf) ?_
 rintro _ H' ⟨rfl,hH⟩
 rw [hH];clear hH H'
 repeat' (with_reducible first|refine Wx.h ?_|refine Wb.h fun K hK=>?_|(refine hK _ ?_;clear hK K)|refine Wq.h ?_ ?_<;>intro h|((fail_if_success refine Wz.h ?_);simp (disch:=omega) only [↓LD,LA,a0A,seval,D.int]))
 all_goals
  refine endA rfl rfl ⟨congrArg D.bool ?_,rfl⟩
  rw [←f0I p 0 l];simp;omega
def bxB (l:List Ev):Row:=.box 25 [.f (fEv l)]
def bxI (k:Int):Row:=.box 3 [D.int k]
set_option maxRecDepth 100000 in
theorem b1h (x l:List Ev)(k:Int)(hx:FitL x)(hl:FitL l):Con Tryz.prog 42 [.f (fEv x),.pt 0 0,.pt 1 0] [bxB l,bxI k] fun r H'=>r=D.bool (g0c l x k)∧H'=[bxB l,bxI k]:=by
 have hc:=w0a l x k hl hx
 refine Con.walk good x0p (by simp) ?_
 unfold q0P bxB bxI
 simp only [a0I]
 repeat' (with_reducible first|refine Wx.h ?_|refine Wb.h fun K hK=>?_|(refine hK _ ?_;clear hK K)|((fail_if_success refine Wz.h ?_);simp (disch:=omega) only [↓LD,LA,a0A,seval]))
 refine a0C hc rfl rfl rfl ?_
 repeat' (with_reducible first|refine Wx.h ?_|(refine hK _ ?_;clear hK K)|((fail_if_success refine Wz.h ?_);simp (disch:=omega) only [↓LD,LA,a0A,seval]))
 exact end1 rfl rfl (by kernel_rfl) .f ⟨rfl,rfl⟩
set_option maxRecDepth 100000 in
theorem y0W (x l:List Ev)(hx:FitL x)(hl:FitL l):Con Tryz.prog 44 [.f (fEv x),.pt 0 0] [bxB l] fun r H'=>r=D.bool (decide ((a0M l x:Int)=l.length))∧H'=[bxB l]:=by
 haveI:Kn (FitL x):=⟨hx⟩
 haveI:Kn (FitL l):=⟨hl⟩
 refine Con.walk good w0n (by simp) ?_
 unfold q0a bxB
 simp only [a0I]
 by_cases h:(a0M l x:Int)=l.length
 ·rw [decide_eq_true h]
  repeat' (with_reducible first|refine Wx.h ?_|refine We.h fun K hK=>?_|(refine hK _ _ _ _ ?_;clear hK K;try clear hM M)|refine Wb.h fun K hK=>?_|(refine hK _ ?_;clear hK K)|(refine wT ?_ ?_;assumption)|(refine Wy.h ?_ ?_;kernel_rfl)|((fail_if_success refine Wz.h ?_);simp (disch:=omega) only [↓LD,LA,a0A,seval,LEv]))
  all_goals exact end1 rfl rfl (by kernel_rfl) .f ⟨rfl,rfl⟩
 ·rw [decide_eq_false h]
  repeat' (with_reducible first|refine Wx.h ?_|refine We.h fun K hK=>?_|(refine hK _ _ _ _ ?_;clear hK K;try clear hM M)|refine Wb.h fun K hK=>?_|(refine hK _ ?_;clear hK K)|(refine wF ?_ ?_;assumption)|(refine Wy.h ?_ ?_;kernel_rfl)|((fail_if_success refine Wz.h ?_);simp (disch:=omega) only [↓LD,LA,a0A,seval,LEv]))
  all_goals exact end1 rfl rfl (by kernel_rfl) .f ⟨rfl,rfl⟩
set_option maxRecDepth 100000 in
theorem w0z (x l:List Ev)(hx:IdL x)(hl:IdL l)(hxk:(ofL x).length≤1000000)(hlk:(ofL l).length≤1000000):Con Tryz.prog 79 [.f (fEv x),.pt 0 0] [bxB l] fun r H'=>r=D.bool (decide (0<cmpI (ofL l) (ofL x)))∧H'=[bxB l]:=by
 haveI:Kn (IdL x):=⟨hx⟩
 haveI:Kn (IdL l):=⟨hl⟩
 haveI:Kn ((ofL x).length≤1000000):=⟨hxk⟩
 haveI:Kn ((ofL l).length≤1000000):=⟨hlk⟩
 refine Con.walk good s0v (by simp) ?_
 unfold k0o bxB
 simp only [a0I]
 by_cases h:0<cmpI (ofL l) (ofL x)
 ·rw [decide_eq_true h]
  repeat' (with_reducible first|refine Wx.h ?_|refine Wb.h fun K hK=>?_|(refine hK _ ?_;clear hK K)|(refine wT ?_ ?_;assumption)|((fail_if_success refine Wz.h ?_);simp (disch:=omega) only [↓LD,LA,a0A,seval]))
  all_goals exact end1 rfl rfl (by kernel_rfl) .f ⟨rfl,rfl⟩
 ·rw [decide_eq_false h]
  repeat' (with_reducible first|refine Wx.h ?_|refine Wb.h fun K hK=>?_|(refine hK _ ?_;clear hK K)|(refine wF ?_ ?_;assumption)|((fail_if_success refine Wz.h ?_);simp (disch:=omega) only [↓LD,LA,a0A,seval]))
  all_goals exact end1 rfl rfl (by kernel_rfl) .f ⟨rfl,rfl⟩
set_option maxRecDepth 100000 in
theorem h0y (t:Br)(ht:TrK t):Con Tryz.prog 46 [.ag [.f (fBr t)]] [] fun r H'=>r = .ag [.f (fBr t)]∧H'=[]:=by
 have htl:=ht.len
 refine Con.walk good p0O (by simp) ?_
 unfold j0Z
 simp only [a0I]
 repeat' (with_reducible first|refine Wx.h ?_|refine Wb.h fun K hK=>?_|(refine hK _ ?_;clear hK K)|((fail_if_success refine Wz.h ?_);simp (disch:=omega) only [↓LD,LA,a0A,seval,LBr]))
 refine HS.view (View.void 25) ?_
 refine HS.view (View.bcell 2 0 (.sl 3 0 0) rfl rfl (.no (by show 3<4;omega))) ?_
 refine HS.loopG [2,3,7,8,9] (fun i:Nat=>⟨frm 22 [(2,.pt 0 0),(3,.pt 1 0),(7,.f (fBr t)),(8,D.int t.length),(9,D.int i)],[.box 30 [jN],.box 30 [.sl 2 0 i],.data 25 ((t.take i).map fEv)],[]⟩) (fun i=>i≤t.length) (fun i=>t.length-i) 0 (by kernel_rfl) (Nat.zero_le _) ?_
 rintro i hi
 by_cases hil:i<t.length
 ·obtain ⟨ok,ne⟩:=ht.gt hil
  haveI:Kn (FitL (gt t i)):=⟨ok.fitL⟩
  have hlen:((t.take i).map fEv).length=i:=by rw [List.length_map,List.length_take];omega
  have ha:(t.take i).map fEv++[fEv (gt t i)]=(t.take (i+1)).map fEv:=by rw [List.take_succ_eq_append_getElem hil,←b0F hil,b1P]
  repeat' (with_reducible first|refine Wx.h ?_|refine We.h fun K hK=>?_|(refine hK _ _ _ _ ?_;clear hK K;try clear hM M)|refine Wb.h fun K hK=>?_|(refine hK _ ?_;clear hK K)|(refine Wy.h ?_ ?_;kernel_rfl)|refine Wq.h ?_ ?_<;>intro h<;>try (exfalso;omega)|((fail_if_success refine Wz.h ?_);first|simp (disch:=omega) only [↓LD,LA,a0A,seval,LBr,hlen,ha]|(refine And.intro ?_ ?_;omega)|fail))
  all_goals exact Next.mk (i+1) (by kernel_rfl) (by omega) (by omega)
 ·rw [List.take_of_length_le (by omega)]
  obtain rfl:i=t.length:=by omega
  repeat' (with_reducible first|refine Wx.h ?_|refine Wb.h fun K hK=>?_|(refine hK _ ?_;clear hK K)|refine Wq.h ?_ ?_<;>intro h<;>try (exfalso;omega)|((fail_if_success refine Wz.h ?_);simp (disch:=omega) only [↓LD,LA,a0A,seval,LBr]))
  exact RetS.still (ds:=[.ag [.sl 2 0 t.length]]) (by kernel_rfl) (by kernel_rfl) (.ags (.cons (f1T rfl rfl rfl) .nil)) ⟨rfl,rfl⟩
set_option maxRecDepth 100000 in
theorem n0e (l:List Ev)(hf:FitL l):Con Tryz.prog 51 [.f (fEv l)] [] fun r H'=>r = .sl 0 0 l.length∧H'=[rEv l]:=by
 obtain ⟨hl,hln⟩:=hf
 refine Con.walk good e0u (by simp) ?_
 unfold e0A
 simp only [a0I]
 refine HS.seq ?_
 repeat' (with_reducible first|refine Wa.h ?_|refine Wb.h fun K hK=>?_|(refine hK _ ?_;clear hK K)|((fail_if_success refine Wz.h ?_);simp (disch:=omega) only [↓LD,LA,a0A,seval]))
 refine HS.seq ?_
 repeat' (with_reducible first|refine Wa.h ?_|refine Wb.h fun K hK=>?_|(refine hK _ ?_;clear hK K)|((fail_if_success refine Wz.h ?_);simp (disch:=omega) only [↓LD,LA,a0A,seval]))
 refine HS.view (View.void 73) ?_
 refine HS.view (View.slot 3 (.sl 0 0 0) (.no (by decide))) ?_
 repeat' (with_reducible first|refine Wx.h ?_|refine Wb.h fun K hK=>?_|(refine hK _ ?_;clear hK K)|((fail_if_success refine Wz.h ?_);simp (disch:=omega) only [↓LD,LA,a0A,seval,LEv]))
 refine HS.loopG [3,6,7,8] (fun i:Nat=>⟨frm 19 [(3,.sl 0 0 i),(6,.f (fEv l)),(7,D.int l.length),(8,D.int i)],[.data 73 ((l.take i).flatMap Ev.cs)],[]⟩) (fun i=>i≤l.length) (fun i=>l.length-i) 0 (by kernel_rfl) (Nat.zero_le _) ?_
 rintro i hi
 by_cases hil:i<l.length
 ·have hv:=hln _ (a0K hil)
  have hfn:=b1T hv
  obtain ⟨f1,f2,f3,f4⟩:=hv
  have hlen:((l.take i).flatMap Ev.cs).length=i*9:=by rw [a0N,List.length_take,Nat.min_eq_left hi]
  have ha:(l.take i).flatMap Ev.cs++Ev.cs (gt l i)=(l.take (i+1)).flatMap Ev.cs:=by
   rw [List.take_succ_eq_append_getElem hil,List.flatMap_append,←b0F hil];simp
  generalize hg:gt l i=e at *
  rw [Ev.cs] at ha
  repeat' (with_reducible first|refine Wx.h ?_|refine Wb.h fun K hK=>?_|(refine hK _ ?_;clear hK K)|refine Wq.h ?_ ?_<;>intro h<;>try (exfalso;omega)|((fail_if_success refine Wz.h ?_);first|simp (disch:=omega) only [↓LD,LA,a0A,seval,LEv,b0O,a0N,Ev.cs,hg,hlen,evD,ha,List.map_cons,List.map_nil,-a0A]|(refine And.intro ?_ ?_;omega)|fail))
  refine ⟨⟨hfn,by omega,by omega⟩,?_⟩
  repeat' (with_reducible first|refine Wx.h ?_|refine Wb.h fun K hK=>?_|(refine hK _ ?_;clear hK K)|((fail_if_success refine Wz.h ?_);first|simp (disch:=omega) only [↓LD,LA,a0A,seval,LEv,b0O,a0N,Ev.cs,hg,hlen,evD,ha,List.map_cons,List.map_nil,-a0A]|(refine And.intro ?_ ?_;omega)|fail))
  exact Next.mk (i+1) (by kernel_rfl) (by omega) (by omega)
 ·rw [List.take_of_length_le (by omega)]
  obtain rfl:i=l.length:=by omega
  repeat' (with_reducible first|refine Wx.h ?_|refine Wb.h fun K hK=>?_|(refine hK _ ?_;clear hK K)|refine Wq.h ?_ ?_<;>intro h<;>try (exfalso;omega)|((fail_if_success refine Wz.h ?_);simp (disch:=omega) only [↓LD,LA,a0A,seval]))
  exact endG rfl rfl (ef:=⟨.sl 0 0 l.length,[],[rEv l]⟩) (by kernel_rfl) ⟨rfl,rfl⟩
theorem d1Y {x y:Im}:eqL [0,0] [.f (.v (.int .i64 x.id)),.f (.v (.int .i64 x.ver))] [.f (.v (.int .i64 y.id)),.f (.v (.int .i64 y.ver))]=some (eqB x y):=by
 simp only [eqL,eqV,if_true,Bool.and_true]
 obtain ⟨a1,a2⟩:=x
 obtain ⟨b1,b2⟩:=y
 congr 1
 by_cases e:(⟨a1,a2⟩:Im)=⟨b1,b2⟩
 ·rw [d0h e];cases e;simp
 ·rw [c0k e]
  by_cases e1:a1=b1
  ·have e2:¬ a2=b2:=fun e2=>e (by rw [e1,e2])
   simp [e2]
  ·simp [e1]
set_option maxRecDepth 100000 in
theorem a1n (l m:List Im)(hl:l.length≤1000000)(hm:m.length≤1000000):Con Tryz.prog 55 [.f (fIm l),.f (fIm m)] [] fun r H'=>r=D.bool (eqB l m)∧H'=[]:=by
 refine Con.walk good x0e (by simp) ?_
 unfold q0G
 simp only [a0I]
 by_cases hlm:(l.length:Int)=m.length
 rotate_left
 ·repeat' (with_reducible first|refine Wx.h ?_|refine Wb.h fun K hK=>?_|(refine hK _ ?_;clear hK K)|(refine wF ?_ ?_;assumption)|((fail_if_success refine Wz.h ?_);simp (disch:=omega) only [↓LD,LA,a0A,seval,LIm]))
  rw [d0b hlm]
  exact end1 rfl rfl (by kernel_rfl) .f ⟨rfl,rfl⟩
 repeat' (with_reducible first|refine Wx.h ?_|refine Wb.h fun K hK=>?_|(refine hK _ ?_;clear hK K)|(refine wT ?_ ?_;assumption)|((fail_if_success refine Wz.h ?_);simp (disch:=omega) only [↓LD,LA,a0A,seval,LIm]))
 refine HS.loopG [0,1,12,13] (fun i:Nat=>⟨frm 26 [(0,.f (fIm l)),(1,.f (fIm m)),(12,D.int l.length),(13,D.int i)],[],[]⟩) (fun i=>i≤l.length∧l.take i=m.take i) (fun i=>l.length-i) 0 (by kernel_rfl) ⟨Nat.zero_le _,rfl⟩ ?_
 rintro i ⟨hi,ht⟩
 by_cases hil:i<l.length
 ·have him:i<m.length:=by omega
  by_cases e:gt l i=gt m i
  ·have hb:=d0h e
   repeat' (with_reducible first|refine Wx.h ?_|refine We.h fun K hK=>?_|(refine hK _ _ _ _ ?_;clear hK K;try clear hM M)|refine Wb.h fun K hK=>?_|(refine hK _ ?_;clear hK K)|(refine Wy.h ?_ ?_;kernel_rfl)|refine Wq.h ?_ ?_<;>intro h<;>try (exfalso;omega)|((fail_if_success refine Wz.h ?_);first|simp (disch:=omega) only [↓LD,LA,a0A,seval,LIm,h0X,c0t,Im.cs,d1Y,hb,Bool.not_true,List.map_cons,List.map_nil,-a0A]|(refine And.intro ?_ ?_;omega)|fail))
   all_goals exact Next.mk (i+1) (by kernel_rfl) ⟨by omega,b0o hlm hil ht e⟩ (by omega)
  ·have hb:=c0k e
   repeat' (with_reducible first|refine Wx.h ?_|refine We.h fun K hK=>?_|(refine hK _ _ _ _ ?_;clear hK K;try clear hM M)|refine Wb.h fun K hK=>?_|(refine hK _ ?_;clear hK K)|(refine Wy.h ?_ ?_;kernel_rfl)|refine Wq.h ?_ ?_<;>intro h<;>try (exfalso;omega)|((fail_if_success refine Wz.h ?_);first|simp (disch:=omega) only [↓LD,LA,a0A,seval,LIm,h0X,c0t,Im.cs,d1Y,hb,Bool.not_false,List.map_cons,List.map_nil,-a0A]|(refine And.intro ?_ ?_;omega)|fail))
   all_goals
    rw [f0b e]
    exact end1 rfl rfl (by kernel_rfl) .f ⟨rfl,rfl⟩
 ·repeat' (with_reducible first|refine Wx.h ?_|refine Wb.h fun K hK=>?_|(refine hK _ ?_;clear hK K)|refine Wq.h ?_ ?_<;>intro h<;>try (exfalso;omega)|((fail_if_success refine Wz.h ?_);simp (disch:=omega) only [↓LD,LA,a0A,seval,LIm]))
  rw [d0O hlm ht (by omega)]
  exact end1 rfl rfl (by kernel_rfl) .f ⟨rfl,rfl⟩
instance {a b:List Im}{H:List Row}{K:D→List Row→Prop}[ha:Kn (a.length≤1000000)][hb:Kn (b.length≤1000000)]:Wa (a0S Tryz.prog (.fn 55 []) [.f (fIm a),.f (fIm b)] H K) (K (.f (.v (.bool (eqB a b)))) H):=⟨fun h=>a0C (a1n a b ha.h hb.h) rfl rfl rfl h⟩
theorem f1P (t:Br)(ht:TrK t):Con Tryz.prog 21 [.ag [.f (fBr t)],jN] [] fun r H'=>r = .tp [jN,D.bool true]∧H'=[]:=by
 refine Con.walk good g0K (by simp) ?_
 unfold f0F
 simp only [a0I]
 refine HS.seq ?_
 repeat' (with_reducible first|refine Wa.h ?_|refine Wb.h fun K hK=>?_|(refine hK _ ?_;clear hK K)|((fail_if_success refine Wz.h ?_);simp (disch:=omega) only [↓LD,LA,a0A,seval]))
 refine HS.seq ?_
 refine HS.view (View.slot 1 (.f (fIm [])) .ns) ?_
 haveI:Kn (([]:List Im).length≤1000000):=⟨by simp⟩
 repeat' (with_reducible first|refine Wx.h ?_|refine Wb.h fun K hK=>?_|(refine hK _ ?_;clear hK K)|((fail_if_success refine Wz.h ?_);simp (disch:=omega) only [↓LD,LA,a0A,seval,LIm,LBr]))
 refine RetS.still (ds:=[jN,D.bool true]) (by kernel_rfl) (by kernel_rfl) (.tps (.cons .f (.cons .f .nil))) ⟨rfl,rfl⟩
set_option maxRecDepth 100000 in
theorem a1N (t:Br)(pre:List Im)(ht:TrK t)(hp:pre.length≤1000000)(h0:¬ pre.length=0):Con Tryz.prog 21 [.ag [.f (fBr t)],.f (fIm pre)] [] fun r H'=>match d0S t pre with
  | none=>r = .tp [jN,D.bool false]∧H'=[]
  | some hd=>r = .tp [.sl 0 0 hd.length,D.bool true]∧H'=[rEv hd]:=by
 have htl:=ht.len
 have hfp:d0S t pre=(t.find? (e0h pre)).map fun b=>b.take (a0a pre).id.toNat:=by unfold d0S;rw [if_neg h0]
 rw [hfp]
 haveI:Kn (pre.length≤1000000):=⟨hp⟩
 refine Con.walk good g0K (by simp) ?_
 unfold f0F
 simp only [a0I]
 repeat' (with_reducible first|refine Wx.h ?_|refine Wb.h fun K hK=>?_|(refine hK _ ?_;clear hK K)|refine Wq.h ?_ ?_<;>intro h<;>try (exfalso;omega)|((fail_if_success refine Wz.h ?_);simp (disch:=omega) only [↓LD,LA,a0A,seval,LIm,LBr]))
 refine HS.loopG [1,6,16,17,18] (fun i:Nat=>⟨frm 43 [(1,.f (fIm pre)),(6,D.int (a0a pre).id),(16,.f (fBr t)),(17,D.int t.length),(18,D.int i)],[],[]⟩) (fun i=>i≤t.length∧t.find? (e0h pre)=(t.drop i).find? (e0h pre)) (fun i=>t.length-i) 0 (by kernel_rfl) ⟨Nat.zero_le _,rfl⟩ ?_
 rintro i ⟨hi,hF⟩
 by_cases hil:i<t.length
 rotate_left
 ·rw [List.drop_of_length_le (by omega)] at hF
  rw [hF]
  repeat' (with_reducible first|refine Wx.h ?_|refine Wb.h fun K hK=>?_|(refine hK _ ?_;clear hK K)|refine Wq.h ?_ ?_<;>intro h<;>try (exfalso;omega)|((fail_if_success refine Wz.h ?_);simp (disch:=omega) only [↓LD,LA,a0A,seval,LBr]))
  exact RetS.still (ds:=[jN,D.bool false]) (by kernel_rfl) (by kernel_rfl) (.tps (.cons .f (.cons .f .nil))) ⟨rfl,rfl⟩
 obtain ⟨ok,ne⟩:=ht.gt hil
 rw [a0H hil,List.find?_cons] at hF
 have hll:=ok.len
 generalize hb:gt t i=b at *
 have hno:e0h pre b=false→t.find? (e0h pre)=(t.drop (i+1)).find? (e0h pre):=fun h=>by rw [hF,h]
 have hyes:e0h pre b=true→t.find? (e0h pre)=some b:=fun h=>by rw [hF,h]
 clear hF
 by_cases h1:1≤(a0a pre).id∧(a0a pre).id≤b.length
 rotate_left
 ·have hn:=hno (by
   unfold e0h
   by_cases h2:1≤(a0a pre).id
   ·rw [decide_eq_false (p:=(a0a pre).id≤b.length) (fun h=>h1 ⟨h2,h⟩)];simp
   ·rw [decide_eq_false h2];rfl)
  repeat' (with_reducible first|refine Wx.h ?_|refine Wb.h fun K hK=>?_|(refine hK _ ?_;clear hK K)|refine Wq.h ?_ ?_<;>intro h<;>try (exfalso;omega)|((fail_if_success refine Wz.h ?_);first|simp (disch:=omega) only [↓LD,LA,a0A,seval,LIm,LBr,LEv,hb]|(refine And.intro ?_ ?_;omega)|fail))
  all_goals exact Next.mk (i+1) (by kernel_rfl) ⟨by omega,hn⟩ (by omega)
 obtain ⟨c,hc⟩:∃ c:Nat,(a0a pre).id=c:=⟨(a0a pre).id.toNat,by omega⟩
 simp only [hc] at h1 ⊢
 have hs:∀ H:List Row,subS H 9 73 (.f (fEv b)) 0 c=some (.f (fEv (b.take c))):=fun H=>j0A (by omega)
 have hok:=ok.take c
 haveI:Kn (IdL (b.take c)):=⟨hok.idL⟩
 haveI:Kn ((ofL (b.take c)).length≤1000000):=⟨hok.ofK⟩
 have hfe:e0h pre b=eqB (ofL (b.take c)) pre:=by
  unfold e0h
  rw [hc,decide_eq_true h1.1,decide_eq_true h1.2,Int.toNat_natCast];rfl
 rw [hfe] at hno hyes
 cases he:eqB (ofL (b.take c)) pre with
 | true =>
  rw [hyes he]
  repeat' (with_reducible first|refine Wx.h ?_|refine Wb.h fun K hK=>?_|(refine hK _ ?_;clear hK K)|refine Wq.h ?_ ?_<;>intro h<;>try (exfalso;omega)|((fail_if_success refine Wz.h ?_);first|simp (disch:=omega) only [↓LD,LA,a0A,seval,LIm,LBr,LEv,hb,hs,he,Int.toNat_natCast]|(refine And.intro ?_ ?_;omega)|fail))
  refine a0J (n0e (b.take c) hok.fitL) [] (by kernel_rfl) rfl rfl ?_
  rintro _ _ ⟨rfl,rfl⟩
  simp (disch:=omega) only [↓LD,LA,a0A,seval,ren,List.getElem?_nil,rEv]
  repeat' (with_reducible first|refine Wx.h ?_|(refine hK _ ?_;clear hK K)|((fail_if_success refine Wz.h ?_);simp (disch:=omega) only [↓LD,LA,a0A,seval]))
  exact g1M rfl rfl rfl rfl (ef:=⟨.tp [.sl 0 0 (b.take c).length,D.bool true],[],[rEv (b.take c)]⟩) (by kernel_rfl) ⟨rfl,rfl⟩
 | false =>
  have hn:=hno he
  repeat' (with_reducible first|refine Wx.h ?_|refine Wb.h fun K hK=>?_|(refine hK _ ?_;clear hK K)|refine Wq.h ?_ ?_<;>intro h<;>try (exfalso;omega)|((fail_if_success refine Wz.h ?_);first|simp (disch:=omega) only [↓LD,LA,a0A,seval,LIm,LBr,LEv,hb,hs,he,Int.toNat_natCast]|(refine And.intro ?_ ?_;omega)|fail))
  all_goals exact Next.mk (i+1) (by kernel_rfl) ⟨by omega,hn⟩ (by omega)
end Go.Proofs.YthjgmldnegaaiaaGreatDoor.Mir
