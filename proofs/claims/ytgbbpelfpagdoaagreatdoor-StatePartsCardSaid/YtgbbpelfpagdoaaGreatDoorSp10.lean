/- Texts laid into one file: St, StC, StR, StQ, Ix, StB, StD, StE, StF. -/
import Derived.Test.YtgbbpelfpagdoaaGreatDoorSp09
set_option linter.unusedVariables false
set_option linter.unusedSimpArgs false
namespace Go.Proofs.YtgbbpelfpagdoaaGreatDoor.Mir
open Go Go.RowKit
set_option maxHeartbeats 4000000
structure Nn where
  st : Int
  tr : Int
  due : Int
  data : Bs
  deriving Inhabited,DecidableEq
def Nn.cs (x : Nn) : List F:=[iF x.st,iF x.tr,iF x.due,fY x.data]
structure Tm where
  name : Bs
  due : Int
  fired : Bool
  deriving Inhabited,DecidableEq
def Tm.cs (x : Tm) : List F:=[.v (.string (BB x.name)),iF x.due,bF x.fired]
structure Sg where
  name : Bs
  id : Int
  data : Bs
  deriving Inhabited,DecidableEq
def Sg.cs (x : Sg) : List F:=[.v (.string (BB x.name)),iF x.id,fY x.data]
def fNn (l : List Nn) : F:=.s (l.flatMap Nn.cs) l.length
def fTm (l : List Tm) : F:=.s (l.flatMap Tm.cs) l.length
def fSg (l : List Sg) : F:=.s (l.flatMap Sg.cs) l.length
structure S12 where
  id : Int
  ver : Int
  time : Int
  closed : Int
  cancel : Bool
  defs : List Nd
  nodes : List Nn
  tms : List Tm
  sgs : List Sg
  deriving Inhabited,DecidableEq
theorem cs_Nn (x : Nn) : x.cs.length = 4:=rfl
theorem slcS_fNn {g : List Nn} : slcS (.f (fNn g)) = some g.length:=id rfl
theorem idxS_fNn {g : List Nn} {sz : Nat} {k : IntKind} {i : Int} {K : D → Prop} : idxS sz (.f (fNn g)) (.f (.v (.int k i))) K = ((0 ≤ i ∧ i < g.length) ∧ K (.rf ((g.flatMap Nn.cs).drop (i.toNat * sz)))):=id rfl
theorem elemsS_fNn {H : List Row} {g : List Nn} {sz : Nat} : elemsS H sz (.f (fNn g)) = some (g.length,g.flatMap Nn.cs):=id rfl
theorem nilq_fNn {k : Nat} {g : List Nn} {K : Bool → Prop} : nilqS k (.f (fNn g)) (.f (.v (.slice none 0 0))) K = (k = 0 ∧ Nz g.length (K true) (K false)):=id rfl
theorem len_fNn {g : List Nn} : (g.flatMap Nn.cs).length = g.length * 4:=flat_len' cs_Nn g
theorem load_fNn {H : List Row} {g : List Nn} {k : Nat} (hk : k < g.length) : loadA H 4 (.rf ((g.flatMap Nn.cs).drop (k * 4))) = some (.ag ((Nn.cs (gt g k)).map .f)):=flat_loadA cs_Nn hk
theorem at0_fNn {g : List Nn} {k : Nat} (hk : k < g.length) : (g.flatMap Nn.cs)[k * 4]? = (Nn.cs (gt g k))[0]?:=flat_at (j:=0) cs_Nn hk (by omega)
theorem at1_fNn {g : List Nn} {k : Nat} (hk : k < g.length) : (g.flatMap Nn.cs)[k * 4 + 1]? = (Nn.cs (gt g k))[1]?:=flat_at (j:=1) cs_Nn hk (by omega)
theorem at2_fNn {g : List Nn} {k : Nat} (hk : k < g.length) : (g.flatMap Nn.cs)[k * 4 + 2]? = (Nn.cs (gt g k))[2]?:=flat_at (j:=2) cs_Nn hk (by omega)
theorem at3_fNn {g : List Nn} {k : Nat} (hk : k < g.length) : (g.flatMap Nn.cs)[k * 4 + 3]? = (Nn.cs (gt g k))[3]?:=flat_at (j:=3) cs_Nn hk (by omega)
theorem cs_Tm (x : Tm) : x.cs.length = 3:=rfl
theorem slcS_fTm {g : List Tm} : slcS (.f (fTm g)) = some g.length:=id rfl
theorem idxS_fTm {g : List Tm} {sz : Nat} {k : IntKind} {i : Int} {K : D → Prop} : idxS sz (.f (fTm g)) (.f (.v (.int k i))) K = ((0 ≤ i ∧ i < g.length) ∧ K (.rf ((g.flatMap Tm.cs).drop (i.toNat * sz)))):=id rfl
theorem elemsS_fTm {H : List Row} {g : List Tm} {sz : Nat} : elemsS H sz (.f (fTm g)) = some (g.length,g.flatMap Tm.cs):=id rfl
theorem nilq_fTm {k : Nat} {g : List Tm} {K : Bool → Prop} : nilqS k (.f (fTm g)) (.f (.v (.slice none 0 0))) K = (k = 0 ∧ Nz g.length (K true) (K false)):=id rfl
theorem len_fTm {g : List Tm} : (g.flatMap Tm.cs).length = g.length * 3:=flat_len' cs_Tm g
theorem load_fTm {H : List Row} {g : List Tm} {k : Nat} (hk : k < g.length) : loadA H 3 (.rf ((g.flatMap Tm.cs).drop (k * 3))) = some (.ag ((Tm.cs (gt g k)).map .f)):=flat_loadA cs_Tm hk
theorem at0_fTm {g : List Tm} {k : Nat} (hk : k < g.length) : (g.flatMap Tm.cs)[k * 3]? = (Tm.cs (gt g k))[0]?:=flat_at (j:=0) cs_Tm hk (by omega)
theorem at1_fTm {g : List Tm} {k : Nat} (hk : k < g.length) : (g.flatMap Tm.cs)[k * 3 + 1]? = (Tm.cs (gt g k))[1]?:=flat_at (j:=1) cs_Tm hk (by omega)
theorem at2_fTm {g : List Tm} {k : Nat} (hk : k < g.length) : (g.flatMap Tm.cs)[k * 3 + 2]? = (Tm.cs (gt g k))[2]?:=flat_at (j:=2) cs_Tm hk (by omega)
theorem cs_Sg (x : Sg) : x.cs.length = 3:=rfl
theorem slcS_fSg {g : List Sg} : slcS (.f (fSg g)) = some g.length:=id rfl
theorem idxS_fSg {g : List Sg} {sz : Nat} {k : IntKind} {i : Int} {K : D → Prop} : idxS sz (.f (fSg g)) (.f (.v (.int k i))) K = ((0 ≤ i ∧ i < g.length) ∧ K (.rf ((g.flatMap Sg.cs).drop (i.toNat * sz)))):=id rfl
theorem elemsS_fSg {H : List Row} {g : List Sg} {sz : Nat} : elemsS H sz (.f (fSg g)) = some (g.length,g.flatMap Sg.cs):=id rfl
theorem nilq_fSg {k : Nat} {g : List Sg} {K : Bool → Prop} : nilqS k (.f (fSg g)) (.f (.v (.slice none 0 0))) K = (k = 0 ∧ Nz g.length (K true) (K false)):=id rfl
theorem len_fSg {g : List Sg} : (g.flatMap Sg.cs).length = g.length * 3:=flat_len' cs_Sg g
theorem load_fSg {H : List Row} {g : List Sg} {k : Nat} (hk : k < g.length) : loadA H 3 (.rf ((g.flatMap Sg.cs).drop (k * 3))) = some (.ag ((Sg.cs (gt g k)).map .f)):=flat_loadA cs_Sg hk
theorem at0_fSg {g : List Sg} {k : Nat} (hk : k < g.length) : (g.flatMap Sg.cs)[k * 3]? = (Sg.cs (gt g k))[0]?:=flat_at (j:=0) cs_Sg hk (by omega)
theorem at2_fSg {g : List Sg} {k : Nat} (hk : k < g.length) : (g.flatMap Sg.cs)[k * 3 + 2]? = (Sg.cs (gt g k))[2]?:=flat_at (j:=2) cs_Sg hk (by omega)
theorem len_fG {g : List Nd} : (g.flatMap Nd.cs).length = g.length * 3:=flat_len' Nd.cs_len g
theorem LSt : (((type_of% @slcS_fNn ∧ (type_of% @idxS_fNn ∧ type_of% @elemsS_fNn)) ∧ (type_of% @nilq_fNn ∧ (type_of% @slcS_fTm ∧ type_of% @idxS_fTm))) ∧ ((type_of% @elemsS_fTm ∧ (type_of% @nilq_fTm ∧ type_of% @slcS_fSg)) ∧ (type_of% @idxS_fSg ∧ (type_of% @elemsS_fSg ∧ type_of% @nilq_fSg)))) :=
  ⟨⟨⟨@slcS_fNn,⟨@idxS_fNn,@elemsS_fNn⟩⟩,⟨@nilq_fNn,⟨@slcS_fTm,@idxS_fTm⟩⟩⟩,⟨⟨@elemsS_fTm,⟨@nilq_fTm,@slcS_fSg⟩⟩,⟨@idxS_fSg,⟨@elemsS_fSg,@nilq_fSg⟩⟩⟩⟩
theorem c_byte_CloneF (l : Bs) (hl : l.length ≤ 1000000) : Con Tryz.prog 47 [.f (fY l)] [] fun r H'=>r = .f (fY l) ∧ H' = []:=by
  refine Con.walk good fn_byte_Clone (by simp) ?_
  unfold s_byte_Clone
  simp only [argsE]
  repeat' (first|(with_reducible first|refine Wx.h ?_|refine Wb.h fun K hK=>?_|(refine hK _ ?_;clear hK K)|(refine wT ?_ ?_;· assumption)|(refine wF ?_ ?_;· assumption))|((with_reducible refine kQ ?_ ?_);kernel_rfl)|((with_reducible refine k1 ?_ ?_);rfl)|((with_reducible refine k0 ?_ ?_);rfl)|((with_reducible apply kB)<;>first|rfl|intro h)|((with_reducible refine kM ?_ ?_);rfl)|(with_reducible refine Wq.h ?_ ?_)<;>intro h<;>try (exfalso;omega)|(with_reducible refine Wu.h ?_ ?_)<;>intro h<;>try simp only [h]|((fail_if_success with_reducible refine Wz.h ?_);first|simp (disch:=omega) only [↓LD,LA,loadA_rf,seval,LSt,List.length_map]|((with_reducible refine And.intro ?_ ?_);omega)|simp only [D.int,D.bool]))
  · obtain rfl:=List.eq_nil_of_length_eq_zero h
    exact end1 rfl rfl (by kernel_rfl) .nil ⟨rfl,rfl⟩
  · obtain rfl:=List.eq_nil_of_length_eq_zero h
    exact end1 rfl rfl (by kernel_rfl) (.sl (T:=5) (xs:=[]) rfl (fun _=>rfl)) ⟨rfl,rfl⟩
  · exact end1 rfl rfl (by kernel_rfl) (.sl (T:=5) (xs:=l.map uF) rfl (fun e=>absurd e h)) ⟨rfl,rfl⟩
instance {l : Bs} {H : List Row} {K : D → List Row → Prop} : Wa (callW Tryz.prog (.fn 47 []) [.f (fY l)] H K) (l.length ≤ 1000000 ∧ K (.f (fY l)) H):=⟨fun h=>callW_pure (c_byte_CloneF l h.1) rfl rfl rfl h.2⟩
instance {l : Bs} {H : List Row} {K : Bool → D → List Row → Prop} : Wa (callDr Tryz.prog (.fn 47 []) [.f (fY l)] H K) (l.length ≤ 1000000 ∧ K true (.f (fY l)) H):=⟨fun h=>callDr_pure (c_byte_CloneF l h.1) rfl rfl rfl h.2⟩
theorem c_int_CloneF (l : List Int) (hl : l.length ≤ 1000000) : Con Tryz.prog 81 [.f (fI l)] [] fun r H'=>r = .f (fI l) ∧ H' = []:=by
  refine Con.walk good fn_int_Clone (by simp) ?_
  unfold s_int_Clone
  simp only [argsE]
  repeat' (first|(with_reducible first|refine Wx.h ?_|refine Wb.h fun K hK=>?_|(refine hK _ ?_;clear hK K)|(refine wT ?_ ?_;· assumption)|(refine wF ?_ ?_;· assumption))|((with_reducible refine kQ ?_ ?_);kernel_rfl)|((with_reducible refine k1 ?_ ?_);rfl)|((with_reducible refine k0 ?_ ?_);rfl)|((with_reducible apply kB)<;>first|rfl|intro h)|((with_reducible refine kM ?_ ?_);rfl)|(with_reducible refine Wq.h ?_ ?_)<;>intro h<;>try (exfalso;omega)|(with_reducible refine Wu.h ?_ ?_)<;>intro h<;>try simp only [h]|((fail_if_success with_reducible refine Wz.h ?_);first|simp (disch:=omega) only [↓LD,LA,loadA_rf,seval,LSt,List.length_map]|((with_reducible refine And.intro ?_ ?_);omega)|simp only [D.int,D.bool]))
  · obtain rfl:=List.eq_nil_of_length_eq_zero h
    exact end1 rfl rfl (by kernel_rfl) .nil ⟨rfl,rfl⟩
  · obtain rfl:=List.eq_nil_of_length_eq_zero h
    exact end1 rfl rfl (by kernel_rfl) (.sl (T:=3) (xs:=[]) rfl (fun _=>rfl)) ⟨rfl,rfl⟩
  · exact end1 rfl rfl (by kernel_rfl) (.sl (T:=3) (xs:=l.map iF) rfl (fun e=>absurd e h)) ⟨rfl,rfl⟩
instance {l : List Int} {H : List Row} {K : Bool → D → List Row → Prop} : Wa (callDr Tryz.prog (.fn 81 []) [.f (fI l)] H K) (l.length ≤ 1000000 ∧ K true (.f (fI l)) H):=⟨fun h=>callDr_pure (c_int_CloneF l h.1) rfl rfl rfl h.2⟩
theorem c_def_CloneU (l : List Nd) (hl : l.length ≤ 1000000) : Con Tryz.prog 80 [.f (fG l)] [] fun r H'=>r = .sl 0 0 l.length ∧ H' = [.data 48 (l.flatMap Nd.cs)]:=by
  refine Con.walk good fn_def_Clone (by simp) ?_
  unfold s_def_Clone
  simp only [argsE]
  repeat' (first|(with_reducible first|refine Wa.h ?_|refine Ws.h ?_|refine Wb.h fun K hK=>?_|(refine hK _ ?_;clear hK K)|(refine wT ?_ ?_;· assumption)|(refine wF ?_ ?_;· assumption))|((with_reducible refine kQ ?_ ?_);kernel_rfl)|((with_reducible refine k1 ?_ ?_);rfl)|((with_reducible refine k0 ?_ ?_);rfl)|((with_reducible apply kB)<;>first|rfl|intro h)|((with_reducible refine kM ?_ ?_);rfl)|(with_reducible refine Wq.h ?_ ?_)<;>intro h<;>try (exfalso;omega)|(with_reducible refine Wu.h ?_ ?_)<;>intro h<;>try simp only [h]|((fail_if_success with_reducible refine Wz.h ?_);first|simp (disch:=omega) only [↓LD,LA,loadA_rf,seval,LSt,len_fG]|((with_reducible refine And.intro ?_ ?_);omega)|simp only [D.int,D.bool]))
  · obtain rfl:=List.eq_nil_of_length_eq_zero h
    refine HS.view ((View.void 48).trans (View.slot 2 (.sl 0 0 0) (.no (by simp)))) ?_
    repeat' (first|(with_reducible first|refine Wx.h ?_|refine Wb.h fun K hK=>?_|(refine hK _ ?_;clear hK K)|(refine wT ?_ ?_;· assumption)|(refine wF ?_ ?_;· assumption))|((with_reducible refine kQ ?_ ?_);kernel_rfl)|((with_reducible refine k1 ?_ ?_);rfl)|((with_reducible refine k0 ?_ ?_);rfl)|((with_reducible apply kB)<;>first|rfl|intro h)|((with_reducible refine kM ?_ ?_);rfl)|(with_reducible refine Wq.h ?_ ?_)<;>intro h<;>try (exfalso;omega)|(with_reducible refine Wu.h ?_ ?_)<;>intro h<;>try simp only [h]|((fail_if_success with_reducible refine Wz.h ?_);first|simp (disch:=omega) only [↓LD,LA,loadA_rf,seval]|((with_reducible refine And.intro ?_ ?_);omega)|simp only [D.int,D.bool]))
    exact endA rfl rfl ⟨rfl,rfl⟩
  · obtain rfl:=List.eq_nil_of_length_eq_zero h
    repeat' (first|(with_reducible first|refine Wx.h ?_|refine Wb.h fun K hK=>?_|(refine hK _ ?_;clear hK K)|(refine wT ?_ ?_;· assumption)|(refine wF ?_ ?_;· assumption))|((with_reducible refine kQ ?_ ?_);kernel_rfl)|((with_reducible refine k1 ?_ ?_);rfl)|((with_reducible refine k0 ?_ ?_);rfl)|((with_reducible apply kB)<;>first|rfl|intro h)|((with_reducible refine kM ?_ ?_);rfl)|(with_reducible refine Wq.h ?_ ?_)<;>intro h<;>try (exfalso;omega)|(with_reducible refine Wu.h ?_ ?_)<;>intro h<;>try simp only [h]|((fail_if_success with_reducible refine Wz.h ?_);first|simp (disch:=omega) only [↓LD,LA,loadA_rf,seval]|((with_reducible refine And.intro ?_ ?_);omega)|simp only [D.int,D.bool]))
    exact endA rfl rfl ⟨rfl,rfl⟩
  · repeat' (first|(with_reducible first|refine Wx.h ?_|refine Wb.h fun K hK=>?_|(refine hK _ ?_;clear hK K)|(refine wT ?_ ?_;· assumption)|(refine wF ?_ ?_;· assumption))|((with_reducible refine kQ ?_ ?_);kernel_rfl)|((with_reducible refine k1 ?_ ?_);rfl)|((with_reducible refine k0 ?_ ?_);rfl)|((with_reducible apply kB)<;>first|rfl|intro h)|((with_reducible refine kM ?_ ?_);rfl)|(with_reducible refine Wq.h ?_ ?_)<;>intro h<;>try (exfalso;omega)|(with_reducible refine Wu.h ?_ ?_)<;>intro h<;>try simp only [h]|((fail_if_success with_reducible refine Wz.h ?_);first|simp (disch:=omega) only [↓LD,LA,loadA_rf,seval]|((with_reducible refine And.intro ?_ ?_);omega)|simp only [D.int,D.bool]))
    exact endG rfl rfl (ef:=⟨.sl 0 0 l.length,[],[.data 48 (l.flatMap Nd.cs)]⟩) (by kernel_rfl) ⟨rfl,rfl⟩
instance {l : List Nd} {H : List Row} {K : Bool → D → List Row → Prop} : Wa (callDr Tryz.prog (.fn 80 []) [.f (fG l)] H K) (l.length ≤ 1000000 ∧ K true (.sl H.length 0 l.length) (H ++ [.data 48 (l.flatMap Nd.cs)])):=⟨fun h=>callDr_new (c_def_CloneU l h.1) rfl rfl (fun _=>rfl) h.2⟩
theorem c_nd_CloneU (l : List Nn) (hl : l.length ≤ 1000000) : Con Tryz.prog 44 [.f (fNn l)] [] fun r H'=>r = .sl 0 0 l.length ∧ H' = [.data 51 (l.flatMap Nn.cs)]:=by
  refine Con.walk good fn_nd_Clone (by simp) ?_
  unfold s_nd_Clone
  simp only [argsE]
  repeat' (first|(with_reducible first|refine Wa.h ?_|refine Ws.h ?_|refine Wb.h fun K hK=>?_|(refine hK _ ?_;clear hK K)|(refine wT ?_ ?_;· assumption)|(refine wF ?_ ?_;· assumption))|((with_reducible refine kQ ?_ ?_);kernel_rfl)|((with_reducible refine k1 ?_ ?_);rfl)|((with_reducible refine k0 ?_ ?_);rfl)|((with_reducible apply kB)<;>first|rfl|intro h)|((with_reducible refine kM ?_ ?_);rfl)|(with_reducible refine Wq.h ?_ ?_)<;>intro h<;>try (exfalso;omega)|(with_reducible refine Wu.h ?_ ?_)<;>intro h<;>try simp only [h]|((fail_if_success with_reducible refine Wz.h ?_);first|simp (disch:=omega) only [↓LD,LA,loadA_rf,seval,LSt,len_fNn]|((with_reducible refine And.intro ?_ ?_);omega)|simp only [D.int,D.bool]))
  · obtain rfl:=List.eq_nil_of_length_eq_zero h
    refine HS.view ((View.void 51).trans (View.slot 2 (.sl 0 0 0) (.no (by simp)))) ?_
    repeat' (first|(with_reducible first|refine Wx.h ?_|refine Wb.h fun K hK=>?_|(refine hK _ ?_;clear hK K)|(refine wT ?_ ?_;· assumption)|(refine wF ?_ ?_;· assumption))|((with_reducible refine kQ ?_ ?_);kernel_rfl)|((with_reducible refine k1 ?_ ?_);rfl)|((with_reducible refine k0 ?_ ?_);rfl)|((with_reducible apply kB)<;>first|rfl|intro h)|((with_reducible refine kM ?_ ?_);rfl)|(with_reducible refine Wq.h ?_ ?_)<;>intro h<;>try (exfalso;omega)|(with_reducible refine Wu.h ?_ ?_)<;>intro h<;>try simp only [h]|((fail_if_success with_reducible refine Wz.h ?_);first|simp (disch:=omega) only [↓LD,LA,loadA_rf,seval]|((with_reducible refine And.intro ?_ ?_);omega)|simp only [D.int,D.bool]))
    exact endA rfl rfl ⟨rfl,rfl⟩
  · obtain rfl:=List.eq_nil_of_length_eq_zero h
    repeat' (first|(with_reducible first|refine Wx.h ?_|refine Wb.h fun K hK=>?_|(refine hK _ ?_;clear hK K)|(refine wT ?_ ?_;· assumption)|(refine wF ?_ ?_;· assumption))|((with_reducible refine kQ ?_ ?_);kernel_rfl)|((with_reducible refine k1 ?_ ?_);rfl)|((with_reducible refine k0 ?_ ?_);rfl)|((with_reducible apply kB)<;>first|rfl|intro h)|((with_reducible refine kM ?_ ?_);rfl)|(with_reducible refine Wq.h ?_ ?_)<;>intro h<;>try (exfalso;omega)|(with_reducible refine Wu.h ?_ ?_)<;>intro h<;>try simp only [h]|((fail_if_success with_reducible refine Wz.h ?_);first|simp (disch:=omega) only [↓LD,LA,loadA_rf,seval]|((with_reducible refine And.intro ?_ ?_);omega)|simp only [D.int,D.bool]))
    exact endA rfl rfl ⟨rfl,rfl⟩
  · repeat' (first|(with_reducible first|refine Wx.h ?_|refine Wb.h fun K hK=>?_|(refine hK _ ?_;clear hK K)|(refine wT ?_ ?_;· assumption)|(refine wF ?_ ?_;· assumption))|((with_reducible refine kQ ?_ ?_);kernel_rfl)|((with_reducible refine k1 ?_ ?_);rfl)|((with_reducible refine k0 ?_ ?_);rfl)|((with_reducible apply kB)<;>first|rfl|intro h)|((with_reducible refine kM ?_ ?_);rfl)|(with_reducible refine Wq.h ?_ ?_)<;>intro h<;>try (exfalso;omega)|(with_reducible refine Wu.h ?_ ?_)<;>intro h<;>try simp only [h]|((fail_if_success with_reducible refine Wz.h ?_);first|simp (disch:=omega) only [↓LD,LA,loadA_rf,seval]|((with_reducible refine And.intro ?_ ?_);omega)|simp only [D.int,D.bool]))
    exact endG rfl rfl (ef:=⟨.sl 0 0 l.length,[],[.data 51 (l.flatMap Nn.cs)]⟩) (by kernel_rfl) ⟨rfl,rfl⟩
instance {l : List Nn} {H : List Row} {K : Bool → D → List Row → Prop} : Wa (callDr Tryz.prog (.fn 44 []) [.f (fNn l)] H K) (l.length ≤ 1000000 ∧ K true (.sl H.length 0 l.length) (H ++ [.data 51 (l.flatMap Nn.cs)])):=⟨fun h=>callDr_new (c_nd_CloneU l h.1) rfl rfl (fun _=>rfl) h.2⟩
theorem c_tm_CloneU (l : List Tm) (hl : l.length ≤ 1000000) : Con Tryz.prog 45 [.f (fTm l)] [] fun r H'=>r = .sl 0 0 l.length ∧ H' = [.data 57 (l.flatMap Tm.cs)]:=by
  refine Con.walk good fn_tm_Clone (by simp) ?_
  unfold s_tm_Clone
  simp only [argsE]
  repeat' (first|(with_reducible first|refine Wa.h ?_|refine Ws.h ?_|refine Wb.h fun K hK=>?_|(refine hK _ ?_;clear hK K)|(refine wT ?_ ?_;· assumption)|(refine wF ?_ ?_;· assumption))|((with_reducible refine kQ ?_ ?_);kernel_rfl)|((with_reducible refine k1 ?_ ?_);rfl)|((with_reducible refine k0 ?_ ?_);rfl)|((with_reducible apply kB)<;>first|rfl|intro h)|((with_reducible refine kM ?_ ?_);rfl)|(with_reducible refine Wq.h ?_ ?_)<;>intro h<;>try (exfalso;omega)|(with_reducible refine Wu.h ?_ ?_)<;>intro h<;>try simp only [h]|((fail_if_success with_reducible refine Wz.h ?_);first|simp (disch:=omega) only [↓LD,LA,loadA_rf,seval,LSt,len_fTm]|((with_reducible refine And.intro ?_ ?_);omega)|simp only [D.int,D.bool]))
  · obtain rfl:=List.eq_nil_of_length_eq_zero h
    refine HS.view ((View.void 57).trans (View.slot 2 (.sl 0 0 0) (.no (by simp)))) ?_
    repeat' (first|(with_reducible first|refine Wx.h ?_|refine Wb.h fun K hK=>?_|(refine hK _ ?_;clear hK K)|(refine wT ?_ ?_;· assumption)|(refine wF ?_ ?_;· assumption))|((with_reducible refine kQ ?_ ?_);kernel_rfl)|((with_reducible refine k1 ?_ ?_);rfl)|((with_reducible refine k0 ?_ ?_);rfl)|((with_reducible apply kB)<;>first|rfl|intro h)|((with_reducible refine kM ?_ ?_);rfl)|(with_reducible refine Wq.h ?_ ?_)<;>intro h<;>try (exfalso;omega)|(with_reducible refine Wu.h ?_ ?_)<;>intro h<;>try simp only [h]|((fail_if_success with_reducible refine Wz.h ?_);first|simp (disch:=omega) only [↓LD,LA,loadA_rf,seval]|((with_reducible refine And.intro ?_ ?_);omega)|simp only [D.int,D.bool]))
    exact endA rfl rfl ⟨rfl,rfl⟩
  · obtain rfl:=List.eq_nil_of_length_eq_zero h
    repeat' (first|(with_reducible first|refine Wx.h ?_|refine Wb.h fun K hK=>?_|(refine hK _ ?_;clear hK K)|(refine wT ?_ ?_;· assumption)|(refine wF ?_ ?_;· assumption))|((with_reducible refine kQ ?_ ?_);kernel_rfl)|((with_reducible refine k1 ?_ ?_);rfl)|((with_reducible refine k0 ?_ ?_);rfl)|((with_reducible apply kB)<;>first|rfl|intro h)|((with_reducible refine kM ?_ ?_);rfl)|(with_reducible refine Wq.h ?_ ?_)<;>intro h<;>try (exfalso;omega)|(with_reducible refine Wu.h ?_ ?_)<;>intro h<;>try simp only [h]|((fail_if_success with_reducible refine Wz.h ?_);first|simp (disch:=omega) only [↓LD,LA,loadA_rf,seval]|((with_reducible refine And.intro ?_ ?_);omega)|simp only [D.int,D.bool]))
    exact endA rfl rfl ⟨rfl,rfl⟩
  · repeat' (first|(with_reducible first|refine Wx.h ?_|refine Wb.h fun K hK=>?_|(refine hK _ ?_;clear hK K)|(refine wT ?_ ?_;· assumption)|(refine wF ?_ ?_;· assumption))|((with_reducible refine kQ ?_ ?_);kernel_rfl)|((with_reducible refine k1 ?_ ?_);rfl)|((with_reducible refine k0 ?_ ?_);rfl)|((with_reducible apply kB)<;>first|rfl|intro h)|((with_reducible refine kM ?_ ?_);rfl)|(with_reducible refine Wq.h ?_ ?_)<;>intro h<;>try (exfalso;omega)|(with_reducible refine Wu.h ?_ ?_)<;>intro h<;>try simp only [h]|((fail_if_success with_reducible refine Wz.h ?_);first|simp (disch:=omega) only [↓LD,LA,loadA_rf,seval]|((with_reducible refine And.intro ?_ ?_);omega)|simp only [D.int,D.bool]))
    exact endG rfl rfl (ef:=⟨.sl 0 0 l.length,[],[.data 57 (l.flatMap Tm.cs)]⟩) (by kernel_rfl) ⟨rfl,rfl⟩
instance {l : List Tm} {H : List Row} {K : Bool → D → List Row → Prop} : Wa (callDr Tryz.prog (.fn 45 []) [.f (fTm l)] H K) (l.length ≤ 1000000 ∧ K true (.sl H.length 0 l.length) (H ++ [.data 57 (l.flatMap Tm.cs)])):=⟨fun h=>callDr_new (c_tm_CloneU l h.1) rfl rfl (fun _=>rfl) h.2⟩
theorem c_sg_CloneU (l : List Sg) (hl : l.length ≤ 1000000) : Con Tryz.prog 46 [.f (fSg l)] [] fun r H'=>r = .sl 0 0 l.length ∧ H' = [.data 60 (l.flatMap Sg.cs)]:=by
  refine Con.walk good fn_sg_Clone (by simp) ?_
  unfold s_sg_Clone
  simp only [argsE]
  repeat' (first|(with_reducible first|refine Wa.h ?_|refine Ws.h ?_|refine Wb.h fun K hK=>?_|(refine hK _ ?_;clear hK K)|(refine wT ?_ ?_;· assumption)|(refine wF ?_ ?_;· assumption))|((with_reducible refine kQ ?_ ?_);kernel_rfl)|((with_reducible refine k1 ?_ ?_);rfl)|((with_reducible refine k0 ?_ ?_);rfl)|((with_reducible apply kB)<;>first|rfl|intro h)|((with_reducible refine kM ?_ ?_);rfl)|(with_reducible refine Wq.h ?_ ?_)<;>intro h<;>try (exfalso;omega)|(with_reducible refine Wu.h ?_ ?_)<;>intro h<;>try simp only [h]|((fail_if_success with_reducible refine Wz.h ?_);first|simp (disch:=omega) only [↓LD,LA,loadA_rf,seval,LSt,len_fSg]|((with_reducible refine And.intro ?_ ?_);omega)|simp only [D.int,D.bool]))
  · obtain rfl:=List.eq_nil_of_length_eq_zero h
    refine HS.view ((View.void 60).trans (View.slot 2 (.sl 0 0 0) (.no (by simp)))) ?_
    repeat' (first|(with_reducible first|refine Wx.h ?_|refine Wb.h fun K hK=>?_|(refine hK _ ?_;clear hK K)|(refine wT ?_ ?_;· assumption)|(refine wF ?_ ?_;· assumption))|((with_reducible refine kQ ?_ ?_);kernel_rfl)|((with_reducible refine k1 ?_ ?_);rfl)|((with_reducible refine k0 ?_ ?_);rfl)|((with_reducible apply kB)<;>first|rfl|intro h)|((with_reducible refine kM ?_ ?_);rfl)|(with_reducible refine Wq.h ?_ ?_)<;>intro h<;>try (exfalso;omega)|(with_reducible refine Wu.h ?_ ?_)<;>intro h<;>try simp only [h]|((fail_if_success with_reducible refine Wz.h ?_);first|simp (disch:=omega) only [↓LD,LA,loadA_rf,seval]|((with_reducible refine And.intro ?_ ?_);omega)|simp only [D.int,D.bool]))
    exact endA rfl rfl ⟨rfl,rfl⟩
  · obtain rfl:=List.eq_nil_of_length_eq_zero h
    repeat' (first|(with_reducible first|refine Wx.h ?_|refine Wb.h fun K hK=>?_|(refine hK _ ?_;clear hK K)|(refine wT ?_ ?_;· assumption)|(refine wF ?_ ?_;· assumption))|((with_reducible refine kQ ?_ ?_);kernel_rfl)|((with_reducible refine k1 ?_ ?_);rfl)|((with_reducible refine k0 ?_ ?_);rfl)|((with_reducible apply kB)<;>first|rfl|intro h)|((with_reducible refine kM ?_ ?_);rfl)|(with_reducible refine Wq.h ?_ ?_)<;>intro h<;>try (exfalso;omega)|(with_reducible refine Wu.h ?_ ?_)<;>intro h<;>try simp only [h]|((fail_if_success with_reducible refine Wz.h ?_);first|simp (disch:=omega) only [↓LD,LA,loadA_rf,seval]|((with_reducible refine And.intro ?_ ?_);omega)|simp only [D.int,D.bool]))
    exact endA rfl rfl ⟨rfl,rfl⟩
  · repeat' (first|(with_reducible first|refine Wx.h ?_|refine Wb.h fun K hK=>?_|(refine hK _ ?_;clear hK K)|(refine wT ?_ ?_;· assumption)|(refine wF ?_ ?_;· assumption))|((with_reducible refine kQ ?_ ?_);kernel_rfl)|((with_reducible refine k1 ?_ ?_);rfl)|((with_reducible refine k0 ?_ ?_);rfl)|((with_reducible apply kB)<;>first|rfl|intro h)|((with_reducible refine kM ?_ ?_);rfl)|(with_reducible refine Wq.h ?_ ?_)<;>intro h<;>try (exfalso;omega)|(with_reducible refine Wu.h ?_ ?_)<;>intro h<;>try simp only [h]|((fail_if_success with_reducible refine Wz.h ?_);first|simp (disch:=omega) only [↓LD,LA,loadA_rf,seval]|((with_reducible refine And.intro ?_ ?_);omega)|simp only [D.int,D.bool]))
    exact endG rfl rfl (ef:=⟨.sl 0 0 l.length,[],[.data 60 (l.flatMap Sg.cs)]⟩) (by kernel_rfl) ⟨rfl,rfl⟩
instance {l : List Sg} {H : List Row} {K : Bool → D → List Row → Prop} : Wa (callDr Tryz.prog (.fn 46 []) [.f (fSg l)] H K) (l.length ≤ 1000000 ∧ K true (.sl H.length 0 l.length) (H ++ [.data 60 (l.flatMap Sg.cs)])):=⟨fun h=>callDr_new (c_sg_CloneU l h.1) rfl rfl (fun _=>rfl) h.2⟩
theorem set_self {α : Type} {xs : List α} {i : Nat} {x : α} (h : xs[i]? = some x) : xs.set i x = xs:=by
  apply List.ext_getElem?
  intro j
  rw [List.getElem?_set]
  split
  · rename_i e;subst e
    have:=(List.getElem?_eq_some_iff.1 h).1
    rw [if_pos this,h]
  · rfl
def evBL (e : Ev) : Row:=.box 42 [D.int e.id,D.int e.ver,D.int e.time,D.int e.ty,D.int e.node,D.int e.n,.f (.v (.string (BB e.name))),.f (fY e.data),.sl 1 0 e.defs.length]
def evN : Row:=.box 42 [jI,jI,jI,jI,jI,jI,.f (.v (.string ⟨#[]⟩)),jN,jN]
theorem c_ev_Copy (e : Ev) (hf : FitN e.defs) (hl : e.defs.length ≤ 1000000) (hd : e.data.length ≤ 1000000) : Con Tryz.prog 43 [evD e] [] fun r H'=>r = evD e ∧ H' = []:=by
  refine Con.walk good fn_ev_Copy (by simp) ?_
  unfold s_ev_Copy evD
  simp only [argsE]
  repeat' (first|(with_reducible first|refine Wx.h ?_|refine We.h fun K hK=>?_|refine Wd.h fun K M hK hM=>?_|(refine hK _ _ _ _ ?_;clear hK K;try clear hM M)|(refine hM ?_;clear hM M;try clear hK K)|refine Wb.h fun K hK=>?_|(refine hK _ ?_;clear hK K)|(refine wT ?_ ?_;· assumption)|(refine wF ?_ ?_;· assumption))|((with_reducible refine kQ ?_ ?_);kernel_rfl)|((with_reducible refine k1 ?_ ?_);rfl)|((with_reducible refine k0 ?_ ?_);rfl)|((with_reducible apply kB)<;>first|rfl|intro h)|((with_reducible refine kM ?_ ?_);rfl)|(with_reducible refine Wq.h ?_ ?_)<;>intro h<;>try (exfalso;omega)|(with_reducible refine Wu.h ?_ ?_)<;>intro h<;>try simp only [h]|((fail_if_success with_reducible refine Wz.h ?_);first|simp (disch:=omega) only [↓LD,LA,loadA_rf,seval]|((with_reducible refine And.intro ?_ ?_);omega)|simp only [D.int,D.bool]))
  obtain ⟨id,ver,time,ty,node,n,name,data,defs⟩:=e
  dsimp only at hf hl hd ⊢
  refine HS.loopG [1,2,13,14,15] (fun k : Nat=>⟨frm 32 [(1,.pt 0 0),(2,.pt 2 0),(13,.sl 1 0 defs.length),(14,D.int defs.length),(15,D.int k)],[evBL ⟨id,ver,time,ty,node,n,name,data,defs⟩,.data 48 (defs.flatMap Nd.cs),evN],[]⟩)
    (fun k=>k ≤ defs.length) (fun k=>defs.length - k) 0 (by kernel_rfl) (Nat.zero_le _) ?_
  rintro k hk
  by_cases hkl : k < defs.length
  · have hg:=hf _ (gt_mem hkl)
    repeat' (first|(with_reducible first|refine Wx.h ?_|refine We.h fun K hK=>?_|refine Wd.h fun K M hK hM=>?_|(refine hK _ _ _ _ ?_;clear hK K;try clear hM M)|(refine hM ?_;clear hM M;try clear hK K)|refine Wb.h fun K hK=>?_|(refine hK _ ?_;clear hK K)|(refine wT ?_ ?_;· assumption)|(refine wF ?_ ?_;· assumption))|((with_reducible refine kQ ?_ ?_);kernel_rfl)|((with_reducible refine k1 ?_ ?_);rfl)|((with_reducible refine k0 ?_ ?_);rfl)|((with_reducible apply kB)<;>first|rfl|intro h)|((with_reducible refine kM ?_ ?_);rfl)|(with_reducible refine Wq.h ?_ ?_)<;>intro h<;>try (exfalso;omega)|(with_reducible refine Wu.h ?_ ?_)<;>intro h<;>try simp only [h]|((fail_if_success with_reducible refine Wz.h ?_);first|simp (disch:=omega) only [↓LD,LA,loadA_rf,seval,evBL,evN,nd_at0,len_fG]|((with_reducible refine And.intro ?_ ?_);omega)|simp only [D.int,D.bool]))
    rw [set_self (by rw [nd_at0 hkl])]
    exact Next.mk (k + 1) (by kernel_rfl) (by omega) (by omega)
  · repeat' (first|(with_reducible first|refine Wx.h ?_|refine Wb.h fun K hK=>?_|(refine hK _ ?_;clear hK K)|(refine wT ?_ ?_;· assumption)|(refine wF ?_ ?_;· assumption))|((with_reducible refine kQ ?_ ?_);kernel_rfl)|((with_reducible refine k1 ?_ ?_);rfl)|((with_reducible refine k0 ?_ ?_);rfl)|((with_reducible apply kB)<;>first|rfl|intro h)|((with_reducible refine kM ?_ ?_);rfl)|(with_reducible refine Wq.h ?_ ?_)<;>intro h<;>try (exfalso;omega)|(with_reducible refine Wu.h ?_ ?_)<;>intro h<;>try simp only [h]|((fail_if_success with_reducible refine Wz.h ?_);first|simp (disch:=omega) only [↓LD,LA,loadA_rf,seval,evBL,evN]|((with_reducible refine And.intro ?_ ?_);omega)|simp only [D.int,D.bool]))
    exact RetS.still (ds:=[.ag [D.int id,D.int ver,D.int time,D.int ty,D.int node,D.int n,.f (.v (.string (BB name))),.f (fY data),.sl 1 0 defs.length]]) (by kernel_rfl) (by kernel_rfl)
      (.ags (.cons .f (.cons .f (.cons .f (.cons .f (.cons .f (.cons .f (.cons .f (.cons .f (.cons (.sl (T:=48) (xs:=defs.flatMap Nd.cs) rfl (fun e=>by rw [List.eq_nil_of_length_eq_zero e];rfl)) .nil)))))))))) ⟨rfl,rfl⟩
instance {e : Ev} {H : List Row} {K : D → List Row → Prop} : Wa (callW Tryz.prog (.fn 43 []) [.ag [.f (.v (.int .i64 e.id)),.f (.v (.int .i64 e.ver)),.f (.v (.int .i64 e.time)),.f (.v (.int .i64 e.ty)),.f (.v (.int .i64 e.node)),.f (.v (.int .i64 e.n)),.f (.v (.string (BB e.name))),.f (fY e.data),.f (fG e.defs)]] H K)
    ((FitN e.defs ∧ e.defs.length ≤ 1000000 ∧ e.data.length ≤ 1000000) ∧ K (evD e) H) :=
  ⟨fun h=>callW_pure (c_ev_Copy e h.1.1 h.1.2.1 h.1.2.2) rfl rfl rfl h.2⟩
set_option maxHeartbeats 4000000
theorem Con.args' {P : Program} {f : FuncId} {args args' : List D} {H : List Row} {Q : D → List Row → Prop} (h : Con P f args H Q) (ha : ∀ (w : World) (φ : Nat → Nat × Nat) (A : Nat → Prop) (N : Nat) (vs : List Value),Rs P w φ A N args' vs → Rs P w φ A N args vs) : Con P f args' H Q :=
  ⟨h.1,fun w φ X vs hH hv=>h.2 w φ X vs hH (ha _ _ _ _ _ hv)⟩
theorem rs_wk {P : Program} {w : World} {φ : Nat → Nat × Nat} {A : Nat → Prop} {N : Nat} {ds ds' : List D} (hl : ds.length = ds'.length) (h : ∀ (i : Nat) (d d' : D),ds[i]? = some d → ds'[i]? = some d' → ∀ u,R P w φ A N d u → R P w φ A N d' u) {vs : List Value} (hr : Rs P w φ A N ds vs) : Rs P w φ A N ds' vs :=
  ⟨by rw [hr.1,hl],fun i d' u hd hu=>by
    have hi:=(List.getElem?_eq_some_iff.1 hd).1
    have hd0 : ds[i]? = some (ds[i]'(by omega)):=List.getElem?_eq_getElem (by omega)
    exact h i _ d' hd0 hd u (hr.2 i _ u hd0 hu)⟩
theorem r_agwk {P : Program} {w : World} {φ : Nat → Nat × Nat} {A : Nat → Prop} {N : Nat} {ds ds' : List D} (hl : ds.length = ds'.length) (h : ∀ (i : Nat) (d d' : D),ds[i]? = some d → ds'[i]? = some d' → ∀ u,R P w φ A N d u → R P w φ A N d' u) {v : Value} (hr : R P w φ A N (.ag ds) v) : R P w φ A N (.ag ds') v:=by
  cases hr with
  | ag hs hr h1 =>
    refine .ag (by rw [hs,hl]) (fun i d' u hd hu=>?_) h1
    have hi:=(List.getElem?_eq_some_iff.1 hd).1
    have hd0 : ds[i]? = some (ds[i]'(by omega)):=List.getElem?_eq_getElem (by omega)
    exact h i _ d' hd0 hd u (hr i _ u hd0 hu)
def evOf (ds : List Nd) : Ev:=⟨0,0,0,0,0,0,[],[],ds⟩
theorem c_ev_CopyD (ds : List Nd) (hf : FitN ds) (hl : ds.length ≤ 1000000) : Con Tryz.prog 43 [.ag [jI,jI,jI,jI,jI,jI,.f (.v (.string ⟨#[]⟩)),jN,.f (fG ds)]] [] fun r H'=>r = evD (evOf ds) ∧ H' = []:=by
  refine Con.args' (c_ev_Copy (evOf ds) hf hl (by simp [evOf])) ?_
  intro w φ A N vs hv
  refine rs_wk ?_ ?_ hv
  · rfl
  intro i d d' hd hd' u hr
  rcases i with _|i
  · simp only [List.getElem?_cons_zero,Option.some.injEq] at hd hd'
    subst hd;subst hd'
    refine r_agwk ?_ ?_ hr
    · rfl
    intro j d d' hd hd' u hr
    rcases j with _|_|_|_|_|_|_|_|_|j
    all_goals (simp [evOf] at hd hd';try (subst hd;subst hd';first|exact hr|exact Wk.ns.ok hr))
  · simp at hd
instance {ds : List Nd} {H : List Row} {K : D → List Row → Prop} : Wa (callW Tryz.prog (.fn 43 []) [.ag [.f (.v (.int .i64 0)),.f (.v (.int .i64 0)),.f (.v (.int .i64 0)),.f (.v (.int .i64 0)),.f (.v (.int .i64 0)),.f (.v (.int .i64 0)),.f (.v (.string ⟨#[]⟩)),.f (.v (.slice none 0 0)),.f (fG ds)]] H K)
    ((FitN ds ∧ ds.length ≤ 1000000) ∧ K (.ag [.f (.v (.int .i64 0)),.f (.v (.int .i64 0)),.f (.v (.int .i64 0)),.f (.v (.int .i64 0)),.f (.v (.int .i64 0)),.f (.v (.int .i64 0)),.f (.v (.string (BB []))),.f (fY []),.f (fG ds)]) H) :=
  ⟨fun h=>callW_pure (c_ev_CopyD ds h.1.1 h.1.2) rfl rfl rfl h.2⟩
structure FitS (s : S12) : Prop where
  defs : FitN s.defs ∧ s.defs.length ≤ 1000000
  nodes : s.nodes.length ≤ 1000000
  ndata : ∀ x ∈ s.nodes,x.data.length ≤ 1000000
  tms : s.tms.length ≤ 1000000
  sgs : s.sgs.length ≤ 1000000
  sdata : ∀ x ∈ s.sgs,x.data.length ≤ 1000000
def stD (s : S12) : D:=.ag [D.int s.id,D.int s.ver,D.int s.time,D.int s.closed,D.bool s.cancel,.f (fG s.defs),.f (fNn s.nodes),.f (fTm s.tms),.f (fSg s.sgs)]
def stL (a b c : Nat) (s : S12) : List D:=[D.int s.id,D.int s.ver,D.int s.time,D.int s.closed,D.bool s.cancel,.f (fG s.defs),.sl a 0 s.nodes.length,.sl b 0 s.tms.length,.sl c 0 s.sgs.length]
def rN (l : List Nn) : Row:=.data 51 (l.flatMap Nn.cs)
def rT (l : List Tm) : Row:=.data 57 (l.flatMap Tm.cs)
def rS (l : List Sg) : Row:=.data 60 (l.flatMap Sg.cs)
def stN : Row:=.box 29 [jI,jI,jI,jI,jF,jN,jN,jN,jN]
theorem c_st_copied (s : S12) (hs : FitS s) : Con Tryz.prog 25 [stD s] [] fun r H'=>r = .ag (stL 0 1 2 s) ∧ H' = [rN s.nodes,rT s.tms,rS s.sgs]:=by
  obtain ⟨id,ver,time,closed,cancel,defs,nodes,tms,sgs⟩:=s
  obtain ⟨h1,h2,h3,h4,h5,h6⟩:=hs
  dsimp only at h1 h2 h3 h4 h5 h6
  refine Con.walk good fn_st_copied (by simp) ?_
  unfold s_st_copied stD
  simp only [argsE]
  repeat' (first|(with_reducible first|refine Wx.h ?_|refine We.h fun K hK=>?_|refine Wd.h fun K M hK hM=>?_|(refine hK _ _ _ _ ?_;clear hK K;try clear hM M)|(refine hM ?_;clear hM M;try clear hK K)|refine Wb.h fun K hK=>?_|(refine hK _ ?_;clear hK K)|(refine wT ?_ ?_;· assumption)|(refine wF ?_ ?_;· assumption))|((with_reducible refine kQ ?_ ?_);kernel_rfl)|((with_reducible refine k1 ?_ ?_);rfl)|((with_reducible refine k0 ?_ ?_);rfl)|((with_reducible apply kB)<;>first|rfl|intro h)|((with_reducible refine kM ?_ ?_);rfl)|(with_reducible refine Wq.h ?_ ?_)<;>intro h<;>try (exfalso;omega)|(with_reducible refine Wu.h ?_ ?_)<;>intro h<;>try simp only [h]|((fail_if_success with_reducible refine Wz.h ?_);first|simp (disch:=omega) only [↓LD,LA,loadA_rf,seval,LSt]|((with_reducible refine And.intro ?_ ?_);omega)|simp only [D.int,D.bool]))
  refine HS.loopG [1,2,24,25,26] (fun k : Nat=>⟨frm 62 [(1,.pt 0 0),(2,.pt 4 0),(24,.sl 1 0 nodes.length),(25,D.int nodes.length),(26,D.int k)],[.box 29 (stL 1 2 3 ⟨id,ver,time,closed,cancel,defs,nodes,tms,sgs⟩),rN nodes,rT tms,rS sgs,stN],[]⟩)
    (fun k=>k ≤ nodes.length) (fun k=>nodes.length - k) 0 (by kernel_rfl) (Nat.zero_le _) ?_
  rintro k hk
  by_cases hkl : k < nodes.length
  · have hg:=h3 _ (gt_mem hkl)
    repeat' (first|(with_reducible first|refine Wx.h ?_|refine We.h fun K hK=>?_|refine Wd.h fun K M hK hM=>?_|(refine hK _ _ _ _ ?_;clear hK K;try clear hM M)|(refine hM ?_;clear hM M;try clear hK K)|refine Wb.h fun K hK=>?_|(refine hK _ ?_;clear hK K)|(refine wT ?_ ?_;· assumption)|(refine wF ?_ ?_;· assumption))|((with_reducible refine kQ ?_ ?_);kernel_rfl)|((with_reducible refine k1 ?_ ?_);rfl)|((with_reducible refine k0 ?_ ?_);rfl)|((with_reducible apply kB)<;>first|rfl|intro h)|((with_reducible refine kM ?_ ?_);rfl)|(with_reducible refine Wq.h ?_ ?_)<;>intro h<;>try (exfalso;omega)|(with_reducible refine Wu.h ?_ ?_)<;>intro h<;>try simp only [h]|((fail_if_success with_reducible refine Wz.h ?_);first|simp (disch:=omega) only [↓LD,LA,loadA_rf,seval,LSt,stL,stN,rN,at3_fNn,len_fNn,Nn.cs]|((with_reducible refine And.intro ?_ ?_);omega)|simp only [D.int,D.bool]))
    rw [set_self (by rw [at3_fNn hkl];rfl)]
    exact Next.mk (k + 1) (by kernel_rfl) (by omega) (by omega)
  repeat' (first|(with_reducible first|refine Wx.h ?_|refine Wb.h fun K hK=>?_|(refine hK _ ?_;clear hK K)|(refine wT ?_ ?_;· assumption)|(refine wF ?_ ?_;· assumption))|((with_reducible refine kQ ?_ ?_);kernel_rfl)|((with_reducible refine k1 ?_ ?_);rfl)|((with_reducible refine k0 ?_ ?_);rfl)|((with_reducible apply kB)<;>first|rfl|intro h)|((with_reducible refine kM ?_ ?_);rfl)|(with_reducible refine Wq.h ?_ ?_)<;>intro h<;>try (exfalso;omega)|(with_reducible refine Wu.h ?_ ?_)<;>intro h<;>try simp only [h]|((fail_if_success with_reducible refine Wz.h ?_);first|simp (disch:=omega) only [↓LD,LA,loadA_rf,seval,stL,stN]|((with_reducible refine And.intro ?_ ?_);omega)|simp only [D.int,D.bool]))
  refine HS.loopG [1,2,43,44,45] (fun k : Nat=>⟨frm 62 [(1,.pt 0 0),(2,.pt 4 0),(43,.sl 3 0 sgs.length),(44,D.int sgs.length),(45,D.int k)],[.box 29 (stL 1 2 3 ⟨id,ver,time,closed,cancel,defs,nodes,tms,sgs⟩),rN nodes,rT tms,rS sgs,stN],[]⟩)
    (fun k=>k ≤ sgs.length) (fun k=>sgs.length - k) 0 (by kernel_rfl) (Nat.zero_le _) ?_
  clear hk hkl
  rintro k hk
  by_cases hkl : k < sgs.length
  · have hg:=h6 _ (gt_mem hkl)
    repeat' (first|(with_reducible first|refine Wx.h ?_|refine We.h fun K hK=>?_|refine Wd.h fun K M hK hM=>?_|(refine hK _ _ _ _ ?_;clear hK K;try clear hM M)|(refine hM ?_;clear hM M;try clear hK K)|refine Wb.h fun K hK=>?_|(refine hK _ ?_;clear hK K)|(refine wT ?_ ?_;· assumption)|(refine wF ?_ ?_;· assumption))|((with_reducible refine kQ ?_ ?_);kernel_rfl)|((with_reducible refine k1 ?_ ?_);rfl)|((with_reducible refine k0 ?_ ?_);rfl)|((with_reducible apply kB)<;>first|rfl|intro h)|((with_reducible refine kM ?_ ?_);rfl)|(with_reducible refine Wq.h ?_ ?_)<;>intro h<;>try (exfalso;omega)|(with_reducible refine Wu.h ?_ ?_)<;>intro h<;>try simp only [h]|((fail_if_success with_reducible refine Wz.h ?_);first|simp (disch:=omega) only [↓LD,LA,loadA_rf,seval,LSt,stL,stN,rS,at2_fSg,len_fSg,Sg.cs]|((with_reducible refine And.intro ?_ ?_);omega)|simp only [D.int,D.bool]))
    rw [set_self (by rw [at2_fSg hkl];rfl)]
    exact Next.mk (k + 1) (by kernel_rfl) (by omega) (by omega)
  repeat' (first|(with_reducible first|refine Wx.h ?_|refine Wb.h fun K hK=>?_|(refine hK _ ?_;clear hK K)|(refine wT ?_ ?_;· assumption)|(refine wF ?_ ?_;· assumption))|((with_reducible refine kQ ?_ ?_);kernel_rfl)|((with_reducible refine k1 ?_ ?_);rfl)|((with_reducible refine k0 ?_ ?_);rfl)|((with_reducible apply kB)<;>first|rfl|intro h)|((with_reducible refine kM ?_ ?_);rfl)|(with_reducible refine Wq.h ?_ ?_)<;>intro h<;>try (exfalso;omega)|(with_reducible refine Wu.h ?_ ?_)<;>intro h<;>try simp only [h]|((fail_if_success with_reducible refine Wz.h ?_);first|simp (disch:=omega) only [↓LD,LA,loadA_rf,seval,stL,stN]|((with_reducible refine And.intro ?_ ?_);omega)|simp only [D.int,D.bool]))
  exact RetS.gather (ds:=[.ag (stL 1 2 3 ⟨id,ver,time,closed,cancel,defs,nodes,tms,sgs⟩)]) (e:=⟨.ag (stL 0 1 2 ⟨id,ver,time,closed,cancel,defs,nodes,tms,sgs⟩),[],[rN nodes,rT tms,rS sgs]⟩) (by kernel_rfl) (by kernel_rfl) ⟨rfl,rfl⟩
set_option maxHeartbeats 4000000
def S12.cs (s : S12) : List F:=[iF s.id,iF s.ver,iF s.time,iF s.closed,bF s.cancel,fG s.defs,fNn s.nodes,fTm s.tms,fSg s.sgs]
def cntL (l : List Nn) (k : Int) : Nat:=l.countP fun x=>decide (x.st = k)
theorem c_st_status (s : S12) (k : Int) (hl : s.nodes.length ≤ 1000000) : Con Tryz.prog 36 [.rf s.cs,D.int k] [] fun r H'=>r = D.int (cntL s.nodes k) ∧ H' = []:=by
  obtain ⟨id,ver,time,closed,cancel,defs,nodes,tms,sgs⟩:=s
  dsimp only at hl ⊢
  refine Con.walk good fn_st_status (by simp) ?_
  unfold s_st_status
  simp only [argsE]
  repeat' (first|(with_reducible first|refine Wx.h ?_|refine Wb.h fun K hK=>?_|(refine hK _ ?_;clear hK K)|(refine wT ?_ ?_;· assumption)|(refine wF ?_ ?_;· assumption))|((with_reducible refine kQ ?_ ?_);kernel_rfl)|((with_reducible refine k1 ?_ ?_);rfl)|((with_reducible refine k0 ?_ ?_);rfl)|((with_reducible apply kB)<;>first|rfl|intro h)|((with_reducible refine kM ?_ ?_);rfl)|(with_reducible refine Wq.h ?_ ?_)<;>intro h<;>try (exfalso;omega)|(with_reducible refine Wu.h ?_ ?_)<;>intro h<;>try simp only [h]|((fail_if_success with_reducible refine Wz.h ?_);first|simp (disch:=omega) only [↓LD,LA,loadA_rf,seval,LSt,S12.cs]|((with_reducible refine And.intro ?_ ?_);omega)|simp only [D.int,D.bool]))
  refine HS.loopG [1,5,11,12,13] (fun i : Nat=>⟨frm 25 [(1,D.int k),(5,D.int (cntL (nodes.take i) k)),(11,.f (fNn nodes)),(12,D.int nodes.length),(13,D.int i)],[],[]⟩)
    (fun i=>i ≤ nodes.length) (fun i=>nodes.length - i) 0 (by kernel_rfl) (Nat.zero_le _) ?_
  rintro i hi
  by_cases hil : i < nodes.length
  · have hc : (cntL (nodes.take i) k : Nat) ≤ i:=Nat.le_trans (List.countP_le_length) (by simp;omega)
    have hs : cntL (nodes.take (i + 1)) k = cntL (nodes.take i) k + (if (gt nodes i).st = k then 1 else 0):=by
      rw [List.take_succ_eq_append_getElem hil,cntL,List.countP_append,← gt_eq hil]
      simp [cntL]
    repeat' (first|(with_reducible first|refine Wx.h ?_|refine Wb.h fun K hK=>?_|(refine hK _ ?_;clear hK K)|(refine wT ?_ ?_;· assumption)|(refine wF ?_ ?_;· assumption))|((with_reducible refine kQ ?_ ?_);kernel_rfl)|((with_reducible refine k1 ?_ ?_);rfl)|((with_reducible refine k0 ?_ ?_);rfl)|((with_reducible apply kB)<;>first|rfl|intro h)|((with_reducible refine kM ?_ ?_);rfl)|(with_reducible refine Wq.h ?_ ?_)<;>intro h<;>try (exfalso;omega)|(with_reducible refine Wu.h ?_ ?_)<;>intro h<;>try simp only [h]|((fail_if_success with_reducible refine Wz.h ?_);first|simp (disch:=omega) only [↓LD,LA,loadA_rf,seval,LSt,load_fNn,Nn.cs,-loadA_rf]|((with_reducible refine And.intro ?_ ?_);omega)|simp only [D.int,D.bool]))
    · refine Next.mk (i + 1) (by rw [hs,if_pos h];kernel_rfl) (by omega) (by omega)
    · refine Next.mk (i + 1) (by rw [hs,if_neg h];kernel_rfl) (by omega) (by omega)
  · repeat' (first|(with_reducible first|refine Wx.h ?_|refine Wb.h fun K hK=>?_|(refine hK _ ?_;clear hK K)|(refine wT ?_ ?_;· assumption)|(refine wF ?_ ?_;· assumption))|((with_reducible refine kQ ?_ ?_);kernel_rfl)|((with_reducible refine k1 ?_ ?_);rfl)|((with_reducible refine k0 ?_ ?_);rfl)|((with_reducible apply kB)<;>first|rfl|intro h)|((with_reducible refine kM ?_ ?_);rfl)|(with_reducible refine Wq.h ?_ ?_)<;>intro h<;>try (exfalso;omega)|(with_reducible refine Wu.h ?_ ?_)<;>intro h<;>try simp only [h]|((fail_if_success with_reducible refine Wz.h ?_);first|simp (disch:=omega) only [↓LD,LA,loadA_rf,seval]|((with_reducible refine And.intro ?_ ?_);omega)|simp only [D.int,D.bool]))
    refine end1 rfl rfl (by kernel_rfl) .f ⟨?_,rfl⟩
    rw [List.take_of_length_le (by omega)];rfl
def strB (l : Bs) : Row:=.box 9 [.f (.v (.string (BB l)))]
theorem c_tm_IndexFunc (l : List Tm) (g : FuncId) (caps : List D) (H : List Row) (p : Tm → Bool) (hl : l.length ≤ 1000000)
    (hf : ∀ x ∈ l,Con Tryz.prog g (.ag (x.cs.map .f) :: caps) H fun r H'=>r = D.bool (p x) ∧ H' = H) : Con Tryz.prog 102 [.f (fTm l),.fn g caps] H fun r H'=>r = D.int (idxF p 0 l) ∧ H' = H:=by
  refine Con.walk good fn_tm_IndexFunc (by simp) ?_
  unfold s_tm_IndexFunc
  simp only [argsE]
  repeat' (first|(with_reducible first|refine Wx.h ?_|refine Wb.h fun K hK=>?_|(refine hK _ ?_;clear hK K)|(refine wT ?_ ?_;· assumption)|(refine wF ?_ ?_;· assumption))|((with_reducible refine kQ ?_ ?_);kernel_rfl)|((with_reducible refine k1 ?_ ?_);rfl)|((with_reducible refine k0 ?_ ?_);rfl)|((with_reducible apply kB)<;>first|rfl|intro h)|((with_reducible refine kM ?_ ?_);rfl)|(with_reducible refine Wq.h ?_ ?_)<;>intro h<;>try (exfalso;omega)|(with_reducible refine Wu.h ?_ ?_)<;>intro h<;>try simp only [h]|((fail_if_success with_reducible refine Wz.h ?_);first|simp (disch:=omega) only [↓LD,LA,loadA_rf,seval,LSt]|((with_reducible refine And.intro ?_ ?_);omega)|simp only [D.int,D.bool]))
  refine HS.loopP (fun x : Nat=>[(0,.f (fTm l)),(1,.fn g caps),(7,D.int l.length),(8,D.int x)]) (fun _=>H)
    (fun x=>x ≤ l.length ∧ idxF p 0 l = idxF p x (l.drop x)) (fun x=>l.length - x) 0 rfl (by kernel_rfl) ⟨Nat.zero_le _,rfl⟩ ?_
  rintro k ⟨hk,hr⟩
  repeat' (first|(with_reducible first|refine Wx.h ?_|refine Wb.h fun K hK=>?_|(refine hK _ ?_;clear hK K)|(refine wT ?_ ?_;· assumption)|(refine wF ?_ ?_;· assumption))|((with_reducible refine kQ ?_ ?_);kernel_rfl)|((with_reducible refine k1 ?_ ?_);rfl)|((with_reducible refine k0 ?_ ?_);rfl)|((with_reducible apply kB)<;>first|rfl|intro h)|((with_reducible refine kM ?_ ?_);rfl)|(with_reducible refine Wq.h ?_ ?_)<;>intro h<;>try (exfalso;omega)|(with_reducible refine Wu.h ?_ ?_)<;>intro h<;>try simp only [h]|((fail_if_success with_reducible refine Wz.h ?_);first|simp (disch:=omega) only [↓LD,LA,loadA_rf,seval,LSt,load_fTm,-loadA_rf]|((with_reducible refine And.intro ?_ ?_);omega)|simp only [D.int,D.bool]))
  rotate_left
  · refine endA rfl rfl ⟨congrArg D.int ?_,rfl⟩
    rw [hr,List.drop_of_length_le (by omega)];rfl
  refine callW_self (hf _ (gt_mem (by omega))) ?_
  rintro _ H' ⟨rfl,hH⟩
  rw [hH];clear hH H'
  repeat' (first|(with_reducible first|refine Wx.h ?_|refine Wb.h fun K hK=>?_|(refine hK _ ?_;clear hK K)|(refine wT ?_ ?_;· assumption)|(refine wF ?_ ?_;· assumption))|((with_reducible refine kQ ?_ ?_);kernel_rfl)|((with_reducible refine k1 ?_ ?_);rfl)|((with_reducible refine k0 ?_ ?_);rfl)|((with_reducible apply kB)<;>first|rfl|intro h)|((with_reducible refine kM ?_ ?_);rfl)|(with_reducible refine Wq.h ?_ ?_)<;>intro h<;>try (exfalso;omega)|(with_reducible refine Wu.h ?_ ?_)<;>intro h<;>try simp only [h]|((fail_if_success with_reducible refine Wz.h ?_);first|simp (disch:=omega) only [↓LD,LA,loadA_rf,seval,D.bool]|((with_reducible refine And.intro ?_ ?_);omega)|simp only [D.int,D.bool]))
  · refine endA rfl rfl ⟨congrArg D.int ?_,rfl⟩
    rw [hr,drop_gt (by omega),idxF,if_pos h]
  · refine NextP.mk (k + 1) rfl (by kernel_rfl) ?_ ?_
    · refine ⟨by omega,?_⟩
      rw [hr,drop_gt (by omega),idxF,if_neg (by simp [h])]
    · omega
theorem c_sg_IndexFunc (l : List Sg) (g : FuncId) (caps : List D) (H : List Row) (p : Sg → Bool) (hl : l.length ≤ 1000000)
    (hf : ∀ x ∈ l,Con Tryz.prog g (.ag (x.cs.map .f) :: caps) H fun r H'=>r = D.bool (p x) ∧ H' = H) : Con Tryz.prog 107 [.f (fSg l),.fn g caps] H fun r H'=>r = D.int (idxF p 0 l) ∧ H' = H:=by
  refine Con.walk good fn_sg_IndexFunc (by simp) ?_
  unfold s_sg_IndexFunc
  simp only [argsE]
  repeat' (first|(with_reducible first|refine Wx.h ?_|refine Wb.h fun K hK=>?_|(refine hK _ ?_;clear hK K)|(refine wT ?_ ?_;· assumption)|(refine wF ?_ ?_;· assumption))|((with_reducible refine kQ ?_ ?_);kernel_rfl)|((with_reducible refine k1 ?_ ?_);rfl)|((with_reducible refine k0 ?_ ?_);rfl)|((with_reducible apply kB)<;>first|rfl|intro h)|((with_reducible refine kM ?_ ?_);rfl)|(with_reducible refine Wq.h ?_ ?_)<;>intro h<;>try (exfalso;omega)|(with_reducible refine Wu.h ?_ ?_)<;>intro h<;>try simp only [h]|((fail_if_success with_reducible refine Wz.h ?_);first|simp (disch:=omega) only [↓LD,LA,loadA_rf,seval,LSt]|((with_reducible refine And.intro ?_ ?_);omega)|simp only [D.int,D.bool]))
  refine HS.loopP (fun x : Nat=>[(0,.f (fSg l)),(1,.fn g caps),(7,D.int l.length),(8,D.int x)]) (fun _=>H)
    (fun x=>x ≤ l.length ∧ idxF p 0 l = idxF p x (l.drop x)) (fun x=>l.length - x) 0 rfl (by kernel_rfl) ⟨Nat.zero_le _,rfl⟩ ?_
  rintro k ⟨hk,hr⟩
  repeat' (first|(with_reducible first|refine Wx.h ?_|refine Wb.h fun K hK=>?_|(refine hK _ ?_;clear hK K)|(refine wT ?_ ?_;· assumption)|(refine wF ?_ ?_;· assumption))|((with_reducible refine kQ ?_ ?_);kernel_rfl)|((with_reducible refine k1 ?_ ?_);rfl)|((with_reducible refine k0 ?_ ?_);rfl)|((with_reducible apply kB)<;>first|rfl|intro h)|((with_reducible refine kM ?_ ?_);rfl)|(with_reducible refine Wq.h ?_ ?_)<;>intro h<;>try (exfalso;omega)|(with_reducible refine Wu.h ?_ ?_)<;>intro h<;>try simp only [h]|((fail_if_success with_reducible refine Wz.h ?_);first|simp (disch:=omega) only [↓LD,LA,loadA_rf,seval,LSt,load_fSg,-loadA_rf]|((with_reducible refine And.intro ?_ ?_);omega)|simp only [D.int,D.bool]))
  rotate_left
  · refine endA rfl rfl ⟨congrArg D.int ?_,rfl⟩
    rw [hr,List.drop_of_length_le (by omega)];rfl
  refine callW_self (hf _ (gt_mem (by omega))) ?_
  rintro _ H' ⟨rfl,hH⟩
  rw [hH];clear hH H'
  repeat' (first|(with_reducible first|refine Wx.h ?_|refine Wb.h fun K hK=>?_|(refine hK _ ?_;clear hK K)|(refine wT ?_ ?_;· assumption)|(refine wF ?_ ?_;· assumption))|((with_reducible refine kQ ?_ ?_);kernel_rfl)|((with_reducible refine k1 ?_ ?_);rfl)|((with_reducible refine k0 ?_ ?_);rfl)|((with_reducible apply kB)<;>first|rfl|intro h)|((with_reducible refine kM ?_ ?_);rfl)|(with_reducible refine Wq.h ?_ ?_)<;>intro h<;>try (exfalso;omega)|(with_reducible refine Wu.h ?_ ?_)<;>intro h<;>try simp only [h]|((fail_if_success with_reducible refine Wz.h ?_);first|simp (disch:=omega) only [↓LD,LA,loadA_rf,seval,D.bool]|((with_reducible refine And.intro ?_ ?_);omega)|simp only [D.int,D.bool]))
  · refine endA rfl rfl ⟨congrArg D.int ?_,rfl⟩
    rw [hr,drop_gt (by omega),idxF,if_pos h]
  · refine NextP.mk (k + 1) rfl (by kernel_rfl) ?_ ?_
    · refine ⟨by omega,?_⟩
      rw [hr,drop_gt (by omega),idxF,if_neg (by simp [h])]
    · omega
theorem c_sg_ContainsFunc (l : List Sg) (g : FuncId) (caps : List D) (H : List Row) (p : Sg → Bool) (hl : l.length ≤ 1000000)
    (hf : ∀ x ∈ l,Con Tryz.prog g (.ag (x.cs.map .f) :: caps) H fun r H'=>r = D.bool (p x) ∧ H' = H) : Con Tryz.prog 104 [.f (fSg l),.fn g caps] H fun r H'=>r = D.bool (l.any p) ∧ H' = H:=by
  refine Con.walk good fn_sg_ContainsFunc (by simp) ?_
  unfold s_sg_ContainsFunc
  simp only [argsE]
  repeat' (first|(with_reducible first|refine Wx.h ?_|refine Wb.h fun K hK=>?_|(refine hK _ ?_;clear hK K)|(refine wT ?_ ?_;· assumption)|(refine wF ?_ ?_;· assumption))|((with_reducible refine kQ ?_ ?_);kernel_rfl)|((with_reducible refine k1 ?_ ?_);rfl)|((with_reducible refine k0 ?_ ?_);rfl)|((with_reducible apply kB)<;>first|rfl|intro h)|((with_reducible refine kM ?_ ?_);rfl)|(with_reducible refine Wq.h ?_ ?_)<;>intro h<;>try (exfalso;omega)|(with_reducible refine Wu.h ?_ ?_)<;>intro h<;>try simp only [h]|((fail_if_success with_reducible refine Wz.h ?_);first|simp (disch:=omega) only [↓LD,LA,loadA_rf,seval]|((with_reducible refine And.intro ?_ ?_);omega)|simp only [D.int,D.bool]))
  refine callW_self (c_sg_IndexFunc l g caps H p hl hf) ?_
  rintro _ H' ⟨rfl,hH⟩
  rw [hH];clear hH H'
  repeat' (first|(with_reducible first|refine Wx.h ?_|refine Wb.h fun K hK=>?_|(refine hK _ ?_;clear hK K)|(refine wT ?_ ?_;· assumption)|(refine wF ?_ ?_;· assumption))|((with_reducible refine kQ ?_ ?_);kernel_rfl)|((with_reducible refine k1 ?_ ?_);rfl)|((with_reducible refine k0 ?_ ?_);rfl)|((with_reducible apply kB)<;>first|rfl|intro h)|((with_reducible refine kM ?_ ?_);rfl)|(with_reducible refine Wq.h ?_ ?_)<;>intro h<;>try (exfalso;omega)|(with_reducible refine Wu.h ?_ ?_)<;>intro h<;>try simp only [h]|((fail_if_success with_reducible refine Wz.h ?_);first|simp (disch:=omega) only [↓LD,LA,loadA_rf,seval,D.int]|((with_reducible refine And.intro ?_ ?_);omega)|simp only [D.int,D.bool]))
  all_goals
    refine endA rfl rfl ⟨congrArg D.bool ?_,rfl⟩
    rw [← idxF_any p 0 l];simp;omega
theorem c_st_timer1 (x : Tm) (nm : Bs) : Con Tryz.prog 103 [.ag (x.cs.map .f),.pt 0 0] [strB nm] fun r H'=>r = D.bool (decide (x.name = nm)) ∧ H' = [strB nm]:=by
  refine Con.walk good fn_st_timer1 (by simp) ?_
  unfold s_st_timer1 Tm.cs strB
  simp only [argsE,List.map]
  repeat' (first|(with_reducible first|refine Wx.h ?_|refine Wb.h fun K hK=>?_|(refine hK _ ?_;clear hK K)|(refine wT ?_ ?_;· assumption)|(refine wF ?_ ?_;· assumption))|((with_reducible refine kQ ?_ ?_);kernel_rfl)|((with_reducible refine k1 ?_ ?_);rfl)|((with_reducible refine k0 ?_ ?_);rfl)|((with_reducible apply kB)<;>first|rfl|intro h)|((with_reducible refine kM ?_ ?_);rfl)|(with_reducible refine Wq.h ?_ ?_)<;>intro h<;>try (exfalso;omega)|(with_reducible refine Wu.h ?_ ?_)<;>intro h<;>try simp only [h]|((fail_if_success with_reducible refine Wz.h ?_);first|simp (disch:=omega) only [↓LD,LA,loadA_rf,seval]|((with_reducible refine And.intro ?_ ?_);omega)|simp only [D.int,D.bool]))
  all_goals (refine end1 rfl rfl (by kernel_rfl) .f ⟨congrArg D.bool ?_,rfl⟩;simp [h])
theorem c_st_Has1 (x : Sg) (nm : Bs) : Con Tryz.prog 105 [.ag (x.cs.map .f),.pt 0 0] [strB nm] fun r H'=>r = D.bool (decide (x.name = nm)) ∧ H' = [strB nm]:=by
  refine Con.walk good fn_st_Has1 (by simp) ?_
  unfold s_st_Has1 Sg.cs strB
  simp only [argsE,List.map]
  repeat' (first|(with_reducible first|refine Wx.h ?_|refine Wb.h fun K hK=>?_|(refine hK _ ?_;clear hK K)|(refine wT ?_ ?_;· assumption)|(refine wF ?_ ?_;· assumption))|((with_reducible refine kQ ?_ ?_);kernel_rfl)|((with_reducible refine k1 ?_ ?_);rfl)|((with_reducible refine k0 ?_ ?_);rfl)|((with_reducible apply kB)<;>first|rfl|intro h)|((with_reducible refine kM ?_ ?_);rfl)|(with_reducible refine Wq.h ?_ ?_)<;>intro h<;>try (exfalso;omega)|(with_reducible refine Wu.h ?_ ?_)<;>intro h<;>try simp only [h]|((fail_if_success with_reducible refine Wz.h ?_);first|simp (disch:=omega) only [↓LD,LA,loadA_rf,seval]|((with_reducible refine And.intro ?_ ?_);omega)|simp only [D.int,D.bool]))
  all_goals (refine end1 rfl rfl (by kernel_rfl) .f ⟨congrArg D.bool ?_,rfl⟩;simp [h])
def tmI (l : List Tm) (nm : Bs) : Int:=idxF (fun x : Tm=>decide (x.name = nm)) 0 l
def hasSg (l : List Sg) (nm : Bs) : Bool:=l.any fun x=>decide (x.name = nm)
theorem c_st_timer (s : S12) (nm : Bs) (hl : s.tms.length ≤ 1000000) : Con Tryz.prog 94 [.rf s.cs,.f (.v (.string (BB nm)))] [] fun r H'=>r = D.int (tmI s.tms nm) ∧ H' = []:=by
  obtain ⟨id,ver,time,closed,cancel,defs,nodes,tms,sgs⟩:=s
  dsimp only at hl ⊢
  refine Con.walk good fn_st_timer (by simp) ?_
  unfold s_st_timer
  simp only [argsE]
  repeat' (first|(with_reducible first|refine Wx.h ?_|refine Wb.h fun K hK=>?_|(refine hK _ ?_;clear hK K)|(refine wT ?_ ?_;· assumption)|(refine wF ?_ ?_;· assumption))|((with_reducible refine kQ ?_ ?_);kernel_rfl)|((with_reducible refine k1 ?_ ?_);rfl)|((with_reducible refine k0 ?_ ?_);rfl)|((with_reducible apply kB)<;>first|rfl|intro h)|((with_reducible refine kM ?_ ?_);rfl)|(with_reducible refine Wq.h ?_ ?_)<;>intro h<;>try (exfalso;omega)|(with_reducible refine Wu.h ?_ ?_)<;>intro h<;>try simp only [h]|((fail_if_success with_reducible refine Wz.h ?_);first|simp (disch:=omega) only [↓LD,LA,loadA_rf,seval,LSt,S12.cs]|((with_reducible refine And.intro ?_ ?_);omega)|simp only [D.int,D.bool]))
  refine callW_self (c_tm_IndexFunc tms _ _ _ (fun x : Tm=>decide (x.name = nm)) hl (fun x _=>c_st_timer1 x nm)) ?_
  rintro _ _ ⟨rfl,rfl⟩
  repeat' (first|(with_reducible first|refine Wx.h ?_|refine Wb.h fun K hK=>?_|(refine hK _ ?_;clear hK K)|(refine wT ?_ ?_;· assumption)|(refine wF ?_ ?_;· assumption))|((with_reducible refine kQ ?_ ?_);kernel_rfl)|((with_reducible refine k1 ?_ ?_);rfl)|((with_reducible refine k0 ?_ ?_);rfl)|((with_reducible apply kB)<;>first|rfl|intro h)|((with_reducible refine kM ?_ ?_);rfl)|(with_reducible refine Wq.h ?_ ?_)<;>intro h<;>try (exfalso;omega)|(with_reducible refine Wu.h ?_ ?_)<;>intro h<;>try simp only [h]|((fail_if_success with_reducible refine Wz.h ?_);first|simp (disch:=omega) only [↓LD,LA,loadA_rf,seval]|((with_reducible refine And.intro ?_ ?_);omega)|simp only [D.int,D.bool]))
  exact end1 rfl rfl (by kernel_rfl) .f ⟨rfl,rfl⟩
theorem c_st_Has (s : S12) (nm : Bs) (hl : s.sgs.length ≤ 1000000) : Con Tryz.prog 95 [stD s,.f (.v (.string (BB nm)))] [] fun r H'=>r = D.bool (hasSg s.sgs nm) ∧ H' = []:=by
  obtain ⟨id,ver,time,closed,cancel,defs,nodes,tms,sgs⟩:=s
  dsimp only at hl ⊢
  refine Con.walk good fn_st_Has (by simp) ?_
  unfold s_st_Has stD
  simp only [argsE]
  repeat' (first|(with_reducible first|refine Wx.h ?_|refine Wb.h fun K hK=>?_|(refine hK _ ?_;clear hK K)|(refine wT ?_ ?_;· assumption)|(refine wF ?_ ?_;· assumption))|((with_reducible refine kQ ?_ ?_);kernel_rfl)|((with_reducible refine k1 ?_ ?_);rfl)|((with_reducible refine k0 ?_ ?_);rfl)|((with_reducible apply kB)<;>first|rfl|intro h)|((with_reducible refine kM ?_ ?_);rfl)|(with_reducible refine Wq.h ?_ ?_)<;>intro h<;>try (exfalso;omega)|(with_reducible refine Wu.h ?_ ?_)<;>intro h<;>try simp only [h]|((fail_if_success with_reducible refine Wz.h ?_);first|simp (disch:=omega) only [↓LD,LA,loadA_rf,seval,LSt,S12.cs]|((with_reducible refine And.intro ?_ ?_);omega)|simp only [D.int,D.bool]))
  refine callW_emb (c_sg_ContainsFunc sgs _ [.pt 0 0] [strB nm] (fun x : Sg=>decide (x.name = nm)) hl (fun x _=>c_st_Has1 x nm)) [1] (by kernel_rfl) rfl rfl ?_
  rintro _ _ ⟨rfl,rfl⟩
  simp (disch:=omega) only [↓LD,LA,loadA_rf,seval]
  repeat' (first|(with_reducible first|refine Wx.h ?_|refine Wb.h fun K hK=>?_|(refine hK _ ?_;clear hK K)|(refine wT ?_ ?_;· assumption)|(refine wF ?_ ?_;· assumption))|((with_reducible refine kQ ?_ ?_);kernel_rfl)|((with_reducible refine k1 ?_ ?_);rfl)|((with_reducible refine k0 ?_ ?_);rfl)|((with_reducible apply kB)<;>first|rfl|intro h)|((with_reducible refine kM ?_ ?_);rfl)|(with_reducible refine Wq.h ?_ ?_)<;>intro h<;>try (exfalso;omega)|(with_reducible refine Wu.h ?_ ?_)<;>intro h<;>try simp only [h]|((fail_if_success with_reducible refine Wz.h ?_);first|simp (disch:=omega) only [↓LD,LA,loadA_rf,seval]|((with_reducible refine And.intro ?_ ?_);omega)|simp only [D.int,D.bool]))
  exact end1 rfl rfl (by kernel_rfl) .f ⟨rfl,rfl⟩
set_option maxHeartbeats 4000000
theorem rdy_pos {done : List Bool} : ∀ {k : Nat} {ds : List Nd} {x : Int},x ∈ rdy done k ds → (k : Int) ≤ x
  | k,[],x,h=>by simp [rdy] at h
  | k,d :: ds,x,h=>by
    simp only [rdy] at h
    split at h
    · rcases List.mem_cons.1 h with rfl|h
      · exact Int.le_refl _
      · have:=rdy_pos h;omega
    · have:=rdy_pos h;omega
theorem ready_pos {ds : List Nd} {done : List Bool} {x : Int} (h : x ∈ readyL ds done) : 0 ≤ x:=by
  unfold readyL at h
  split at h
  · have:=rdy_pos h;omega
  · cases h
theorem rdy_len {done : List Bool} : ∀ (k : Nat) (ds : List Nd),(rdy done k ds).length ≤ ds.length
  | _,[]=>by simp [rdy]
  | k,d :: ds=>by
    have:=rdy_len (done:=done) (k + 1) ds
    simp only [rdy];split<;>simp<;>omega
theorem ready_len (ds : List Nd) (done : List Bool) : (readyL ds done).length ≤ ds.length:=by
  unfold readyL;split
  · exact rdy_len 0 ds
  · simp
instance {ds : List Nd} {done : List Bool} {H : List Row} {K : D → List Row → Prop} [hf : Kn (Fit ds)] : Wa (callW Tryz.prog (.fn 101 []) [.f (fG ds),.f (fB done)] H K) (done.length < 140737488355328 ∧ K (.f (fI (readyL ds done))) H) :=
  ⟨fun h=>callW_pure (c_dag_Ready ds done hf.h h.1) rfl rfl rfl h.2⟩
def doneL (l : List Nn) : List Bool:=l.map fun x=>decide (x.st = 2)
def wtB (l : List Nn) (k : Int) : Bool:=decide (k < l.length) && decide ((gt l k.toNat).st = 0)
def readyS (s : S12) : List Int:=if s.closed ≠ 0 ∨ s.cancel = true then [] else (readyL s.defs (doneL s.nodes)).filter (wtB s.nodes)
def dn (l : List Nn) (k : Nat) : List Bool:=doneL (l.take k) ++ List.replicate (l.length - k) false
theorem dn_len {l : List Nn} {k : Nat} (h : k ≤ l.length) : (dn l k).length = l.length:=by simp [dn,doneL];omega
theorem dn_step {l : List Nn} {k : Nat} (h : k < l.length) : (dn l k).set k (decide ((gt l k).st = 2)) = dn l (k + 1):=by
  unfold dn doneL
  rw [List.take_succ_eq_append_getElem h,List.map_append,show l.length - k = (l.length - (k + 1)) + 1 by omega,List.replicate_succ,List.set_append_right _ _ (by simp;omega)]
  simp [Nat.min_eq_left (Nat.le_of_lt h),gt_eq h]
theorem dn_all {l : List Nn} : dn l l.length = doneL l:=by simp [dn]
def stF (s : S12) : Row:=.box 29 [D.int s.id,D.int s.ver,D.int s.time,D.int s.closed,D.bool s.cancel,.f (fG s.defs),.f (fNn s.nodes),.f (fTm s.tms),.f (fSg s.sgs)]
theorem take_fNn {g : List Nn} {k : Nat} (hk : k < g.length) : ((g.flatMap Nn.cs).drop (k * 4)).take 4 = Nn.cs (gt g k):=flat_take cs_Nn hk
theorem c_st_ReadyF (s : S12) (hf : Fit s.defs) (hl : s.nodes.length ≤ 1000000) : Con Tryz.prog 93 [stD s] [] fun r H'=>r = .f (fI (readyS s)) ∧ H' = []:=by
  obtain ⟨id,ver,time,closed,cancel,defs,nodes,tms,sgs⟩:=s
  dsimp only at hf hl ⊢
  haveI : Kn (Fit defs):=⟨hf⟩
  refine Con.walk good fn_st_Ready (by simp) ?_
  unfold s_st_Ready
  simp only [stD,stL]
  simp only [argsE]
  repeat' (first|(with_reducible first|refine Wx.h ?_|refine Wb.h fun K hK=>?_|(refine hK _ ?_;clear hK K)|(refine wT ?_ ?_;· assumption)|(refine wF ?_ ?_;· assumption))|((with_reducible refine kQ ?_ ?_);kernel_rfl)|((with_reducible refine k1 ?_ ?_);rfl)|((with_reducible refine k0 ?_ ?_);rfl)|((with_reducible apply kB)<;>first|rfl|intro h)|((with_reducible refine kM ?_ ?_);rfl)|(with_reducible refine Wq.h ?_ ?_)<;>intro h<;>try (exfalso;omega)|(with_reducible refine Wu.h ?_ ?_)<;>intro h<;>try simp only [h]|((fail_if_success with_reducible refine Wz.h ?_);first|simp (disch:=omega) only [↓LD,LA,loadA_rf,seval,LSt]|((with_reducible refine And.intro ?_ ?_);omega)|simp only [D.int,D.bool]))
  all_goals try (refine end1 rfl rfl (by kernel_rfl) .nil ⟨congrArg D.f ?_,rfl⟩;first|(rw [readyS,if_pos (.inl (by assumption))];rfl)|(rw [readyS,if_pos (.inr (by assumption))];rfl))
  have hr : readyS ⟨id,ver,time,closed,cancel,defs,nodes,tms,sgs⟩ = (readyL defs (doneL nodes)).filter (wtB nodes):=by
    rw [readyS,if_neg];simp_all
  rw [mk_bools]
  refine HS.loopG [1,3,21,22,23] (fun k : Nat=>⟨frm 64 [(1,.pt 0 0),(3,.sl 1 0 nodes.length),(21,.f (fNn nodes)),(22,D.int nodes.length),(23,D.int k)],[] ++ [stF ⟨id,ver,time,closed,cancel,defs,nodes,tms,sgs⟩,.data 4 ((dn nodes k).map bF)],[]⟩)
    (fun k=>k ≤ nodes.length) (fun k=>nodes.length - k) 0 (by kernel_rfl) (Nat.zero_le _) ?_
  rintro k hk
  by_cases hkl : k < nodes.length
  · have hdl:=dn_len hk
    repeat' (first|(with_reducible first|refine Wx.h ?_|refine Wb.h fun K hK=>?_|(refine hK _ ?_;clear hK K)|(refine wT ?_ ?_;· assumption)|(refine wF ?_ ?_;· assumption))|((with_reducible refine kQ ?_ ?_);kernel_rfl)|((with_reducible refine k1 ?_ ?_);rfl)|((with_reducible refine k0 ?_ ?_);rfl)|((with_reducible apply kB)<;>first|rfl|intro h)|((with_reducible refine kM ?_ ?_);rfl)|(with_reducible refine Wq.h ?_ ?_)<;>intro h<;>try (exfalso;omega)|(with_reducible refine Wu.h ?_ ?_)<;>intro h<;>try simp only [h]|((fail_if_success with_reducible refine Wz.h ?_);first|simp (disch:=omega) only [↓LD,LA,loadA_rf,seval,LSt,stF,stL,rN,load_fNn,take_fNn,at0_fNn,len_fNn,Nn.cs,List.length_map,hdl,List.cons_append,List.nil_append,-loadA_rf]|((with_reducible refine And.intro ?_ ?_);omega)|simp only [D.int,D.bool]))
    all_goals
      have hst:=dn_step hkl
      first|rw [decide_eq_true h] at hst|rw [decide_eq_false h] at hst
      rw [hst]
      exact Next.mk (k + 1) (by kernel_rfl) (by omega) (by omega)
  obtain rfl : k = nodes.length:=by omega
  rw [dn_all]
  have hdl : (doneL nodes).length = nodes.length:=by simp [doneL]
  refine HS.view (View.fzd 3 (k:=1) (b:=1) (z:=[.bool false]) rfl rfl (by kernel_rfl) (by simp [doneL]) (by omega) (by omega)) ?_
  rw [show F.s ((doneL nodes).map bF) nodes.length = fB (doneL nodes) by rw [fB,hdl]]
  repeat' (first|(with_reducible first|refine Wx.h ?_|refine Wb.h fun K hK=>?_|(refine hK _ ?_;clear hK K)|(refine wT ?_ ?_;· assumption)|(refine wF ?_ ?_;· assumption))|((with_reducible refine kQ ?_ ?_);kernel_rfl)|((with_reducible refine k1 ?_ ?_);rfl)|((with_reducible refine k0 ?_ ?_);rfl)|((with_reducible apply kB)<;>first|rfl|intro h)|((with_reducible refine kM ?_ ?_);rfl)|(with_reducible refine Wq.h ?_ ?_)<;>intro h<;>try (exfalso;omega)|(with_reducible refine Wu.h ?_ ?_)<;>intro h<;>try simp only [h]|((fail_if_success with_reducible refine Wz.h ?_);first|simp (disch:=omega) only [↓LD,LA,loadA_rf,seval,LSt,stF,stL,hdl,List.cons_append,List.nil_append]|((with_reducible refine And.intro ?_ ?_);omega)|simp only [D.int,D.bool]))
  have hpos : ∀ x ∈ readyL defs (doneL nodes),0 ≤ x:=fun x hx=>ready_pos hx
  have hlen : (readyL defs (doneL nodes)).length < 1000:=Nat.lt_of_le_of_lt (ready_len _ _) hf.1
  generalize readyL defs (doneL nodes) = L at *
  refine HS.view (View.void 3) ?_
  refine HS.view (View.slot 6 (.sl 2 0 0) (.no (by show 2 < 2 + 1;omega))) ?_
  refine HS.loopG [1,6,38,39,40] (fun x : Nat × List Int=>⟨frm 64 [(1,.pt 0 0),(6,.sl 1 0 x.2.length),(38,.f (fI L)),(39,D.int L.length),(40,D.int x.1)],[] ++ [stF ⟨id,ver,time,closed,cancel,defs,nodes,tms,sgs⟩,.data 3 (x.2.map iF)],[]⟩)
    (fun x=>x.1 ≤ L.length ∧ x.2.length ≤ x.1 ∧ L.filter (wtB nodes) = x.2 ++ (L.drop x.1).filter (wtB nodes)) (fun x=>L.length - x.1) (0,[]) (by kernel_rfl) ⟨Nat.zero_le _,Nat.le_refl _,rfl⟩ ?_
  rintro ⟨i,out⟩ ⟨hi,ho,hF⟩
  dsimp only at hi ho hF
  by_cases hil : i < L.length
  · have hp:=hpos _ (gt_mem hil)
    rw [drop_gt hil] at hF
    repeat' (first|(with_reducible first|refine Wx.h ?_|refine Wb.h fun K hK=>?_|(refine hK _ ?_;clear hK K)|(refine wT ?_ ?_;· assumption)|(refine wF ?_ ?_;· assumption))|((with_reducible refine kQ ?_ ?_);kernel_rfl)|((with_reducible refine k1 ?_ ?_);rfl)|((with_reducible refine k0 ?_ ?_);rfl)|((with_reducible apply kB)<;>first|rfl|intro h)|((with_reducible refine kM ?_ ?_);rfl)|(with_reducible refine Wq.h ?_ ?_)<;>intro h<;>try (exfalso;omega)|(with_reducible refine Wu.h ?_ ?_)<;>intro h<;>try simp only [h]|((fail_if_success with_reducible refine Wz.h ?_);first|simp (disch:=omega) only [↓LD,LA,loadA_rf,seval,LSt,stF,stL,rN,at0_fNn,len_fNn,Nn.cs,List.cons_append,List.nil_append]|((with_reducible refine And.intro ?_ ?_);omega)|simp only [D.int,D.bool]))
    all_goals first
      | (have hw : wtB nodes (gt L i) = true:=by simp [wtB, *]
         rw [List.filter_cons_of_pos hw] at hF
         rw [show out.length + 1 = (out ++ [gt L i]).length by simp]
         exact Next.mk (i + 1,out ++ [gt L i]) (by kernel_rfl) ⟨by dsimp only;omega,by simp;omega,by dsimp only;rw [hF];simp⟩ (by dsimp only;omega))
      | (have hw : ¬ wtB nodes (gt L i) = true:=by simp [wtB, *]
         rw [List.filter_cons_of_neg hw] at hF
         exact Next.mk (i + 1,out) (by kernel_rfl) ⟨by dsimp only;omega,by dsimp only;omega,hF⟩ (by dsimp only;omega))
  · repeat' (first|(with_reducible first|refine Wx.h ?_|refine Wb.h fun K hK=>?_|(refine hK _ ?_;clear hK K)|(refine wT ?_ ?_;· assumption)|(refine wF ?_ ?_;· assumption))|((with_reducible refine kQ ?_ ?_);kernel_rfl)|((with_reducible refine k1 ?_ ?_);rfl)|((with_reducible refine k0 ?_ ?_);rfl)|((with_reducible apply kB)<;>first|rfl|intro h)|((with_reducible refine kM ?_ ?_);rfl)|(with_reducible refine Wq.h ?_ ?_)<;>intro h<;>try (exfalso;omega)|(with_reducible refine Wu.h ?_ ?_)<;>intro h<;>try simp only [h]|((fail_if_success with_reducible refine Wz.h ?_);first|simp (disch:=omega) only [↓LD,LA,loadA_rf,seval,stF,stL,List.cons_append,List.nil_append]|((with_reducible refine And.intro ?_ ?_);omega)|simp only [D.int,D.bool]))
    refine end1 rfl rfl (by kernel_rfl) (.sl (T:=3) (xs:=out.map iF) rfl (fun e=>by rw [List.eq_nil_of_length_eq_zero e];rfl)) ⟨?_,rfl⟩
    rw [hr,hF,show L.drop i = [] from List.drop_of_length_le (by omega),List.filter_nil,List.append_nil];rfl
theorem c_st_ReadyL (s : S12) (hf : Fit s.defs) (hl : s.nodes.length ≤ 1000000) : Con Tryz.prog 93 [.ag (stL 0 1 2 s)] [rN s.nodes,rT s.tms,rS s.sgs] fun r H'=>r = .f (fI (readyS s)) ∧ H' = [rN s.nodes,rT s.tms,rS s.sgs]:=by
  obtain ⟨id,ver,time,closed,cancel,defs,nodes,tms,sgs⟩:=s
  dsimp only at hf hl ⊢
  haveI : Kn (Fit defs):=⟨hf⟩
  refine Con.walk good fn_st_Ready (by simp) ?_
  unfold s_st_Ready
  simp only [stD,stL]
  simp only [argsE]
  repeat' (first|(with_reducible first|refine Wx.h ?_|refine Wb.h fun K hK=>?_|(refine hK _ ?_;clear hK K)|(refine wT ?_ ?_;· assumption)|(refine wF ?_ ?_;· assumption))|((with_reducible refine kQ ?_ ?_);kernel_rfl)|((with_reducible refine k1 ?_ ?_);rfl)|((with_reducible refine k0 ?_ ?_);rfl)|((with_reducible apply kB)<;>first|rfl|intro h)|((with_reducible refine kM ?_ ?_);rfl)|(with_reducible refine Wq.h ?_ ?_)<;>intro h<;>try (exfalso;omega)|(with_reducible refine Wu.h ?_ ?_)<;>intro h<;>try simp only [h]|((fail_if_success with_reducible refine Wz.h ?_);first|simp (disch:=omega) only [↓LD,LA,loadA_rf,seval,LSt]|((with_reducible refine And.intro ?_ ?_);omega)|simp only [D.int,D.bool]))
  all_goals try (refine end1 rfl rfl (by kernel_rfl) .nil ⟨congrArg D.f ?_,rfl⟩;first|(rw [readyS,if_pos (.inl (by assumption))];rfl)|(rw [readyS,if_pos (.inr (by assumption))];rfl))
  have hr : readyS ⟨id,ver,time,closed,cancel,defs,nodes,tms,sgs⟩ = (readyL defs (doneL nodes)).filter (wtB nodes):=by
    rw [readyS,if_neg];simp_all
  rw [mk_bools]
  refine HS.loopG [1,3,21,22,23] (fun k : Nat=>⟨frm 64 [(1,.pt 3 0),(3,.sl 4 0 nodes.length),(21,.sl 0 0 nodes.length),(22,D.int nodes.length),(23,D.int k)],[rN nodes,rT tms,rS sgs] ++ [.box 29 (stL 0 1 2 ⟨id,ver,time,closed,cancel,defs,nodes,tms,sgs⟩),.data 4 ((dn nodes k).map bF)],[]⟩)
    (fun k=>k ≤ nodes.length) (fun k=>nodes.length - k) 0 (by kernel_rfl) (Nat.zero_le _) ?_
  rintro k hk
  by_cases hkl : k < nodes.length
  · have hdl:=dn_len hk
    repeat' (first|(with_reducible first|refine Wx.h ?_|refine Wb.h fun K hK=>?_|(refine hK _ ?_;clear hK K)|(refine wT ?_ ?_;· assumption)|(refine wF ?_ ?_;· assumption))|((with_reducible refine kQ ?_ ?_);kernel_rfl)|((with_reducible refine k1 ?_ ?_);rfl)|((with_reducible refine k0 ?_ ?_);rfl)|((with_reducible apply kB)<;>first|rfl|intro h)|((with_reducible refine kM ?_ ?_);rfl)|(with_reducible refine Wq.h ?_ ?_)<;>intro h<;>try (exfalso;omega)|(with_reducible refine Wu.h ?_ ?_)<;>intro h<;>try simp only [h]|((fail_if_success with_reducible refine Wz.h ?_);first|simp (disch:=omega) only [↓LD,LA,loadA_rf,seval,LSt,stF,stL,rN,load_fNn,take_fNn,at0_fNn,len_fNn,Nn.cs,List.length_map,hdl,List.cons_append,List.nil_append,-loadA_rf]|((with_reducible refine And.intro ?_ ?_);omega)|simp only [D.int,D.bool]))
    all_goals
      have hst:=dn_step hkl
      first|rw [decide_eq_true h] at hst|rw [decide_eq_false h] at hst
      rw [hst]
      exact Next.mk (k + 1) (by kernel_rfl) (by omega) (by omega)
  obtain rfl : k = nodes.length:=by omega
  rw [dn_all]
  have hdl : (doneL nodes).length = nodes.length:=by simp [doneL]
  refine HS.view (View.fzd 3 (k:=1) (b:=1) (z:=[.bool false]) rfl rfl (by kernel_rfl) (by simp [doneL]) (by omega) (by omega)) ?_
  rw [show F.s ((doneL nodes).map bF) nodes.length = fB (doneL nodes) by rw [fB,hdl]]
  repeat' (first|(with_reducible first|refine Wx.h ?_|refine Wb.h fun K hK=>?_|(refine hK _ ?_;clear hK K)|(refine wT ?_ ?_;· assumption)|(refine wF ?_ ?_;· assumption))|((with_reducible refine kQ ?_ ?_);kernel_rfl)|((with_reducible refine k1 ?_ ?_);rfl)|((with_reducible refine k0 ?_ ?_);rfl)|((with_reducible apply kB)<;>first|rfl|intro h)|((with_reducible refine kM ?_ ?_);rfl)|(with_reducible refine Wq.h ?_ ?_)<;>intro h<;>try (exfalso;omega)|(with_reducible refine Wu.h ?_ ?_)<;>intro h<;>try simp only [h]|((fail_if_success with_reducible refine Wz.h ?_);first|simp (disch:=omega) only [↓LD,LA,loadA_rf,seval,LSt,stF,stL,hdl,List.cons_append,List.nil_append]|((with_reducible refine And.intro ?_ ?_);omega)|simp only [D.int,D.bool]))
  have hpos : ∀ x ∈ readyL defs (doneL nodes),0 ≤ x:=fun x hx=>ready_pos hx
  have hlen : (readyL defs (doneL nodes)).length < 1000:=Nat.lt_of_le_of_lt (ready_len _ _) hf.1
  generalize readyL defs (doneL nodes) = L at *
  refine HS.view (View.void 3) ?_
  refine HS.view (View.slot 6 (.sl 5 0 0) (.no (by show 5 < 5 + 1;omega))) ?_
  refine HS.loopG [1,6,38,39,40] (fun x : Nat × List Int=>⟨frm 64 [(1,.pt 3 0),(6,.sl 4 0 x.2.length),(38,.f (fI L)),(39,D.int L.length),(40,D.int x.1)],[rN nodes,rT tms,rS sgs] ++ [.box 29 (stL 0 1 2 ⟨id,ver,time,closed,cancel,defs,nodes,tms,sgs⟩),.data 3 (x.2.map iF)],[]⟩)
    (fun x=>x.1 ≤ L.length ∧ x.2.length ≤ x.1 ∧ L.filter (wtB nodes) = x.2 ++ (L.drop x.1).filter (wtB nodes)) (fun x=>L.length - x.1) (0,[]) (by kernel_rfl) ⟨Nat.zero_le _,Nat.le_refl _,rfl⟩ ?_
  rintro ⟨i,out⟩ ⟨hi,ho,hF⟩
  dsimp only at hi ho hF
  by_cases hil : i < L.length
  · have hp:=hpos _ (gt_mem hil)
    rw [drop_gt hil] at hF
    repeat' (first|(with_reducible first|refine Wx.h ?_|refine Wb.h fun K hK=>?_|(refine hK _ ?_;clear hK K)|(refine wT ?_ ?_;· assumption)|(refine wF ?_ ?_;· assumption))|((with_reducible refine kQ ?_ ?_);kernel_rfl)|((with_reducible refine k1 ?_ ?_);rfl)|((with_reducible refine k0 ?_ ?_);rfl)|((with_reducible apply kB)<;>first|rfl|intro h)|((with_reducible refine kM ?_ ?_);rfl)|(with_reducible refine Wq.h ?_ ?_)<;>intro h<;>try (exfalso;omega)|(with_reducible refine Wu.h ?_ ?_)<;>intro h<;>try simp only [h]|((fail_if_success with_reducible refine Wz.h ?_);first|simp (disch:=omega) only [↓LD,LA,loadA_rf,seval,LSt,stF,stL,rN,at0_fNn,len_fNn,Nn.cs,List.cons_append,List.nil_append]|((with_reducible refine And.intro ?_ ?_);omega)|simp only [D.int,D.bool]))
    all_goals first
      | (have hw : wtB nodes (gt L i) = true:=by simp [wtB, *]
         rw [List.filter_cons_of_pos hw] at hF
         rw [show out.length + 1 = (out ++ [gt L i]).length by simp]
         exact Next.mk (i + 1,out ++ [gt L i]) (by kernel_rfl) ⟨by dsimp only;omega,by simp;omega,by dsimp only;rw [hF];simp⟩ (by dsimp only;omega))
      | (have hw : ¬ wtB nodes (gt L i) = true:=by simp [wtB, *]
         rw [List.filter_cons_of_neg hw] at hF
         exact Next.mk (i + 1,out) (by kernel_rfl) ⟨by dsimp only;omega,by dsimp only;omega,hF⟩ (by dsimp only;omega))
  · repeat' (first|(with_reducible first|refine Wx.h ?_|refine Wb.h fun K hK=>?_|(refine hK _ ?_;clear hK K)|(refine wT ?_ ?_;· assumption)|(refine wF ?_ ?_;· assumption))|((with_reducible refine kQ ?_ ?_);kernel_rfl)|((with_reducible refine k1 ?_ ?_);rfl)|((with_reducible refine k0 ?_ ?_);rfl)|((with_reducible apply kB)<;>first|rfl|intro h)|((with_reducible refine kM ?_ ?_);rfl)|(with_reducible refine Wq.h ?_ ?_)<;>intro h<;>try (exfalso;omega)|(with_reducible refine Wu.h ?_ ?_)<;>intro h<;>try simp only [h]|((fail_if_success with_reducible refine Wz.h ?_);first|simp (disch:=omega) only [↓LD,LA,loadA_rf,seval,stF,stL,List.cons_append,List.nil_append]|((with_reducible refine And.intro ?_ ?_);omega)|simp only [D.int,D.bool]))
    refine end1 rfl rfl (by kernel_rfl) (.sl (T:=3) (xs:=out.map iF) rfl (fun e=>by rw [List.eq_nil_of_length_eq_zero e];rfl)) ⟨?_,rfl⟩
    rw [hr,hF,show L.drop i = [] from List.drop_of_length_le (by omega),List.filter_nil,List.append_nil];rfl
set_option maxHeartbeats 2000000
theorem c_int_Index (l : List Int) (x : Int) (hl : l.length < 1000000) : Con Tryz.prog 100 [.f (fI l),D.int x] [] fun r H'=>r = D.int (idxF (fun y=>decide (x = y)) 0 l) ∧ H' = []:=by
  refine Con.walk good fn_int_Index (by simp) ?_
  unfold s_int_Index
  simp only [argsE,List.length_cons,List.length_nil,Nat.reduceAdd]
  repeat' (first|(with_reducible first|refine Wx.h ?_|refine Wb.h fun K hK=>?_|(refine hK _ ?_;clear hK K)|(refine wT ?_ ?_;· assumption)|(refine wF ?_ ?_;· assumption))|((with_reducible refine kQ ?_ ?_);kernel_rfl)|((with_reducible refine k1 ?_ ?_);rfl)|((with_reducible refine k0 ?_ ?_);rfl)|((with_reducible apply kB)<;>first|rfl|intro h)|((with_reducible refine kM ?_ ?_);rfl)|(with_reducible refine Wq.h ?_ ?_)<;>intro h<;>try (exfalso;omega)|(with_reducible refine Wu.h ?_ ?_)<;>intro h<;>try simp only [h]|((fail_if_success with_reducible refine Wz.h ?_);first|simp (disch:=omega) only [↓LD,LA,loadA_rf,seval,fI]|((with_reducible refine And.intro ?_ ?_);omega)|simp only [D.int,D.bool]))
  refine HS.loopP (fun k : Nat=>[(0,.f (fI l)),(1,D.int x),(7,D.int l.length),(8,D.int k)]) (fun _=>[])
    (fun k=>k ≤ l.length ∧ idxF (fun y=>decide (x = y)) 0 l = idxF (fun y=>decide (x = y)) k (l.drop k)) (fun k=>l.length - k) 0 rfl (by kernel_rfl) ⟨Nat.zero_le _,rfl⟩ ?_
  rintro k ⟨hk,hr⟩
  repeat' (first|(with_reducible first|refine Wx.h ?_|refine Wb.h fun K hK=>?_|(refine hK _ ?_;clear hK K)|(refine wT ?_ ?_;· assumption)|(refine wF ?_ ?_;· assumption))|((with_reducible refine kQ ?_ ?_);kernel_rfl)|((with_reducible refine k1 ?_ ?_);rfl)|((with_reducible refine k0 ?_ ?_);rfl)|((with_reducible apply kB)<;>first|rfl|intro h)|((with_reducible refine kM ?_ ?_);rfl)|(with_reducible refine Wq.h ?_ ?_)<;>intro h<;>try (exfalso;omega)|(with_reducible refine Wu.h ?_ ?_)<;>intro h<;>try simp only [h]|((fail_if_success with_reducible refine Wz.h ?_);first|simp (disch:=omega) only [↓LD,LA,loadA_rf,seval,fI]|((with_reducible refine And.intro ?_ ?_);omega)|simp only [D.int,D.bool]))
  · refine end1 rfl rfl (by kernel_rfl) .f ⟨congrArg D.int ?_,rfl⟩
    rw [hr,drop_gt (by omega),idxF,if_pos (by simpa using h)]
  · refine NextP.mk (k + 1) rfl (by kernel_rfl) ⟨by omega,?_⟩ (by omega)
    rw [hr,drop_gt (by omega),idxF,if_neg (by simpa using h)]
  · refine end1 rfl rfl (by kernel_rfl) .f ⟨congrArg D.int ?_,rfl⟩
    rw [hr,List.drop_of_length_le (by omega)];rfl
theorem c_int_Contains (l : List Int) (x : Int) (hl : l.length < 1000000) : Con Tryz.prog 92 [.f (fI l),D.int x] [] fun r H'=>r = D.bool (decide (x ∈ l)) ∧ H' = []:=by
  refine Con.walk good fn_int_Contains (by simp) ?_
  unfold s_int_Contains
  simp only [argsE,List.length_cons,List.length_nil,Nat.reduceAdd]
  repeat' (first|(with_reducible first|refine Wx.h ?_|refine Wb.h fun K hK=>?_|(refine hK _ ?_;clear hK K)|(refine wT ?_ ?_;· assumption)|(refine wF ?_ ?_;· assumption))|((with_reducible refine kQ ?_ ?_);kernel_rfl)|((with_reducible refine k1 ?_ ?_);rfl)|((with_reducible refine k0 ?_ ?_);rfl)|((with_reducible apply kB)<;>first|rfl|intro h)|((with_reducible refine kM ?_ ?_);rfl)|(with_reducible refine Wq.h ?_ ?_)<;>intro h<;>try (exfalso;omega)|(with_reducible refine Wu.h ?_ ?_)<;>intro h<;>try simp only [h]|((fail_if_success with_reducible refine Wz.h ?_);first|simp (disch:=omega) only [↓LD,LA,loadA_rf,seval]|((with_reducible refine And.intro ?_ ?_);omega)|simp only [D.int,D.bool]))
  refine callW_self (c_int_Index l x hl) ?_
  rintro _ _ ⟨rfl,rfl⟩
  repeat' (first|(with_reducible first|refine Wx.h ?_|refine Wb.h fun K hK=>?_|(refine hK _ ?_;clear hK K)|(refine wT ?_ ?_;· assumption)|(refine wF ?_ ?_;· assumption))|((with_reducible refine kQ ?_ ?_);kernel_rfl)|((with_reducible refine k1 ?_ ?_);rfl)|((with_reducible refine k0 ?_ ?_);rfl)|((with_reducible apply kB)<;>first|rfl|intro h)|((with_reducible refine kM ?_ ?_);rfl)|(with_reducible refine Wq.h ?_ ?_)<;>intro h<;>try (exfalso;omega)|(with_reducible refine Wu.h ?_ ?_)<;>intro h<;>try simp only [h]|((fail_if_success with_reducible refine Wz.h ?_);first|simp (disch:=omega) only [↓LD,LA,loadA_rf,seval,D.int]|((with_reducible refine And.intro ?_ ?_);omega)|simp only [D.int,D.bool]))
  all_goals
    refine end1 rfl rfl (by kernel_rfl) .f ⟨congrArg D.bool ?_,rfl⟩
    have h1:=idxF_any (fun y=>decide (x = y)) 0 l
    have h2 : l.any (fun y=>decide (x = y)) = decide (x ∈ l):=by
      rw [Bool.eq_iff_iff];simp
    rw [← h2,← h1];simp;omega
instance {l : List Int} {x : Int} {H : List Row} {K : Bool → D → List Row → Prop} : Wa (callDr Tryz.prog (.fn 92 []) [.f (fI l),.f (.v (.int .i64 x))] H K) (l.length < 1000000 ∧ K true (.f (.v (.bool (decide (x ∈ l))))) H):=⟨fun h=>callDr_pure (c_int_Contains l x h.1) rfl rfl rfl h.2⟩
set_option maxHeartbeats 4000000
theorem flat_set {α : Type} [Inhabited α] {cs : α → List F} {n : Nat} (hn : ∀ x,(cs x).length = n) {j : Nat} {x : F} {y : α} (hj : j < n) : ∀ {l : List α} {k : Nat},k < l.length → cs y = (cs (gt l k)).set j x → (l.flatMap cs).set (k * n + j) x = (l.set k y).flatMap cs
  | [],k,hk,_=>by simp at hk
  | a :: l,0,_,hy=>by
    have : gt (a :: l) 0 = a:=rfl
    rw [this] at hy
    rw [List.set_cons_zero,List.flatMap_cons,List.flatMap_cons,hy,Nat.zero_mul,Nat.zero_add,List.set_append_left _ _ (by rw [hn];exact hj)]
  | a :: l,k + 1,hk,hy=>by
    have hk' : k < l.length:=by simpa using hk
    have : gt (a :: l) (k + 1) = gt l k:=by rw [gt_eq hk,gt_eq hk'];rfl
    rw [this] at hy
    rw [List.set_cons_succ,List.flatMap_cons,List.flatMap_cons,← flat_set hn hj hk' hy,List.set_append_right _ _ (by rw [hn,Nat.add_mul];omega),hn,show (k + 1) * n + j - n = k * n + j by rw [Nat.add_mul];omega]
theorem gt_set {α : Type} [Inhabited α] {l : List α} {k : Nat} {y : α} (h : k < l.length) : gt (l.set k y) k = y:=by rw [gt_eq (by rw [List.length_set];exact h)];simp
def stH (s : S12) : List Row:=[.box 29 (stL 1 2 3 s),rN s.nodes,rT s.tms,rS s.sgs]
theorem readyS_len (s : S12) : (readyS s).length ≤ s.defs.length:=by
  unfold readyS
  split
  · simp
  · exact Nat.le_trans (List.length_filter_le _ _) (ready_len _ _)
def beginL (s : S12) (e : Ev) : Int × S12 :=
  if (s.nodes.length : Int) ≤ e.node ∨ (s.defs.length : Int) ≤ e.node then (1,s)
  else if e.node ∉ readyS s ∨ e.n ≠ (gt s.nodes e.node.toNat).tr + 1 then (4,s)
  else (0,{ s with nodes:=s.nodes.set e.node.toNat { gt s.nodes e.node.toNat with st:=1,tr:=e.n,due:=e.time + (gt s.defs e.node.toNat).le } })
structure Num (s : S12) (e : Ev) : Prop where
  time : 0 ≤ e.time ∧ e.time ≤ 1099511627776
  le : ∀ d ∈ s.defs,0 ≤ d.le ∧ d.le ≤ 1048576
  tr : ∀ x ∈ s.nodes,0 ≤ x.tr ∧ x.tr ≤ 1000000
set_option maxRecDepth 100000 in
theorem c_st_begin (s : S12) (e : Ev) (hn : Num s e) (h0 : 0 ≤ e.node) (hf : Fit s.defs) (hl : s.nodes.length ≤ 1000000) :
    Con Tryz.prog 73 [.pt 0 0,evD e] (stH s) fun r H'=>r = D.int (beginL s e).1 ∧ H' = stH (beginL s e).2:=by
  obtain ⟨id,ver,time,closed,cancel,defs,nodes,tms,sgs⟩:=s
  obtain ⟨hn1,hn2,hn3⟩:=hn
  dsimp only at hn1 hn2 hn3 hf hl
  have hfl:=hf.1
  have hrl : (readyS ⟨id,ver,time,closed,cancel,defs,nodes,tms,sgs⟩).length < 1000000:=by
    have:=readyS_len ⟨id,ver,time,closed,cancel,defs,nodes,tms,sgs⟩
    dsimp only at this;omega
  suffices hh : ∀ Q : D → List Row → Prop,(∀ r H',r = D.int (beginL ⟨id,ver,time,closed,cancel,defs,nodes,tms,sgs⟩ e).1 → H' = stH (beginL ⟨id,ver,time,closed,cancel,defs,nodes,tms,sgs⟩ e).2 → Q r H') → Con Tryz.prog 73 [.pt 0 0,evD e] (stH ⟨id,ver,time,closed,cancel,defs,nodes,tms,sgs⟩) Q from hh _ fun _ _ h1 h2=>⟨h1,h2⟩
  intro Q hQ
  refine Con.walk good fn_st_begin (by simp) ?_
  unfold s_st_begin
  simp only [argsE,evD,stH,stL,rN,rT,rS]
  repeat' (first|(with_reducible first|refine Wx.h ?_|refine We.h fun K hK=>?_|refine Wd.h fun K M hK hM=>?_|(refine hK _ _ _ _ ?_;clear hK K;try clear hM M)|(refine hM ?_;clear hM M;try clear hK K)|refine Wb.h fun K hK=>?_|(refine hK _ ?_;clear hK K)|(refine wT ?_ ?_;· assumption)|(refine wF ?_ ?_;· assumption))|((with_reducible refine kQ ?_ ?_);kernel_rfl)|((with_reducible refine k1 ?_ ?_);rfl)|((with_reducible refine k0 ?_ ?_);rfl)|((with_reducible apply kB)<;>first|rfl|intro h)|((with_reducible refine kM ?_ ?_);rfl)|(with_reducible refine Wq.h ?_ ?_)<;>intro h<;>try (exfalso;omega)|(with_reducible refine Wu.h ?_ ?_)<;>intro h<;>try simp only [h]|((fail_if_success with_reducible refine Wz.h ?_);first|simp (disch:=omega) only [↓LD,LA,loadA_rf,seval,LSt]|((with_reducible refine And.intro ?_ ?_);omega)|simp only [D.int,D.bool]))
  · have hb : beginL ⟨id,ver,time,closed,cancel,defs,nodes,tms,sgs⟩ e = (1,⟨id,ver,time,closed,cancel,defs,nodes,tms,sgs⟩):=by
      unfold beginL;rw [if_pos];dsimp only;omega
    rw [hb] at hQ
    exact end1 rfl rfl (by kernel_rfl) .f (hQ _ _ rfl rfl)
  have hlt : ¬ ((nodes.length : Int) ≤ e.node ∨ (defs.length : Int) ≤ e.node):=by omega
  refine callDr_emb (c_st_ReadyL ⟨id,ver,time,closed,cancel,defs,nodes,tms,sgs⟩ hf hl) [1,2,3] (by kernel_rfl) rfl rfl ?_
  simp (disch:=omega) only [↓LD,LA,loadA_rf,seval,ren,List.getElem?_nil,stL,rN,rT,rS]
  by_cases hm : e.node ∈ readyS ⟨id,ver,time,closed,cancel,defs,nodes,tms,sgs⟩
  rotate_left
  · have hd:=decide_eq_false hm
    repeat' (first|(with_reducible first|refine Wx.h ?_|refine We.h fun K hK=>?_|refine Wd.h fun K M hK hM=>?_|(refine hK _ _ _ _ ?_;clear hK K;try clear hM M)|(refine hM ?_;clear hM M;try clear hK K)|refine Wb.h fun K hK=>?_|(refine hK _ ?_;clear hK K)|(refine wT ?_ ?_;· assumption)|(refine wF ?_ ?_;· assumption))|((with_reducible refine kQ ?_ ?_);kernel_rfl)|((with_reducible refine k1 ?_ ?_);rfl)|((with_reducible refine k0 ?_ ?_);rfl)|((with_reducible apply kB)<;>first|rfl|intro h)|((with_reducible refine kM ?_ ?_);rfl)|(with_reducible refine Wq.h ?_ ?_)<;>intro h<;>try (exfalso;omega)|(with_reducible refine Wu.h ?_ ?_)<;>intro h<;>try simp only [h]|((fail_if_success with_reducible refine Wz.h ?_);first|simp (disch:=omega) only [↓LD,LA,loadA_rf,seval,LSt,rN,rT,rS,hd,Bool.not_false]|((with_reducible refine And.intro ?_ ?_);omega)|simp only [D.int,D.bool]))
    have hb : beginL ⟨id,ver,time,closed,cancel,defs,nodes,tms,sgs⟩ e = (4,⟨id,ver,time,closed,cancel,defs,nodes,tms,sgs⟩):=by
      unfold beginL;rw [if_neg hlt,if_pos (.inl hm)]
    rw [hb] at hQ
    exact end1 rfl rfl (by kernel_rfl) .f (hQ _ _ rfl rfl)
  have hd:=decide_eq_true hm
  have hnl : e.node.toNat < nodes.length:=by omega
  have hdl : e.node.toNat < defs.length:=by omega
  have hb1:=hn2 _ (gt_mem hdl)
  have hb2:=hn3 _ (gt_mem hnl)
  repeat' (first|(with_reducible first|refine Wx.h ?_|refine We.h fun K hK=>?_|refine Wd.h fun K M hK hM=>?_|(refine hK _ _ _ _ ?_;clear hK K;try clear hM M)|(refine hM ?_;clear hM M;try clear hK K)|refine Wb.h fun K hK=>?_|(refine hK _ ?_;clear hK K)|(refine wT ?_ ?_;· assumption)|(refine wF ?_ ?_;· assumption))|((with_reducible refine kQ ?_ ?_);kernel_rfl)|((with_reducible refine k1 ?_ ?_);rfl)|((with_reducible refine k0 ?_ ?_);rfl)|((with_reducible apply kB)<;>first|rfl|intro h)|((with_reducible refine kM ?_ ?_);rfl)|(with_reducible refine Wq.h ?_ ?_)<;>intro h<;>try (exfalso;omega)|(with_reducible refine Wu.h ?_ ?_)<;>intro h<;>try simp only [h]|((fail_if_success with_reducible refine Wz.h ?_);first|simp (disch:=omega) only [↓LD,LA,loadA_rf,seval,LSt,rN,rT,rS,hd,Bool.not_true,at1_fNn,len_fNn,List.length_set,nd_at2,nd_cs,Nn.cs]|((with_reducible refine And.intro ?_ ?_);omega)|simp only [D.int,D.bool]))
  rotate_left
  · have hb : beginL ⟨id,ver,time,closed,cancel,defs,nodes,tms,sgs⟩ e = (4,⟨id,ver,time,closed,cancel,defs,nodes,tms,sgs⟩):=by
      unfold beginL;rw [if_neg hlt,if_pos (.inr h)]
    rw [hb] at hQ
    exact end1 rfl rfl (by kernel_rfl) .f (hQ _ _ rfl rfl)
  · have hb : beginL ⟨id,ver,time,closed,cancel,defs,nodes,tms,sgs⟩ e = (0,⟨id,ver,time,closed,cancel,defs,nodes.set e.node.toNat { gt nodes e.node.toNat with st:=1,tr:=e.n,due:=e.time + (gt defs e.node.toNat).le },tms,sgs⟩):=by
      unfold beginL;rw [if_neg hlt,if_neg]
      intro hh
      rcases hh with hh|hh
      · exact hh hm
      · exact hh h
    rw [hb] at hQ
    have e1 : (((nodes.flatMap Nn.cs).set (e.node.toNat * 4) (.v (.int .i64 1))).set (e.node.toNat * 4 + 1) (.v (.int .i64 e.n))).set (e.node.toNat * 4 + 2) (.v (.int .i64 (e.time + (gt defs e.node.toNat).le))) = (nodes.set e.node.toNat { gt nodes e.node.toNat with st:=1,tr:=e.n,due:=e.time + (gt defs e.node.toNat).le }).flatMap Nn.cs:=by
      have a1:=flat_set (cs:=Nn.cs) cs_Nn (j:=0) (x:=.v (.int .i64 1)) (y:={ gt nodes e.node.toNat with st:=1 }) (by omega) hnl rfl
      rw [Nat.add_zero] at a1
      rw [a1]
      rw [flat_set (cs:=Nn.cs) cs_Nn (j:=1) (y:={ gt nodes e.node.toNat with st:=1,tr:=e.n }) (by omega) (by rw [List.length_set];exact hnl) (by rw [gt_set hnl];rfl),List.set_set]
      rw [flat_set (cs:=Nn.cs) cs_Nn (j:=2) (y:={ gt nodes e.node.toNat with st:=1,tr:=e.n,due:=e.time + (gt defs e.node.toNat).le }) (by omega) (by rw [List.length_set];exact hnl) (by rw [gt_set hnl];rfl),List.set_set]
    rw [e1]
    refine end1 rfl rfl (by kernel_rfl) .f (hQ _ _ rfl ?_)
    simp only [stH,stL,rN,rT,rS,List.length_set]
    rfl
set_option maxHeartbeats 4000000
def cancelL (s : S12) : Int × S12:=if s.cancel = true then (4,s) else (0,{ s with cancel:=true })
theorem c_st_cancel (s : S12) : Con Tryz.prog 78 [.pt 0 0] (stH s) fun r H'=>r = D.int (cancelL s).1 ∧ H' = stH (cancelL s).2:=by
  obtain ⟨id,ver,time,closed,cancel,defs,nodes,tms,sgs⟩:=s
  suffices hh : ∀ Q : D → List Row → Prop,(∀ r H',r = D.int (cancelL ⟨id,ver,time,closed,cancel,defs,nodes,tms,sgs⟩).1 → H' = stH (cancelL ⟨id,ver,time,closed,cancel,defs,nodes,tms,sgs⟩).2 → Q r H') → Con Tryz.prog 78 [.pt 0 0] (stH ⟨id,ver,time,closed,cancel,defs,nodes,tms,sgs⟩) Q from hh _ fun _ _ h1 h2=>⟨h1,h2⟩
  intro Q hQ
  refine Con.walk good fn_st_cancel (by simp) ?_
  unfold s_st_cancel
  simp only [argsE,stH,stL,rN,rT,rS]
  cases cancel
  · have hb : cancelL ⟨id,ver,time,closed,false,defs,nodes,tms,sgs⟩ = (0,⟨id,ver,time,closed,true,defs,nodes,tms,sgs⟩):=rfl
    rw [hb] at hQ
    repeat' (first|(with_reducible first|refine Wx.h ?_|refine Wb.h fun K hK=>?_|(refine hK _ ?_;clear hK K)|(refine wT ?_ ?_;· assumption)|(refine wF ?_ ?_;· assumption))|((with_reducible refine kQ ?_ ?_);kernel_rfl)|((with_reducible refine k1 ?_ ?_);rfl)|((with_reducible refine k0 ?_ ?_);rfl)|((with_reducible apply kB)<;>first|rfl|intro h)|((with_reducible refine kM ?_ ?_);rfl)|(with_reducible refine Wq.h ?_ ?_)<;>intro h<;>try (exfalso;omega)|(with_reducible refine Wu.h ?_ ?_)<;>intro h<;>try simp only [h]|((fail_if_success with_reducible refine Wz.h ?_);first|simp (disch:=omega) only [↓LD,LA,loadA_rf,seval]|((with_reducible refine And.intro ?_ ?_);omega)|simp only [D.int,D.bool]))
    exact endA rfl rfl (hQ _ _ rfl rfl)
  · have hb : cancelL ⟨id,ver,time,closed,true,defs,nodes,tms,sgs⟩ = (4,⟨id,ver,time,closed,true,defs,nodes,tms,sgs⟩):=rfl
    rw [hb] at hQ
    repeat' (first|(with_reducible first|refine Wx.h ?_|refine Wb.h fun K hK=>?_|(refine hK _ ?_;clear hK K)|(refine wT ?_ ?_;· assumption)|(refine wF ?_ ?_;· assumption))|((with_reducible refine kQ ?_ ?_);kernel_rfl)|((with_reducible refine k1 ?_ ?_);rfl)|((with_reducible refine k0 ?_ ?_);rfl)|((with_reducible apply kB)<;>first|rfl|intro h)|((with_reducible refine kM ?_ ?_);rfl)|(with_reducible refine Wq.h ?_ ?_)<;>intro h<;>try (exfalso;omega)|(with_reducible refine Wu.h ?_ ?_)<;>intro h<;>try simp only [h]|((fail_if_success with_reducible refine Wz.h ?_);first|simp (disch:=omega) only [↓LD,LA,loadA_rf,seval]|((with_reducible refine And.intro ?_ ?_);omega)|simp only [D.int,D.bool]))
    exact endA rfl rfl (hQ _ _ rfl rfl)
theorem vw_st {id ver time closed : Int} {cancel : Bool} {defs : List Nd} {nodes : List Nn} {tms : List Tm} {sgs : List Sg} {T : TypeId} {H : List Row} :
    Vw (.box T [D.int id,D.int ver,D.int time,D.int closed,D.bool cancel,.f (fG defs),.sl 1 0 nodes.length,.sl 2 0 tms.length,.sl 3 0 sgs.length] :: rN nodes :: rT tms :: rS sgs :: H) (.pt 0 0) (.rf (S12.cs ⟨id,ver,time,closed,cancel,defs,nodes,tms,sgs⟩)):=by
  refine .pt (fs:=S12.cs ⟨id,ver,time,closed,cancel,defs,nodes,tms,sgs⟩) rfl rfl ?_
  intro i d x hd hx
  rcases i with _|_|_|_|_|_|_|_|_|i
  all_goals (simp [S12.cs] at hd hx;try (subst hd;subst hx))
  all_goals first
    | exact .f
    | exact Vw.sl (xs:=nodes.flatMap Nn.cs) rfl (fun e=>by rw [List.eq_nil_of_length_eq_zero e];rfl)
    | exact Vw.sl (xs:=tms.flatMap Tm.cs) rfl (fun e=>by rw [List.eq_nil_of_length_eq_zero e];rfl)
    | exact Vw.sl (xs:=sgs.flatMap Sg.cs) rfl (fun e=>by rw [List.eq_nil_of_length_eq_zero e];rfl)
instance {id ver time closed : Int} {cancel : Bool} {defs : List Nd} {nodes : List Nn} {tms : List Tm} {sgs : List Sg} {k : Int} {H : List Row} {K : D → List Row → Prop} : Wa (callW Tryz.prog (.fn 36 []) [.pt 0 0,.f (.v (.int .i64 k))] (.box 29 [.f (.v (.int .i64 id)),.f (.v (.int .i64 ver)),.f (.v (.int .i64 time)),.f (.v (.int .i64 closed)),.f (.v (.bool cancel)),.f (fG defs),.sl 1 0 nodes.length,.sl 2 0 tms.length,.sl 3 0 sgs.length] :: .data 51 (nodes.flatMap Nn.cs) :: .data 57 (tms.flatMap Tm.cs) :: .data 60 (sgs.flatMap Sg.cs) :: H) K)
    (nodes.length ≤ 1000000 ∧ K (.f (.v (.int .i64 (cntL nodes k)))) (.box 29 [.f (.v (.int .i64 id)),.f (.v (.int .i64 ver)),.f (.v (.int .i64 time)),.f (.v (.int .i64 closed)),.f (.v (.bool cancel)),.f (fG defs),.sl 1 0 nodes.length,.sl 2 0 tms.length,.sl 3 0 sgs.length] :: .data 51 (nodes.flatMap Nn.cs) :: .data 57 (tms.flatMap Tm.cs) :: .data 60 (sgs.flatMap Sg.cs) :: H)):=⟨fun h=>by
  refine callW_peek (c_st_status ⟨id,ver,time,closed,cancel,defs,nodes,tms,sgs⟩ k h.1) (.cons vw_st (.cons .f .nil)) ?_ ?_
  · rintro _ _ ⟨rfl,rfl⟩
    exact ⟨.f .v,by simp⟩
  · rintro _ _ ⟨rfl,rfl⟩
    show K (.f (.v (.int .i64 (cntL nodes k)))) (_ ++ [])
    rw [List.append_nil];exact h.2⟩
instance {id ver time closed : Int} {cancel : Bool} {defs : List Nd} {nodes : List Nn} {tms : List Tm} {sgs : List Sg} {k : Int} {H : List Row} {K : Bool → D → List Row → Prop} : Wa (callDr Tryz.prog (.fn 36 []) [.pt 0 0,.f (.v (.int .i64 k))] (.box 29 [.f (.v (.int .i64 id)),.f (.v (.int .i64 ver)),.f (.v (.int .i64 time)),.f (.v (.int .i64 closed)),.f (.v (.bool cancel)),.f (fG defs),.sl 1 0 nodes.length,.sl 2 0 tms.length,.sl 3 0 sgs.length] :: .data 51 (nodes.flatMap Nn.cs) :: .data 57 (tms.flatMap Tm.cs) :: .data 60 (sgs.flatMap Sg.cs) :: H) K)
    (nodes.length ≤ 1000000 ∧ K false (.f (.v (.int .i64 (cntL nodes k)))) (.box 29 [.f (.v (.int .i64 id)),.f (.v (.int .i64 ver)),.f (.v (.int .i64 time)),.f (.v (.int .i64 closed)),.f (.v (.bool cancel)),.f (fG defs),.sl 1 0 nodes.length,.sl 2 0 tms.length,.sl 3 0 sgs.length] :: .data 51 (nodes.flatMap Nn.cs) :: .data 57 (tms.flatMap Tm.cs) :: .data 60 (sgs.flatMap Sg.cs) :: H)):=⟨fun h=>by
  refine callDr_peek (c_st_status ⟨id,ver,time,closed,cancel,defs,nodes,tms,sgs⟩ k h.1) (.cons vw_st (.cons .f .nil)) ⟨.f .v,by simp⟩ ?_
  show K false (.f (.v (.int .i64 (cntL nodes k)))) (_ ++ [])
  rw [List.append_nil];exact h.2⟩
set_option maxHeartbeats 4000000
def closingL (s : S12) (k : Int) : Bool:=if k = 9 then decide ((cntL s.nodes 2 : Int) = s.nodes.length) else if k = 10 then decide ((0 : Int) < cntL s.nodes 3) else if k = 11 then s.cancel && decide ((cntL s.nodes 1 : Int) = 0) else true
theorem c_st_closing (s : S12) (k : Int) (hl : s.nodes.length ≤ 1000000) : Con Tryz.prog 79 [.pt 0 0,D.int k] (stH s) fun r H'=>r = D.bool (closingL s k) ∧ H' = stH s:=by
  obtain ⟨id,ver,time,closed,cancel,defs,nodes,tms,sgs⟩:=s
  suffices hh : ∀ Q : D → List Row → Prop,(∀ r H',r = D.bool (closingL ⟨id,ver,time,closed,cancel,defs,nodes,tms,sgs⟩ k) → H' = stH ⟨id,ver,time,closed,cancel,defs,nodes,tms,sgs⟩ → Q r H') → Con Tryz.prog 79 [.pt 0 0,D.int k] (stH ⟨id,ver,time,closed,cancel,defs,nodes,tms,sgs⟩) Q from hh _ fun _ _ h1 h2=>⟨h1,h2⟩
  intro Q hQ
  cases cancel
  all_goals
    refine Con.walk good fn_st_closing (by simp) ?_
    unfold s_st_closing
    simp only [argsE,stH,stL,rN,rT,rS]
    repeat' (first|(with_reducible first|refine Wx.h ?_|refine We.h fun K hK=>?_|refine Wd.h fun K M hK hM=>?_|(refine hK _ _ _ _ ?_;clear hK K;try clear hM M)|(refine hM ?_;clear hM M;try clear hK K)|refine Wb.h fun K hK=>?_|(refine hK _ ?_;clear hK K)|(refine wT ?_ ?_;· assumption)|(refine wF ?_ ?_;· assumption))|((with_reducible refine kQ ?_ ?_);kernel_rfl)|((with_reducible refine k1 ?_ ?_);rfl)|((with_reducible refine k0 ?_ ?_);rfl)|((with_reducible apply kB)<;>first|rfl|intro h)|((with_reducible refine kM ?_ ?_);rfl)|(with_reducible refine Wq.h ?_ ?_)<;>intro h<;>try (exfalso;omega)|(with_reducible refine Wu.h ?_ ?_)<;>intro h<;>try simp only [h]|((fail_if_success with_reducible refine Wz.h ?_);first|simp (disch:=omega) only [↓LD,LA,loadA_rf,seval]|((with_reducible refine And.intro ?_ ?_);omega)|simp only [D.int,D.bool]))
    all_goals (refine end1 rfl rfl (by kernel_rfl) .f (hQ _ _ (congrArg D.bool ?_) rfl);simp_all [closingL])
set_option maxHeartbeats 4000000
instance {id ver time closed : Int} {cancel : Bool} {defs : List Nd} {nodes : List Nn} {tms : List Tm} {sgs : List Sg} {nm : Bs} {H : List Row} {K : D → List Row → Prop} : Wa (callW Tryz.prog (.fn 94 []) [.pt 0 0,.f (.v (.string (BB nm)))] (.box 29 [.f (.v (.int .i64 id)),.f (.v (.int .i64 ver)),.f (.v (.int .i64 time)),.f (.v (.int .i64 closed)),.f (.v (.bool cancel)),.f (fG defs),.sl 1 0 nodes.length,.sl 2 0 tms.length,.sl 3 0 sgs.length] :: .data 51 (nodes.flatMap Nn.cs) :: .data 57 (tms.flatMap Tm.cs) :: .data 60 (sgs.flatMap Sg.cs) :: H) K)
    (tms.length ≤ 1000000 ∧ K (.f (.v (.int .i64 (tmI tms nm)))) (.box 29 [.f (.v (.int .i64 id)),.f (.v (.int .i64 ver)),.f (.v (.int .i64 time)),.f (.v (.int .i64 closed)),.f (.v (.bool cancel)),.f (fG defs),.sl 1 0 nodes.length,.sl 2 0 tms.length,.sl 3 0 sgs.length] :: .data 51 (nodes.flatMap Nn.cs) :: .data 57 (tms.flatMap Tm.cs) :: .data 60 (sgs.flatMap Sg.cs) :: H)):=⟨fun h=>by
  refine callW_peek (c_st_timer ⟨id,ver,time,closed,cancel,defs,nodes,tms,sgs⟩ nm h.1) (.cons vw_st (.cons .f .nil)) ?_ ?_
  · rintro _ _ ⟨rfl,rfl⟩
    exact ⟨.f .v,by simp⟩
  · rintro _ _ ⟨rfl,rfl⟩
    show K (.f (.v (.int .i64 (tmI tms nm)))) (_ ++ [])
    rw [List.append_nil];exact h.2⟩
theorem vws_st {id ver time closed : Int} {cancel : Bool} {defs : List Nd} {nodes : List Nn} {tms : List Tm} {sgs : List Sg} {R0 : Row} {H : List Row} : Vw (R0 :: .data 51 (nodes.flatMap Nn.cs) :: .data 57 (tms.flatMap Tm.cs) :: .data 60 (sgs.flatMap Sg.cs) :: H) (.ag [.f (.v (.int .i64 id)),.f (.v (.int .i64 ver)),.f (.v (.int .i64 time)),.f (.v (.int .i64 closed)),.f (.v (.bool cancel)),.f (fG defs),.sl 1 0 nodes.length,.sl 2 0 tms.length,.sl 3 0 sgs.length]) (stD ⟨id,ver,time,closed,cancel,defs,nodes,tms,sgs⟩) :=
  .ags (.cons .f (.cons .f (.cons .f (.cons .f (.cons .f (.cons .f (.cons (.sl (xs:=nodes.flatMap Nn.cs) rfl (fun e=>by rw [List.eq_nil_of_length_eq_zero e];rfl)) (.cons (.sl (xs:=tms.flatMap Tm.cs) rfl (fun e=>by rw [List.eq_nil_of_length_eq_zero e];rfl)) (.cons (.sl (xs:=sgs.flatMap Sg.cs) rfl (fun e=>by rw [List.eq_nil_of_length_eq_zero e];rfl)) .nil)))))))))
instance {id ver time closed : Int} {cancel : Bool} {defs : List Nd} {nodes : List Nn} {tms : List Tm} {sgs : List Sg} {nm : Bs} {R0 : Row} {H : List Row} {K : Bool → D → List Row → Prop} : Wa (callDr Tryz.prog (.fn 95 []) [.ag [.f (.v (.int .i64 id)),.f (.v (.int .i64 ver)),.f (.v (.int .i64 time)),.f (.v (.int .i64 closed)),.f (.v (.bool cancel)),.f (fG defs),.sl 1 0 nodes.length,.sl 2 0 tms.length,.sl 3 0 sgs.length],.f (.v (.string (BB nm)))] (R0 :: .data 51 (nodes.flatMap Nn.cs) :: .data 57 (tms.flatMap Tm.cs) :: .data 60 (sgs.flatMap Sg.cs) :: H) K)
    (sgs.length ≤ 1000000 ∧ K false (.f (.v (.bool (hasSg sgs nm)))) (R0 :: .data 51 (nodes.flatMap Nn.cs) :: .data 57 (tms.flatMap Tm.cs) :: .data 60 (sgs.flatMap Sg.cs) :: H)):=⟨fun h=>by
  refine callDr_peek (c_st_Has ⟨id,ver,time,closed,cancel,defs,nodes,tms,sgs⟩ nm h.1) (.cons vws_st (.cons .f .nil)) ⟨.f .v,by simp⟩ ?_
  show K false (.f (.v (.bool (hasSg sgs nm)))) (_ ++ [])
  rw [List.append_nil];exact h.2⟩
theorem idxF_lt {α : Type} (p : α → Bool) : ∀ (i : Nat) (l : List α),idxF p i l < i + l.length ∧ (idxF p i l < 0 → idxF p i l = -1) ∧ (0 ≤ idxF p i l → (i : Int) ≤ idxF p i l)
  | i,[]=>by simp [idxF];omega
  | i,x :: l=>by
    have:=idxF_lt p (i + 1) l
    simp only [idxF,List.length_cons]
    split<;>omega
theorem tmI_lt (l : List Tm) (nm : Bs) : tmI l nm < l.length:=by have:=(idxF_lt (fun x : Tm=>decide (x.name = nm)) 0 l).1;unfold tmI;omega
def endL (s : S12) (e : Ev) : Int × S12 :=
  if (s.nodes.length : Int) ≤ e.node ∨ (s.defs.length : Int) ≤ e.node then (1,s)
  else if (gt s.nodes e.node.toNat).st ≠ 1 ∨ e.n ≠ (gt s.nodes e.node.toNat).tr then (4,s)
  else if e.ty = 3 then (0,{ s with nodes:=s.nodes.set e.node.toNat { gt s.nodes e.node.toNat with st:=2,due:=0,data:=e.data } })
  else if (gt s.nodes e.node.toNat).tr = (gt s.defs e.node.toNat).tr then (0,{ s with nodes:=s.nodes.set e.node.toNat { gt s.nodes e.node.toNat with st:=3,due:=0 } })
  else (0,{ s with nodes:=s.nodes.set e.node.toNat { gt s.nodes e.node.toNat with st:=0,due:=0 } })
set_option maxRecDepth 100000 in
theorem c_st_end (s : S12) (e : Ev) (h0 : 0 ≤ e.node) (hl : s.nodes.length ≤ 1000000) (hd : e.data.length ≤ 1000000) (hdl : s.defs.length ≤ 1000000) :
    Con Tryz.prog 74 [.pt 0 0,evD e] (stH s) fun r H'=>r = D.int (endL s e).1 ∧ H' = stH (endL s e).2:=by
  obtain ⟨id,ver,time,closed,cancel,defs,nodes,tms,sgs⟩:=s
  dsimp only at hl hd
  suffices hh : ∀ Q : D → List Row → Prop,(∀ r H',r = D.int (endL ⟨id,ver,time,closed,cancel,defs,nodes,tms,sgs⟩ e).1 → H' = stH (endL ⟨id,ver,time,closed,cancel,defs,nodes,tms,sgs⟩ e).2 → Q r H') → Con Tryz.prog 74 [.pt 0 0,evD e] (stH ⟨id,ver,time,closed,cancel,defs,nodes,tms,sgs⟩) Q from hh _ fun _ _ h1 h2=>⟨h1,h2⟩
  intro Q hQ
  refine Con.walk good fn_st_end (by simp) ?_
  unfold s_st_end
  simp only [argsE,evD,stH,stL,rN,rT,rS]
  repeat' (first|(with_reducible first|refine Wx.h ?_|refine We.h fun K hK=>?_|refine Wd.h fun K M hK hM=>?_|(refine hK _ _ _ _ ?_;clear hK K;try clear hM M)|(refine hM ?_;clear hM M;try clear hK K)|refine Wb.h fun K hK=>?_|(refine hK _ ?_;clear hK K)|(refine wT ?_ ?_;· assumption)|(refine wF ?_ ?_;· assumption))|((with_reducible refine kQ ?_ ?_);kernel_rfl)|((with_reducible refine k1 ?_ ?_);rfl)|((with_reducible refine k0 ?_ ?_);rfl)|((with_reducible apply kB)<;>first|rfl|intro h)|((with_reducible refine kM ?_ ?_);rfl)|(with_reducible refine Wq.h ?_ ?_)<;>intro h<;>try (exfalso;omega)|(with_reducible refine Wu.h ?_ ?_)<;>intro h<;>try simp only [h]|((fail_if_success with_reducible refine Wz.h ?_);first|simp (disch:=omega) only [↓LD,LA,loadA_rf,seval,LSt,at0_fNn,at1_fNn,at2_fNn,at3_fNn,len_fNn,List.length_set,List.getElem?_set_ne,nd_at1,nd_cs,Nn.cs]|((with_reducible refine And.intro ?_ ?_);omega)|simp only [D.int,D.bool]))
  · have hb : endL ⟨id,ver,time,closed,cancel,defs,nodes,tms,sgs⟩ e = (1,⟨id,ver,time,closed,cancel,defs,nodes,tms,sgs⟩):=by
      unfold endL;rw [if_pos];dsimp only;omega
    rw [hb] at hQ
    exact end1 rfl rfl (by kernel_rfl) .f (hQ _ _ rfl rfl)
  all_goals have hlo:=(show ¬ ((nodes.length : Int) ≤ e.node ∨ (defs.length : Int) ≤ e.node) by omega)
  · have hb : endL ⟨id,ver,time,closed,cancel,defs,nodes,tms,sgs⟩ e = (0,⟨id,ver,time,closed,cancel,defs,nodes.set e.node.toNat { gt nodes e.node.toNat with st:=2,due:=0,data:=e.data },tms,sgs⟩):=by
      unfold endL;rw [if_neg hlo,if_neg (by simp_all),if_pos (by assumption)]
    rw [hb] at hQ
    have hnl : e.node.toNat < nodes.length:=by omega
    have e1 : ((((nodes.flatMap Nn.cs).set (e.node.toNat * 4 + 2) (.v (.int .i64 0))).set (e.node.toNat * 4) (.v (.int .i64 2))).set (e.node.toNat * 4 + 3) (fY e.data)) = (nodes.set e.node.toNat { gt nodes e.node.toNat with st:=2,due:=0,data:=e.data }).flatMap Nn.cs:=by
      have a1:=flat_set (cs:=Nn.cs) cs_Nn (j:=2) (x:=.v (.int .i64 0)) (y:={ gt nodes e.node.toNat with due:=0 }) (by omega) hnl rfl
      rw [a1]
      have a2:=flat_set (cs:=Nn.cs) cs_Nn (j:=0) (l:=nodes.set e.node.toNat { gt nodes e.node.toNat with due:=0 }) (k:=e.node.toNat) (x:=.v (.int .i64 2)) (y:={ gt nodes e.node.toNat with due:=0,st:=2 }) (by omega) (by rw [List.length_set];exact hnl) (by rw [gt_set hnl];rfl)
      rw [Nat.add_zero] at a2
      rw [a2,List.set_set]
      rw [flat_set (cs:=Nn.cs) cs_Nn (j:=3) (y:={ gt nodes e.node.toNat with due:=0,st:=2,data:=e.data }) (by omega) (by rw [List.length_set];exact hnl) (by rw [gt_set hnl];rfl),List.set_set]
    rw [e1]
    refine end1 rfl rfl (by kernel_rfl) .f (hQ _ _ rfl ?_)
    simp only [stH,stL,rN,rT,rS,List.length_set]
    rfl
  · have hb : endL ⟨id,ver,time,closed,cancel,defs,nodes,tms,sgs⟩ e = (0,⟨id,ver,time,closed,cancel,defs,nodes.set e.node.toNat { gt nodes e.node.toNat with st:=3,due:=0 },tms,sgs⟩):=by
      unfold endL;rw [if_neg hlo,if_neg (by simp_all),if_neg (by assumption),if_pos (by assumption)]
    rw [hb] at hQ
    have hnl : e.node.toNat < nodes.length:=by omega
    have e1 : (((nodes.flatMap Nn.cs).set (e.node.toNat * 4 + 2) (.v (.int .i64 0))).set (e.node.toNat * 4) (.v (.int .i64 3))) = (nodes.set e.node.toNat { gt nodes e.node.toNat with st:=3,due:=0 }).flatMap Nn.cs:=by
      have a1:=flat_set (cs:=Nn.cs) cs_Nn (j:=2) (x:=.v (.int .i64 0)) (y:={ gt nodes e.node.toNat with due:=0 }) (by omega) hnl rfl
      rw [a1]
      have a2:=flat_set (cs:=Nn.cs) cs_Nn (j:=0) (l:=nodes.set e.node.toNat { gt nodes e.node.toNat with due:=0 }) (k:=e.node.toNat) (x:=.v (.int .i64 3)) (y:={ gt nodes e.node.toNat with due:=0,st:=3 }) (by omega) (by rw [List.length_set];exact hnl) (by rw [gt_set hnl];rfl)
      rw [Nat.add_zero] at a2
      rw [a2,List.set_set]
    rw [e1]
    refine end1 rfl rfl (by kernel_rfl) .f (hQ _ _ rfl ?_)
    simp only [stH,stL,rN,rT,rS,List.length_set]
    rfl
  · have hb : endL ⟨id,ver,time,closed,cancel,defs,nodes,tms,sgs⟩ e = (0,⟨id,ver,time,closed,cancel,defs,nodes.set e.node.toNat { gt nodes e.node.toNat with st:=0,due:=0 },tms,sgs⟩):=by
      unfold endL;rw [if_neg hlo,if_neg (by simp_all),if_neg (by assumption),if_neg (by assumption)]
    rw [hb] at hQ
    have hnl : e.node.toNat < nodes.length:=by omega
    have e1 : (((nodes.flatMap Nn.cs).set (e.node.toNat * 4 + 2) (.v (.int .i64 0))).set (e.node.toNat * 4) (.v (.int .i64 0))) = (nodes.set e.node.toNat { gt nodes e.node.toNat with st:=0,due:=0 }).flatMap Nn.cs:=by
      have a1:=flat_set (cs:=Nn.cs) cs_Nn (j:=2) (x:=.v (.int .i64 0)) (y:={ gt nodes e.node.toNat with due:=0 }) (by omega) hnl rfl
      rw [a1]
      have a2:=flat_set (cs:=Nn.cs) cs_Nn (j:=0) (l:=nodes.set e.node.toNat { gt nodes e.node.toNat with due:=0 }) (k:=e.node.toNat) (x:=.v (.int .i64 0)) (y:={ gt nodes e.node.toNat with due:=0,st:=0 }) (by omega) (by rw [List.length_set];exact hnl) (by rw [gt_set hnl];rfl)
      rw [Nat.add_zero] at a2
      rw [a2,List.set_set]
    rw [e1]
    refine end1 rfl rfl (by kernel_rfl) .f (hQ _ _ rfl ?_)
    simp only [stH,stL,rN,rT,rS,List.length_set]
    rfl
  · have hb : endL ⟨id,ver,time,closed,cancel,defs,nodes,tms,sgs⟩ e = (4,⟨id,ver,time,closed,cancel,defs,nodes,tms,sgs⟩):=by
      unfold endL;rw [if_neg hlo,if_pos (.inr (by assumption))]
    rw [hb] at hQ
    exact end1 rfl rfl (by kernel_rfl) .f (hQ _ _ rfl rfl)
  · have hb : endL ⟨id,ver,time,closed,cancel,defs,nodes,tms,sgs⟩ e = (4,⟨id,ver,time,closed,cancel,defs,nodes,tms,sgs⟩):=by
      unfold endL;rw [if_neg hlo,if_pos (.inl (by assumption))]
    rw [hb] at hQ
    exact end1 rfl rfl (by kernel_rfl) .f (hQ _ _ rfl rfl)
def fireL (s : S12) (e : Ev) : Int × S12 :=
  if tmI s.tms e.name < 0 then (4,s)
  else if (gt s.tms (tmI s.tms e.name).toNat).fired = true ∨ e.time < (gt s.tms (tmI s.tms e.name).toNat).due then (4,s)
  else (0,{ s with tms:=s.tms.set (tmI s.tms e.name).toNat { gt s.tms (tmI s.tms e.name).toNat with fired:=true } })
set_option maxRecDepth 100000 in
theorem c_st_fire (s : S12) (e : Ev) (hl : s.tms.length ≤ 1000000) :
    Con Tryz.prog 76 [.pt 0 0,evD e] (stH s) fun r H'=>r = D.int (fireL s e).1 ∧ H' = stH (fireL s e).2:=by
  obtain ⟨id,ver,time,closed,cancel,defs,nodes,tms,sgs⟩:=s
  dsimp only at hl
  suffices hh : ∀ Q : D → List Row → Prop,(∀ r H',r = D.int (fireL ⟨id,ver,time,closed,cancel,defs,nodes,tms,sgs⟩ e).1 → H' = stH (fireL ⟨id,ver,time,closed,cancel,defs,nodes,tms,sgs⟩ e).2 → Q r H') → Con Tryz.prog 76 [.pt 0 0,evD e] (stH ⟨id,ver,time,closed,cancel,defs,nodes,tms,sgs⟩) Q from hh _ fun _ _ h1 h2=>⟨h1,h2⟩
  intro Q hQ
  refine Con.walk good fn_st_fire (by simp) ?_
  unfold s_st_fire
  simp only [argsE,evD,stH,stL,rN,rT,rS]
  have hlt:=tmI_lt tms e.name
  repeat' (first|(with_reducible first|refine Wx.h ?_|refine We.h fun K hK=>?_|refine Wd.h fun K M hK hM=>?_|(refine hK _ _ _ _ ?_;clear hK K;try clear hM M)|(refine hM ?_;clear hM M;try clear hK K)|refine Wb.h fun K hK=>?_|(refine hK _ ?_;clear hK K)|(refine wT ?_ ?_;· assumption)|(refine wF ?_ ?_;· assumption))|((with_reducible refine kQ ?_ ?_);kernel_rfl)|((with_reducible refine k1 ?_ ?_);rfl)|((with_reducible refine k0 ?_ ?_);rfl)|((with_reducible apply kB)<;>first|rfl|intro h)|((with_reducible refine kM ?_ ?_);rfl)|(with_reducible refine Wq.h ?_ ?_)<;>intro h<;>try (exfalso;omega)|(with_reducible refine Wu.h ?_ ?_)<;>intro h<;>try simp only [h]|((fail_if_success with_reducible refine Wz.h ?_);first|simp (disch:=omega) only [↓LD,LA,loadA_rf,seval,LSt,at0_fTm,at1_fTm,at2_fTm,len_fTm,List.length_set,List.getElem?_set_ne,Tm.cs]|((with_reducible refine And.intro ?_ ?_);omega)|simp only [D.int,D.bool]))
  · have hb : fireL ⟨id,ver,time,closed,cancel,defs,nodes,tms,sgs⟩ e = (4,⟨id,ver,time,closed,cancel,defs,nodes,tms,sgs⟩):=by
      unfold fireL;rw [if_pos (by assumption)]
    rw [hb] at hQ
    exact end1 rfl rfl (by kernel_rfl) .f (hQ _ _ rfl rfl)
  · have hb : fireL ⟨id,ver,time,closed,cancel,defs,nodes,tms,sgs⟩ e = (4,⟨id,ver,time,closed,cancel,defs,nodes,tms,sgs⟩):=by
      unfold fireL;rw [if_neg (by assumption),if_pos (.inl (by assumption))]
    rw [hb] at hQ
    exact end1 rfl rfl (by kernel_rfl) .f (hQ _ _ rfl rfl)
  · have hb : fireL ⟨id,ver,time,closed,cancel,defs,nodes,tms,sgs⟩ e = (4,⟨id,ver,time,closed,cancel,defs,nodes,tms,sgs⟩):=by
      unfold fireL;rw [if_neg (by assumption),if_pos (.inr (by assumption))]
    rw [hb] at hQ
    exact end1 rfl rfl (by kernel_rfl) .f (hQ _ _ rfl rfl)
  · have hb : fireL ⟨id,ver,time,closed,cancel,defs,nodes,tms,sgs⟩ e = (0,⟨id,ver,time,closed,cancel,defs,nodes,tms.set (tmI tms e.name).toNat { gt tms (tmI tms e.name).toNat with fired:=true },sgs⟩):=by
      unfold fireL;rw [if_neg (by assumption),if_neg (by simp_all)]
    rw [hb] at hQ
    have hnl : (tmI tms e.name).toNat < tms.length:=by omega
    rw [flat_set (cs:=Tm.cs) cs_Tm (j:=2) (y:={ gt tms (tmI tms e.name).toNat with fired:=true }) (by omega) hnl rfl]
    refine end1 rfl rfl (by kernel_rfl) .f (hQ _ _ rfl ?_)
    simp only [stH,stL,rN,rT,rS,List.length_set]
    rfl
end Go.Proofs.YtgbbpelfpagdoaaGreatDoor.Mir
