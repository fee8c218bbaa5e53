/- Texts laid into one file: Df, RwIn, Names, CEvent, Ev, EvR, EvT, CState, CByte. -/
import Derived.Test.YtgbbpelfpagdoaaGreatDoorSp08
import Derived.Lib.LaidTab
import Derived.MakeChecks
set_option linter.unusedVariables false
set_option linter.unusedSimpArgs false
namespace Go.Proofs.YtgbbpelfpagdoaaGreatDoor.Mir
open Go Go.RowKit
set_option maxHeartbeats 4000000
structure Rd where
  tr : Int
  le : Int
  ns : List Int
  deriving Inhabited
def Rd.cs (d : Rd) : List F:=[iF d.tr,iF d.le,fI d.ns]
theorem Rd.cs_len (d : Rd) : d.cs.length = 3:=rfl
def fR (g : List Rd) : F:=.s (g.flatMap Rd.cs) g.length
theorem rd_at0 {g : List Rd} {k : Nat} (hk : k < g.length) : (g.flatMap Rd.cs)[k * 3]? = some (iF (gt g k).tr):=flat_at (j:=0) Rd.cs_len hk (by omega)
theorem rd_at1 {g : List Rd} {k : Nat} (hk : k < g.length) : (g.flatMap Rd.cs)[k * 3 + 1]? = some (iF (gt g k).le):=flat_at (j:=1) Rd.cs_len hk (by omega)
theorem rd_at2 {g : List Rd} {k : Nat} (hk : k < g.length) : (g.flatMap Rd.cs)[k * 3 + 2]? = some (fI (gt g k).ns):=flat_at (j:=2) Rd.cs_len hk (by omega)
theorem slcS_fR {g : List Rd} : slcS (.f (fR g)) = some g.length:=id rfl
theorem idxS_fR {g : List Rd} {sz : Nat} {k : IntKind} {i : Int} {K : D → Prop} : idxS sz (.f (fR g)) (.f (.v (.int k i))) K = ((0 ≤ i ∧ i < g.length) ∧ K (.rf ((g.flatMap Rd.cs).drop (i.toNat * sz)))):=id rfl
theorem LRd : (type_of% @slcS_fR ∧ type_of% @idxS_fR):=⟨@slcS_fR,@idxS_fR⟩
theorem rise_mono7 {n m : Int} (h : n ≤ m) : ∀ {l : List Int} {a : Int},rise n a l = true → rise m a l = true
  | [],_,_=>rfl
  | y :: l,a,hr=>by
    simp only [rise,Bool.and_eq_true,decide_eq_true_eq] at hr ⊢
    exact ⟨⟨hr.1.1,by omega⟩,rise_mono7 h hr.2⟩
theorem rise_snoc7 {n z : Int} : ∀ {l : List Int} {a : Int},rise n a l = true → a < z → z < n → (∀ x ∈ l,x < z) → rise n a (l ++ [z]) = true
  | [],a,_,h1,h2,_=>by simp only [List.nil_append,rise,Bool.and_eq_true,decide_eq_true_eq,and_true];omega
  | y :: l,a,hr,h1,h2,h3=>by
    simp only [List.cons_append,rise,Bool.and_eq_true,decide_eq_true_eq] at hr ⊢
    exact ⟨hr.1,rise_snoc7 hr.2 (h3 y (by simp)) h2 fun x hx=>h3 x (by simp [hx])⟩
theorem rise_last7 {n z : Int} : ∀ {l : List Int} {a : Int} {q : Nat},rise n a l = true → l.length = q + 1 → gt l q < z → ∀ x ∈ l,x < z
  | [y],a,q,hr,hq,hl,x,hx=>by
    obtain rfl:=List.mem_singleton.1 hx
    obtain rfl : q = 0:=by simpa using hq.symm
    exact hl
  | y :: w :: l,a,q,hr,hq,hl,x,hx=>by
    have hq' : (w :: l).length = (q - 1) + 1:=by simp at hq ⊢;omega
    have hgq : gt (y :: w :: l) q = gt (w :: l) (q - 1):=by
      obtain ⟨p,rfl⟩ : ∃ p,q = p + 1:=⟨q - 1,by simp at hq;omega⟩
      rfl
    have hr2:=hr
    simp only [rise,Bool.and_eq_true,decide_eq_true_eq] at hr
    have hr' : rise n y (w :: l) = true:=by simp only [rise,Bool.and_eq_true,decide_eq_true_eq];exact hr.2
    have ih:=rise_last7 hr' hq' (by rw [← hgq];exact hl)
    rcases List.mem_cons.1 hx with rfl|hx
    · have:=ih w (by simp)
      have:=hr.2.1.1
      omega
    · exact ih x hx
theorem rise_len7 {n : Int} : ∀ {l : List Int} {a : Int},rise n a l = true → a < n → (l.length : Int) ≤ n - a - 1
  | [],a,_,ha=>by simp;omega
  | y :: l,a,h,ha=>by
    simp only [rise,Bool.and_eq_true,decide_eq_true_eq] at h
    have:=rise_len7 h.2 (by omega)
    simp only [List.length_cons]
    omega
def OkNd (i : Nat) (d : Nd) : Prop:=rise i (-1) d.ns = true ∧ 1 ≤ d.tr ∧ d.tr ≤ 5 ∧ 1 ≤ d.le ∧ d.le ≤ 1048576
def DefOk (ds : List Nd) : Prop:=∀ i,i < ds.length → OkNd i (gt ds i)
theorem gt_app {ds : List Nd} {d : Nd} {i : Nat} (h : i < ds.length) : gt (ds ++ [d]) i = gt ds i:=by
  rw [gt_eq (by simp;omega),gt_eq h,List.getElem_append_left h]
theorem gt_app_last {ds : List Nd} {d : Nd} : gt (ds ++ [d]) ds.length = d:=by
  rw [gt_eq (by simp)];simp
theorem defok_nil : DefOk []:=fun i h=>by simp at h
theorem defok_app {ds : List Nd} {d : Nd} (h : DefOk ds) (hd : OkNd ds.length d) : DefOk (ds ++ [d]):=fun i hi=>by
  rw [List.length_append,List.length_singleton] at hi
  by_cases hl : i < ds.length
  · rw [gt_app hl];exact h i hl
  · obtain rfl : i = ds.length:=by omega
    rw [gt_app_last];exact hd
theorem defok_one : DefOk [(⟨[],1,5⟩ : Nd)]:=defok_app (ds:=[]) defok_nil ⟨rfl,by decide,by decide,by decide,by decide⟩
theorem DefOk.fit {ds : List Nd} (h : DefOk ds) (hl : ds.length ≤ 6) : Fit ds:=by
  refine ⟨by omega,fun d hd=>?_⟩
  obtain ⟨i,hi,rfl⟩:=List.mem_iff_getElem.1 hd
  have h1:=h i hi
  rw [gt_eq hi] at h1
  have:=rise_len7 h1.1 (by omega)
  omega
def Def7 (r : D) (H' : List Row) : Prop:=∃ ds,r = .f (fG ds) ∧ DefOk ds ∧ 1 ≤ ds.length ∧ ds.length ≤ 6 ∧ H' = []
theorem View.fzb {P : Program} {n0 : Nat} {ts : List D} {H : List Row} {dr : List Nat} (r i q : Nat) {m k b : Nat} {T U : TypeId} {xs : List D} {ys : List F} {z : List Value} (hH : H[r]? = some (.box T xs)) (hx : xs[i]? = some (.sl q 0 m)) (hq : H[q]? = some (.data U ys)) (hi : inf P U = some (k,b,z)) (hn : ys.length = m * k) (hk : 0 < k) :
    View P n0 ⟨ts,H,dr⟩ ⟨ts,(H.set q .dead).set r (.box T (xs.set i (.f (.s ys m)))),[]⟩:=by
  have hne : q ≠ r:=fun e=>by subst e;rw [hH] at hq;cases hq
  have hlt : q < H.length:=(List.getElem?_eq_some_iff.1 hq).1
  have hlr : r < H.length:=(List.getElem?_eq_some_iff.1 hH).1
  by_cases hm : m = 0
  · subst hm
    have hy : ys = []:=List.eq_nil_of_length_eq_zero (by omega)
    subst hy
    have h1:=View.shed (P:=P) (n0:=n0) (ts:=ts) (dr:=dr) q hq
    have h2:=View.bcell (P:=P) (n0:=n0) (ts:=ts) (H:=H.set q .dead) (dr:=[]) r i (.f (.s [] 0)) (c:=.sl q 0 0) (by rw [List.getElem?_set_ne hne];exact hH) hx .os
    exact h1.trans h2
  · have h1:=View.fixb (P:=P) (n0:=n0) (ts:=ts) (dr:=dr) r i q hH hx hq hi hm hn hk
    have h2:=View.shed (P:=P) (n0:=n0) (ts:=ts) (H:=(H.set q (.froz U ys)).set r (.box T (xs.set i (.f (.s ys m))))) (dr:=[]) q (row:=.froz U ys) (by rw [List.getElem?_set_ne hne.symm,List.getElem?_set_self hlt])
    rw [List.set_comm _ _ hne.symm,List.set_set] at h2
    exact h1.trans h2
theorem pick7 : pick 7 20 = 7:=rfl
theorem inf_I : inf Tryz.prog 3 = some (1,8,[.int .i64 0]):=by kernel_rfl
theorem nd_app {ds : List Nd} {ns : List Int} {a b : Int} : ds.flatMap Nd.cs ++ [fI ns,F.v (.int .i64 a),F.v (.int .i64 b)] = (ds ++ [(⟨ns,a,b⟩ : Nd)]).flatMap Nd.cs:=by simp [Nd.cs]
theorem len_fG7 {g : List Nd} : (g.flatMap Nd.cs).length = g.length * 3:=flat_len' Nd.cs_len g
set_option maxRecDepth 100000 in
theorem c_hand_Defs7 (l : List Rd) : Con Tryz.prog 61 [.f (fR l),D.int 7] [] Def7:=by
  suffices hh : ∀ Q : D → List Row → Prop,(∀ ds,DefOk ds → 1 ≤ ds.length → ds.length ≤ 6 → Q (.f (fG ds)) []) → Con Tryz.prog 61 [.f (fR l),D.int 7] [] Q from hh _ fun ds h1 h2 h3=>⟨ds,rfl,h1,h2,h3,rfl⟩
  intro Q hQ
  refine Con.walk good fn_hand_Defs (by simp) ?_
  unfold s_hand_Defs
  simp only [argsE]
  repeat' (first|(with_reducible first|refine Wx.h ?_|refine Wb.h fun K hK=>?_|(refine hK _ ?_;clear hK K)|(refine wT ?_ ?_;· assumption)|(refine wF ?_ ?_;· assumption))|((with_reducible refine kQ ?_ ?_);kernel_rfl)|((with_reducible refine k1 ?_ ?_);rfl)|((with_reducible refine k0 ?_ ?_);rfl)|((with_reducible apply kB)<;>first|rfl|intro h)|((with_reducible refine kM ?_ ?_);rfl)|(with_reducible refine Wq.h ?_ ?_)<;>intro h<;>try (exfalso;omega)|(with_reducible refine Wu.h ?_ ?_)<;>intro h<;>try simp only [h]|((fail_if_success with_reducible refine Wz.h ?_);first|simp (disch:=omega) only [↓LD,LA,loadA_rf,seval,LRd]|((with_reducible refine And.intro ?_ ?_);omega)|simp only [D.int,D.bool]))
  refine HS.view (View.void 48) ?_
  refine HS.view (View.slot 5 (.sl 0 0 0) (.no (by show 0 < 1;omega))) ?_
  refine HS.cut [1,5] 0 (fun ds : List Nd=>⟨frm 158 [(1,D.int 7),(5,.sl 0 0 ds.length)],[.data 48 (ds.flatMap Nd.cs)],[]⟩) (fun ds=>DefOk ds ∧ ds.length ≤ 6) ?_ ?_
  · refine HS.loopG [0,1,5,6] (fun x : Nat × List Nd=>⟨frm 158 [(0,.f (fR l)),(1,D.int 7),(5,.sl 0 0 x.2.length),(6,D.int x.1)],[.data 48 (x.2.flatMap Nd.cs)],[]⟩)
      (fun x=>x.1 ≤ 6 ∧ DefOk x.2 ∧ x.2.length = x.1) (fun x=>6 - x.1) (0,[]) (by kernel_rfl) ⟨by omega,defok_nil,rfl⟩ ?_
    rintro ⟨i,ds⟩ ⟨hi,hds,hdl⟩
    dsimp only at hi hds hdl
    have p1:=pick_in (x:=(gt l i).tr) (n:=3) (by omega)
    have p2:=pick_in (x:=(gt l i).le) (n:=9) (by omega)
    repeat' (first|(with_reducible first|refine Wx.h ?_|refine We.h fun K hK=>?_|refine Wd.h fun K M hK hM=>?_|(refine hK _ _ _ _ ?_;clear hK K;try clear hM M)|(refine hM ?_;clear hM M;try clear hK K)|refine Wb.h fun K hK=>?_|(refine hK _ ?_;clear hK K)|(refine wT ?_ ?_;· assumption)|(refine wF ?_ ?_;· assumption))|((with_reducible refine kQ ?_ ?_);kernel_rfl)|((with_reducible refine k1 ?_ ?_);rfl)|((with_reducible refine k0 ?_ ?_);rfl)|((with_reducible apply kB)<;>first|rfl|intro h)|((with_reducible refine kM ?_ ?_);rfl)|(with_reducible refine Wq.h ?_ ?_)<;>intro h<;>try (exfalso;omega)|(with_reducible refine Wu.h ?_ ?_)<;>intro h<;>try simp only [h]|((fail_if_success with_reducible refine Wz.h ?_);first|simp (disch:=omega) only [↓LD,LA,loadA_rf,seval,LRd,rd_at0,rd_at1,rd_at2,flat_len' Rd.cs_len]|((with_reducible refine And.intro ?_ ?_);omega)|simp only [D.int,D.bool]))
    · refine HS.view (View.void 3) ?_
      refine HS.view (View.bcell 1 0 (.sl 2 0 0) rfl rfl (.no (by show 2 < 3;omega))) ?_
      refine HS.cut [0,1,5,6,7] 2 (fun ns : List Int=>⟨frm 158 [(0,.f (fR l)),(1,D.int 7),(5,.sl 0 0 ds.length),(6,D.int i),(7,.pt 1 0)],[.data 48 (ds.flatMap Nd.cs),.box 48 [.sl 2 0 ns.length,D.int (1 + pick (gt l i).tr 3),D.int (1 + pick (gt l i).le 9)],.data 3 (ns.map iF)],[]⟩) (fun ns=>rise i (-1) ns = true) ?_ ?_
      · refine HS.loopG [0,1,5,6,7,8] (fun x : Nat × List Int=>⟨frm 158 [(0,.f (fR l)),(1,D.int 7),(5,.sl 0 0 ds.length),(6,D.int i),(7,.pt 1 0),(8,D.int x.1)],[.data 48 (ds.flatMap Nd.cs),.box 48 [.sl 2 0 x.2.length,D.int (1 + pick (gt l i).tr 3),D.int (1 + pick (gt l i).le 9)],.data 3 (x.2.map iF)],[]⟩)
          (fun x=>x.1 ≤ i ∧ rise x.1 (-1) x.2 = true) (fun x=>i - x.1) (0,[]) (by kernel_rfl) ⟨by omega,rfl⟩ ?_
        rintro ⟨j,ns⟩ ⟨hj,hr⟩
        dsimp only at hj hr
        repeat' (first|(with_reducible first|refine Wx.h ?_|refine Wb.h fun K hK=>?_|(refine hK _ ?_;clear hK K)|(refine wT ?_ ?_;· assumption)|(refine wF ?_ ?_;· assumption))|((with_reducible refine kQ ?_ ?_);kernel_rfl)|((with_reducible refine k1 ?_ ?_);rfl)|((with_reducible refine k0 ?_ ?_);rfl)|((with_reducible apply kB)<;>first|rfl|intro h)|((with_reducible refine kM ?_ ?_);rfl)|(with_reducible refine Wq.h ?_ ?_)<;>intro h<;>try (exfalso;omega)|(with_reducible refine Wu.h ?_ ?_)<;>intro h<;>try simp only [h]|((fail_if_success with_reducible refine Wz.h ?_);first|simp (disch:=omega) only [↓LD,LA,loadA_rf,seval,LRd]|((with_reducible refine And.intro ?_ ?_);omega)|simp only [D.int,D.bool]))
        · refine HS.loopG [0,1,5,6,7,8,9] (fun x : Nat × List Int=>⟨frm 158 [(0,.f (fR l)),(1,D.int 7),(5,.sl 0 0 ds.length),(6,D.int i),(7,.pt 1 0),(8,D.int j),(9,D.int x.1)],[.data 48 (ds.flatMap Nd.cs),.box 48 [.sl 2 0 x.2.length,D.int (1 + pick (gt l i).tr 3),D.int (1 + pick (gt l i).le 9)],.data 3 (x.2.map iF)],[]⟩)
            (fun x=>x.1 ≤ 3 ∧ rise (j + 1 : Nat) (-1) x.2 = true) (fun x=>3 - x.1) (0,ns) (by kernel_rfl) ⟨by omega,rise_mono7 (by omega) hr⟩ ?_
          rintro ⟨m,qs⟩ ⟨hm,hs⟩
          dsimp only at hm hs
          have hql:=rise_len7 hs (by omega)
          repeat' (first|(with_reducible first|refine Wx.h ?_|refine Wb.h fun K hK=>?_|(refine hK _ ?_;clear hK K)|(refine wT ?_ ?_;· assumption)|(refine wF ?_ ?_;· assumption))|((with_reducible refine kQ ?_ ?_);kernel_rfl)|((with_reducible refine k1 ?_ ?_);rfl)|((with_reducible refine k0 ?_ ?_);rfl)|((with_reducible apply kB)<;>first|rfl|intro h)|((with_reducible refine kM ?_ ?_);rfl)|(with_reducible refine Wq.h ?_ ?_)<;>intro h<;>try (exfalso;omega)|(with_reducible refine Wu.h ?_ ?_)<;>intro h<;>try simp only [h]|((fail_if_success with_reducible refine Wz.h ?_);first|simp (disch:=omega) only [↓LD,LA,loadA_rf,seval,LRd,rd_at0,rd_at1,rd_at2,flat_len' Rd.cs_len,List.length_map]|((with_reducible refine And.intro ?_ ?_);omega)|simp only [D.int,D.bool]))
          · have hz : qs = []:=List.eq_nil_of_length_eq_zero (by omega)
            rw [show qs.length + 1 = (qs ++ [(j : Int)]).length by simp]
            exact Next.mk (m + 1,qs ++ [(j : Int)]) (by kernel_rfl) ⟨by dsimp only;omega,rise_snoc7 hs (by omega) (by omega) (fun x hx=>by rw [hz] at hx;simp at hx)⟩ (by dsimp only;omega)
          · have hlt : gt qs ((qs.length : Int) - 1).toNat < (j : Int):=by assumption
            rw [show qs.length + 1 = (qs ++ [(j : Int)]).length by simp]
            exact Next.mk (m + 1,qs ++ [(j : Int)]) (by kernel_rfl) ⟨by dsimp only;omega,rise_snoc7 hs (by omega) (by omega) (rise_last7 (q:=qs.length - 1) hs (by omega) (by rw [show ((qs.length : Int) - 1).toNat = qs.length - 1 by omega] at hlt;exact hlt))⟩ (by dsimp only;omega)
          · exact Next.mk (m + 1,qs) (by kernel_rfl) ⟨by dsimp only;omega,hs⟩ (by dsimp only;omega)
          · exact Next.mk (m + 1,qs) (by kernel_rfl) ⟨by dsimp only;omega,hs⟩ (by dsimp only;omega)
          · exact Next.mk (j + 1,qs) (by kernel_rfl) ⟨by dsimp only;omega,hs⟩ (by dsimp only;omega)
          · exact Next.mk (j + 1,qs) (by kernel_rfl) ⟨by dsimp only;omega,hs⟩ (by dsimp only;omega)
        · exact OutS.mk ns (by kernel_rfl) (rise_mono7 (by omega) hr)
      · intro ns hr s' hv
        refine blockQ_hit ?_
        refine thenQ_n ?_
        refine HS.view hv ?_
        clear hv
        have hnl:=rise_len7 hr (by omega)
        refine HS.view (View.fzb 1 0 2 rfl rfl rfl inf_I (by rw [List.length_map,Nat.mul_one]) (by omega)) ?_
        rw [show F.s (ns.map iF) ns.length = fI ns from rfl]
        repeat' (first|(with_reducible first|refine Wx.h ?_|refine Wb.h fun K hK=>?_|(refine hK _ ?_;clear hK K)|(refine wT ?_ ?_;· assumption)|(refine wF ?_ ?_;· assumption))|((with_reducible refine kQ ?_ ?_);kernel_rfl)|((with_reducible refine k1 ?_ ?_);rfl)|((with_reducible refine k0 ?_ ?_);rfl)|((with_reducible apply kB)<;>first|rfl|intro h)|((with_reducible refine kM ?_ ?_);rfl)|(with_reducible refine Wq.h ?_ ?_)<;>intro h<;>try (exfalso;omega)|(with_reducible refine Wu.h ?_ ?_)<;>intro h<;>try simp only [h]|((fail_if_success with_reducible refine Wz.h ?_);first|simp (disch:=omega) only [↓LD,LA,loadA_rf,seval,LRd,len_fG7,nd_app]|((with_reducible refine And.intro ?_ ?_);omega)|simp only [D.int,D.bool]))
        rw [show ds.length + 1 = (ds ++ [(⟨ns,1 + pick (gt l i).tr 3,1 + pick (gt l i).le 9⟩ : Nd)]).length by simp]
        exact Next.mk (i + 1,ds ++ [(⟨ns,1 + pick (gt l i).tr 3,1 + pick (gt l i).le 9⟩ : Nd)]) (by kernel_rfl) ⟨by dsimp only;omega,defok_app hds ⟨by rw [hdl];exact hr,by dsimp only;omega,by dsimp only;omega,by dsimp only;omega,by dsimp only;omega⟩,by simp [hdl]⟩ (by dsimp only;omega)
    · exact OutS.mk ds (by kernel_rfl) ⟨hds,by omega⟩
    · exact OutS.mk ds (by kernel_rfl) ⟨hds,by omega⟩
  · rintro ds ⟨hds,hdl⟩ s' hv
    refine blockQ_hit ?_
    refine thenQ_n ?_
    refine HS.view hv ?_
    clear hv
    by_cases hz : ds.length = 0
    · obtain rfl:=List.eq_nil_of_length_eq_zero hz
      repeat' (first|(with_reducible first|refine Wa.h ?_|refine Ws.h ?_|refine Wb.h fun K hK=>?_|(refine hK _ ?_;clear hK K)|(refine wT ?_ ?_;· assumption)|(refine wF ?_ ?_;· assumption))|((with_reducible refine kQ ?_ ?_);kernel_rfl)|((with_reducible refine k1 ?_ ?_);rfl)|((with_reducible refine k0 ?_ ?_);rfl)|((with_reducible apply kB)<;>first|rfl|intro h)|((with_reducible refine kM ?_ ?_);rfl)|(with_reducible refine Wq.h ?_ ?_)<;>intro h<;>try (exfalso;omega)|(with_reducible refine Wu.h ?_ ?_)<;>intro h<;>try simp only [h]|((fail_if_success with_reducible refine Wz.h ?_);first|simp (disch:=omega) only [↓LD,LA,loadA_rf,seval,pick7]|((with_reducible refine And.intro ?_ ?_);omega)|simp only [D.int,D.bool]))
      refine HS.view (View.wkd 1 ([(⟨[],1,5⟩ : Nd)].flatMap Nd.cs) rfl rfl ?_) ?_
      · intro i x y hx hy
        rcases i with _|_|_|i
        all_goals (simp [Nd.cs,fI] at hx hy;try (subst hx;subst hy;simp))
      repeat' (first|(with_reducible first|refine Wx.h ?_|refine Wb.h fun K hK=>?_|(refine hK _ ?_;clear hK K)|(refine wT ?_ ?_;· assumption)|(refine wF ?_ ?_;· assumption))|((with_reducible refine kQ ?_ ?_);kernel_rfl)|((with_reducible refine k1 ?_ ?_);rfl)|((with_reducible refine k0 ?_ ?_);rfl)|((with_reducible apply kB)<;>first|rfl|intro h)|((with_reducible refine kM ?_ ?_);rfl)|(with_reducible refine Wq.h ?_ ?_)<;>intro h<;>try (exfalso;omega)|(with_reducible refine Wu.h ?_ ?_)<;>intro h<;>try simp only [h]|((fail_if_success with_reducible refine Wz.h ?_);first|simp (disch:=omega) only [↓LD,LA,loadA_rf,seval]|((with_reducible refine And.intro ?_ ?_);omega)|simp only [D.int,D.bool]))
      exact end1 rfl rfl (by kernel_rfl) (.sl (T:=48) (xs:=[(⟨[],1,5⟩ : Nd)].flatMap Nd.cs) rfl (fun e=>by cases e)) (hQ [(⟨[],1,5⟩ : Nd)] defok_one (by simp) (by simp))
    · repeat' (first|(with_reducible first|refine Wx.h ?_|refine Wb.h fun K hK=>?_|(refine hK _ ?_;clear hK K)|(refine wT ?_ ?_;· assumption)|(refine wF ?_ ?_;· assumption))|((with_reducible refine kQ ?_ ?_);kernel_rfl)|((with_reducible refine k1 ?_ ?_);rfl)|((with_reducible refine k0 ?_ ?_);rfl)|((with_reducible apply kB)<;>first|rfl|intro h)|((with_reducible refine kM ?_ ?_);rfl)|(with_reducible refine Wq.h ?_ ?_)<;>intro h<;>try (exfalso;omega)|(with_reducible refine Wu.h ?_ ?_)<;>intro h<;>try simp only [h]|((fail_if_success with_reducible refine Wz.h ?_);first|simp (disch:=omega) only [↓LD,LA,loadA_rf,seval,pick7]|((with_reducible refine And.intro ?_ ?_);omega)|simp only [D.int,D.bool]))
      exact end1 rfl rfl (by kernel_rfl) (.sl (T:=48) (xs:=ds.flatMap Nd.cs) rfl (fun e=>absurd e hz)) (hQ ds hds (by omega) hdl)
end Go.Proofs.YtgbbpelfpagdoaaGreatDoor.Mir
namespace Go.Proofs.YtgbbpelfpagdoaaGreatDoor
open Go Go.RowKit
abbrev RawIn:=Int × Int × Option Addr × Nat × List Int
def rawV (x : RawIn) : List Value:=[.int .i64 x.1,.int .i64 x.2.1,.slice x.2.2.1 x.2.2.2.2.length x.2.2.2.1]
def rawOk (W : World) (x : RawIn) : Prop:=InS (fun n : Int=>[Value.int .i64 n]) (fun n=>(Lit.int .i64 n).wf = true) 8 W x.2.2.1 x.2.2.2.1 x.2.2.2.2
theorem reader_raw (W : World) : Reader Tryz.prog W 118 rawV (rawOk W) :=
  Reader.map (reader_struct Tryz.underlying118 (by kernel_rfl) (freader_cons (m:=1) rfl (by kernel_rfl) (reader_int Tryz.underlying3)
    (freader_cons (m:=1) rfl (by kernel_rfl) (reader_int Tryz.underlying3) (freader_cons (m:=1) rfl (by kernel_rfl) (reader_slice (n:=1) (B:=8) Tryz.underlying46 (by kernel_rfl) (by kernel_rfl) (fun _=>rfl) (reader_int Tryz.underlying3)) (freader_nil _)))))
    (fun x=>(x.1,x.2.1,x.2.2.1)) (fun _ _=>rfl) (fun _ h=>h.2.2.1)
theorem open_raws {H : Type} {enc : TypeId × Value → H} {W : World} {ts : List TypeId} {ds : List (DataW H)} (hsz : (DataW.weightsEach Tryz.prog ts ds).all (· ≤ reachBytes) = true) {d : DataW H} {ps : List MemPlace} (j : Nat) (htj : ts[j]? = some 23) (hdj : ds[j]? = some d)
    {a : Option Addr} {len cap : Nat} (h : DataW.Trod enc Tryz.prog W 0 (fun _=>true) true 23 (.slice a len cap) d ps) : ∃ xs : List RawIn,xs.length = len ∧ InS rawV (rawOk W) 40 W a cap xs :=
  open_slice_arg (n:=3) (B:=40) (f:=rawV) hsz j htj hdj Tryz.underlying23 (by kernel_rfl) (by kernel_rfl) (fun _=>rfl) (reader_raw W) h
def rawD (x : RawIn) : Mir.Rd:=⟨x.1,x.2.1,x.2.2.2.2⟩
theorem rf_raws {W : World} {A : Nat → Prop} (hA : ∀ b,¬ A b) {a : Option Addr} {c : Nat} {xs : List RawIn} (h : InS rawV (rawOk W) 40 W a c xs) : Mir.RF W A (Mir.fR (xs.map rawD)) (.slice a xs.length c):=by
  have h1:=Mir.rf_in (A:=A) (g:=fun x=>Mir.Rd.cs (rawD x)) h hA fun x hx=>.cons (.v rfl) (.cons (.v rfl) (.cons (Mir.rf_ints hx hA) .nil))
  have e : Mir.fR (xs.map rawD) = .s (xs.flatMap fun x=>Mir.Rd.cs (rawD x)) xs.length:=by rw [Mir.fR,List.flatMap_map,List.length_map]
  rw [e];exact h1
abbrev RwIn:=Int × Int × Int × Int × Int × Option Addr × Nat × List UInt8
def rwV (x : RwIn) : List Value:=[.int .i64 x.1,.int .i64 x.2.1,.int .i64 x.2.2.1,.int .i64 x.2.2.2.1,.int .i64 x.2.2.2.2.1,.slice x.2.2.2.2.2.1 x.2.2.2.2.2.2.2.length x.2.2.2.2.2.2.1]
def rwOk (W : World) (x : RwIn) : Prop:=InS byteCell (fun _=>True) 1 W x.2.2.2.2.2.1 x.2.2.2.2.2.2.1 x.2.2.2.2.2.2.2
theorem reader_rw (W : World) : Reader Tryz.prog W 72 rwV (rwOk W) :=
  Reader.map (reader_struct Tryz.underlying72 (by kernel_rfl) (freader_cons (m:=1) rfl (by kernel_rfl) (reader_int Tryz.underlying3)
    (freader_cons (m:=1) rfl (by kernel_rfl) (reader_int Tryz.underlying3) (freader_cons (m:=1) rfl (by kernel_rfl) (reader_int Tryz.underlying3) (freader_cons (m:=1) rfl (by kernel_rfl) (reader_int Tryz.underlying3) (freader_cons (m:=1) rfl (by kernel_rfl) (reader_int Tryz.underlying3)
    (freader_cons (m:=1) rfl (by kernel_rfl) (reader_slice (n:=1) (B:=1) Tryz.underlying40 (by kernel_rfl) (by kernel_rfl) (fun _=>rfl) (reader_byte Tryz.underlying5)) (freader_nil _))))))))
    (fun x=>(x.1,x.2.1,x.2.2.1,x.2.2.2.1,x.2.2.2.2.1,x.2.2.2.2.2.1)) (fun _ _=>rfl) (fun _ h=>h.2.2.2.2.2.1)
theorem open_rws {H : Type} {enc : TypeId × Value → H} {W : World} {ts : List TypeId} {ds : List (DataW H)} (hsz : (DataW.weightsEach Tryz.prog ts ds).all (· ≤ reachBytes) = true) {d : DataW H} {ps : List MemPlace} (j : Nat) (htj : ts[j]? = some 22) (hdj : ds[j]? = some d)
    {a : Option Addr} {len cap : Nat} (h : DataW.Trod enc Tryz.prog W 0 (fun _=>true) true 22 (.slice a len cap) d ps) : ∃ xs : List RwIn,xs.length = len ∧ InS rwV (rwOk W) 64 W a cap xs :=
  open_slice_arg (n:=6) (B:=64) (f:=rwV) hsz j htj hdj Tryz.underlying22 (by kernel_rfl) (by kernel_rfl) (fun _=>rfl) (reader_rw W) h
def rwDD (x : RwIn) : Mir.Rw:=⟨x.1,x.2.1,x.2.2.1,x.2.2.2.1,x.2.2.2.2.1,x.2.2.2.2.2.2.2⟩
theorem Mir.rf_bsI {W : World} {A : Nat → Prop} (hA : ∀ b,¬ A b) {a : Option Addr} {c : Nat} {xs : List UInt8} (h : InS byteCell (fun _=>True) 1 W a c xs) : Mir.RF W A (Mir.fY xs) (.slice a xs.length c):=by
  have h1:=Mir.rf_in (A:=A) (g:=fun b=>[Mir.uF b]) h hA fun x _=>.cons (.v rfl) .nil
  have e : ∀ l : List UInt8,l.flatMap (fun b=>[Mir.uF b]) = l.map Mir.uF:=fun l=>by
    induction l with
    | nil=>rfl
    | cons x l ih=>rw [List.flatMap_cons,ih];rfl
  rw [e] at h1
  exact h1
theorem rf_rws {W : World} {A : Nat → Prop} (hA : ∀ b,¬ A b) {a : Option Addr} {c : Nat} {xs : List RwIn} (h : InS rwV (rwOk W) 64 W a c xs) : Mir.RF W A (Mir.fRw (xs.map rwDD)) (.slice a xs.length c):=by
  have h1:=Mir.rf_in (A:=A) (g:=fun x=>Mir.Rw.cs (rwDD x)) h hA fun x hx=>.cons (.v rfl) (.cons (.v rfl) (.cons (.v rfl) (.cons (.v rfl) (.cons (.v rfl) (.cons (Mir.rf_bsI hA hx) .nil)))))
  have e : Mir.fRw (xs.map rwDD) = .s (xs.flatMap fun x=>Mir.Rw.cs (rwDD x)) xs.length:=by rw [Mir.fRw,List.flatMap_map,List.length_map]
  rw [e];exact h1
theorem cells_of_strs {H : Type} {enc : TypeId × Value → H} {P : Program} {w : World} {base : Nat} {sp : Nat → Bool} {held : Bool} {fuel : Nat} {t e : TypeId} {n : Nat} {cs : List Value} {ss : List (List UInt8)} {p : List MemPlace}
    (ht : P.underlying t = some (.array n e)) (he : P.underlying e = some .string) (hce : P.cellsOf e = 1) (hct : P.cellsOf t = n)
    (h : DataW.trod enc P w base sp held fuel t cs = some (.agg (ss.map fun s=>.lit (.string s)),p)) : cs = ss.map fun s=>Value.string ⟨s.toArray⟩:=by
  cases fuel with
  | zero=>simp [DataW.trod] at h
  | succ fuel =>
    simp only [DataW.trod,ht,hce,hct,Nat.mul_one] at h
    split at h
    · rename_i hl
      obtain ⟨xs,hm,hx⟩:=Option.map_eq_some_iff.1 h
      have hxs : xs.map (·.1) = ss.map fun s=>(DataW.lit (.string s) : DataW H):=by
        have:=congrArg Prod.fst hx
        simpa using this
      have hxl : xs.length = n:=by simpa using Lib.mapM_length hm
      have hzl : ss.length = n:=by
        have:=congrArg List.length hxs
        simp at this
        omega
      apply List.ext_getElem?
      intro i
      by_cases hi : i < n
      · obtain ⟨b,hb,hf⟩:=Lib.mapM_at hm i i (by simp [hi])
        obtain ⟨z,hc,rfl,_⟩:=DataW.trod_string he hf
        have h1 : cs[i]? = some (.string z):=by
          have:=congrArg (·[0]?) hc
          simpa [List.getElem?_take,List.getElem?_drop] using this
        have h2 : (xs.map (·.1))[i]? = some (DataW.lit (.string z.data.toList) : DataW H):=by simp [hb]
        rw [hxs] at h2
        simp only [List.getElem?_map,Option.map_eq_some_iff,DataW.lit.injEq,Lit.string.injEq] at h2
        obtain ⟨z',hz',e1⟩:=h2
        rw [h1,List.getElem?_map,hz',Option.map_some,e1]
      · rw [List.getElem?_eq_none (by omega),List.getElem?_eq_none (by simp;omega)]
    · cases h
def nameTab : List (List UInt8):=[[97],[98],[106,111,98,45,49],[122,57],[109],[120,45]]
theorem gNames : Tryz.prog.globalNamed "cutover/cutoverhand.names" = some 0 := by kernel_rfl
theorem gNamesType : (Tryz.prog.globals[0]?).map (·.type) = some 119:=by kernel_rfl
theorem names_gl {W : World} (h : laidMetH Tryz.prog [("cutover/cutoverhand.names", Rows.laid_cutover_cutoverhand_names)] W) : ∀ p ∈ Mir.glTab, Mir.RF W (fun _ => False) p.1 p.2 := by
  rw [MakeChecks.laidMetH_plain _ _ _ (by kernel_rfl)] at h
  obtain ⟨ps,⟨g',t',cs,fuel,p,q,hg',ht',hvar,hd,_,_⟩,_⟩:=h
  obtain rfl:=Option.some.inj (gNames.symm.trans hg')
  obtain rfl:=Option.some.inj (gNamesType.symm.trans ht')
  have hcs:=cells_of_strs (ss:=nameTab) Tryz.underlying119 Tryz.underlying9 (by kernel_rfl) (by kernel_rfl) hd
  intro x hx
  obtain rfl:=List.mem_singleton.1 hx
  refine .s (nameTab.map fun s=>Value.string ⟨s.toArray⟩) (Nat.le_refl _) rfl ?_ ?_
  · intro i u hu
    refine ⟨?_,fun hf=>hf⟩
    have h1:=World.var?_cell gNames hvar i
    rw [← hu,← hcs]
    rw [show (Addr.add { block:=0,off:=0 } i : Addr) = ⟨0,i,none⟩ by simp [Addr.add];intro h;omega]
    rw [h1,Array.getElem?_toList]
  · intro i y u hy hu
    rcases i with _|_|_|_|_|_|i
    all_goals (simp [nameTab] at hy hu;try (subst hy;subst hu;exact .v rfl))
end Go.Proofs.YtgbbpelfpagdoaaGreatDoor
namespace Go.Proofs.YtgbbpelfpagdoaaGreatDoor.Mir
open Go Go.RowKit
def s_ev_IsName : SCode :=
  (jq ([.a 2 (.mv kF)]) (.seq (jq ((ap [jm 5 0,.a 6 (.bin .eql (.t 5) (.c (.f (.v (.string ⟨#[]⟩)))))] (ap [jm 7 6,gM 8 0 7 false] (ap [jG 9 (.strlen
 (.t 8)) 7 false,jG 10 (.bin .gtr (.t 9) (kI 16)) 7 false] [.a 11 (.pick (.t 7) kT (.t 10))])))) (jc 11 (jq ([.a 2 (.mv kF)]) .ret) .skip)) (.seq (jq
 ([jm 12 0,.a 13 (.s2b (.t 12)),je 14 13,jk 15 0]) (.block 0 (.loop (jq ([jB 16 .lss 15 14]) (.seq (jc 16 .skip (.exit 0)) (.seq (.block 1 (jq ([jx
 17 1 13 15,jl 18 17,jm 4 18]) (jq ((ap [jm 19 4,.a 20 (.bin .geq (.t 19) (.c (.f (.v (.int .u8 97)))))] (ap [jm 21 20,gM 22 4 21 true] (ap [jG 23
 (.bin .leq (.t 22) (.c (.f (.v (.int .u8 122))))) 21 true] (ap [.a 24 (.pick (.t 21) (.t 23) kF),jm 25 24,gM 26 4 25 false] (ap [jG 27 (.bin .geq (.t
 26) (.c (.f (.v (.int .u8 48))))) 25 false] (ap [gM 28 27 25 false,gM 29 4 28 true] (ap [jG 30 (.bin .leq (.t 29) (.c (.f (.v (.int .u8 57))))) 28
 true] (ap [jG 31 (.pick (.t 28) (.t 30) kF) 25 false] (ap [.a 32 (.pick (.t 25) kT (.t 31)),jm 33 32,gM 34 4 33 false] (ap [jG 35 (.bin .eql (.t 34)
 (.c (.f (.v (.int .u8 45))))) 33 false] [.a 36 (.pick (.t 33) kT (.t 35)),.a 37 (.unot (.t 36))]))))))))))) (jc 37 (jq ([.a 2 (.mv kF)]) .ret)
 .skip)))) (.ops [jb 38 .add 15 1,jm 15 38]))))))) (jq ([.a 2 (.mv kT)]) .ret))))
theorem fn_ev_IsName : Fn Tryz.prog 84 39 [.t 2] s_ev_IsName:=.of Tryz.func84 (by kernel_rfl)
def s_ev_within : SCode :=
  (jq ([.a 6 (.mv kF)]) (jq ((ap [jm 7 0,jm 8 1,jB 9 .geq 7 8] (ap [jm 10 9,gM 11 0 10 true] (ap [gM 12 2 10 true,jG 13 (.bin .leq (.t 11) (.t 12))
 10 true] [.a 14 (.pick (.t 10) (.t 13) kF),jm 6 14])))) .ret))
theorem fn_ev_within : Fn Tryz.prog 49 15 [.t 6] s_ev_within:=.of Tryz.func49 (by kernel_rfl)
def s_ev_rightDef : SCode :=
  (jq ([.a 2 (.box 48 (.t 0)),.a 4 (.mv kF)]) (jq ([.a 5 (.mv (kI (-1)))]) (.seq (jq ([jo 8 0 2,jl 9 8,je 10 9,jk 11 0]) (.block 0 (.loop (jq ([jB 12
 .lss 11 10]) (.seq (jc 12 .skip (.exit 0)) (.seq (.block 1 (jq ([jx 13 1 9 11,jl 14 13,jm 7 14]) (.seq (jq ((ap [jm 15 7,jm 16 5,jB 17 .leq 15 16]
 (ap [jm 18 17,gM 19 7 18 false] (ap [gM 20 1 18 false,jG 21 (.bin .geq (.t 19) (.t 20)) 18 false] [.a 22 (.pick (.t 18) kT (.t 21))])))) (jc 22 (jq
 ([.a 4 (.mv kF)]) .ret) .skip)) (.ops [jm 23 7,jm 5 23])))) (.ops [jb 24 .add 11 1,jm 11 24]))))))) (jq ((ap [jo 25 1 2,jl 26 25,.a 27 (.call (kC
 49) [(.t 26),(kI 1),(kI 5)])] (ap [jm 28 27,gO 29 2 2 28 true] (ap [gL 30 29 28 true,jG 31 (.call (kC 49) [(.t 30),(kI 1),(kI 1048576)]) 28 true]
 [.a 32 (.pick (.t 28) (.t 31) kF),jm 4 32])))) .ret))))
theorem fn_ev_rightDef : Fn Tryz.prog 85 33 [.t 4] s_ev_rightDef:=.of Tryz.func85 (by kernel_rfl)
def s_ev_rightDefs : SCode :=
  (jq ([.a 2 (.mv kF)]) (.seq (jq ([jm 5 0,je 6 5,jk 7 0]) (.block 0 (.loop (jq ([jB 8 .lss 7 6]) (.seq (jc 8 .skip (.exit 0)) (.seq (.block 1 (jq ([jx
 9 3 5 7,jL 10 3 9,.a 4 (.alloc 48 [jN,jI,jI]),.n (.store 3 (.t 4) (.t 10))]) (jq ((ap [jL 11 3 4,jm 12 0,je 13 12,.a 14 (.call (kC 85) [(.t
 11),(.t 13)])] [.a 15 (.unot (.t 14))])) (jc 15 (jq ([.a 2 (.mv kF)]) .ret) .skip)))) (.ops [jb 16 .add 7 1,jm 7 16]))))))) (jq ((ap [jm 17 0,je 18
 17,.a 19 (.call (kC 49) [(.t 18),(kI 1),(kI 8)])] [jm 2 19])) .ret)))
theorem fn_ev_rightDefs : Fn Tryz.prog 53 20 [.t 2] s_ev_rightDefs:=.of Tryz.func53 (by kernel_rfl)
def s_ev_named : SCode :=
  (jq ([.a 2 (.alloc 90 [jF,jF,jF,jF,jI]),.a 3 (.mv kF)]) (.seq (jq ([jm 4 0]) (.block 0 (jq ((ap [jb 6 .eql 4 1] [jm 5 6])) (jc 5 (jq ([.a 7 (.bld
 [jF,jF,jF,jF,jI] [(3,1,kT)]),.n (.store 5 (.t 2) (.t 7)),.a 3 (.mv kT)]) .ret) (.seq (jq ((ap [jb 9 .eql 4 2] [jm 8 9])) (jc 8 .skip (.ops (ap
 [jb 10 .eql 4 4] [jm 8 10])))) (jc 8 (jq ([.a 11 (.bld [jF,jF,jF,jF,jI] [(0,1,kT),(4,1,(kI 5))]),.n (.store 5 (.t 2) (.t 11)),.a 3 (.mv
 kT)]) .ret) (jq ((ap [jb 13 .eql 4 3] [jm 12 13])) (jc 12 (jq ([.a 14 (.bld [jF,jF,jF,jF,jI] [(0,1,kT),(4,1,(kI 5)),(2,1,kT)]),.n (.store
 5 (.t 2) (.t 14)),.a 3 (.mv kT)]) .ret) (jq ((ap [jb 16 .eql 4 5] [jm 15 16])) (jc 15 (jq ([.a 17 (.bld [jF,jF,jF,jF,jI] [(1,1,kT),(4,1,(kI
 1048576))]),.n (.store 5 (.t 2) (.t 17)),.a 3 (.mv kT)]) .ret) (jq ((ap [jb 19 .eql 4 6] [jm 18 19])) (jc 18 (jq ([.a 20 (.bld [jF,jF,jF,jF,jI]
 [(1,1,kT)]),.n (.store 5 (.t 2) (.t 20)),.a 3 (.mv kT)]) .ret) (jq ((ap [jb 22 .eql 4 7] [jm 21 22])) (jc 21 (jq ([.a 23 (.bld [jF,jF,jF,jF,jI]
 [(1,1,kT),(2,1,kT)]),.n (.store 5 (.t 2) (.t 23)),.a 3 (.mv kT)]) .ret) (.seq (jq ((ap [jb 25 .eql 4 8] [jm 24 25])) (jc 24 .skip (jq ((ap [jb
 26 .eql 4 9] [jm 24 26])) (jc 24 .skip (jq ((ap [jb 27 .eql 4 10] [jm 24 27])) (jc 24 .skip (jq ((ap [jb 28 .eql 4 11] [jm 24 28])) (jc 24 .skip (.ops
 (ap [jb 29 .eql 4 12] [jm 24 29])))))))))) (jc 24 (jq ([.a 30 (.bld [jF,jF,jF,jF,jI] []),.n (.store 5 (.t 2) (.t 30)),.a 3 (.mv kT)]) .ret)
 .skip)))))))))))))))) (jq ([.a 31 (.bld [jF,jF,jF,jF,jI] []),.n (.store 5 (.t 2) (.t 31)),.a 3 (.mv kF)]) .ret)))
theorem fn_ev_named : Fn Tryz.prog 48 32 [.cA 5 2,.t 3] s_ev_named:=.of Tryz.func48 (by kernel_rfl)
def s_ev_numbers : SCode :=
  (jq ([.a 2 (.box 90 (.t 0)),.a 3 (.box 42 (.t 1)),.a 4 (.mv kF)]) (.seq (jq ((ap [jo 5 0 2,jl 6 5,.a 7 (.unot (.t 6)),jm 8 7,gO 9 4 3 8 true] (ap
 [gL 10 9 8 true,jG 11 (.bin .neq (.t 10) (kI 0)) 8 true] (ap [.a 12 (.pick (.t 8) (.t 11) kF),jm 13 12,gO 14 4 2 13 false] (ap [gL 15 14 13 false,
 jG 16 (.bin .eql (.t 15) (kI 0)) 13 false] (ap [gM 17 16 13 false,gO 18 5 3 17 true] (ap [gL 19 18 17 true,jG 20 (.bin .neq (.t 19) (kI 0)) 17 true]
 (ap [jG 21 (.pick (.t 17) (.t 20) kF) 13 false] [.a 22 (.pick (.t 13) kT (.t 21))])))))))) (jc 22 (jq ([.a 4 (.mv kF)]) .ret) .skip)) (jq ((ap [jo 23 4
 3,jl 24 23,.a 25 (.call (kC 49) [(.t 24),(kI 0),(kI 7)])] (ap [jm 26 25,gO 27 4 2 26 true] (ap [gL 28 27 26 true,jG 29 (.bin .eql (.t 28) (kI 0))
 26 true] (ap [gM 30 29 26 true,gO 31 5 3 30 false] (ap [gL 32 31 30 false,gO 33 4 2 30 false,gL 34 33 30 false,jG 35 (.call (kC 49) [(.t 32),(kI
 1),(.t 34)]) 30 false] (ap [jG 36 (.pick (.t 30) kT (.t 35)) 26 true] [.a 37 (.pick (.t 26) (.t 36) kF),jm 4 37]))))))) .ret)))
theorem fn_ev_numbers : Fn Tryz.prog 51 38 [.t 4] s_ev_numbers:=.of Tryz.func51 (by kernel_rfl)
def s_ev_texts : SCode :=
  (jq ([.a 2 (.box 90 (.t 0)),.a 3 (.box 42 (.t 1)),.a 4 (.mv kF)]) (.seq (jq ((ap [jo 5 1 2,jl 6 5,jo 7 6 3,jl 8 7,.a 9 (.bin .neq (.t 8) (.c (.f
 (.v (.string ⟨#[]⟩)))))] (ap [.a 10 (.binb .neq (.t 6) (.t 9)),jm 11 10,gO 12 1 2 11 false] (ap [gL 13 12 11 false,gM 14 13 11 false,gO 15 6 3 14
 true] (ap [gL 16 15 14 true,jG 17 (.call (kC 84) [(.t 16)]) 14 true] (ap [jG 18 (.unot (.t 17)) 14 true,jG 19 (.pick (.t 14) (.t 18) kF) 11 false]
 [.a 20 (.pick (.t 11) kT (.t 19))])))))) (jc 20 (jq ([.a 4 (.mv kF)]) .ret) .skip)) (jq ((ap [jo 21 7 3,jl 22 21,je 23 22,jb 24 .eql 23 0] (ap [jm
 25 24,gO 26 2 2 25 false] (ap [gL 27 26 25 false,gM 28 27 25 false,gO 29 7 3 28 true] (ap [gL 30 29 28 true,jG 31 (.slen (.t 30)) 28 true,jG 32
 (.bin .leq (.t 31) (kI 40)) 28 true] (ap [jG 33 (.pick (.t 28) (.t 32) kF) 25 false] [.a 34 (.pick (.t 25) kT (.t 33)),jm 4 34])))))) .ret)))
theorem fn_ev_texts : Fn Tryz.prog 52 35 [.t 4] s_ev_texts:=.of Tryz.func52 (by kernel_rfl)
def s_ev_Right : SCode :=
  (jq ([.a 1 (.box 42 (.t 0)),.a 2 (.mv kF)]) (jq ((ap [jo 6 3 1,jl 7 6,.a 8 (.call (kC 48) [(.t 7)])] [jm 5 8,jE 9 0 5,jE 10 1 5,.a 3 (.alloc 90
 [jF,jF,jF,jF,jI]),.n (.store 5 (.t 3) (.t 9)),jm 4 10])) (.seq (jq ((ap [jm 11 4,.a 12 (.unot (.t 11)),jm 13 12,gO 14 0 1 13 false] (ap [gL 15
 14 13 false,jG 16 (.call (kC 49) [(.t 15),(kI 1),(kI 200)]) 13 false] (ap [jG 17 (.unot (.t 16)) 13 false,.a 18 (.pick (.t 13) kT (.t 17)),jm 19
 18,gO 20 1 1 19 false] (ap [gL 21 20 19 false,jG 22 (.call (kC 50) [(.t 21)]) 19 false] (ap [jG 23 (.unot (.t 22)) 19 false,.a 24 (.pick (.t 19) kT
 (.t 23)),jm 25 24,gO 26 2 1 25 false] (ap [gL 27 26 25 false,jG 28 (.call (kC 49) [(.t 27),(kI 0),(kI 1099511627776)]) 25 false] (ap [jG 29 (.unot
 (.t 28)) 25 false,.a 30 (.pick (.t 25) kT (.t 29)),jm 31 30,jG 32 (.loadA 5 (.t 3)) 31 false] (ap [jG 33 (.loadA 9 (.t 1)) 31 false,jG 34 (.call
 (kC 51) [(.t 32),(.t 33)]) 31 false] (ap [jG 35 (.unot (.t 34)) 31 false,.a 36 (.pick (.t 31) kT (.t 35)),jm 37 36,jG 38 (.loadA 5 (.t 3)) 37
 false] (ap [jG 39 (.loadA 9 (.t 1)) 37 false,jG 40 (.call (kC 52) [(.t 38),(.t 39)]) 37 false] [jG 41 (.unot (.t 40)) 37 false,.a 42 (.pick (.t 37)
 kT (.t 41))]))))))))))) (jc 42 (jq ([.a 2 (.mv kF)]) .ret) .skip)) (.seq (jq ([jo 43 3 3,jl 44 43]) (jc 44 (jq ((ap [jo 45 8 1,jl 46 45,.a 47 (.call
 (kC 53) [(.t 46)])] [jm 2 47])) .ret) .skip)) (jq ((ap [jo 48 8 1,jl 49 48,je 50 49,jb 51 .eql 50 0] [jm 2 51])) .ret)))))
theorem fn_ev_Right : Fn Tryz.prog 26 52 [.t 2] s_ev_Right:=.of Tryz.func26 (by kernel_rfl)
def s_ver_Right : SCode :=
  (jq ([.a 2 (.mv kF)]) (jq ((ap [jm 3 0,jb 4 .geq 3 1] (ap [jm 5 4,gM 6 0 5 true] (ap [jG 7 (.bin .leq (.t 6) (kI 1099511627776)) 5 true] (ap [.a 8
 (.pick (.t 5) (.t 7) kF),jm 9 8,gM 10 0 9 true] (ap [jG 11 (.call (kC 83) [(.t 10)]) 9 true] (ap [jG 12 (.call (kC 82) [(.t 11)]) 9 true] [.a 13
 (.pick (.t 9) (.t 12) kF),jm 2 13]))))))) .ret))
theorem fn_ver_Right : Fn Tryz.prog 50 14 [.t 2] s_ver_Right:=.of Tryz.func50 (by kernel_rfl)
def s_ver_is : SCode :=
  (jq ([.a 2 (.mv kF)]) (jq ((ap [jm 3 0,jb 4 .geq 3 1] (ap [jm 5 4,gM 6 0 5 true] (ap [jG 7 (.bin .leq (.t 6) (kI 8)) 5 true] [.a 8 (.pick (.t 5) (.t
 7) kF),jm 2 8])))) .ret))
theorem fn_ver_is : Fn Tryz.prog 82 9 [.t 2] s_ver_is:=.of Tryz.func82 (by kernel_rfl)
def s_ver_Owner : SCode :=
  (jq ([jk 2 0]) (jq ([jm 3 0,jb 4 .rem 3 10,jb 5 .add 4 10,jb 6 .rem 5 10,jm 2 6]) .ret))
theorem fn_ver_Owner : Fn Tryz.prog 83 7 [.t 2] s_ver_Owner:=.of Tryz.func83 (by kernel_rfl)
set_option maxHeartbeats 2000000
def inI (n l m : Int) : Bool:=decide (l ≤ n) && decide (n ≤ m)
theorem c_ev_within (n l m : Int) : Con Tryz.prog 49 [D.int n,D.int l,D.int m] [] fun r H'=>r = D.bool (inI n l m) ∧ H' = []:=by
  refine Con.walk good fn_ev_within (by simp) ?_
  unfold s_ev_within
  simp only [argsE]
  repeat' (first|(with_reducible first|refine Wx.h ?_|refine Wb.h fun K hK=>?_|(refine hK _ ?_;clear hK K)|(refine wT ?_ ?_;· assumption)|(refine wF ?_ ?_;· assumption))|((with_reducible refine kQ ?_ ?_);kernel_rfl)|((with_reducible refine k1 ?_ ?_);rfl)|((with_reducible refine k0 ?_ ?_);rfl)|((with_reducible apply kB)<;>first|rfl|intro h)|((with_reducible refine kM ?_ ?_);rfl)|(with_reducible refine Wq.h ?_ ?_)<;>intro h<;>try (exfalso;omega)|(with_reducible refine Wu.h ?_ ?_)<;>intro h<;>try simp only [h]|((fail_if_success with_reducible refine Wz.h ?_);first|simp (disch:=omega) only [↓LD,LA,loadA_rf,seval]|((with_reducible refine And.intro ?_ ?_);omega)|simp only [D.int,D.bool]))
  all_goals (refine end1 rfl rfl (by kernel_rfl) .f ⟨congrArg D.bool ?_,rfl⟩;simp [inI, *])
instance {n l m : Int} {H : List Row} {K : D → List Row → Prop} : Wa (callW Tryz.prog (.fn 49 []) [.f (.v (.int .i64 n)),.f (.v (.int .i64 l)),.f (.v (.int .i64 m))] H K) (K (.f (.v (.bool (inI n l m)))) H) :=
  ⟨callW_pure (c_ev_within n l m) rfl rfl rfl⟩
theorem c_ver_is (n : Int) : Con Tryz.prog 82 [D.int n] [] fun r H'=>r = D.bool (inI n 1 8) ∧ H' = []:=by
  refine Con.walk good fn_ver_is (by simp) ?_
  unfold s_ver_is
  simp only [argsE]
  repeat' (first|(with_reducible first|refine Wx.h ?_|refine Wb.h fun K hK=>?_|(refine hK _ ?_;clear hK K)|(refine wT ?_ ?_;· assumption)|(refine wF ?_ ?_;· assumption))|((with_reducible refine kQ ?_ ?_);kernel_rfl)|((with_reducible refine k1 ?_ ?_);rfl)|((with_reducible refine k0 ?_ ?_);rfl)|((with_reducible apply kB)<;>first|rfl|intro h)|((with_reducible refine kM ?_ ?_);rfl)|(with_reducible refine Wq.h ?_ ?_)<;>intro h<;>try (exfalso;omega)|(with_reducible refine Wu.h ?_ ?_)<;>intro h<;>try simp only [h]|((fail_if_success with_reducible refine Wz.h ?_);first|simp (disch:=omega) only [↓LD,LA,loadA_rf,seval]|((with_reducible refine And.intro ?_ ?_);omega)|simp only [D.int,D.bool]))
  all_goals (refine end1 rfl rfl (by kernel_rfl) .f ⟨congrArg D.bool ?_,rfl⟩;simp [inI, *])
def ownI (v : Int) : Int:=(v.tmod 10 + 10).tmod 10
theorem c_ver_Owner (v : Int) : Con Tryz.prog 83 [D.int v] [] fun r H'=>r = D.int (ownI v) ∧ H' = []:=by
  have h1:=Int.tmod_lt_of_pos v (show (0 : Int) < 10 by omega)
  have h2 : -10 < v.tmod 10:=by
    have:=Int.tmod_lt_of_pos (-v) (show (0 : Int) < 10 by omega)
    rw [Int.neg_tmod] at this;omega
  refine Con.walk good fn_ver_Owner (by simp) ?_
  unfold s_ver_Owner
  simp only [argsE]
  repeat' (first|(with_reducible first|refine Wx.h ?_|refine Wb.h fun K hK=>?_|(refine hK _ ?_;clear hK K)|(refine wT ?_ ?_;· assumption)|(refine wF ?_ ?_;· assumption))|((with_reducible refine kQ ?_ ?_);kernel_rfl)|((with_reducible refine k1 ?_ ?_);rfl)|((with_reducible refine k0 ?_ ?_);rfl)|((with_reducible apply kB)<;>first|rfl|intro h)|((with_reducible refine kM ?_ ?_);rfl)|(with_reducible refine Wq.h ?_ ?_)<;>intro h<;>try (exfalso;omega)|(with_reducible refine Wu.h ?_ ?_)<;>intro h<;>try simp only [h]|((fail_if_success with_reducible refine Wz.h ?_);first|simp (disch:=omega) only [↓LD,LA,loadA_rf,seval]|((with_reducible refine And.intro ?_ ?_);omega)|simp only [D.int,D.bool]))
  refine end1 rfl rfl (by kernel_rfl) .f ⟨rfl,rfl⟩
def verB (v : Int) : Bool:=inI v 1 1099511627776 && inI (ownI v) 1 8
instance {n : Int} {H : List Row} {K : D → List Row → Prop} : Wa (callW Tryz.prog (.fn 82 []) [.f (.v (.int .i64 n))] H K) (K (.f (.v (.bool (inI n 1 8)))) H) :=
  ⟨callW_pure (c_ver_is n) rfl rfl rfl⟩
instance {n : Int} {H : List Row} {K : D → List Row → Prop} : Wa (callW Tryz.prog (.fn 83 []) [.f (.v (.int .i64 n))] H K) (K (.f (.v (.int .i64 (ownI n)))) H) :=
  ⟨callW_pure (c_ver_Owner n) rfl rfl rfl⟩
theorem c_ver_Right (v : Int) : Con Tryz.prog 50 [D.int v] [] fun r H'=>r = D.bool (verB v) ∧ H' = []:=by
  refine Con.walk good fn_ver_Right (by simp) ?_
  unfold s_ver_Right
  simp only [argsE]
  repeat' (first|(with_reducible first|refine Wx.h ?_|refine Wb.h fun K hK=>?_|(refine hK _ ?_;clear hK K)|(refine wT ?_ ?_;· assumption)|(refine wF ?_ ?_;· assumption))|((with_reducible refine kQ ?_ ?_);kernel_rfl)|((with_reducible refine k1 ?_ ?_);rfl)|((with_reducible refine k0 ?_ ?_);rfl)|((with_reducible apply kB)<;>first|rfl|intro h)|((with_reducible refine kM ?_ ?_);rfl)|(with_reducible refine Wq.h ?_ ?_)<;>intro h<;>try (exfalso;omega)|(with_reducible refine Wu.h ?_ ?_)<;>intro h<;>try simp only [h]|((fail_if_success with_reducible refine Wz.h ?_);first|simp (disch:=omega) only [↓LD,LA,loadA_rf,seval]|((with_reducible refine And.intro ?_ ?_);omega)|simp only [D.int,D.bool]))
  all_goals (refine end1 rfl rfl (by kernel_rfl) .f ⟨congrArg D.bool ?_,rfl⟩;simp [verB,inI, *])
instance {n : Int} {H : List Row} {K : D → List Row → Prop} : Wa (callW Tryz.prog (.fn 50 []) [.f (.v (.int .i64 n))] H K) (K (.f (.v (.bool (verB n)))) H) :=
  ⟨callW_pure (c_ver_Right n) rfl rfl rfl⟩
def chB (c : UInt8) : Bool:=inI c.toNat 97 122 || inI c.toNat 48 57 || decide ((c.toNat : Int) = 45)
def nameB (l : Bs) : Bool:=decide (l ≠ []) && decide (l.length ≤ 16) && l.all chB
theorem c_ev_IsName (l : Bs) : Con Tryz.prog 84 [.f (.v (.string (BB l)))] [] fun r H'=>r = D.bool (nameB l) ∧ H' = []:=by
  refine Con.walk good fn_ev_IsName (by simp) ?_
  unfold s_ev_IsName
  simp only [argsE]
  repeat' (first|(with_reducible first|refine Wx.h ?_|refine Wb.h fun K hK=>?_|(refine hK _ ?_;clear hK K)|(refine wT ?_ ?_;· assumption)|(refine wF ?_ ?_;· assumption))|((with_reducible refine kQ ?_ ?_);kernel_rfl)|((with_reducible refine k1 ?_ ?_);rfl)|((with_reducible refine k0 ?_ ?_);rfl)|((with_reducible apply kB)<;>first|rfl|intro h)|((with_reducible refine kM ?_ ?_);rfl)|(with_reducible refine Wq.h ?_ ?_)<;>intro h<;>try (exfalso;omega)|(with_reducible refine Wu.h ?_ ?_)<;>intro h<;>try simp only [h]|((fail_if_success with_reducible refine Wz.h ?_);first|simp (disch:=omega) only [↓LD,LA,loadA_rf,seval]|((with_reducible refine And.intro ?_ ?_);omega)|simp only [D.int,D.bool]))
  · refine end1 rfl rfl (by kernel_rfl) .f ⟨congrArg D.bool ?_,rfl⟩
    simp [nameB,h]
  · rename_i h0
    refine end1 rfl rfl (by kernel_rfl) .f ⟨congrArg D.bool ?_,rfl⟩
    have : ¬ l.length ≤ 16:=by omega
    simp [nameB,this]
  rename_i h0
  have hn : nameB l = l.all chB:=by
    have : l.length ≤ 16:=by omega
    simp [nameB,h0,this]
  refine HS.loopG [13,14,15] (fun k : Nat=>⟨frm 39 [(13,.f (fY l)),(14,D.int l.length),(15,D.int k)],[],[]⟩) (fun k=>k ≤ l.length ∧ l.all chB = (l.drop k).all chB) (fun k=>l.length - k) 0 (by kernel_rfl) ⟨Nat.zero_le _,rfl⟩ ?_
  rintro k ⟨hk,hr⟩
  by_cases hkl : k < l.length
  · rw [drop_gt hkl,List.all_cons] at hr
    repeat' (first|(with_reducible first|refine Wx.h ?_|refine Wb.h fun K hK=>?_|(refine hK _ ?_;clear hK K)|(refine wT ?_ ?_;· assumption)|(refine wF ?_ ?_;· assumption))|((with_reducible refine kQ ?_ ?_);kernel_rfl)|((with_reducible refine k1 ?_ ?_);rfl)|((with_reducible refine k0 ?_ ?_);rfl)|((with_reducible apply kB)<;>first|rfl|intro h)|((with_reducible refine kM ?_ ?_);rfl)|(with_reducible refine Wq.h ?_ ?_)<;>intro h<;>try (exfalso;omega)|(with_reducible refine Wu.h ?_ ?_)<;>intro h<;>try simp only [h]|((fail_if_success with_reducible refine Wz.h ?_);first|simp (disch:=omega) only [↓LD,LA,loadA_rf,seval,fY]|((with_reducible refine And.intro ?_ ?_);omega)|simp only [D.int,D.bool]))
    all_goals first
      | (refine end1 rfl rfl (by kernel_rfl) .f ⟨congrArg D.bool ?_,rfl⟩
         have hc : chB (gt l k) = false:=by simp only [chB,inI];simp [*]
         rw [hn,hr,hc];rfl)
      | (refine Next.mk (k + 1) (by kernel_rfl) ⟨by omega,?_⟩ (by omega)
         have hc : chB (gt l k) = true:=by simp only [chB,inI];simp [*]
         rw [hr,hc];rfl)
  · repeat' (first|(with_reducible first|refine Wx.h ?_|refine Wb.h fun K hK=>?_|(refine hK _ ?_;clear hK K)|(refine wT ?_ ?_;· assumption)|(refine wF ?_ ?_;· assumption))|((with_reducible refine kQ ?_ ?_);kernel_rfl)|((with_reducible refine k1 ?_ ?_);rfl)|((with_reducible refine k0 ?_ ?_);rfl)|((with_reducible apply kB)<;>first|rfl|intro h)|((with_reducible refine kM ?_ ?_);rfl)|(with_reducible refine Wq.h ?_ ?_)<;>intro h<;>try (exfalso;omega)|(with_reducible refine Wu.h ?_ ?_)<;>intro h<;>try simp only [h]|((fail_if_success with_reducible refine Wz.h ?_);first|simp (disch:=omega) only [↓LD,LA,loadA_rf,seval]|((with_reducible refine And.intro ?_ ?_);omega)|simp only [D.int,D.bool]))
    refine end1 rfl rfl (by kernel_rfl) .f ⟨congrArg D.bool ?_,rfl⟩
    rw [hn,hr,List.drop_of_length_le (by omega)];rfl
instance {l : Bs} {H : List Row} {K : D → List Row → Prop} : Wa (callW Tryz.prog (.fn 84 []) [.f (.v (.string (BB l)))] H K) (K (.f (.v (.bool (nameB l)))) H) :=
  ⟨callW_pure (c_ev_IsName l) rfl rfl rfl⟩
set_option maxHeartbeats 4000000
theorem c_ev_rightDef (d : Nd) (n : Int) (hl : d.ns.length < 1000000) : Con Tryz.prog 85 [ndD d,D.int n] [] fun r H'=>r = D.bool (rightB d n) ∧ H' = []:=by
  obtain ⟨ns,tr,le⟩:=d
  dsimp only at hl
  refine Con.walk good fn_ev_rightDef (by simp) ?_
  unfold s_ev_rightDef
  simp only [argsE]
  repeat' (first|(with_reducible first|refine Wx.h ?_|refine Wb.h fun K hK=>?_|(refine hK _ ?_;clear hK K)|(refine wT ?_ ?_;· assumption)|(refine wF ?_ ?_;· assumption))|((with_reducible refine kQ ?_ ?_);kernel_rfl)|((with_reducible refine k1 ?_ ?_);rfl)|((with_reducible refine k0 ?_ ?_);rfl)|((with_reducible apply kB)<;>first|rfl|intro h)|((with_reducible refine kM ?_ ?_);rfl)|(with_reducible refine Wq.h ?_ ?_)<;>intro h<;>try (exfalso;omega)|(with_reducible refine Wu.h ?_ ?_)<;>intro h<;>try simp only [h]|((fail_if_success with_reducible refine Wz.h ?_);first|simp (disch:=omega) only [↓LD,LA,loadA_rf,seval,fI,ndD]|((with_reducible refine And.intro ?_ ?_);omega)|simp only [D.int,D.bool]))
  refine HS.loopP (fun x : Nat × Int=>[(1,D.int n),(2,.pt 0 0),(4,D.bool false),(5,D.int x.2),(9,.f (fI ns)),(10,D.int ns.length),(11,D.int x.1)]) (fun _=>[.box 48 [.f (fI ns),D.int tr,D.int le]])
    (fun x=>x.1 ≤ ns.length ∧ rise n (-1) ns = rise n x.2 (ns.drop x.1)) (fun x=>ns.length - x.1) (0,-1) rfl (by kernel_rfl) ⟨Nat.zero_le _,rfl⟩ ?_
  rintro ⟨k,z⟩ ⟨hk,hr⟩
  dsimp only at hk hr
  repeat' (first|(with_reducible first|refine Wx.h ?_|refine Wb.h fun K hK=>?_|(refine hK _ ?_;clear hK K)|(refine wT ?_ ?_;· assumption)|(refine wF ?_ ?_;· assumption))|((with_reducible refine kQ ?_ ?_);kernel_rfl)|((with_reducible refine k1 ?_ ?_);rfl)|((with_reducible refine k0 ?_ ?_);rfl)|((with_reducible apply kB)<;>first|rfl|intro h)|((with_reducible refine kM ?_ ?_);rfl)|(with_reducible refine Wq.h ?_ ?_)<;>intro h<;>try (exfalso;omega)|(with_reducible refine Wu.h ?_ ?_)<;>intro h<;>try simp only [h]|((fail_if_success with_reducible refine Wz.h ?_);first|simp (disch:=omega) only [↓LD,LA,loadA_rf,seval,fI]|((with_reducible refine And.intro ?_ ?_);omega)|simp only [D.int,D.bool]))
  all_goals first
    | (refine end1 rfl rfl (by kernel_rfl) .f ⟨congrArg D.bool ?_,rfl⟩
       first
        | (rw [rightB,hr,drop_gt (by omega),rise];simp;omega)
        | (rw [rightB,hr,List.drop_of_length_le (by omega)];simp_all [rise,inI];try omega))
    | (refine NextP.mk (k + 1,gt ns k) rfl (by kernel_rfl) ?_ ?_
       · refine ⟨by dsimp only;omega,?_⟩
         rw [hr,drop_gt (by omega)];simp [rise];omega
       · dsimp only;omega)
instance {d : Nd} {n : Int} {H : List Row} {K : D → List Row → Prop} : Wa (callW Tryz.prog (.fn 85 []) [.ag [.f (fI d.ns),.f (.v (.int .i64 d.tr)),.f (.v (.int .i64 d.le))],.f (.v (.int .i64 n))] H K) (d.ns.length < 1000000 ∧ K (.f (.v (.bool (rightB d n)))) H) :=
  ⟨fun h=>callW_pure (c_ev_rightDef d n h.1) rfl rfl rfl h.2⟩
def FitN (ds : List Nd) : Prop:=∀ d ∈ ds,d.ns.length < 1000000
def defsB (ds : List Nd) : Bool:=ds.all (fun d=>rightB d ds.length) && inI ds.length 1 8
theorem c_ev_rightDefs (ds : List Nd) (hf : FitN ds) (hl : ds.length < 1000000) : Con Tryz.prog 53 [.f (fG ds)] [] fun r H'=>r = D.bool (defsB ds) ∧ H' = []:=by
  refine Con.walk good fn_ev_rightDefs (by simp) ?_
  unfold s_ev_rightDefs
  simp only [argsE]
  repeat' (first|(with_reducible first|refine Wx.h ?_|refine Wb.h fun K hK=>?_|(refine hK _ ?_;clear hK K)|(refine wT ?_ ?_;· assumption)|(refine wF ?_ ?_;· assumption))|((with_reducible refine kQ ?_ ?_);kernel_rfl)|((with_reducible refine k1 ?_ ?_);rfl)|((with_reducible refine k0 ?_ ?_);rfl)|((with_reducible apply kB)<;>first|rfl|intro h)|((with_reducible refine kM ?_ ?_);rfl)|(with_reducible refine Wq.h ?_ ?_)<;>intro h<;>try (exfalso;omega)|(with_reducible refine Wu.h ?_ ?_)<;>intro h<;>try simp only [h]|((fail_if_success with_reducible refine Wz.h ?_);first|simp (disch:=omega) only [↓LD,LA,loadA_rf,seval,fG]|((with_reducible refine And.intro ?_ ?_);omega)|simp only [D.int,D.bool]))
  refine HS.loopG [0,5,6,7] (fun k : Nat=>⟨frm 20 [(0,.f (fG ds)),(5,.f (fG ds)),(6,D.int ds.length),(7,D.int k)],[],[]⟩)
    (fun k=>k ≤ ds.length ∧ ds.all (fun d=>rightB d ds.length) = (ds.drop k).all (fun d=>rightB d ds.length)) (fun k=>ds.length - k) 0 (by kernel_rfl) ⟨Nat.zero_le _,rfl⟩ ?_
  rintro k ⟨hk,hr⟩
  by_cases hkl : k < ds.length
  · rw [drop_gt hkl,List.all_cons] at hr
    have hg:=hf _ (gt_mem hkl)
    repeat' (first|(with_reducible first|refine Wx.h ?_|refine Wb.h fun K hK=>?_|(refine hK _ ?_;clear hK K)|(refine wT ?_ ?_;· assumption)|(refine wF ?_ ?_;· assumption))|((with_reducible refine kQ ?_ ?_);kernel_rfl)|((with_reducible refine k1 ?_ ?_);rfl)|((with_reducible refine k0 ?_ ?_);rfl)|((with_reducible apply kB)<;>first|rfl|intro h)|((with_reducible refine kM ?_ ?_);rfl)|(with_reducible refine Wq.h ?_ ?_)<;>intro h<;>try (exfalso;omega)|(with_reducible refine Wu.h ?_ ?_)<;>intro h<;>try simp only [h]|((fail_if_success with_reducible refine Wz.h ?_);first|simp (disch:=omega) only [↓LD,LA,loadA_rf,seval,fG,nd_load,nd_cs,nd_at0,nd_at1,nd_at2,-loadA_rf]|((with_reducible refine And.intro ?_ ?_);omega)|simp only [D.int,D.bool]))
    · refine end1 rfl rfl (by kernel_rfl) .f ⟨congrArg D.bool ?_,rfl⟩
      have hc : rightB (gt ds k) ds.length = false:=by simpa using h
      rw [defsB,hr,hc];rfl
    · refine Next.mk (k + 1) (by kernel_rfl) ⟨by omega,?_⟩ (by omega)
      have hc : rightB (gt ds k) ds.length = true:=by simpa using h
      rw [hr,hc];rfl
  · repeat' (first|(with_reducible first|refine Wx.h ?_|refine Wb.h fun K hK=>?_|(refine hK _ ?_;clear hK K)|(refine wT ?_ ?_;· assumption)|(refine wF ?_ ?_;· assumption))|((with_reducible refine kQ ?_ ?_);kernel_rfl)|((with_reducible refine k1 ?_ ?_);rfl)|((with_reducible refine k0 ?_ ?_);rfl)|((with_reducible apply kB)<;>first|rfl|intro h)|((with_reducible refine kM ?_ ?_);rfl)|(with_reducible refine Wq.h ?_ ?_)<;>intro h<;>try (exfalso;omega)|(with_reducible refine Wu.h ?_ ?_)<;>intro h<;>try simp only [h]|((fail_if_success with_reducible refine Wz.h ?_);first|simp (disch:=omega) only [↓LD,LA,loadA_rf,seval,fG]|((with_reducible refine And.intro ?_ ?_);omega)|simp only [D.int,D.bool]))
    refine end1 rfl rfl (by kernel_rfl) .f ⟨congrArg D.bool ?_,rfl⟩
    rw [defsB,hr,List.drop_of_length_le (by omega)];rfl
set_option maxHeartbeats 4000000
structure Ev where
  id : Int
  ver : Int
  time : Int
  ty : Int
  node : Int
  n : Int
  name : Bs
  data : Bs
  defs : List Nd
  deriving Inhabited,DecidableEq
def Ev.cs (e : Ev) : List F:=[iF e.id,iF e.ver,iF e.time,iF e.ty,iF e.node,iF e.n,.v (.string (BB e.name)),fY e.data,fG e.defs]
theorem Ev.cs_len (e : Ev) : e.cs.length = 9:=rfl
def evD (e : Ev) : D:=.ag [D.int e.id,D.int e.ver,D.int e.time,D.int e.ty,D.int e.node,D.int e.n,.f (.v (.string (BB e.name))),.f (fY e.data),.f (fG e.defs)]
def evB (e : Ev) : Row:=.box 42 [D.int e.id,D.int e.ver,D.int e.time,D.int e.ty,D.int e.node,D.int e.n,.f (.v (.string (BB e.name))),.f (fY e.data),.f (fG e.defs)]
class Small (ds : List Nd) : Prop where h : FitN ds ∧ ds.length < 1000000
def pNode (k : Int) : Bool:=decide (k = 2) || decide (k = 3) || decide (k = 4)
def pName (k : Int) : Bool:=decide (k = 5) || decide (k = 6) || decide (k = 7)
def pData (k : Int) : Bool:=decide (k = 3) || decide (k = 7)
def pDefs (k : Int) : Bool:=decide (k = 1)
def pN (k : Int) : Int:=if pNode k then 5 else if k = 5 then 1048576 else 0
def pOk (k : Int) : Bool:=inI k 1 12
def partD (k : Int) : D:=.ag [D.bool (pNode k),D.bool (pName k),D.bool (pData k),D.bool (pDefs k),D.int (pN k)]
theorem c_ev_named (k : Int) : Con Tryz.prog 48 [D.int k] [] fun r H'=>r = .tp [partD k,D.bool (pOk k)] ∧ H' = []:=by
  refine Con.walk good fn_ev_named (by simp) ?_
  unfold s_ev_named
  simp only [argsE]
  repeat' (first|(with_reducible first|refine Wx.h ?_|refine Wb.h fun K hK=>?_|(refine hK _ ?_;clear hK K)|(refine wT ?_ ?_;· assumption)|(refine wF ?_ ?_;· assumption))|((with_reducible refine kQ ?_ ?_);kernel_rfl)|((with_reducible refine k1 ?_ ?_);rfl)|((with_reducible refine k0 ?_ ?_);rfl)|((with_reducible apply kB)<;>first|rfl|intro h)|((with_reducible refine kM ?_ ?_);rfl)|(with_reducible refine Wq.h ?_ ?_)<;>intro h<;>try (exfalso;omega)|(with_reducible refine Wu.h ?_ ?_)<;>intro h<;>try simp only [h]|((fail_if_success with_reducible refine Wz.h ?_);first|simp (disch:=omega) only [↓LD,LA,loadA_rf,seval]|((with_reducible refine And.intro ?_ ?_);omega)|simp only [D.int,D.bool]))
  all_goals first
    | (subst h
       exact RetS.still (ds:=[partD _,D.bool (pOk _)]) (by kernel_rfl) (by kernel_rfl) (.tps (.cons (.ags (.cons .f (.cons .f (.cons .f (.cons .f (.cons .f .nil)))))) (.cons .f .nil))) ⟨rfl,rfl⟩)
    | skip
  have e : partD k = .ag [D.bool false,D.bool false,D.bool false,D.bool false,D.int 0] ∧ pOk k = false:=by
    have : ¬ (1 ≤ k ∧ k ≤ 12):=by omega
    constructor
    · simp [partD,pNode,pName,pData,pDefs,pN, *]
    · simp [pOk,inI];omega
  rw [e.1,e.2]
  exact RetS.still (ds:=[.ag [D.bool false,D.bool false,D.bool false,D.bool false,D.int 0],D.bool false]) (by kernel_rfl) (by kernel_rfl) (.tps (.cons (.ags (.cons .f (.cons .f (.cons .f (.cons .f (.cons .f .nil)))))) (.cons .f .nil))) ⟨rfl,rfl⟩
instance {k : Int} {H : List Row} {K : D → List Row → Prop} : Wa (callW Tryz.prog (.fn 48 []) [.f (.v (.int .i64 k))] H K) (K (.tp [.ag [.f (.v (.bool (pNode k))),.f (.v (.bool (pName k))),.f (.v (.bool (pData k))),.f (.v (.bool (pDefs k))),.f (.v (.int .i64 (pN k)))],.f (.v (.bool (pOk k)))]) H) :=
  ⟨callW_pure (c_ev_named k) rfl rfl rfl⟩
def numB (nd : Bool) (m : Int) (node n : Int) : Bool:=(nd || decide (node = 0)) && (decide (m ≠ 0) || decide (n = 0)) && inI node 0 7 && (decide (m = 0) || inI n 1 m)
theorem c_ev_numbers (nd nm da df : Bool) (m : Int) (e : Ev) : Con Tryz.prog 51 [.ag [D.bool nd,D.bool nm,D.bool da,D.bool df,D.int m],evD e] [] fun r H'=>r = D.bool (numB nd m e.node e.n) ∧ H' = []:=by
  refine Con.walk good fn_ev_numbers (by simp) ?_
  unfold s_ev_numbers evD
  simp only [argsE]
  repeat' (first|(with_reducible first|refine Wx.h ?_|refine Wb.h fun K hK=>?_|(refine hK _ ?_;clear hK K)|(refine wT ?_ ?_;· assumption)|(refine wF ?_ ?_;· assumption))|((with_reducible refine kQ ?_ ?_);kernel_rfl)|((with_reducible refine k1 ?_ ?_);rfl)|((with_reducible refine k0 ?_ ?_);rfl)|((with_reducible apply kB)<;>first|rfl|intro h)|((with_reducible refine kM ?_ ?_);rfl)|(with_reducible refine Wq.h ?_ ?_)<;>intro h<;>try (exfalso;omega)|(with_reducible refine Wu.h ?_ ?_)<;>intro h<;>try simp only [h]|((fail_if_success with_reducible refine Wz.h ?_);first|simp (disch:=omega) only [↓LD,LA,loadA_rf,seval]|((with_reducible refine And.intro ?_ ?_);omega)|simp only [D.int,D.bool]))
  all_goals (refine end1 rfl rfl (by kernel_rfl) .f ⟨congrArg D.bool ?_,rfl⟩;simp_all [numB,inI])
  all_goals omega
instance {nd nm da df : Bool} {m : Int} {e : Ev} {H : List Row} {K : D → List Row → Prop} : Wa (callW Tryz.prog (.fn 51 []) [.ag [.f (.v (.bool nd)),.f (.v (.bool nm)),.f (.v (.bool da)),.f (.v (.bool df)),.f (.v (.int .i64 m))],
    .ag [.f (.v (.int .i64 e.id)),.f (.v (.int .i64 e.ver)),.f (.v (.int .i64 e.time)),.f (.v (.int .i64 e.ty)),.f (.v (.int .i64 e.node)),.f (.v (.int .i64 e.n)),.f (.v (.string (BB e.name))),.f (fY e.data),.f (fG e.defs)]] H K) (K (.f (.v (.bool (numB nd m e.node e.n)))) H) :=
  ⟨callW_pure (c_ev_numbers nd nm da df m e) rfl rfl rfl⟩
def textB (nm da : Bool) (name data : Bs) : Bool:=(nm == decide (name ≠ [])) && (!nm || nameB name) && (decide (data = []) || (da && decide (data.length ≤ 40)))
theorem c_ev_texts (nd nm da df : Bool) (m : Int) (e : Ev) : Con Tryz.prog 52 [.ag [D.bool nd,D.bool nm,D.bool da,D.bool df,D.int m],evD e] [] fun r H'=>r = D.bool (textB nm da e.name e.data) ∧ H' = []:=by
  refine Con.walk good fn_ev_texts (by simp) ?_
  unfold s_ev_texts evD
  simp only [argsE]
  have hz : ((e.data.length : Int) = 0) = (e.data = []):=by apply propext;cases e.data<;>simp;omega
  repeat' (first|(with_reducible first|refine Wx.h ?_|refine Wb.h fun K hK=>?_|(refine hK _ ?_;clear hK K)|(refine wT ?_ ?_;· assumption)|(refine wF ?_ ?_;· assumption))|((with_reducible refine kQ ?_ ?_);kernel_rfl)|((with_reducible refine k1 ?_ ?_);rfl)|((with_reducible refine k0 ?_ ?_);rfl)|((with_reducible apply kB)<;>first|rfl|intro h)|((with_reducible refine kM ?_ ?_);rfl)|(with_reducible refine Wq.h ?_ ?_)<;>intro h<;>try (exfalso;omega)|(with_reducible refine Wu.h ?_ ?_)<;>intro h<;>try simp only [h]|((fail_if_success with_reducible refine Wz.h ?_);first|simp (disch:=omega) only [↓LD,LA,loadA_rf,seval,fY,hz]|((with_reducible refine And.intro ?_ ?_);omega)|simp only [D.int,D.bool]))
  all_goals (refine end1 rfl rfl (by kernel_rfl) .f ⟨congrArg D.bool ?_,rfl⟩;simp_all [textB])
  all_goals omega
instance {nd nm da df : Bool} {m : Int} {e : Ev} {H : List Row} {K : D → List Row → Prop} : Wa (callW Tryz.prog (.fn 52 []) [.ag [.f (.v (.bool nd)),.f (.v (.bool nm)),.f (.v (.bool da)),.f (.v (.bool df)),.f (.v (.int .i64 m))],
    .ag [.f (.v (.int .i64 e.id)),.f (.v (.int .i64 e.ver)),.f (.v (.int .i64 e.time)),.f (.v (.int .i64 e.ty)),.f (.v (.int .i64 e.node)),.f (.v (.int .i64 e.n)),.f (.v (.string (BB e.name))),.f (fY e.data),.f (fG e.defs)]] H K) (K (.f (.v (.bool (textB nm da e.name e.data)))) H) :=
  ⟨callW_pure (c_ev_texts nd nm da df m e) rfl rfl rfl⟩
instance {ds : List Nd} {H : List Row} {K : D → List Row → Prop} [hf : Small ds] : Wa (callW Tryz.prog (.fn 53 []) [.f (fG ds)] H K) (K (.f (.v (.bool (defsB ds)))) H) :=
  ⟨callW_pure (c_ev_rightDefs ds hf.h.1 hf.h.2) rfl rfl rfl⟩
def rightE (e : Ev) : Bool:=pOk e.ty && inI e.id 1 200 && verB e.ver && inI e.time 0 1099511627776 && numB (pNode e.ty) (pN e.ty) e.node e.n && textB (pName e.ty) (pData e.ty) e.name e.data && (if pDefs e.ty then defsB e.defs else decide (e.defs = []))
theorem c_ev_Right (e : Ev) (hf : FitN e.defs) (hl : e.defs.length < 1000000) : Con Tryz.prog 26 [evD e] [] fun r H'=>r = D.bool (rightE e) ∧ H' = []:=by
  haveI : Small e.defs:=⟨⟨hf,hl⟩⟩
  refine Con.walk good fn_ev_Right (by simp) ?_
  unfold s_ev_Right evD
  simp only [argsE]
  have hz : ((e.defs.length : Int) = 0) = (e.defs = []):=by apply propext;cases e.defs<;>simp;omega
  repeat' (first|(with_reducible first|refine Wx.h ?_|refine Wb.h fun K hK=>?_|(refine hK _ ?_;clear hK K)|(refine wT ?_ ?_;· assumption)|(refine wF ?_ ?_;· assumption))|((with_reducible refine kQ ?_ ?_);kernel_rfl)|((with_reducible refine k1 ?_ ?_);rfl)|((with_reducible refine k0 ?_ ?_);rfl)|((with_reducible apply kB)<;>first|rfl|intro h)|((with_reducible refine kM ?_ ?_);rfl)|(with_reducible refine Wq.h ?_ ?_)<;>intro h<;>try (exfalso;omega)|(with_reducible refine Wu.h ?_ ?_)<;>intro h<;>try simp only [h]|((fail_if_success with_reducible refine Wz.h ?_);first|simp (disch:=omega) only [↓LD,LA,loadA_rf,seval,hz]|((with_reducible refine And.intro ?_ ?_);omega)|simp only [D.int,D.bool]))
  all_goals (refine end1 rfl rfl (by kernel_rfl) .f ⟨congrArg D.bool ?_,rfl⟩;simp_all [rightE])
def s_ev_Copy : SCode :=
  (jq ([.a 1 (.box 42 (.t 0)),.a 2 (.alloc 42 [jI,jI,jI,jI,jI,jI,(.f (.v (.string ⟨#[]⟩))),jN,jN])]) (.seq (.drw [jo 4 7 1,jl 5 4,.a 6 (.call
 (kC 47) [(.t 5)]),jo 7 8 1,jl 8 7,.a 9 (.call (kC 80) [(.t 8)]),jo 10 7 1,.n (.store 1 (.t 10) (.t 6)),jo 11 8 1,.n (.store 1 (.t 11) (.t 9))]
 [0,1,3,0,8,31,31,127,255,511]) (.seq (jq ([jo 12 8 1,jl 13 12,je 14 13,jk 15 0]) (.block 0 (.loop (jq ([jB 16 .lss 15 14]) (.seq (jc 16
 .skip (.exit 0)) (.seq (.block 1 (jq ([jm 17 15,jm 3 17]) (.drw [jo 18 8 1,jl 19 18,jm 20 3,jo 21 8 1,jl 22 21,jm 23 3,jx 24 3 22 23,jo 25 0
 24,jl 26 25,.a 27 (.call (kC 81) [(.t 26)]),jx 28 3 19 20,jo 29 0 28,.n (.store 1 (.t 29) (.t 27))] [0,1,0,0,8,0,56,120,248,504,1023,
 2047,4095]))) (.ops [jb 30 .add 15 1,jm 15 30]))))))) (jq ([jL 31 9 1,.n (.store 9 (.t 2) (.t 31))]) .ret))))
theorem fn_ev_Copy : Fn Tryz.prog 43 32 [.cA 9 2] s_ev_Copy:=.of Tryz.func43 (by kernel_rfl)
def s_def_Clone : SCode :=
  (jq ([.a 2 (.mv kN)]) (.seq (jq ([jm 3 0,.a 4 (.nilq true 0 (.t 3) kN)]) (jc 4 (jq ([.a 2 (.mv kN)]) .ret) .skip)) (jq ((ap [.a 5 (.bsl 48 3 0 [] []),
 jm 6 0,.a 7 (.app 48 3 40 (.t 5) (.t 6))] [jm 2 7])) .ret)))
theorem fn_def_Clone : Fn Tryz.prog 80 8 [.t 2] s_def_Clone:=.of Tryz.func80 (by kernel_rfl)
def s_nd_Clone : SCode :=
  (jq ([.a 2 (.mv kN)]) (.seq (jq ([jm 3 0,.a 4 (.nilq true 0 (.t 3) kN)]) (jc 4 (jq ([.a 2 (.mv kN)]) .ret) .skip)) (jq ((ap [.a 5 (.bsl 51 4 0 [] []),
 jm 6 0,.a 7 (.app 51 4 48 (.t 5) (.t 6))] [jm 2 7])) .ret)))
theorem fn_nd_Clone : Fn Tryz.prog 44 8 [.t 2] s_nd_Clone:=.of Tryz.func44 (by kernel_rfl)
def s_tm_Clone : SCode :=
  (jq ([.a 2 (.mv kN)]) (.seq (jq ([jm 3 0,.a 4 (.nilq true 0 (.t 3) kN)]) (jc 4 (jq ([.a 2 (.mv kN)]) .ret) .skip)) (jq ((ap [.a 5 (.bsl 57 3 0 [] []),
 jm 6 0,.a 7 (.app 57 3 32 (.t 5) (.t 6))] [jm 2 7])) .ret)))
theorem fn_tm_Clone : Fn Tryz.prog 45 8 [.t 2] s_tm_Clone:=.of Tryz.func45 (by kernel_rfl)
def s_sg_Clone : SCode :=
  (jq ([.a 2 (.mv kN)]) (.seq (jq ([jm 3 0,.a 4 (.nilq true 0 (.t 3) kN)]) (jc 4 (jq ([.a 2 (.mv kN)]) .ret) .skip)) (jq ((ap [.a 5 (.bsl 60 3 0 [] []),
 jm 6 0,.a 7 (.app 60 3 48 (.t 5) (.t 6))] [jm 2 7])) .ret)))
theorem fn_sg_Clone : Fn Tryz.prog 46 8 [.t 2] s_sg_Clone:=.of Tryz.func46 (by kernel_rfl)
def s_st_copied : SCode :=
  (jq ([.a 1 (.box 29 (.t 0)),.a 2 (.alloc 29 [jI,jI,jI,jI,jF,jN,jN,jN,jN])]) (jq ((ap [jo 5 5 1,jl 6 5,.a 7 (.bld [jI,jI,jI,jI,jI,jI,
 (.f (.v (.string ⟨#[]⟩))),jN,jN] [(8,1,(.t 6))]),.a 8 (.call (kC 43) [(.t 7)])] [.a 9 (.fld1 8 (.t 8)),jo 10 5 1,.n (.store 1 (.t 10) (.t 9))]))
 (.seq (.drw [jo 11 6 1,jl 12 11,.a 13 (.call (kC 44) [(.t 12)]),jo 14 7 1,jl 15 14,.a 16 (.call (kC 45) [(.t 15)]),jo 17 8 1,jl 18 17,.a 19
 (.call (kC 46) [(.t 18)]),jo 20 6 1,.n (.store 1 (.t 20) (.t 13)),jo 21 7 1,.n (.store 1 (.t 21) (.t 16)),jo 22 8 1,.n (.store 1 (.t 22) (.t
 19))] [0,1,3,0,8,31,0,64,255,223,1023,2047,4095,8191,16383]) (.seq (jq ([jo 23 6 1,jl 24 23,je 25 24,jk 26 0]) (.block 0 (.loop (jq
 ([jB 27 .lss 26 25]) (.seq (jc 27 .skip (.exit 0)) (.seq (.block 1 (jq ([jm 28 26,jm 3 28]) (.drw [jo 29 6 1,jl 30 29,jm 31 3,jo 32 6 1,jl 33 32,
 jm 34 3,jx 35 4 33 34,jo 36 3 35,jl 37 36,.a 38 (.call (kC 47) [(.t 37)]),jx 39 4 30 31,jo 40 3 39,.n (.store 1 (.t 40) (.t 38))] [0,1,0,0,
 8,0,56,120,248,504,1023,2047,4095]))) (.ops [jb 41 .add 26 1,jm 26 41]))))))) (.seq (jq ([jo 42 8 1,jl 43 42,je 44 43,jk 45 0]) (.block 2
 (.loop (jq ([jB 46 .lss 45 44]) (.seq (jc 46 .skip (.exit 2)) (.seq (.block 3 (jq ([jm 47 45,jm 4 47]) (.drw [jo 48 8 1,jl 49 48,jm 50 4,jo 51 8 1,
 jl 52 51,jm 53 4,jx 54 3 52 53,jo 55 2 54,jl 56 55,.a 57 (.call (kC 47) [(.t 56)]),jx 58 3 49 50,jo 59 2 58,.n (.store 1 (.t 59) (.t 57))] [0,
 1,0,0,8,0,56,120,248,504,1023,2047,4095]))) (.ops [jb 60 .add 45 1,jm 45 60]))))))) (jq ([jL 61 9 1,.n (.store 9 (.t 2) (.t 61))])
 .ret))))))
theorem fn_st_copied : Fn Tryz.prog 25 62 [.cA 9 2] s_st_copied:=.of Tryz.func25 (by kernel_rfl)
def s_st_status : SCode :=
  (jq ([jk 4 0]) (jq ([jk 5 0]) (.seq (jq ([jm 8 0,jn 9 8,jo 10 6 9,jl 11 10,je 12 11,jk 13 0]) (.block 0 (.loop (jq ([jB 14 .lss 13 12]) (.seq (jc
 14 .skip (.exit 0)) (.seq (.block 1 (jq ([jx 15 4 11 13,jL 16 4 15,.a 7 (.alloc 51 [jI,jI,jI,jN]),.n (.store 4 (.t 7) (.t 16))]) (jq ([jo 17 0 7,
 jl 18 17,jm 19 1,jB 20 .eql 18 19]) (jc 20 (.ops [jm 21 5,jb 22 .add 21 1,jm 5 22]) .skip)))) (.ops [jb 23 .add 13 1,jm 13 23]))))))) (jq ([jm 24
 5,jm 4 24]) .ret))))
theorem fn_st_status : Fn Tryz.prog 36 25 [.t 4] s_st_status:=.of Tryz.func36 (by kernel_rfl)
def s_st_start : SCode :=
  (jq ([.a 3 (.box 42 (.t 1)),jk 4 0]) (.seq (jq ((ap [jo 5 8 3,jl 6 5,.a 7 (.call (kC 91) [(.t 6)])] [jb 8 .neq 7 0])) (jc 8 (jq ([jk 4 1]) .ret)
 .skip)) (jq ((ap [jm 9 0,jL 10 9 3,.a 11 (.call (kC 43) [(.t 10)])] [.a 12 (.fld1 8 (.t 11)),jn 13 9,jo 14 5 13,.n (.store 1 (.t 14) (.t 12))]))
 (jq ([jm 15 0,jo 16 8 3,jl 17 16,je 18 17,.a 19 (.mkslice 51 4 48 [(.v (.int .i64 0)),(.v (.int .i64 0)),(.v (.int .i64 0)),(.v (.slice none 0
 0))] (.t 18) (.t 18)),jn 20 15,jo 21 6 20,.n (.store 1 (.t 21) (.t 19))]) (jq ([jk 4 0]) .ret)))))
theorem fn_st_start : Fn Tryz.prog 72 22 [.t 4] s_st_start:=.of Tryz.func72 (by kernel_rfl)
def s_st_begin : SCode :=
  (jq ([.a 3 (.box 42 (.t 1)),jk 4 0]) (.seq (.seq (.drw [jo 6 4 3,jl 7 6,jm 8 0,jn 9 8,jo 10 6 9,jl 11 10,je 12 11,jm 13 0,jn 14 13,jo 15 5
 14,jl 16 15,je 17 16,.a 18 (.mm false (.t 12) (.t 17)),jB 19 .geq 7 18] [0,1,0,4,12,28,60,0,128,384,896,1920,4092,8191]) (jc 19 (jq
 ([jk 4 1]) .ret) .skip)) (.seq (.drw [jm 20 0,jn 21 20,jo 22 6 21,jl 23 22,jo 24 4 3,jl 25 24,jx 26 4 23 25,jm 5 26] [0,1,3,7,0,16,63,
 127]) (.seq (.seq (.drw [jm 27 0,jn 28 27,jL 29 9 28,.a 30 (.call (kC 93) [(.t 29)]),jo 31 4 3,jl 32 31,.a 33 (.call (kC 92) [(.t 30),(.t 32)]),
 .a 34 (.unot (.t 33)),jm 35 34,gO 36 5 3 35 false,gL 37 36 35 false,gM 38 5 35 false,gN 39 38 35 false,gO 40 1 39 35 false,gL 41 40 35 false,jG
 42 (.bin .add (.t 41) (kI 1)) 35 false,jG 43 (.bin .neq (.t 37) (.t 42)) 35 false,.a 44 (.pick (.t 35) kT (.t 43))] [0,1,3,7,0,16,63,127,255,
 511,1023,511,2559,6655,14847,31231,65535,131071]) (jc 44 (jq ([jk 4 4]) .ret) .skip)) (.seq (.drw [jm 45 5,jm 46 5,jm 47 5,jo 48 5 3,jl 49
 48,jo 50 2 3,jl 51 50,jm 52 0,jn 53 52,jo 54 5 53,jl 55 54,jo 56 4 3,jl 57 56,jx 58 3 55 57,jo 59 2 58,jl 60 59,jB 61 .add 51 60,jn 62 45,
 jo 63 0 62,.n (.store 1 (.t 63) (kI 1)),jn 64 46,jo 65 1 64,.n (.store 1 (.t 65) (.t 49)),jn 66 47,jo 67 2 66,.n (.store 1 (.t 67) (.t 61))] [0,
 0,0,0,8,0,32,0,128,384,896,0,2048,8064,16256,32640,65504,65409,196481,458625,982939,2031515,4128667,8388607,16777215,33554431])
 (jq ([jk 4 0]) .ret))))))
theorem fn_st_begin : Fn Tryz.prog 73 68 [.t 4] s_st_begin:=.of Tryz.func73 (by kernel_rfl)
def s_st_end : SCode :=
  (jq ([.a 3 (.box 42 (.t 1)),jk 4 0]) (.seq (.seq (.drw [jo 6 4 3,jl 7 6,jm 8 0,jn 9 8,jo 10 6 9,jl 11 10,je 12 11,jm 13 0,jn 14 13,jo 15 5
 14,jl 16 15,je 17 16,.a 18 (.mm false (.t 12) (.t 17)),jB 19 .geq 7 18] [0,1,0,4,12,28,60,0,128,384,896,1920,4092,8191]) (jc 19 (jq
 ([jk 4 1]) .ret) .skip)) (.seq (.drw [jm 20 0,jn 21 20,jo 22 6 21,jl 23 22,jo 24 4 3,jl 25 24,jx 26 4 23 25,jm 5 26] [0,1,3,7,0,16,63,
 127]) (.seq (.seq (.drw [jm 27 5,jn 28 27,jo 29 0 28,jl 30 29,jb 31 .neq 30 1,jm 32 31,gO 33 5 3 32 false,gL 34 33 32 false,gM 35 5 32 false,
 gN 36 35 32 false,gO 37 1 36 32 false,gL 38 37 32 false,jG 39 (.bin .neq (.t 34) (.t 38)) 32 false,.a 40 (.pick (.t 32) kT (.t 39))] [0,1,3,7,
 15,31,63,127,63,319,831,1855,4095,8191]) (jc 40 (jq ([jk 4 4]) .ret) .skip)) (jq ([jm 41 5,jn 42 41,jo 43 2 42,.n (.store 1 (.t 43) (kI
 0))]) (.seq (.block 0 (jq ((ap [jo 48 3 3,jl 49 48,jb 50 .eql 49 3] [jm 47 50])) (jc 47 (.ops (ap [jm 51 5,jm 52 5,jo 53 7 3,jl 54 53,.a 55
 (.call (kC 47) [(.t 54)])] [jn 56 51,jo 57 0 56,.n (.store 1 (.t 57) (kI 2)),jn 58 52,jo 59 3 58,.n (.store 1 (.t 59) (.t 55))])) (.seq (.drw [jm
 61 5,jn 62 61,jo 63 1 62,jl 64 63,jm 65 0,jn 66 65,jo 67 5 66,jl 68 67,jo 69 4 3,jl 70 69,jx 71 3 68 70,jo 72 1 71,jl 73 72,jB 74 .eql 64
 73,jm 60 74] [0,1,3,7,0,16,48,112,0,256,1008,2032,4080,8191,16383]) (jc 60 (.ops [jm 75 5,jn 76 75,jo 77 0 76,.n (.store 1 (.t 77)
 (kI 3))]) (.ops [jm 44 5,jn 45 44,jo 46 0 45,.n (.store 1 (.t 46) (kI 0))])))))) (jq ([jk 4 0]) .ret)))))))
theorem fn_st_end : Fn Tryz.prog 74 78 [.t 4] s_st_end:=.of Tryz.func74 (by kernel_rfl)
def s_st_timer : SCode :=
  (jq ([.a 3 (.box 9 (.t 1)),jk 4 0]) (jq ((ap [jm 5 0,jn 6 5,jo 7 7 6,jl 8 7,.a 9 (.fn 103 [(.t 3)]),.a 10 (.call (kC 102) [(.t 8),(.t 9)])] [jm
 4 10])) .ret))
theorem fn_st_timer : Fn Tryz.prog 94 11 [.t 4] s_st_timer:=.of Tryz.func94 (by kernel_rfl)
def s_st_timer1 : SCode :=
  (jq ([.a 2 (.box 57 (.t 0)),.a 3 (.mv kF)]) (jq ((ap [jo 4 0 2,jl 5 4,jl 6 1,jB 7 .eql 5 6] [jm 3 7])) .ret))
theorem fn_st_timer1 : Fn Tryz.prog 103 8 [.t 3] s_st_timer1:=.of Tryz.func103 (by kernel_rfl)
def s_tm_IndexFunc : SCode :=
  (jq ([jk 4 0]) (.seq (jq ([jm 6 0,je 7 6,jk 8 0]) (.block 0 (.loop (jq ([jB 9 .lss 8 7]) (.seq (jc 9 .skip (.exit 0)) (.seq (.block 1 (jq ([jm 10 8,
 jm 5 10]) (jq ([jm 11 1,jm 12 0,jm 13 5,jx 14 3 12 13,jL 15 3 14,.a 16 (.call (.t 11) [(.t 15)])]) (jc 16 (jq ([jm 17 5,jm 4 17]) .ret) .skip))))
 (.ops [jb 18 .add 8 1,jm 8 18]))))))) (jq ([.a 4 (.mv (kI (-1)))]) .ret)))
theorem fn_tm_IndexFunc : Fn Tryz.prog 102 19 [.t 4] s_tm_IndexFunc:=.of Tryz.func102 (by kernel_rfl)
def s_st_arm : SCode :=
  (jq ([.a 3 (.box 42 (.t 1)),jk 4 0]) (.seq (.block 0 (jq ((ap [jm 6 0,jo 7 6 3,jl 8 7,.a 9 (.call (kC 94) [(.t 6),(.t 8)])] (ap [jb 10 .geq 9 0]
 [jm 5 10]))) (jc 5 (jq ([jk 4 13]) .ret) (jq ((ap [jm 12 0,jn 13 12,jo 14 7 13,jl 15 14,je 16 15,jb 17 .geq 16 8] [jm 11 17])) (jc 11 (jq ([jk 4
 4]) .ret) .skip))))) (.seq (.drw [jm 18 0,jm 19 0,jn 20 19,jo 21 7 20,jl 22 21,jo 23 6 3,jl 24 23,jo 25 2 3,jl 26 25,jo 27 5 3,jl 28 27,jB
 29 .add 26 28,.a 30 (.bld [(.f (.v (.string ⟨#[]⟩))),jI,jF] [(0,1,(.t 24)),(1,1,(.t 29))]),.a 31 (.bsl 57 3 1 [(.f (.v (.string ⟨#[]⟩))),jI,
 jF] [(0,(.t 30))]),.a 32 (.app 57 3 32 (.t 22) (.t 31)),jn 33 18,jo 34 7 33,.n (.store 1 (.t 34) (.t 32))] [0,0,2,6,14,0,32,0,128,0,512,
 1920,4064,8160,16382,32767,65535,131071]) (jq ([jk 4 0]) .ret))))
theorem fn_st_arm : Fn Tryz.prog 75 35 [.t 4] s_st_arm:=.of Tryz.func75 (by kernel_rfl)
def s_st_fire : SCode :=
  (jq ([.a 3 (.box 42 (.t 1)),jk 4 0]) (jq ((ap [jm 6 0,jo 7 6 3,jl 8 7,.a 9 (.call (kC 94) [(.t 6),(.t 8)])] [jm 5 9])) (.seq (.seq (.drw [jm 10 5,
 jb 11 .lss 10 0,jm 12 11,gM 13 0 12 false,gN 14 13 12 false,gO 15 7 14 12 false,gL 16 15 12 false,gM 17 5 12 false,jG 18 (.idx 3 (.t 16) (.t
 17)) 12 false,gO 19 2 18 12 false,gL 20 19 12 false,.a 21 (.pick (.t 12) kT (.t 20)),jm 22 21,gO 23 2 3 22 false,gL 24 23 22 false,gM 25 0 22
 false,gN 26 25 22 false,gO 27 7 26 22 false,gL 28 27 22 false,gM 29 5 22 false,jG 30 (.idx 3 (.t 28) (.t 29)) 22 false,gO 31 1 30 22 false,gL 32
 31 22 false,jG 33 (.bin .lss (.t 24) (.t 32)) 22 false,.a 34 (.pick (.t 22) kT (.t 33))] [0,1,3,7,15,31,63,7,255,511,1023,2047,4095,
 8191,16383,8191,40959,106495,237567,8191,1023999,2072575,4169727,8388607,16777215]) (jc 34 (jq ([jk 4 4]) .ret) .skip)) (jq ([jm 35 0,jn 36
 35,jo 37 7 36,jl 38 37,jm 39 5,jx 40 3 38 39,jo 41 2 40,.n (.store 1 (.t 41) kT)]) (jq ([jk 4 0]) .ret)))))
theorem fn_st_fire : Fn Tryz.prog 76 42 [.t 4] s_st_fire:=.of Tryz.func76 (by kernel_rfl)
def s_st_signal : SCode :=
  (jq ([.a 3 (.box 42 (.t 1)),jk 4 0]) (.seq (.seq (.drw [jm 5 0,jn 6 5,jL 7 9 6,jo 8 6 3,jl 9 8,.a 10 (.call (kC 95) [(.t 7),(.t 9)])] [0,1,3,
 0,8,31]) (jc 10 (jq ([jk 4 13]) .ret) .skip)) (.seq (.drw [jm 11 0,jm 12 0,jn 13 12,jo 14 8 13,jl 15 14,jo 16 6 3,jl 17 16,jo 18 0 3,jl 19
 18,jo 20 7 3,jl 21 20,.a 22 (.call (kC 47) [(.t 21)]),.a 23 (.bld [(.f (.v (.string ⟨#[]⟩))),jI,jN] [(0,1,(.t 17)),(1,1,(.t 19)),(2,1,(.t
 22))]),.a 24 (.bsl 60 3 1 [(.f (.v (.string ⟨#[]⟩))),jI,jN] [(0,(.t 23))]),.a 25 (.app 60 3 48 (.t 15) (.t 24)),jn 26 11,jo 27 8 26,.n (.store
 1 (.t 27) (.t 25))] [0,0,2,6,14,0,32,0,128,0,512,1536,4064,8160,16382,32767,65535,131071]) (jq ([jk 4 0]) .ret))))
theorem fn_st_signal : Fn Tryz.prog 77 28 [.t 4] s_st_signal:=.of Tryz.func77 (by kernel_rfl)
def s_st_cancel : SCode :=
  (jq ([jk 2 0]) (.seq (jq ([jm 3 0,jn 4 3,jo 5 4 4,jl 6 5]) (jc 6 (jq ([jk 2 4]) .ret) .skip)) (jq ([jm 7 0,jn 8 7,jo 9 4 8,.n (.store 1 (.t 9)
 kT)]) (jq ([jk 2 0]) .ret))))
theorem fn_st_cancel : Fn Tryz.prog 78 10 [.t 2] s_st_cancel:=.of Tryz.func78 (by kernel_rfl)
def s_st_closing : SCode :=
  (jq ([.a 4 (.mv kF)]) (.seq (jq ([jm 5 1]) (.block 0 (jq ((ap [jb 7 .eql 5 9] [jm 6 7])) (jc 6 (.seq (.drw [jm 8 0,.a 9 (.call (kC 36) [(.t 8),(kI
 2)]),jm 10 0,jn 11 10,jo 12 6 11,jl 13 12,je 14 13,jB 15 .eql 9 14,jm 4 15] [0,1,0,4,12,28,60,127,255]) .ret) (jq ((ap [jb 17 .eql 5 10]
 [jm 16 17])) (jc 16 (jq ((ap [jm 18 0,.a 19 (.call (kC 36) [(.t 18),(kI 3)])] (ap [jb 20 .gtr 19 0] [jm 4 20]))) .ret) (jq ((ap [jb 22 .eql 5 11] [jm
 21 22])) (jc 21 (jq ((ap [jm 23 0,jn 24 23,jo 25 4 24,jl 26 25,jm 27 26,gM 28 0 27 true] (ap [jG 29 (.call (kC 36) [(.t 28),(kI 1)]) 27 true] (ap
 [jG 30 (.bin .eql (.t 29) (kI 0)) 27 true] [.a 31 (.pick (.t 27) (.t 30) kF),jm 4 31])))) .ret) .skip)))))))) (jq ([.a 4 (.mv kT)]) .ret)))
theorem fn_st_closing : Fn Tryz.prog 79 32 [.t 4] s_st_closing:=.of Tryz.func79 (by kernel_rfl)
def s_st_turn : SCode :=
  (jq ([.a 3 (.box 42 (.t 1)),jk 4 0]) (.seq (jq ([jo 5 3 3,jl 6 5]) (.block 0 (jq ((ap [jb 8 .eql 6 1] [jm 7 8])) (jc 7 (jq ((ap [jm 9 0,jL 10 9 3,
 .a 11 (.call (kC 72) [(.t 9),(.t 10)])] [jm 4 11])) .ret) (jq ((ap [jb 13 .eql 6 2] [jm 12 13])) (jc 12 (jq ((ap [jm 14 0,jL 15 9 3,.a 16 (.call (kC
 73) [(.t 14),(.t 15)])] [jm 4 16])) .ret) (.seq (jq ((ap [jb 18 .eql 6 3] [jm 17 18])) (jc 17 .skip (.ops (ap [jb 19 .eql 6 4] [jm 17 19])))) (jc 17
 (jq ((ap [jm 20 0,jL 21 9 3,.a 22 (.call (kC 74) [(.t 20),(.t 21)])] [jm 4 22])) .ret) (jq ((ap [jb 24 .eql 6 5] [jm 23 24])) (jc 23 (jq ((ap [jm 25
 0,jL 26 9 3,.a 27 (.call (kC 75) [(.t 25),(.t 26)])] [jm 4 27])) .ret) (jq ((ap [jb 29 .eql 6 6] [jm 28 29])) (jc 28 (jq ((ap [jm 30 0,jL 31 9 3,
 .a 32 (.call (kC 76) [(.t 30),(.t 31)])] [jm 4 32])) .ret) (jq ((ap [jb 34 .eql 6 7] [jm 33 34])) (jc 33 (jq ((ap [jm 35 0,jL 36 9 3,.a 37 (.call
 (kC 77) [(.t 35),(.t 36)])] [jm 4 37])) .ret) (jq ((ap [jb 39 .eql 6 8] [jm 38 39])) (jc 38 (jq ((ap [jm 40 0,.a 41 (.call (kC 78) [(.t 40)])] [jm 4
 41])) .ret) .skip)))))))))))))))) (.seq (jq ((ap [jm 42 0,jo 43 3 3,jl 44 43,.a 45 (.call (kC 79) [(.t 42),(.t 44)])] [.a 46 (.unot (.t 45))])) (jc
 46 (jq ([jk 4 4]) .ret) .skip)) (jq ([jm 47 0,jo 48 3 3,jl 49 48,jn 50 47,jo 51 3 50,.n (.store 1 (.t 51) (.t 49))]) (jq ([jk 4 0]) .ret)))))
theorem fn_st_turn : Fn Tryz.prog 42 52 [.t 4] s_st_turn:=.of Tryz.func42 (by kernel_rfl)
def s_st_apply : SCode :=
  (jq ([.a 3 (.box 42 (.t 1)),jk 4 0]) (.seq (.block 0 (.seq (.drw [jL 7 9 3,.a 8 (.call (kC 26) [(.t 7)]),.a 9 (.unot (.t 8)),jm 10 9,gO 11 0 3 10
 false,gL 12 11 10 false,gM 13 0 10 false,gN 14 13 10 false,gO 15 0 14 10 false,gL 16 15 10 false,jG 17 (.bin .add (.t 16) (kI 1)) 10 false,jG 18
 (.bin .neq (.t 12) (.t 17)) 10 false,.a 19 (.pick (.t 10) kT (.t 18)),jm 20 19,gO 21 1 3 20 false,gL 22 21 20 false,gM 23 0 20 false,gN 24 23 20
 false,gO 25 1 24 20 false,gL 26 25 20 false,jG 27 (.bin .lss (.t 22) (.t 26)) 20 false,.a 28 (.pick (.t 20) kT (.t 27)),jm 29 28,gO 30 2 3 29
 false,gL 31 30 29 false,gM 32 0 29 false,gN 33 32 29 false,gO 34 2 33 29 false,gL 35 34 29 false,jG 36 (.bin .lss (.t 31) (.t 35)) 29 false,.a
 37 (.pick (.t 29) kT (.t 36)),jm 6 37] [0,1,3,7,15,31,15,79,207,463,975,2047,4095,8191,16383,32767,16383,81919,212991,475135,
 1048575,2097151,4194303,8388607,16777215,8388607,41943039,109051903,243269631,536870911,1073741823,2147483647]) (jc 6 (jq ([jk 4 1]) .ret)
 (jq ((ap [jm 39 0,jn 40 39,jo 41 3 40,jl 42 41,jb 43 .neq 42 0] [jm 38 43])) (jc 38 (jq ([jk 4 12]) .ret) (.seq (.drw [jm 45 0,jn 46 45,jo 47 0
 46,jl 48 47,jb 49 .eql 48 0,jo 50 3 3,jl 51 50,jb 52 .eql 51 1,.a 53 (.binb .neq (.t 49) (.t 52)),jm 44 53] [0,1,3,7,15,0,32,96,255,
 511]) (jc 44 (jq ([jk 4 4]) .ret) .skip))))))) (jq ((ap [jm 54 0,jL 55 9 3,.a 56 (.call (kC 42) [(.t 54),(.t 55)])] [jm 5 56])) (.seq (.drw [jm 57
 0,jm 58 0,jm 59 0,jo 60 0 3,jl 61 60,jo 62 1 3,jl 63 62,jo 64 2 3,jl 65 64,jn 66 57,jo 67 0 66,.n (.store 1 (.t 67) (.t 61)),jn 68 58,jo
 69 1 68,.n (.store 1 (.t 69) (.t 63)),jn 70 59,jo 71 2 70,.n (.store 1 (.t 71) (.t 65))] [0,0,0,0,8,0,32,0,128,25,537,1561,3707,7803,
 15995,32767,65535,131071]) (jq ([jm 72 5,jm 4 72]) .ret)))))
theorem fn_st_apply : Fn Tryz.prog 24 73 [.t 4] s_st_apply:=.of Tryz.func24 (by kernel_rfl)
def s_st_Apply : SCode :=
  (jq ([.a 2 (.box 29 (.t 0)),.a 3 (.box 42 (.t 1)),.a 4 (.alloc 29 [jI,jI,jI,jI,jF,jN,jN,jN,jN]),jk 5 0]) (jq ((ap [jL 8 9 2,.a 9 (.call (kC
 25) [(.t 8)])] [.a 6 (.alloc 29 [jI,jI,jI,jI,jF,jN,jN,jN,jN]),.n (.store 9 (.t 6) (.t 9))])) (.seq (jq ((ap [jL 10 9 3,.a 11 (.call (kC 24)
 [(.t 6),(.t 10)])] [jm 7 11])) (jq ([jm 12 7,jb 13 .neq 12 0]) (jc 13 (jq ([.a 14 (.bld [jI,jI,jI,jI,jF,jN,jN,jN,jN] []),jm 15 7,.n (.store
 9 (.t 4) (.t 14)),jm 5 15]) .ret) .skip))) (jq ([jL 16 9 6,.n (.store 9 (.t 4) (.t 16)),jk 5 0]) .ret))))
theorem fn_st_Apply : Fn Tryz.prog 12 17 [.cA 9 4,.t 5] s_st_Apply:=.of Tryz.func12 (by kernel_rfl)
def s_st_Fold : SCode :=
  (jq ([.a 2 (.alloc 29 [jI,jI,jI,jI,jF,jN,jN,jN,jN]),jk 3 0]) (jq ([.a 8 (.bld [jI,jI,jI,jI,jF,jN,jN,jN,jN] []),.a 4 (.alloc 29 [jI,
 jI,jI,jI,jF,jN,jN,jN,jN]),.n (.store 9 (.t 4) (.t 8))]) (.seq (jq ([jm 9 0,je 10 9,jk 11 0]) (.block 0 (.loop (jq ([jB 12 .lss 11 10]) (.seq
 (jc 12 .skip (.exit 0)) (.seq (.block 1 (jq ([jx 13 9 9 11,jL 14 9 13,.a 6 (.alloc 42 [jI,jI,jI,jI,jI,jI,(.f (.v (.string ⟨#[]⟩))),jN,jN]),
 .n (.store 9 (.t 6) (.t 14))]) (jq ((ap [jL 15 9 6,.a 16 (.call (kC 24) [(.t 4),(.t 15)])] [jm 7 16])) (jq ([jm 17 7,jb 18 .neq 17 0]) (jc 18 (jq
 ([.a 19 (.bld [jI,jI,jI,jI,jF,jN,jN,jN,jN] []),jm 20 7,.n (.store 9 (.t 2) (.t 19)),jm 3 20]) .ret) .skip))))) (.ops [jb 21 .add 11 1,jm 11
 21]))))))) (jq ([jL 22 9 4,.n (.store 9 (.t 2) (.t 22)),jk 3 0]) .ret))))
theorem fn_st_Fold : Fn Tryz.prog 11 23 [.cA 9 2,.t 3] s_st_Fold:=.of Tryz.func11 (by kernel_rfl)
def s_st_Ready : SCode :=
  (jq ([.a 1 (.box 29 (.t 0)),.a 2 (.mv kN)]) (.seq (jq ((ap [jo 9 3 1,jl 10 9,jb 11 .neq 10 0] (ap [jm 12 11,gO 13 4 1 12 false] [gL 14 13 12 false,
 .a 15 (.pick (.t 12) kT (.t 14))]))) (jc 15 (jq ([.a 2 (.mv kN)]) .ret) .skip)) (jq ([jo 16 6 1,jl 17 16,je 18 17,.a 19 (.mkslice 4 1 1 [(.v (.bool
 false))] (.t 18) (.t 18)),jm 3 19]) (.seq (jq ([jo 20 6 1,jl 21 20,je 22 21,jk 23 0]) (.block 0 (.loop (jq ([jB 24 .lss 23 22]) (.seq (jc 24 .skip
 (.exit 0)) (.seq (.block 1 (jq ([jm 25 23,jx 26 4 21 23,jL 27 4 26,.a 5 (.alloc 51 [jI,jI,jI,jN]),jm 4 25,.n (.store 4 (.t 5) (.t 27))]) (.ops
 (ap [jm 28 3,jm 29 4,jo 30 0 5,jl 31 30,jb 32 .eql 31 2] [jx 33 1 28 29,.n (.store 1 (.t 33) (.t 32))])))) (.ops [jb 34 .add 23 1,jm 23
 34]))))))) (jq ([.a 6 (.mv kN)]) (.seq (jq ((ap [jo 35 5 1,jl 36 35,jm 37 3,.a 38 (.call (kC 101) [(.t 36),(.t 37)])] [je 39 38,jk 40 0])) (.block
 2 (.loop (jq ([jB 41 .lss 40 39]) (.seq (jc 41 .skip (.exit 2)) (.seq (.block 3 (jq ([jx 42 1 38 40,jl 43 42,jm 8 43]) (jq ((ap [jm 44 8,jo 45 6 1,
 jl 46 45,je 47 46,jB 48 .lss 44 47] (ap [jm 49 48,gO 50 6 1 49 true] (ap [gL 51 50 49 true,gM 52 8 49 true,jG 53 (.idx 4 (.t 51) (.t 52)) 49 true,
 gO 54 0 53 49 true,gL 55 54 49 true,jG 56 (.bin .eql (.t 55) (kI 0)) 49 true] [.a 57 (.pick (.t 49) (.t 56) kF)])))) (jc 57 (.ops (ap [jm 58 6,jm 59
 8,.a 60 (.bsl 3 1 1 [jI] [(0,(.t 59))]),.a 61 (.app 3 1 8 (.t 58) (.t 60))] [jm 6 61])) .skip)))) (.ops [jb 62 .add 40 1,jm 40 62]))))))) (jq ([jm
 63 6,jm 2 63]) .ret)))))))
theorem fn_st_Ready : Fn Tryz.prog 93 64 [.t 2] s_st_Ready:=.of Tryz.func93 (by kernel_rfl)
def s_st_Ending : SCode :=
  (jq ([.a 1 (.box 29 (.t 0)),jk 2 0]) (.seq (.block 0 (jq ((ap [jo 4 3 1,jl 5 4,jb 6 .neq 5 0] (ap [jm 7 6,gO 8 5 1 7 false] (ap [gL 9 8 7 false,jG
 10 (.slen (.t 9)) 7 false,jG 11 (.bin .eql (.t 10) (kI 0)) 7 false] [.a 12 (.pick (.t 7) kT (.t 11)),jm 3 12])))) (jc 3 (jq ([jk 2 0]) .ret) (jq ((ap
 [jo 14 4 1,jl 15 14,jm 16 15,jG 17 (.call (kC 36) [(.t 1),(kI 1)]) 16 true] (ap [jG 18 (.bin .eql (.t 17) (kI 0)) 16 true] [.a 19 (.pick (.t 16)
 (.t 18) kF),jm 13 19]))) (jc 13 (jq ([jk 2 11]) .ret) (jq ((ap [.a 21 (.call (kC 36) [(.t 1),(kI 3)])] (ap [jb 22 .gtr 21 0] [jm 20 22]))) (jc 20 (jq
 ([jk 2 10]) .ret) (.seq (.drw [.a 24 (.call (kC 36) [(.t 1),(kI 2)]),jo 25 6 1,jl 26 25,je 27 26,jB 28 .eql 24 27,jm 23 28] [0,0,2,6,15,31])
 (jc 23 (jq ([jk 2 9]) .ret) .skip))))))))) (jq ([jk 2 0]) .ret)))
theorem fn_st_Ending : Fn Tryz.prog 16 29 [.t 2] s_st_Ending:=.of Tryz.func16 (by kernel_rfl)
def s_st_Has : SCode :=
  (jq ([.a 2 (.box 29 (.t 0)),.a 3 (.box 9 (.t 1)),.a 4 (.mv kF)]) (jq ((ap [jo 5 8 2,jl 6 5,.a 7 (.fn 105 [(.t 3)]),.a 8 (.call (kC 104) [(.t 6),
 (.t 7)])] [jm 4 8])) .ret))
theorem fn_st_Has : Fn Tryz.prog 95 9 [.t 4] s_st_Has:=.of Tryz.func95 (by kernel_rfl)
def s_st_Has1 : SCode :=
  (jq ([.a 2 (.box 60 (.t 0)),.a 3 (.mv kF)]) (jq ((ap [jo 4 0 2,jl 5 4,jl 6 1,jB 7 .eql 5 6] [jm 3 7])) .ret))
theorem fn_st_Has1 : Fn Tryz.prog 105 8 [.t 3] s_st_Has1:=.of Tryz.func105 (by kernel_rfl)
def s_sg_ContainsFunc : SCode :=
  (jq ([.a 4 (.mv kF)]) (jq ((ap [jm 5 0,jm 6 1,.a 7 (.call (kC 107) [(.t 5),(.t 6)])] (ap [jb 8 .geq 7 0] [jm 4 8]))) .ret))
theorem fn_sg_ContainsFunc : Fn Tryz.prog 104 9 [.t 4] s_sg_ContainsFunc:=.of Tryz.func104 (by kernel_rfl)
def s_sg_IndexFunc : SCode :=
  (jq ([jk 4 0]) (.seq (jq ([jm 6 0,je 7 6,jk 8 0]) (.block 0 (.loop (jq ([jB 9 .lss 8 7]) (.seq (jc 9 .skip (.exit 0)) (.seq (.block 1 (jq ([jm 10 8,
 jm 5 10]) (jq ([jm 11 1,jm 12 0,jm 13 5,jx 14 3 12 13,jL 15 3 14,.a 16 (.call (.t 11) [(.t 15)])]) (jc 16 (jq ([jm 17 5,jm 4 17]) .ret) .skip))))
 (.ops [jb 18 .add 8 1,jm 8 18]))))))) (jq ([.a 4 (.mv (kI (-1)))]) .ret)))
theorem fn_sg_IndexFunc : Fn Tryz.prog 107 19 [.t 4] s_sg_IndexFunc:=.of Tryz.func107 (by kernel_rfl)
def s_byte_Clone : SCode :=
  (jq ([.a 2 (.mv kN)]) (.seq (jq ([jm 3 0,.a 4 (.nilq true 0 (.t 3) kN)]) (jc 4 (jq ([.a 2 (.mv kN)]) .ret) .skip)) (jq ((ap [.a 5 (.bsl 5 1 0 [] []),
 jm 6 0,.a 7 (.app 5 1 1 (.t 5) (.t 6))] [jm 2 7])) .ret)))
theorem fn_byte_Clone : Fn Tryz.prog 47 8 [.t 2] s_byte_Clone:=.of Tryz.func47 (by kernel_rfl)
end Go.Proofs.YtgbbpelfpagdoaaGreatDoor.Mir
