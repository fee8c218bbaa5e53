/- Lemmas for the proof. No condition. -/
import Derived.Test.YtahoaijkchgdaaaGreatDoorSo06
set_option linter.unusedVariables false
set_option linter.unusedSimpArgs false
namespace Go.Proofs.YtahoaijkchgdaaaGreatDoor.Mir
open Go Go.RowKit
inductive SR where
 | t (n:Nat)
 | c1 (a:Nat)
 | cA (n a:Nat)
def compR (P:Program):List ResultVar→Option (List SR)
 | []=>some []
 | .tmp t :: rs=>(compR P rs).map (.t t :: ·)
 | .cell a T :: rs=>match isAggB P T,inf P T,compR P rs with
  | some false,_,some l=>some (.c1 a :: l)
  | some true,some (n,_,_),some l=>some (.cA n a :: l)
  | _,_,_=>none
def resS (H:List Row)(ts:List D):List SR→Option (List D)
 | []=>some []
 | .t n :: rs=>match resS H ts rs with
  | some ds=>some (ts.getD n D.undef :: ds)
  | none=>none
 | .c1 a :: rs=>match load1 H (ts.getD a D.undef),resS H ts rs with
  | some d,some ds=>some (d :: ds)
  | _,_=>none
 | .cA n a :: rs=>match loadA H n (ts.getD a D.undef),resS H ts rs with
  | some d,some ds=>some (d :: ds)
  | _,_=>none
section
variable {P:Program}
theorem resS_ok {H:List Row}{ts:List D}:∀ {rs:List ResultVar} {l:List SR} {ds:List D},compR P rs=some l→resS H ts l=some ds→resultD P H ts rs=some ds
 | [],l,ds,h,k=>by simp [compR] at h;subst h;exact k
 | .tmp t :: rs,l,ds,h,k=>by
  simp only [compR,Option.map_eq_some_iff] at h
  obtain ⟨l',h1,rfl⟩:=h
  simp only [resS] at k
  split at k
  ·rename_i ds' h2
   injection k with k
   subst k
   simp only [resultD,resS_ok h1 h2,Option.map_some]
  ·cases k
 | .cell a T :: rs,l,ds,h,k=>by
  simp only [compR] at h
  split at h
  ·rename_i l' hT hl
   injection h with h
   subst h
   simp only [resS] at k
   split at k
   ·rename_i d ds' h1 h2
    injection k with k
    subst k
    simp only [resultD,load1_eq hT h1,resS_ok hl h2]
   ·cases k
  ·rename_i n b z l' hT hi hl
   injection h with h
   subst h
   simp only [resS] at k
   split at k
   ·rename_i d ds' h1 h2
    injection k with k
    subst k
    simp only [resultD,loadA_eq hT hi h1,resS_ok hl h2]
   ·cases k
  ·cases h
def deadN:Nat→List Row→List Row
 | 0,H=>H
 | _+1,[]=>[]
 | n+1,_ :: H=>.dead :: deadN n H
theorem deadN_len:∀ (n:Nat) (H:List Row),(deadN n H).length=H.length
 | 0,_=>rfl
 | _+1,[]=>rfl
 | n+1,_ :: H=>by simp [deadN,deadN_len n H]
theorem deadN_get:∀ (n:Nat) (H:List Row) (r:Nat),(deadN n H)[r]?=if r<n then (H[r]?).map fun _=>.dead else H[r]?
 | 0,H,r=>by simp [deadN]
 | n+1,[],r=>by simp [deadN]
 | n+1,x :: H,0=>by simp [deadN]
 | n+1,x :: H,r+1=>by simp [deadN,deadN_get n H r]
def lowB (n:Nat)(H:List Row):Bool:=H.all fun row=>row.refs.all fun r=>Nat.blt r n
inductive RetS (n0:Nat)(rs:List SR)(Q:D→List Row→Prop)(s:St):Prop
 | gather {ds:List D} {e:Eff}:resS s.H s.ts rs=some ds→gather n0 (one ds) (List.range n0) s.H=some e→Q e.res (applyUpd (s.H.take n0) e.upd++e.news)→RetS n0 rs Q s
 | still {ds:List D} {d0:D}:resS s.H s.ts rs=some ds→lowB n0 (s.H.take n0)=true→Vw (deadN n0 s.H) (one ds) d0→Q d0 (s.H.take n0)→RetS n0 rs Q s
 | all {ds:List D}:resS s.H s.ts rs=some ds→Q (one ds) s.H→RetS n0 rs Q s
def endS (n0:Nat)(rs:List SR)(Q:D→List Row→Prop):Out→St→Prop
 | .exit _,_=>False
 | .normal,s=>RetS n0 rs Q s
 | .ret,s=>RetS n0 rs Q s
def Fn (P:Program)(f:FuncId)(n:Nat)(rs:List SR)(c:SCode):Prop:=∃ fn k,P.funcs[f]?=some fn∧fn.body=some k∧fn.ntmps=n∧compR P fn.results.toList=some rs∧compC P k=c
theorem Fn.of {P:Program}{f:FuncId}{fn:Func}{n:Nat}{rs:List SR}{c:SCode}(h:P.funcs[f]?=some fn)(e:(fn.body.map (compC P),fn.ntmps,compR P fn.results.toList)=(some c,n,some rs)):Fn P f n rs c:=by
 obtain ⟨e1,e2,e3⟩:=by simpa only [Prod.mk.injEq] using e
 cases hb:fn.body with
 | none=>rw [hb] at e1;cases e1
 | some k=>rw [hb] at e1;exact ⟨fn,k,h,hb,e2,e3,Option.some.inj e1⟩
theorem HR.takeN {w:World}{φ:Nat→Nat × Nat}{X:Nat→Prop}{H:List Row}(h:HR P w φ X H){n:Nat}(hl:lowB n (H.take n)=true)(hn:n≤H.length):HR P w φ X (H.take n)∧∀ b,Av X φ (H.take n) b→Av X φ H b:=by
 have hlen:(H.take n).length=n:=by simp;omega
 have get:∀ (r:Nat) (row:Row),(H.take n)[r]?=some row→r<n∧H[r]?=some row:=by
  intro r row hr
  rw [List.getElem?_take] at hr
  split at hr
  ·exact ⟨‹_›,hr⟩
  ·cases hr
 have ha:∀ b,Av X φ (H.take n) b→Av X φ H b:=by
  rintro b (hb|⟨r,row,hr,hv,rfl⟩)
  ·exact .inl hb
  ·exact .inr ⟨r,row,(get r row hr).2,hv,rfl⟩
 refine ⟨⟨fun r row hr=>?_,fun r s x y hr hs=>h.apart r s x y (get r x hr).2 (get s y hs).2,fun r row hr=>h.off r row (get r row hr).2,h.old,fun p hp=>(h.gl p hp).thin ha⟩,ha⟩
 obtain ⟨h1,h2⟩:=get r row hr
 rw [hlen]
 refine (h.rows r row h2).lower (S:=(· < n)) rfl (fun r hr=>⟨rfl,hr⟩) ha (rowLow_of_refs fun q hq=>?_)
 have h3:=List.all_eq_true.1 hl row (List.mem_of_getElem? hr)
 have h4:=List.all_eq_true.1 h3 q hq
 simpa using h4
theorem end_ok {w w':World}{φ φ':Nat→Nat × Nat}{X:Nat→Prop}{H:List Row}{s:St}{a:Act}{fn:Func}{rs:List SR}(hrs:compR P fn.results.toList=some rs){Q:D→List Row→Prop}(hq:RetS H.length rs Q s)(hr:RunW P X w φ H w' φ' s a) :
  a.defers=[]∧∃ v,(results fn a.tmps).run P w' = .ok v w'∧∃ v' d H',Ending.returned v = .returned v'∧Q d H'∧LeavesW P w φ X H v' w' d H':=by
 refine ⟨hr.sim.defers,?_⟩
 have hone:∀ ds,resS s.H s.ts rs=some ds→∃ v,(results fn a.tmps).run P w' = .ok v w'∧R P w' φ' (Av X φ' s.H) s.H.length (one ds) v:=by
  intro ds hds
  obtain ⟨us,h1,h2⟩:=results_ok hr.sim.heap hr.sim.tmps _ _ (resS_ok hrs hds)
  refine ⟨if h:us.toArray.size=1 then us.toArray[0] else .tuple us.toArray,?_,?_⟩
  ·unfold results
   rw [Array.mapM_eq_mapM_toList]
   simp at h1
   simp
   exact congrArg (fun r:Result (List Value)=>r.andThen fun a w'=>Result.ok (if h:a.length=1 then a[0] else Value.tuple a.toArray) w') h1
  ·match ds,us,h2 with
   | [],[],_=>exact .tp rfl (fun i d u hd=>by simp at hd)
   | [d],[u],h2=>exact h2.2 0 d u (by simp) (by simp)
   | d :: d2 :: ds,u :: u2 :: us,h2=>exact .tp (by have:=h2.1;simpa using this) (fun i d' u' hd hu=>h2.2 i d' u' hd (by simpa using hu))
   | [],_ :: _,h2=>have:=h2.1;simp at this
   | _ :: _,[],h2=>have:=h2.1;simp at this
   | [_],_ :: _ :: _,h2=>have:=h2.1;simp at this
   | _ :: _ :: _,[_],h2=>have:=h2.1;simp at this
 have hlt:(s.H.take H.length).length=H.length:=by rw [List.length_take];have:=hr.ons.len;omega
 cases hq with
 | gather hds hg hq =>
  obtain ⟨v,h3,h4⟩:=hone _ hds
  obtain ⟨ψ,k1,k2,k3,k4,_⟩:=gather_core hr.sim.heap hr.ons.len hlt h4 (fun r row hr hnd hrow=>absurd (List.mem_range.2 hr) hnd) hg
  exact ⟨v,h3,v,_,_,rfl,hq,ψ,⟨by simp [applyUpd_length,hlt],fun r hr'=>(k1 r hr').trans (hr.ons.same r hr'),hr.ons.keep,fun b hb=>hr.ons.fresh b (k4 b hb)⟩,k2,k3⟩
 | all hds hq =>
  obtain ⟨v,h3,h4⟩:=hone _ hds
  exact ⟨v,h3,v,_,_,rfl,hq,φ',hr.ons,hr.sim.heap,h4⟩
 | still hds hlow hv hq =>
  rename_i ds d0
  obtain ⟨v,h3,h4⟩:=hone _ hds
  obtain ⟨t1,t2⟩:=hr.sim.heap.takeN hlow hr.ons.len
  refine ⟨v,h3,v,d0,_,rfl,hq,φ',⟨by rw [hlt];exact Nat.le_refl _,hr.ons.same,hr.ons.keep,fun b hb=>hr.ons.fresh b ?_⟩,t1,?_⟩
  ·obtain ⟨r,row,hx,hl,rfl⟩:=hb
   rw [List.getElem?_take] at hx
   split at hx
   ·exact ⟨r,row,hx,hl,rfl⟩
   ·cases hx
  ·
   have hM:HR P w' φ' (Rest X φ' s.H (deadN H.length s.H)) (deadN H.length s.H):=by
    refine hr.sim.heap.part (S:=fun r=>r<s.H.length) (fun r h=>by rw [deadN_len];exact h) (fun x row hx=>?_)
    rw [deadN_get] at hx
    split at hx
    ·rw [Option.map_eq_some_iff] at hx
     obtain ⟨_,_,rfl⟩:=hx
     exact .inl rfl
    ·exact .inr ⟨hx,(hr.sim.heap.rows x row hx).isLow⟩
   have hA:∀ b,Av X φ' (s.H.take H.length) b→Rest X φ' s.H (deadN H.length s.H) b:=by
    rintro b (hb|⟨r,row,hx,hl,rfl⟩)
    ·exact .inl hb
    ·rw [List.getElem?_take] at hx
     split at hx
     ·rename_i hlt'
      refine .inr ⟨r,row,hx,hl,?_,rfl⟩
      rw [deadN_get,if_pos hlt',hx]
      intro e
      simp at e
      subst e
      simp [Row.live] at hl
     ·cases hx
   have h5:R P w' φ' (Av (Rest X φ' s.H (deadN H.length s.H)) φ' (deadN H.length s.H)) (deadN H.length s.H).length (one ds) v:=by
    rw [deadN_len]
    refine h4.lower (S:=fun r=>r<s.H.length) (fun r h=>⟨rfl,h⟩) (fun b hb=>?_) h4.isLow
    rcases hb with (hb|⟨x,row,hx,hl,_,rfl⟩)|⟨x,row,hx,hl,rfl⟩
    ·exact .inl hb
    ·exact .inr ⟨x,row,hx,hl,rfl⟩
    ·rw [deadN_get] at hx
     split at hx
     ·rw [Option.map_eq_some_iff] at hx
      obtain ⟨_,_,rfl⟩:=hx
      simp [Row.live] at hl
     ·exact .inr ⟨x,row,hx,hl,rfl⟩
   have h6:=hv.ok (φ':=φ') hM hA v h5
   exact h6.upper (Nat.zero_le _)
theorem Con.fn (hP:Good P){f:FuncId}{n:Nat}{rs:List SR}{c:SCode}(hf:Fn P f n rs c){args:List D}{H:List Row}{Q:D→List Row→Prop}
  (h:HS P H.length c ⟨args++List.replicate (n-args.length) D.undef,H,[]⟩ (endS H.length rs Q)):Con P f args H Q:=by
 obtain ⟨fn,k,h1,h2,h3,h4,h5⟩:=hf
 subst h3
 refine ⟨⟨fn,h1,by rw [h2];rfl⟩,fun w φ X vs hH hargs=>calls_of_wp h1 h2 ?_⟩
 have hlen:vs.size=args.length:=by have:=hargs.1;simpa using this
 refine h k h5 X w φ H w φ _ _ rfl ⟨⟨hH,?_,rfl⟩,Ons.refl _ _ _ _⟩ ?_
 ·rw [Array.toList_append,Array.toList_replicate,hlen]
  refine hargs.append ⟨by simp,fun i d u hd hu=>?_⟩
  rw [List.getElem?_replicate] at hd hu
  split at hd
  ·rename_i hi
   rw [if_pos hi] at hu
   injection hd with hd;injection hu with hu
   subst hd;subst hu
   exact R.undef
  ·cases hd
 ·intro out s' w' φ' a' hq hr'
  cases out with
  | normal=>exact end_ok h4 hq hr'
  | exit i=>exact hq.elim
  | ret=>exact end_ok h4 hq hr'
def embOk (ι:List Nat)(N:Nat)(H0:List Row)(args0:List D):Bool :=
 Nat.beq ι.length H0.length&&nodupB ι&&(args0.all fun d=>d.refs.all fun r=>Nat.blt r H0.length)&&(H0.all fun row=>row.refs.all fun r=>Nat.blt r H0.length)&&ι.all fun r=>Nat.blt r N
theorem nodupB_ok:∀ {l:List Nat},nodupB l=true→l.Nodup
 | [],_=>List.nodup_nil
 | x :: xs,h=>by
  simp only [nodupB,Bool.and_eq_true,Bool.not_eq_true'] at h
  exact List.nodup_cons.2 ⟨by simpa using h.1,nodupB_ok h.2⟩
theorem callW_emb {g:FuncId}{caps args args0:List D}{H H0:List Row}{Q K:D→List Row→Prop}(h:Con P g args0 H0 Q)(ι:List Nat)(hb:embOk ι H.length H0 args0=true)(ha:args++caps=args0.map (renE (ren ι H.length)))
  (hr:(ι.map fun r=>H.getD r .dead)=H0.map (renR (ren ι H.length)))
  (hk:∀ d0 H0',Q d0 H0'→K (renE (ren ι H.length) d0) (putRows (ren ι H.length) ι H0' H++(H0'.drop H0.length).map (renR (ren ι H.length)))):callW P (.fn g caps) args H K:=by
 unfold embOk at hb
 simp only [Bool.and_eq_true] at hb
 obtain ⟨⟨⟨⟨b1,b2⟩,b3⟩,b4⟩,b5⟩:=hb
 have e1:ι.length=H0.length:=Nat.eq_of_beq_eq_true b1
 refine ⟨g,caps,rfl,(h.embed e1 (nodupB_ok b2) ha (fun d hd=>low_of_refs fun r hr=>?_) (fun i row hi=>⟨rowLow_of_refs fun r hr=>?_,?_⟩)).mono ?_⟩
 ·have h1:=List.all_eq_true.1 b3 d hd
  have h2:=List.all_eq_true.1 h1 r hr
  simpa using h2
 ·have h1:=List.all_eq_true.1 b4 row (List.mem_of_getElem? hi)
  have h2:=List.all_eq_true.1 h1 r hr
  simpa using h2
 ·have hlt:i<ι.length:=by rw [e1];exact (List.getElem?_eq_some_iff.1 hi).1
  have h1:(ι.map fun r=>H.getD r .dead)[i]?=some (H.getD ι[i] .dead):=by simp [hlt]
  rw [hr,List.getElem?_map,hi] at h1
  have h2:ι[i]<H.length:=by
   have:=List.all_eq_true.1 b5 ι[i] (List.getElem_mem hlt)
   simpa using this
  refine ⟨ι[i],by simp [hlt],?_⟩
  have h3:H.getD ι[i] .dead=H[ι[i]]:=by simp [List.getD,h2]
  rw [h3] at h1
  rw [List.getElem?_eq_getElem h2]
  exact h1.symm
 ·rintro d H' ⟨d0,H0',hq,_,rfl,rfl⟩
  exact hk d0 H0' hq
theorem callW_peek {g:FuncId}{caps args args0:List D}{H:List Row}{Q K:D→List Row→Prop}(h:Con P g args0 [] Q)(hv:Vws H (args++caps) args0)(hp:∀ d H',Q d H'→PlainD d∧∀ row∈H',PlainR row)
  (hk:∀ d0 H0',Q d0 H0'→K (renE (ren [] H.length) d0) (H++H0'.map (renR (ren [] H.length)))):callW P (.fn g caps) args H K:=by
 refine ⟨g,caps,rfl,(h.peek hv hp).mono ?_⟩
 rintro d H' ⟨d0,H0',hq,rfl,rfl⟩
 exact hk d0 H0' hq
variable {n0:Nat}{s:St}{Q:Out→St→Prop}
theorem HS.opsK (hP:Good P){l:List SI}(h:∀ K:St→Prop,(∀ s',Q .normal s'→K s')→wpS P l s K):HS P n0 (.ops l) s Q:=HS.ops hP (h _ fun _ h=>h)
theorem HS.condB {c:SV}{x y:SCode}{b:Bool}(hc:c.ev s.ts = .f (.v (.bool b)))(h1:b=true→HS P n0 x s Q)(h0:b=false→HS P n0 y s Q):HS P n0 (.cond c x y) s Q:=HS.cond (by rw [hc];exact ⟨h1,h0⟩)
theorem thenQ_n {next:St→Prop}(h:next s):thenQ next Q .normal s:=h
theorem thenQ_x {next:St→Prop}{i:Nat}(h:Q (.exit i) s):thenQ next Q (.exit i) s:=h
theorem thenQ_r {next:St→Prop}(h:Q .ret s):thenQ next Q .ret s:=h
theorem blockQ_n {id:Nat}(h:Q .normal s):blockQ id Q .normal s:=h
theorem blockQ_hit {id:Nat}(h:Q .normal s):blockQ id Q (.exit id) s:=by rw [blockQ_exit,if_pos rfl];exact h
theorem blockQ_miss {id i:Nat}(hne:Nat.beq i id=false)(h:Q (.exit i) s):blockQ id Q (.exit i) s:=by rw [blockQ_exit,if_neg (Nat.ne_of_beq_eq_false hne)];exact h
theorem blockQ_r {id:Nat}(h:Q .ret s):blockQ id Q .ret s:=h
theorem endS_r {rs:List SR}{Q:D→List Row→Prop}(h:RetS n0 rs Q s):endS n0 rs Q .ret s:=h
theorem endS_n {rs:List SR}{Q:D→List Row→Prop}(h:RetS n0 rs Q s):endS n0 rs Q .normal s:=h
theorem Bsel.mk' {b:Bool}{p q:Prop}(h1:b=true→p)(h2:b=false→q):Bsel b p q:=⟨h1,h2⟩
def Next (n0:Nat)(keep:List Nat){α:Type}(st:α→St)(p:α→Prop)(m:α→Nat)(x:α)(s:St):Prop:=∃ y,sweepW n0 keep s=some (st y)∧p y∧m y<m x
theorem Next.mk {n0:Nat}{keep:List Nat}{α:Type}{st:α→St}{p:α→Prop}{m:α→Nat}{x:α}{s:St}(y:α)(h:sweepW n0 keep s=some (st y))(hp:p y)(hm:m y<m x):Next n0 keep st p m x s:=⟨y,h,hp,hm⟩
theorem HS.loopG {c:SCode}{α:Type}(keep:List Nat)(st:α→St)(p:α→Prop)(m:α→Nat)(x0:α)(hs:sweepW n0 keep s=some (st x0))(h0:p x0)
  (hbody:∀ x,p x→HS P n0 c (st x) (thenQ (Next n0 keep st p m x) Q)):HS P n0 (.loop c) s Q:=by
 refine HS.view (View.sweep hs) ?_
 intro k hk
 cases k with
 | loop a =>
  simp only [compC] at hk
  injection hk with h1
  intro X w0 φ0 H0 w φ a' K hn hr hK
  refine wp_loop_rounds (m x0+1) ?_
  have key:∀ (k:Nat) (x:α) (w:World) (φ:Nat→Nat × Nat) (a':Act),m x≤k→p x→RunW P X w0 φ0 H0 w φ (st x) a'→Code.rounds P a K (k+1) a' w:=by
   intro k
   induction k with
   | zero =>
    intro x w φ a' hm hp hr
    rw [rounds_succ]
    refine hbody x hp a h1 X w0 φ0 H0 w φ a' _ hn hr ?_
    intro out s' w' φ' a' hq hr'
    cases out with
    | normal=>obtain ⟨y,_,_,hlt⟩:=hq;omega
    | exit i=>exact hK _ s' w' φ' a' hq hr'
    | ret=>exact hK _ s' w' φ' a' hq hr'
   | succ k ih =>
    intro x w φ a' hm hp hr
    rw [rounds_succ]
    refine hbody x hp a h1 X w0 φ0 H0 w φ a' _ hn hr ?_
    intro out s' w' φ' a'' hq hr'
    cases out with
    | normal =>
     obtain ⟨y,hsw,hp',hlt⟩:=hq
     obtain ⟨φ2,hr2⟩:=View.sweep hsw X w0 φ0 H0 w' φ' a'' hn hr'
     exact ih y w' φ2 a'' (by omega) hp' hr2
    | exit i=>exact hK _ s' w' φ' a'' hq hr'
    | ret=>exact hK _ s' w' φ' a'' hq hr'
  exact key (m x0) x0 w φ a' (Nat.le_refl _) h0 hr
 | region id ops draw=>cases draw<;>simp only [compC] at hk<;>first|(split at hk<;>first|cases hk|(split at hk<;>cases hk))|cases hk
 | cond c a b=>simp only [compC] at hk;split at hk<;>cases hk
 | _=>simp [compC] at hk
end
theorem wrap_in {a:Int}(h1 : -9223372036854775808≤a)(h2:a≤9223372036854775807):IntKind.i64.wrap a=a:=by
 have:=IntWalk.i64_in a ⟨h1,h2⟩
 exact this
def gt {α:Type}[Inhabited α](l:List α)(k:Nat):α:=l[k]!
theorem getElem?_some_of {α:Type}[Inhabited α]{l:List α}{i:Nat}(h:i<l.length):l[i]?=some (gt l i):=by rw [gt,List.getElem?_eq_getElem h,getElem!_pos l i h]
theorem gt_eq {α:Type}[Inhabited α]{l:List α}{i:Nat}(h:i<l.length):gt l i=l[i]:=by rw [gt,getElem!_pos l i h]
theorem drop_gt {α:Type}[Inhabited α]{l:List α}{k:Nat}(h:k<l.length):l.drop k=gt l k :: l.drop (k+1):=by
 rw [List.drop_eq_getElem_cons h,gt_eq h]
def look (i:Nat):List (Nat × D)→D
 | []=>.junk
 | (j,d) :: e=>if j=i then d else look i e
def frm (n:Nat)(e:List (Nat × D)):List D:=(List.range n).map fun i=>look i e
theorem frm_len (n:Nat)(e:List (Nat × D)):(frm n e).length=n:=by simp [frm]
theorem frm_get {n:Nat}{e:List (Nat × D)}{i:Nat}(h:i<n):(frm n e)[i]?=some (look i e):=by
 unfold frm
 rw [List.getElem?_map,List.getElem?_range h];rfl
theorem frm_getD {n:Nat}{e:List (Nat × D)}{i:Nat}{u:D}(h:i<n):(frm n e).getD i u=look i e:=by
 rw [List.getD_eq_getElem?_getD,frm_get h];rfl
theorem frm_set {n:Nat}{e:List (Nat × D)}{i:Nat}{d:D}:(frm n e).set i d=frm n ((i,d) :: e):=by
 apply List.ext_getElem?
 intro j
 by_cases hj:j<n
 ·rw [List.getElem?_set,frm_get hj,frm_get hj,frm_len]
  simp only [look]
  split
  ·rename_i e;subst e;rw [if_pos hj]
  ·rfl
 ·rw [List.getElem?_eq_none (by simp [frm_len];omega),List.getElem?_eq_none (by simp [frm_len];omega)]
theorem look_cons {i j:Nat}{d:D}{e:List (Nat × D)}:look i ((j,d) :: e)=if j=i then d else look i e:=id rfl
theorem look_nil {i:Nat}:look i [] = .junk:=id rfl
section
variable {P:Program}{n0:Nat}{s:St}{Q:Out→St→Prop}
theorem View.frm {n:Nat}{e:List (Nat × D)}(hl:s.ts.length=n)(h:∀ i,i<n→look i e = .junk∨s.ts[i]?=some (look i e)):View P n0 s ⟨frm n e,s.H,[]⟩:=by
 intro X w0 φ0 H0 w φ a _ hr
 refine ⟨φ,⟨hr.sim.heap,⟨?_,fun i d u hd hu=>?_⟩,hr.sim.defers⟩,hr.ons⟩
 ·rw [frm_len,hr.sim.tmps.1,hl]
 ·dsimp only at hd
  have hi:i<n:=by have:=(List.getElem?_eq_some_iff.1 hd).1;rwa [frm_len] at this
  rw [frm_get hi] at hd
  injection hd with hd
  subst hd
  rcases h i hi with h1|h1
  ·rw [h1];exact .junk
  ·exact hr.sim.tmps.2 i _ u h1 hu
def argsE:Nat→List D→List (Nat × D)
 | _,[]=>[]
 | i,d :: ds=>(i,d) :: argsE (i+1) ds
theorem look_argsE:∀ (ds:List D) (k i:Nat),look (k+i) (argsE k ds) = .junk∨ds[i]?=some (look (k+i) (argsE k ds))
 | [],_,_=>.inl rfl
 | d :: ds,k,0=>by simp [argsE,look]
 | d :: ds,k,i+1=>by
  simp only [argsE,look]
  rw [if_neg (by omega),show k+(i+1)=k+1+i by omega]
  simpa using look_argsE ds (k+1) i
theorem Con.walk (hP:Good P){f:FuncId}{n:Nat}{rs:List SR}{c:SCode}(hf:Fn P f n rs c){args:List D}{H:List Row}{Q:D→List Row→Prop}(hn:args.length≤n)
  (h:HS P H.length c ⟨frm n (argsE 0 args),H,[]⟩ (endS H.length rs Q)):Con P f args H Q:=by
 refine Con.fn hP hf (HS.view (View.frm ?_ (fun i hi=>?_)) h)
 ·simp;omega
 ·dsimp only
  have:=look_argsE args 0 i
  rw [Nat.zero_add] at this
  rcases this with h1|h1
  ·exact .inl h1
  ·have hlt:=(List.getElem?_eq_some_iff.1 h1).1
   rw [List.getElem?_append_left hlt]
   exact .inr h1
end
theorem callW_self {P:Program}{g:FuncId}{caps args:List D}{H:List Row}{Q K:D→List Row→Prop}(h:Con P g (args++caps) H Q)(hk:∀ d H',Q d H'→K d H'):callW P (.fn g caps) args H K:=⟨g,caps,rfl,h.mono hk⟩
theorem look_mem {i:Nat}:∀ {e:List (Nat × D)},look i e = .junk∨(i,look i e)∈e
 | []=>.inl rfl
 | (j,d) :: e=>by
  simp only [look]
  split
  ·rename_i h;subst h;exact .inr List.mem_cons_self
  ·rcases look_mem (i:=i) (e:=e) with h|h
   ·exact .inl h
   ·exact .inr (List.mem_cons_of_mem _ h)
def NextP (n:Nat){α:Type}(st:α→List (Nat × D))(hs:α→List Row)(p:α→Prop)(m:α→Nat)(x:α)(s:St):Prop:=∃ y,s.H=hs y∧(∃ e,s.ts=frm n e∧(st y).map (fun q=>look q.1 e)=(st y).map (·.2))∧p y∧m y<m x
theorem NextP.mk {α:Type}{st:α→List (Nat × D)}{hs:α→List Row}{p:α→Prop}{m:α→Nat}{x:α}{n:Nat}{e:List (Nat × D)}{H:List Row}{dr:List Nat}(y:α)(hH:H=hs y)(he:(st y).map (fun q=>look q.1 e)=(st y).map (·.2))(hp:p y)(hm:m y<m x):NextP n st hs p m x ⟨frm n e,H,dr⟩:=⟨y,hH,⟨e,rfl,he⟩,hp,hm⟩
section
variable {P:Program}{n0:Nat}{s:St}{Q:Out→St→Prop}
theorem View.told {n:Nat}{e e':List (Nat × D)}{H:List Row}{dr:List Nat}(he:e'.map (fun q=>look q.1 e)=e'.map (·.2)):View P n0 ⟨Mir.frm n e,H,dr⟩ ⟨Mir.frm n e',H,[]⟩:=by
 refine View.frm (s:=⟨Mir.frm n e,H,dr⟩) (frm_len _ _) (fun i hi=>?_)
 rcases look_mem (i:=i) (e:=e') with h|h
 ·exact .inl h
 ·refine .inr ?_
  dsimp only
  rw [frm_get hi]
  have:∀ q∈e',look q.1 e=q.2:=by
   intro q hq
   obtain ⟨k,hk,rfl⟩:=List.getElem_of_mem hq
   have:=congrArg (fun l=>l[k]?) he
   simpa [hk] using this
  exact congrArg some (this _ h)
theorem HS.loopP {c:SCode}{α:Type}{n:Nat}{e:List (Nat × D)}{H:List Row}{dr:List Nat}(st:α→List (Nat × D))(hs:α→List Row)(p:α→Prop)(m:α→Nat)(x0:α)(hH:H=hs x0)(he:(st x0).map (fun q=>look q.1 e)=(st x0).map (·.2))(h0:p x0)
  (hbody:∀ x,p x→HS P n0 c ⟨Mir.frm n (st x),hs x,[]⟩ (thenQ (NextP n st hs p m x) Q)):HS P n0 (.loop c) ⟨Mir.frm n e,H,dr⟩ Q:=by
 subst hH
 refine HS.view (View.told he) ?_
 intro k hk
 cases k with
 | loop a =>
  simp only [compC] at hk
  injection hk with h1
  intro X w0 φ0 H0 w φ a' K hn0 hr hK
  refine wp_loop_rounds (m x0+1) ?_
  have key:∀ (k:Nat) (x:α) (w:World) (φ:Nat→Nat × Nat) (a':Act),m x≤k→p x→RunW P X w0 φ0 H0 w φ ⟨Mir.frm n (st x),hs x,[]⟩ a'→Code.rounds P a K (k+1) a' w:=by
   have nx:∀ (x y:α) (s':St) (w':World) (φ':Nat→Nat × Nat) (a'':Act),RunW P X w0 φ0 H0 w' φ' s' a''→s'.H=hs y→(∃ e,s'.ts=Mir.frm n e∧(st y).map (fun q=>look q.1 e)=(st y).map (·.2))→∃ φ2,RunW P X w0 φ0 H0 w' φ2 ⟨Mir.frm n (st y),hs y,[]⟩ a'':=by
    rintro x y ⟨ts,H,dr⟩ w' φ' a'' hr' hy ⟨e,he1,he2⟩
    dsimp only at hy he1
    subst hy;subst he1
    exact View.told (dr:=dr) he2 X w0 φ0 H0 w' φ' a'' hn0 hr'
   intro k
   induction k with
   | zero =>
    intro x w φ a' hm hp hr
    rw [rounds_succ]
    refine hbody x hp a h1 X w0 φ0 H0 w φ a' _ hn0 hr ?_
    intro out s' w' φ' a'' hq hr'
    cases out with
    | normal=>obtain ⟨y,_,_,_,hlt⟩:=hq;omega
    | exit i=>exact hK _ s' w' φ' a'' hq hr'
    | ret=>exact hK _ s' w' φ' a'' hq hr'
   | succ k ih =>
    intro x w φ a' hm hp hr
    rw [rounds_succ]
    refine hbody x hp a h1 X w0 φ0 H0 w φ a' _ hn0 hr ?_
    intro out s' w' φ' a'' hq hr'
    cases out with
    | normal =>
     obtain ⟨y,hy,he,hp',hlt⟩:=hq
     obtain ⟨φ2,hr2⟩:=nx x y s' w' φ' a'' hr' hy he
     exact ih y w' φ2 a'' (by omega) hp' hr2
    | exit i=>exact hK _ s' w' φ' a'' hq hr'
    | ret=>exact hK _ s' w' φ' a'' hq hr'
  exact key (m x0) x0 w φ a' (Nat.le_refl _) h0 hr
 | region id ops draw=>cases draw<;>simp only [compC] at hk<;>first|(split at hk<;>first|cases hk|(split at hk<;>cases hk))|cases hk
 | cond c a b=>simp only [compC] at hk;split at hk<;>cases hk
 | _=>simp [compC] at hk
end
section
variable {P:Program}{n0:Nat}{Q:D→List Row→Prop}
theorem end1 {n t:Nat}{e:List (Nat × D)}{H:List Row}{dr:List Nat}{d d0:D}(ht:Nat.blt t n=true)(h:look t e=d)(hl:lowB n0 (H.take n0)=true)(hv:Vw (deadN n0 H) d d0)(q:Q d0 (H.take n0)):RetS n0 [.t t] Q ⟨frm n e,H,dr⟩:=by
 refine .still (ds:=[d]) ?_ hl hv q
 simp only [resS]
 rw [frm_getD (by simpa using ht),h]
theorem endA {n t:Nat}{e:List (Nat × D)}{H:List Row}{dr:List Nat}{d:D}(ht:Nat.blt t n=true)(h:look t e=d)(q:Q d H):RetS n0 [.t t] Q ⟨frm n e,H,dr⟩:=by
 refine .all (ds:=[d]) ?_ q
 simp only [resS]
 rw [frm_getD (by simpa using ht),h]
theorem end2 {n t u:Nat}{e:List (Nat × D)}{H:List Row}{dr:List Nat}{d f d0:D}(ht:Nat.blt t n=true)(hu:Nat.blt u n=true)(h:look t e=d)(k:look u e=f)(hl:lowB n0 (H.take n0)=true)(hv:Vw (deadN n0 H) (.tp [d,f]) d0)(q:Q d0 (H.take n0)):RetS n0 [.t t,.t u] Q ⟨frm n e,H,dr⟩:=by
 refine .still (ds:=[d,f]) ?_ hl hv q
 simp only [resS]
 rw [frm_getD (by simpa using ht),frm_getD (by simpa using hu),h,k]
theorem endG {n t:Nat}{e:List (Nat × D)}{H:List Row}{dr:List Nat}{d:D}{ef:Eff}(ht:Nat.blt t n=true)(h:look t e=d)(hg:gather n0 d (List.range n0) H=some ef)(q:Q ef.res (applyUpd (H.take n0) ef.upd++ef.news)):RetS n0 [.t t] Q ⟨frm n e,H,dr⟩:=by
 refine .gather (ds:=[d]) ?_ hg q
 simp only [resS]
 rw [frm_getD (by simpa using ht),h]
end
end Go.Proofs.YtahoaijkchgdaaaGreatDoor.Mir
namespace Go.Proofs.YtahoaijkchgdaaaGreatDoor.Mir
open Go Go.RowKit
theorem wpS_app_eq {P:Program}:∀ (l1 l2:List SI) (s:St) (K:St→Prop),wpS P (l1++l2) s K=wpS P l1 s fun s'=>wpS P l2 s' K
 | [],l2,s,K=>rfl
 | i :: l1,l2,s,K=>by
  simp only [List.cons_append,wpS,wpS_app_eq l1 l2]
theorem wpS_app {P:Program}{l1 l2:List SI}{s:St}{K:St→Prop}(h:∀ K':St→Prop,(∀ s',wpS P l2 s' K→K' s')→wpS P l1 s K'):wpS P (l1++l2) s K:=by
 rw [wpS_app_eq]
 exact h _ fun _ h=>h
abbrev kI (n:Int):SV:=.c (.f (.v (.int .i64 n)))
abbrev kT:SV:=.c (.f (.v (.bool true)))
abbrev kF:SV:=.c (.f (.v (.bool false)))
abbrev kN:SV:=.c (.f (.v (.slice none 0 0)))
abbrev kC (f:Nat):SV:=.c (.fn f [])
abbrev jI:D:=.f (.v (.int .i64 0))
abbrev jN:D:=.f (.v (.slice none 0 0))
abbrev jF:D:=.f (.v (.bool false))
abbrev jm (t x:Nat):SI:=.a t (.mv (.t x))
abbrev jl (t x:Nat):SI:=.a t (.load1 (.t x))
abbrev jo (t o x:Nat):SI:=.a t (.off o (.t x))
abbrev jn (t x:Nat):SI:=.a t (.nilc (.t x))
abbrev gM (t x g:Nat) (b:Bool):SI:=.g (some t) (.mv (.t x)) g b
abbrev gL (t x g:Nat) (b:Bool):SI:=.g (some t) (.load1 (.t x)) g b
abbrev gO (t o x g:Nat) (b:Bool):SI:=.g (some t) (.off o (.t x)) g b
abbrev gN (t x g:Nat) (b:Bool):SI:=.g (some t) (.nilc (.t x)) g b
abbrev je (t x:Nat):SI:=.a t (.slen (.t x))
abbrev jx (t n x i:Nat):SI:=.a t (.idx n (.t x) (.t i))
abbrev jL (t n x:Nat):SI:=.a t (.loadA n (.t x))
abbrev jE (t n x:Nat):SI:=.a t (.ext n (.t x))
abbrev jb (t:Nat) (op:BinOp) (x:Nat) (k:Int):SI:=.a t (.bin op (.t x) (kI k))
abbrev jB (t:Nat) (op:BinOp) (x y:Nat):SI:=.a t (.bin op (.t x) (.t y))
abbrev jk (t:Nat) (k:Int):SI:=.a t (.mv (kI k))
abbrev jG (t:Nat) (o:SOp) (g:Nat) (b:Bool):SI:=.g (some t) o g b
abbrev jq (l:List SI) (y:SCode):SCode:=.seq (.ops l) y
abbrev jc (t:Nat) (x y:SCode):SCode:=.cond (.t t) x y
def ap (a b:List SI):List SI:=a++b
theorem W_mv {P:Program}{ts:List D}{H:List Row}{K:D→List Row→Prop}(x:SV):stepS P ts H (.mv x) K=(K (x.ev ts) H):=id rfl
theorem W_pick {P:Program}{ts:List D}{H:List Row}{K:D→List Row→Prop}(c a b:SV):stepS P ts H (.pick c a b) K=(pickS (c.ev ts) (K (a.ev ts) H) (K (b.ev ts) H)):=id rfl
theorem W_alloc {P:Program}{ts:List D}{H:List Row}{K:D→List Row→Prop}(T:TypeId)(z:List D):stepS P ts H (.alloc T z) K=(K (.pt H.length 0) (H++[.box T z])):=id rfl
theorem W_box {P:Program}{ts:List D}{H:List Row}{K:D→List Row→Prop}(T:TypeId)(x:SV):stepS P ts H (.box T x) K=(bind' (boxD (x.ev ts)) fun cs=>K (.pt H.length 0) (H++[.box T cs])):=id rfl
theorem W_load1 {P:Program}{ts:List D}{H:List Row}{K:D→List Row→Prop}(a:SV):stepS P ts H (.load1 a) K=(bind' (load1 H (a.ev ts)) fun d=>K d H):=id rfl
theorem W_loadA {P:Program}{ts:List D}{H:List Row}{K:D→List Row→Prop}(n:Nat)(a:SV):stepS P ts H (.loadA n a) K=(bind' (loadA H n (a.ev ts)) fun d=>K d H):=id rfl
theorem W_store {P:Program}{ts:List D}{H:List Row}{K:D→List Row→Prop}(n:Nat)(a x:SV):stepS P ts H (.store n a x) K=(bind' (storeS P H n (a.ev ts) (x.ev ts)) fun H'=>K D.undef H'):=id rfl
theorem W_nilc {P:Program}{ts:List D}{H:List Row}{K:D→List Row→Prop}(x:SV):stepS P ts H (.nilc x) K=(bind' (nilcD (x.ev ts)) fun d=>K d H):=id rfl
theorem W_off {P:Program}{ts:List D}{H:List Row}{K:D→List Row→Prop}(o:Nat)(a:SV):stepS P ts H (.off o a) K=(bind' (offD o (a.ev ts)) fun d=>K d H):=id rfl
theorem W_fld1 {P:Program}{ts:List D}{H:List Row}{K:D→List Row→Prop}(o:Nat)(x:SV):stepS P ts H (.fld1 o x) K=(bind' (fld1 o (x.ev ts)) fun d=>K d H):=id rfl
theorem W_fldA {P:Program}{ts:List D}{H:List Row}{K:D→List Row→Prop}(o n:Nat)(x:SV):stepS P ts H (.fldA o n x) K=(bind' (fldA o n (x.ev ts)) fun d=>K d H):=id rfl
theorem W_idx {P:Program}{ts:List D}{H:List Row}{K:D→List Row→Prop}(sz:Nat)(x i:SV):stepS P ts H (.idx sz x i) K=(idxS sz (x.ev ts) (i.ev ts) fun d=>K d H):=id rfl
theorem W_arr {P:Program}{ts:List D}{H:List Row}{K:D→List Row→Prop}(sz n:Nat)(x i:SV):stepS P ts H (.arr sz n x i) K=(arrS sz n (x.ev ts) (i.ev ts) fun d=>K d H):=id rfl
theorem W_ext {P:Program}{ts:List D}{H:List Row}{K:D→List Row→Prop}(i:Nat)(x:SV):stepS P ts H (.ext i x) K=(bind' (extD i (x.ev ts)) fun d=>K d H):=id rfl
theorem W_bin {P:Program}{ts:List D}{H:List Row}{K:D→List Row→Prop}(op:BinOp)(x y:SV):stepS P ts H (.bin op x y) K=(binS op (x.ev ts) (y.ev ts) fun d=>K d H):=id rfl
theorem W_binb {P:Program}{ts:List D}{H:List Row}{K:D→List Row→Prop}(op:BinOp)(x y:SV):stepS P ts H (.binb op x y) K=(binbS op (x.ev ts) (y.ev ts) fun d=>K d H):=id rfl
theorem W_aeq {P:Program}{ts:List D}{H:List Row}{K:D→List Row→Prop}(eq:Bool)(ks:List Nat)(x y:SV):stepS P ts H (.aeq eq ks x y) K=(aeqS eq ks (x.ev ts) (y.ev ts) fun d=>K d H):=id rfl
theorem W_nilq {P:Program}{ts:List D}{H:List Row}{K:D→List Row→Prop}(eq:Bool)(k:Nat)(x y:SV):stepS P ts H (.nilq eq k x y) K=(nilqS k (x.ev ts) (y.ev ts) fun b=>K (D.bool (if eq then b else !b)) H):=id rfl
theorem W_unot {P:Program}{ts:List D}{H:List Row}{K:D→List Row→Prop}(x:SV):stepS P ts H (.unot x) K=(bind' (notS (x.ev ts)) fun d=>K d H):=id rfl
theorem W_fn {P:Program}{ts:List D}{H:List Row}{K:D→List Row→Prop}(f:FuncId)(caps:List SV):stepS P ts H (.fn f caps) K=(K (.fn f (caps.map (SV.ev ts))) H):=id rfl
theorem W_mkmap {P:Program}{ts:List D}{H:List Row}{K:D→List Row→Prop}  : stepS P ts H (.mkmap) K=(K (.mp H.length) (H++[.map []])):=id rfl
theorem W_mkslice {P:Program}{ts:List D}{H:List Row}{K:D→List Row→Prop}(T:TypeId)(sz b:Nat)(z:List F)(l c:SV):stepS P ts H (.mkslice T sz b z l c) K=(bind' (intOf? (l.ev ts)) fun a=>bind' (intOf? (c.ev ts)) fun c=>((0<a∨c=0)∧0≤a∧a≤c∧b*c≤140737488355328∧c.toNat*sz≤16777216)∧K (.sl H.length 0 a.toNat) (H++[.data T ((List.range (a.toNat*sz)).map fun j=>z.getD (j % sz) (.v Go.undef))])):=id rfl
theorem W_bld {P:Program}{ts:List D}{H:List Row}{K:D→List Row→Prop}(z:List D)(parts:List (Nat × Nat × SV)):stepS P ts H (.bld z parts) K=(bind' (fillS z (parts.map fun p=>(p.1,p.2.1,p.2.2.ev ts))) fun ds=>K (.ag ds) H):=id rfl
theorem W_bsl {P:Program}{ts:List D}{H:List Row}{K:D→List Row→Prop}(T:TypeId)(sz len:Nat)(z:List D)(parts:List (Nat × SV)):stepS P ts H (.bsl T sz len z parts) K=(bind' (fillS z (parts.map fun p=>(p.1,sz,p.2.ev ts))) fun ds=>bind' (freezeAll P H ds) fun xu=>K (.sl H.length 0 len) (applyUpd H xu.2++[.data T xu.1])):=id rfl
theorem W_app {P:Program}{ts:List D}{H:List Row}{K:D→List Row→Prop}(T:TypeId)(sz b:Nat)(s x:SV):stepS P ts H (.app T sz b s x) K=(appS H T sz b (s.ev ts) (x.ev ts) K):=id rfl
theorem W_slen {P:Program}{ts:List D}{H:List Row}{K:D→List Row→Prop}(x:SV):stepS P ts H (.slen x) K=(bind' (slcS (x.ev ts)) fun n=>K (D.int n) H):=id rfl
theorem W_mlen {P:Program}{ts:List D}{H:List Row}{K:D→List Row→Prop}(x:SV):stepS P ts H (.mlen x) K=(bind' (mapEs H (x.ev ts)) fun es=>K (D.int es.length) H):=id rfl
theorem W_conv {P:Program}{ts:List D}{H:List Row}{K:D→List Row→Prop}(k:IntKind)(x:SV):stepS P ts H (.conv k x) K=(bind' (convS k (x.ev ts)) fun d=>K d H):=id rfl
theorem W_s2b {P:Program}{ts:List D}{H:List Row}{K:D→List Row→Prop}(x:SV):stepS P ts H (.s2b x) K=(bind' (strOf? (x.ev ts)) fun s=>s.size≤most∧K (.f (.s (s.data.toList.map fun b=>.v (.int .u8 b.toNat)) s.size)) H):=id rfl
theorem W_b2s {P:Program}{ts:List D}{H:List Row}{K:D→List Row→Prop}(x:SV):stepS P ts H (.b2s x) K=(bind' (elemsS H 1 (x.ev ts)) fun p=>bind' (bytesOf? (p.2.map .f)) fun l=>p.2.length=p.1∧K (.f (.v (.string ⟨l.toArray⟩))) H):=id rfl
theorem W_strlen {P:Program}{ts:List D}{H:List Row}{K:D→List Row→Prop}(x:SV):stepS P ts H (.strlen x) K=(bind' (strOf? (x.ev ts)) fun s=>K (D.int s.size) H):=id rfl
theorem W_aidx {P:Program}{ts:List D}{H:List Row}{K:D→List Row→Prop}(sz n:Nat)(x i:SV):stepS P ts H (.aidx sz n x i) K=(aidxS sz n (x.ev ts) (i.ev ts) fun d=>K d H):=id rfl
theorem W_sidx {P:Program}{ts:List D}{H:List Row}{K:D→List Row→Prop}(x i:SV):stepS P ts H (.sidx x i) K=(bind' (strOf? (x.ev ts)) fun s=>bind' (intOf? (i.ev ts)) fun i=>bind' (if 0≤i then s.data.toList[i.toNat]? else none) fun b=>K (.f (.v (.int .u8 b.toNat))) H):=id rfl
theorem W_ssub {P:Program}{ts:List D}{H:List Row}{K:D→List Row→Prop}(x:SV)(lo hi:Option SV):stepS P ts H (.ssub x lo hi) K=(bind' (ssubS (x.ev ts) (lo.map (SV.ev ts)) (hi.map (SV.ev ts))) fun d=>K d H):=id rfl
theorem W_look {P:Program}{ts:List D}{H:List Row}{K:D→List Row→Prop}(ok:Bool)(K0:TypeId)(z:D)(m k:SV):stepS P ts H (.look ok K0 z m k) K=(bind' (lookS P H ok K0 z (m.ev ts) (k.ev ts)) fun d=>K d H):=id rfl
theorem W_mput {P:Program}{ts:List D}{H:List Row}{K:D→List Row→Prop}(K0:TypeId)(m k x:SV):stepS P ts H (.mput K0 m k x) K=(bind' (mputS P H K0 (m.ev ts) (k.ev ts) (x.ev ts)) fun H'=>K D.undef H'):=id rfl
theorem W_mdel {P:Program}{ts:List D}{H:List Row}{K:D→List Row→Prop}(K0:TypeId)(m k:SV):stepS P ts H (.mdel K0 m k) K=(bind' (mdelS P H K0 (m.ev ts) (k.ev ts)) fun H'=>K (.tp []) H'):=id rfl
theorem W_clr {P:Program}{ts:List D}{H:List Row}{K:D→List Row→Prop}(T:TypeId)(x:SV):stepS P ts H (.clr T x) K=(bind' (clearS P H T (x.ev ts)) fun H'=>K (.tp []) H'):=id rfl
theorem W_mm {P:Program}{ts:List D}{H:List Row}{K:D→List Row→Prop}(mx:Bool)(x y:SV):stepS P ts H (.mm mx x y) K=(bind' (intOf? (x.ev ts)) fun a=>bind' (intOf? (y.ev ts)) fun b=>K (D.int (if mx then max a b else min a b)) H):=id rfl
theorem W_call {P:Program}{ts:List D}{H:List Row}{K:D→List Row→Prop}(f:SV)(args:List SV):stepS P ts H (.call f args) K=(callW P (f.ev ts) (args.map (SV.ev ts)) H K):=id rfl
theorem W_sub0 {P:Program}{ts:List D}{H:List Row}{K:D→List Row→Prop}(sz:Nat)(E:TypeId)(x:SV):stepS P ts H (.sub sz E x none none none) K=(bind' (slcS (x.ev ts)) fun n=>(0≤(0:Int)∧(0:Int)≤n∧(n:Int)≤n)∧bind' (subS H sz E (x.ev ts) (0:Int).toNat (n:Int).toNat) fun d=>K d H):=id rfl
theorem W_subl {P:Program}{ts:List D}{H:List Row}{K:D→List Row→Prop}(sz:Nat)(E:TypeId)(x l:SV):stepS P ts H (.sub sz E x (some l) none none) K=(bind' (slcS (x.ev ts)) fun n=>bind' (intOf? (l.ev ts)) fun l=>(0≤l∧l≤n∧(n:Int)≤n)∧bind' (subS H sz E (x.ev ts) l.toNat (n:Int).toNat) fun d=>K d H):=id rfl
theorem W_subh {P:Program}{ts:List D}{H:List Row}{K:D→List Row→Prop}(sz:Nat)(E:TypeId)(x h:SV):stepS P ts H (.sub sz E x none (some h) none) K=(bind' (slcS (x.ev ts)) fun n=>bind' (intOf? (h.ev ts)) fun h=>(0≤(0:Int)∧0≤h∧h≤n)∧bind' (subS H sz E (x.ev ts) (0:Int).toNat h.toNat) fun d=>K d H):=id rfl
theorem W_sublh {P:Program}{ts:List D}{H:List Row}{K:D→List Row→Prop}(sz:Nat)(E:TypeId)(x l h:SV):stepS P ts H (.sub sz E x (some l) (some h) none) K=(bind' (slcS (x.ev ts)) fun n=>bind' (intOf? (l.ev ts)) fun l=>bind' (intOf? (h.ev ts)) fun h=>(0≤l∧l≤h∧h≤n)∧bind' (subS H sz E (x.ev ts) l.toNat h.toNat) fun d=>K d H):=id rfl
theorem W_subm {P:Program}{ts:List D}{H:List Row}{K:D→List Row→Prop}(sz:Nat)(E:TypeId)(x l h m:SV):stepS P ts H (.sub sz E x (some l) (some h) (some m)) K=(bind' (slcS (x.ev ts)) fun n=>bind' (intOf? (l.ev ts)) fun l=>bind' (intOf? (h.ev ts)) fun h=>(0≤l∧l≤h∧h≤n)∧(intOf? (m.ev ts)=some l∧l=h∧(some h).isSome=true)∧K (mxS (x.ev ts)) H):=id rfl
theorem W_subm0 {P:Program}{ts:List D}{H:List Row}{K:D→List Row→Prop}(sz:Nat)(E:TypeId)(x h m:SV):stepS P ts H (.sub sz E x none (some h) (some m)) K=(bind' (slcS (x.ev ts)) fun n=>bind' (intOf? (h.ev ts)) fun h=>(0≤(0:Int)∧0≤h∧h≤n)∧(intOf? (m.ev ts)=some 0∧(0:Int)=h∧(some h).isSome=true)∧K (mxS (x.ev ts)) H):=id rfl
theorem ev_t {ts:List D}{n:Nat}:(SV.t n).ev ts=ts.getD n D.undef:=id rfl
theorem ev_c {ts:List D}{d:D}:(SV.c d).ev ts=d:=id rfl
theorem boxD_f {x:F}:boxD (.f x)=some ([.f x]):=id rfl
theorem okCell_f {x:F}:okCell (.f x)=true:=id rfl
theorem cells_f {x:F}:(D.f x).cells=[.f x]:=id rfl
theorem boxD_sl {r o n:Nat}:boxD (.sl r o n)=some ([.sl r o n]):=id rfl
theorem okCell_sl {r o n:Nat}:okCell (.sl r o n)=true:=id rfl
theorem cells_sl {r o n:Nat}:(D.sl r o n).cells=[.sl r o n]:=id rfl
theorem boxD_pt {r o:Nat}:boxD (.pt r o)=some ([.pt r o]):=id rfl
theorem okCell_pt {r o:Nat}:okCell (.pt r o)=true:=id rfl
theorem cells_pt {r o:Nat}:(D.pt r o).cells=[.pt r o]:=id rfl
theorem boxD_mp {r:Nat}:boxD (.mp r)=some ([.mp r]):=id rfl
theorem okCell_mp {r:Nat}:okCell (.mp r)=true:=id rfl
theorem cells_mp {r:Nat}:(D.mp r).cells=[.mp r]:=id rfl
theorem boxD_rf {xs:List F}:boxD (.rf xs)=some ([.rf xs]):=id rfl
theorem okCell_rf {xs:List F}:okCell (.rf xs)=true:=id rfl
theorem cells_rf {xs:List F}:(D.rf xs).cells=[.rf xs]:=id rfl
theorem boxD_ag {ds:List D}:boxD (.ag ds)=some (ds):=id rfl
theorem okCell_ag {ds:List D}:okCell (.ag ds)=true:=id rfl
theorem cells_ag {ds:List D}:(D.ag ds).cells=ds:=id rfl
theorem boxD_fn {f:FuncId}{ds:List D}:boxD (.fn f ds)=some ([.fn f ds]):=id rfl
theorem okCell_fn {f:FuncId}{ds:List D}:okCell (.fn f ds)=true:=id rfl
theorem cells_fn {f:FuncId}{ds:List D}:(D.fn f ds).cells=[.fn f ds]:=id rfl
def load1R (o:Option Row)(off:Nat):Option D:=match o with
 | some row=>match row.cells with
  | some xs=>xs[off]?
  | none=>none
 | none=>none
theorem load1_pt {H:List Row}{r off:Nat}:load1 H (.pt r off)=load1R H[r]? off:=id rfl
theorem load1_rf {H:List Row}{xs:List F}:load1 H (.rf xs)=(xs[0]?).map .f:=id rfl
theorem load1R_box {T:TypeId}{ds:List D}{off:Nat}:load1R (some (.box T ds)) off=ds[off]?:=id rfl
theorem load1R_data {T:TypeId}{xs:List F}{off:Nat}:load1R (some (.data T xs)) off=(xs[off]?).map .f:=by simp [load1R,Row.cells]
theorem load1R_froz {T:TypeId}{xs:List F}{off:Nat}:load1R (some (.froz T xs)) off=(xs[off]?).map .f:=by simp [load1R,Row.cells]
def loadAR (n:Nat)(o:Option Row)(off:Nat):Option D:=match o with
 | some row=>match row.cells with
  | some xs=>if off+n≤xs.length then some (.ag ((xs.drop off).take n)) else none
  | none=>none
 | none=>none
theorem loadA_pt {H:List Row}{n r off:Nat}:loadA H n (.pt r off)=loadAR n H[r]? off:=id rfl
theorem loadA_rf {H:List Row}{n:Nat}{xs:List F}:loadA H n (.rf xs)=if n≤xs.length then some (.ag ((xs.map .f).take n)) else none:=id rfl
theorem loadAR_box {n:Nat}{T:TypeId}{ds:List D}{off:Nat}:loadAR n (some (.box T ds)) off=if off+n≤ds.length then some (.ag ((ds.drop off).take n)) else none:=id rfl
theorem loadAR_data {n:Nat}{T:TypeId}{xs:List F}{off:Nat}:loadAR n (some (.data T xs)) off=if off+n≤xs.length then some (.ag (((xs.drop off).take n).map .f)) else none:=by simp [loadAR,Row.cells,List.map_take,List.map_drop]
theorem loadAR_froz {n:Nat}{T:TypeId}{xs:List F}{off:Nat}:loadAR n (some (.froz T xs)) off=if off+n≤xs.length then some (.ag (((xs.drop off).take n).map .f)) else none:=by simp [loadAR,Row.cells,List.map_take,List.map_drop]
theorem offD_pt {o r off:Nat}:offD o (.pt r off)=some (.pt r (off+o)):=id rfl
theorem offD_rf {o:Nat}{xs:List F}:offD o (.rf xs)=some (.rf (xs.drop o)):=id rfl
theorem fld1_ag {o:Nat}{ds:List D}:fld1 o (.ag ds)=ds[o]?:=id rfl
theorem fldA_ag {o n:Nat}{ds:List D}:fldA o n (.ag ds)=if o+n≤ds.length then some (.ag ((ds.drop o).take n)) else none:=id rfl
theorem nilcD_pt {r o:Nat}:nilcD (.pt r o)=some (.pt r o):=id rfl
theorem nilcD_rf {xs:List F}:nilcD (.rf xs)=some (.rf xs):=id rfl
theorem nilcD_fn {f:FuncId}{cs:List D}:nilcD (.fn f cs)=some (.fn f cs):=id rfl
theorem extD_tp {i:Nat}{ds:List D}:extD i (.tp ds)=ds[i]?:=id rfl
def storeR (P:Program)(H:List Row)(n r off:Nat)(x:D)(o:Option Row):Option (List Row):=match o with
 | some (.box U xs)=>if okCell x=true∧x.cells.length=n∧off+n≤xs.length then some (H.set r (.box U (putL off x.cells xs))) else none
 | some (.data U xs)=>if okCell x=true∧x.cells.length=n∧off+n≤xs.length∧0<n then
   match freezeAll P H x.cells with
   | some (ys,us)=>match (applyUpd H us)[r]? with
    | some (.data U ws)=>some ((applyUpd H us).set r (.data U (splice ws off ys)))
    | _=>none
   | none=>none
  else none
 | _=>none
theorem splice_one {α:Type}{xs:List α}{off:Nat}{x:α}(h:off<xs.length):splice xs off [x]=xs.set off x:=by
 rw [List.set_eq_take_append_cons_drop,if_pos h]
 simp [splice]
theorem storeS_pt {P:Program}{H:List Row}{n r off:Nat}{x:D}:storeS P H n (.pt r off) x=storeR P H n r off x H[r]?:=id rfl
theorem storeR_box {P:Program}{H:List Row}{n r off:Nat}{x:D}{U:TypeId}{xs:List D}:storeR P H n r off x (some (.box U xs))=if okCell x=true∧x.cells.length=n∧off+n≤xs.length then some (H.set r (.box U (putL off x.cells xs))) else none:=id rfl
theorem storeR_f {P:Program}{H:List Row}{r off:Nat}{x:F}{U:TypeId}{xs:List F}(h:H[r]?=some (.data U xs)):storeR P H 1 r off (.f x) (some (.data U xs))=if off+1≤xs.length then some (H.set r (.data U (xs.set off x))) else none:=by
 unfold storeR
 simp only [okCell,D.cells,freezeAll,freeze1,applyUpd,List.append_nil,List.length_cons,List.length_nil,h,true_and,Nat.reduceAdd,Nat.zero_lt_one,and_true]
 split
 ·rw [splice_one (by omega)]
 ·rfl
theorem putL_nil0 {α:Type}{cs:List α}:putL 0 [] cs=cs:=by cases cs<;>rfl
theorem putL_cons0 {α:Type}{y c:α}{ys cs:List α}:putL 0 (y :: ys) (c :: cs)=y :: putL 0 ys cs:=id rfl
theorem putL_succ {α:Type}{n:Nat}{c:α}{ys cs:List α}:putL (n+1) ys (c :: cs)=c :: putL n ys cs:=id rfl
theorem binS_int {op:BinOp}{k k2:IntKind}{a b:Int}{K:D→Prop}:binS op (.f (.v (.int k a))) (.f (.v (.int k2 b))) K=(shQ op k k2∧intS op k a b K):=id rfl
theorem shQ_self {op:BinOp}{k:IntKind}:shQ op k k=True:=by cases op<;>simp [shQ]
theorem shQ_shl {k k2:IntKind}:shQ .shl k k2=True:=id rfl
theorem shQ_shr {k k2:IntKind}:shQ .shr k k2=True:=id rfl
theorem binS_str {op:BinOp}{a b:ByteArray}{K:D→Prop}:binS op (.f (.v (.string a))) (.f (.v (.string b))) K=strS op a b K:=id rfl
theorem aeqS_ag {eq:Bool}{ks:List Nat}{xs ys:List D}{K:D→Prop}:aeqS eq ks (.ag xs) (.ag ys) K=bind' (eqL ks xs ys) fun b=>K (.f (.v (.bool (if eq then b else !b)))):=id rfl
theorem aidxS_ag {sz n:Nat}{ds:List D}{k:IntKind}{a:Int}{K:D→Prop}:aidxS sz n (.ag ds) (.f (.v (.int k a))) K=((0≤a∧a<n)∧bind' (ds[a.toNat*sz]?) K):=id rfl
theorem binbS_b {op:BinOp}{a b:Bool}{K:D→Prop}:binbS op (.f (.v (.bool a))) (.f (.v (.bool b))) K=boolS op a b K:=id rfl
theorem intS_shl {k:IntKind}{a b:Int}{K:D→Prop}:intS .shl k a b K=(0≤b∧K (.f (.v (.int k (k.wrap (a*2 ^ (min b.toNat k.bits))))))):=id rfl
theorem intS_shr {k:IntKind}{a b:Int}{K:D→Prop}:intS .shr k a b K=(0≤b∧K (.f (.v (.int k (a.fdiv (2 ^ (min b.toNat k.bits))))))):=id rfl
theorem intS_and {k:IntKind}{a b:Int}{K:D→Prop}:intS .and k a b K=(K (.f (.v (.int k (k.wrap (BitVec.ofInt k.bits a &&& BitVec.ofInt k.bits b).toNat))))):=id rfl
theorem intS_or {k:IntKind}{a b:Int}{K:D→Prop}:intS .or k a b K=(K (.f (.v (.int k (k.wrap (BitVec.ofInt k.bits a ||| BitVec.ofInt k.bits b).toNat))))):=id rfl
theorem intS_xor {k:IntKind}{a b:Int}{K:D→Prop}:intS .xor k a b K=(K (.f (.v (.int k (k.wrap (BitVec.ofInt k.bits a ^^^ BitVec.ofInt k.bits b).toNat))))):=id rfl
theorem intS_add {k:IntKind}{a b:Int}{K:D→Prop}:intS .add k a b K=(K (.f (.v (.int k (k.wrap (a+b)))))):=id rfl
theorem intS_sub {k:IntKind}{a b:Int}{K:D→Prop}:intS .sub k a b K=(K (.f (.v (.int k (k.wrap (a-b)))))):=id rfl
theorem intS_mul {k:IntKind}{a b:Int}{K:D→Prop}:intS .mul k a b K=(K (.f (.v (.int k (k.wrap (a*b)))))):=id rfl
theorem intS_quo {k:IntKind}{a b:Int}{K:D→Prop}:intS .quo k a b K=(b≠0∧K (.f (.v (.int k (k.wrap (a.tdiv b)))))):=id rfl
theorem intS_rem {k:IntKind}{a b:Int}{K:D→Prop}:intS .rem k a b K=(b≠0∧K (.f (.v (.int k (a.tmod b))))):=id rfl
theorem intS_eql {k:IntKind}{a b:Int}{K:D→Prop}:intS .eql k a b K=(Two (a=b) (K (.f (.v (.bool true)))) (K (.f (.v (.bool false))))):=id rfl
theorem intS_neq {k:IntKind}{a b:Int}{K:D→Prop}:intS .neq k a b K=(Two (a=b) (K (.f (.v (.bool false)))) (K (.f (.v (.bool true))))):=id rfl
theorem intS_lss {k:IntKind}{a b:Int}{K:D→Prop}:intS .lss k a b K=(Two (a<b) (K (.f (.v (.bool true)))) (K (.f (.v (.bool false))))):=id rfl
theorem intS_leq {k:IntKind}{a b:Int}{K:D→Prop}:intS .leq k a b K=(Two (a≤b) (K (.f (.v (.bool true)))) (K (.f (.v (.bool false))))):=id rfl
theorem intS_gtr {k:IntKind}{a b:Int}{K:D→Prop}:intS .gtr k a b K=(Two (b<a) (K (.f (.v (.bool true)))) (K (.f (.v (.bool false))))):=id rfl
theorem intS_geq {k:IntKind}{a b:Int}{K:D→Prop}:intS .geq k a b K=(Two (b≤a) (K (.f (.v (.bool true)))) (K (.f (.v (.bool false))))):=id rfl
theorem strS_add {a b:ByteArray}{K:D→Prop}:strS .add a b K=(a.size+b.size≤9223372036854775807∧K (.f (.v (.string (a++b))))):=id rfl
theorem strS_eql {a b:ByteArray}{K:D→Prop}:strS .eql a b K=(Two (a=b) (K (.f (.v (.bool true)))) (K (.f (.v (.bool false))))):=id rfl
theorem strS_neq {a b:ByteArray}{K:D→Prop}:strS .neq a b K=(Two (a=b) (K (.f (.v (.bool false)))) (K (.f (.v (.bool true))))):=id rfl
theorem strS_lss {a b:ByteArray}{K:D→Prop}:strS .lss a b K=(Two (Op.bytesLess a.toList b.toList=true) (K (.f (.v (.bool true)))) (K (.f (.v (.bool false))))):=id rfl
theorem strS_gtr {a b:ByteArray}{K:D→Prop}:strS .gtr a b K=(Two (Op.bytesLess b.toList a.toList=true) (K (.f (.v (.bool true)))) (K (.f (.v (.bool false))))):=id rfl
theorem strS_leq {a b:ByteArray}{K:D→Prop}:strS .leq a b K=(Two (Op.bytesLess b.toList a.toList=true) (K (.f (.v (.bool false)))) (K (.f (.v (.bool true))))):=id rfl
theorem strS_geq {a b:ByteArray}{K:D→Prop}:strS .geq a b K=(Two (Op.bytesLess a.toList b.toList=true) (K (.f (.v (.bool false)))) (K (.f (.v (.bool true))))):=id rfl
theorem boolS_eql {a b:Bool}{K:D→Prop}:boolS .eql a b K=K (.f (.v (.bool (a==b)))):=id rfl
theorem boolS_neq {a b:Bool}{K:D→Prop}:boolS .neq a b K=K (.f (.v (.bool (!(a==b))))):=id rfl
theorem idxS_sl {sz r off n:Nat}{k:IntKind}{i:Int}{K:D→Prop}:idxS sz (.sl r off n) (.f (.v (.int k i))) K=((0≤i∧i<n)∧K (.pt r (off+i.toNat*sz))):=id rfl
theorem idxS_s {sz n:Nat}{xs:List F}{k:IntKind}{i:Int}{K:D→Prop}:idxS sz (.f (.s xs n)) (.f (.v (.int k i))) K=((0≤i∧i<n)∧K (.rf (xs.drop (i.toNat*sz)))):=id rfl
theorem arrS_pt {sz n r off:Nat}{k:IntKind}{i:Int}{K:D→Prop}:arrS sz n (.pt r off) (.f (.v (.int k i))) K=((0≤i∧i<n)∧K (.pt r (off+i.toNat*sz))):=id rfl
theorem pickS_t {p q:Prop}:pickS (.f (.v (.bool true))) p q=p:=Bsel_true
theorem pickS_f {p q:Prop}:pickS (.f (.v (.bool false))) p q=q:=Bsel_false
theorem pickS_b {b:Bool}{p q:Prop}:pickS (.f (.v (.bool b))) p q=Bsel b p q:=id rfl
theorem notS_b {b:Bool}:notS (.f (.v (.bool b)))=some (.f (.v (.bool (!b)))):=id rfl
theorem convS_i {k k2:IntKind}{n:Int}:convS k (.f (.v (.int k2 n)))=some (.f (.v (.int k (k.wrap n)))):=id rfl
theorem intOf_i {n:Int}:intOf? (.f (.v (.int .i64 n)))=some n:=id rfl
theorem strOf_s {s:ByteArray}:strOf? (.f (.v (.string s)))=some s:=id rfl
theorem slcS_sl {r o n:Nat}:slcS (.sl r o n)=some n:=id rfl
theorem slcS_s {xs:List F}{n:Nat}:slcS (.f (.s xs n))=some n:=id rfl
theorem slcS_e:slcS (.f .e)=some 0:=id rfl
theorem slcS_nil:slcS (.f (.v (.slice none 0 0)))=some 0:=id rfl
def nilR (k:Nat)(p q:Option (Nat × Bool)):Option Bool:=match p,q with
 | some (i,a),some (j,b)=>if k=i∧k=j∧(a=true∨b=true) then some (a&&b) else none
 | _,_=>none
theorem nilS_R {k:Nat}{x y:D}:nilS k x y=nilR k (isNil x) (isNil y):=id rfl
theorem nilR_ss {k i j:Nat}{a b:Bool}:nilR k (some (i,a)) (some (j,b))=if k=i∧k=j∧(a=true∨b=true) then some (a&&b) else none:=id rfl
theorem isNil_142:isNil (.f (.v (.slice none 0 0)))=some (0,true):=id rfl
theorem isNil_143:isNil (.f (.v (.pointer none)))=some (1,true):=id rfl
theorem isNil_144:isNil (.f (.v (.map none)))=some (2,true):=id rfl
theorem nilq_145 {k:Nat}{y:D}{K:Bool→Prop}:nilqS k (.f (.v (.slice none 0 0))) y K=bind' (nilS k (.f (.v (.slice none 0 0))) y) K:=id rfl
theorem nilq_146 {k:Nat}{y:D}{K:Bool→Prop}:nilqS k (.f (.v (.pointer none))) y K=bind' (nilS k (.f (.v (.pointer none))) y) K:=id rfl
theorem nilq_147 {k:Nat}{y:D}{K:Bool→Prop}:nilqS k (.f (.v (.map none))) y K=bind' (nilS k (.f (.v (.map none))) y) K:=id rfl
theorem nilq_148 {k:Nat}{y:D}{K:Bool→Prop}:nilqS k (.f .e) y K=bind' (nilS k (.f .e) y) K:=id rfl
theorem nilq_149 {r o:Nat}{k:Nat}{y:D}{K:Bool→Prop}:nilqS k (.pt r o) y K=bind' (nilS k (.pt r o) y) K:=id rfl
theorem nilq_150 {r:Nat}{k:Nat}{y:D}{K:Bool→Prop}:nilqS k (.mp r) y K=bind' (nilS k (.mp r) y) K:=id rfl
theorem nilq_151 {xs:List F}{k:Nat}{y:D}{K:Bool→Prop}:nilqS k (.rf xs) y K=bind' (nilS k (.rf xs) y) K:=id rfl
theorem isNil_s {xs:List F}{n:Nat}:isNil (.f (.s xs (n+1)))=some (0,false):=id rfl
theorem isNil_sl {r o n:Nat}:isNil (.sl r o (n+1))=some (0,false):=id rfl
theorem isNil_pt {r o:Nat}:isNil (.pt r o)=some (1,false):=id rfl
theorem isNil_rf {xs:List F}:isNil (.rf xs)=some (1,false):=id rfl
theorem isNil_mp {r:Nat}:isNil (.mp r)=some (2,false):=id rfl
def subR (sz:Nat)(E:TypeId)(r off l h:Nat)(o:Option Row):Option D:=match o with
 | some (.data U xs)=>if l=h then some (.f (.s [] 0)) else if 0<xs.length∧some U=some E then some (.sl r (off+l*sz) (h-l)) else none
 | some (.froz U _)=>if l=h then some (.f (.s [] 0)) else if some U=some E then some (.sl r (off+l*sz) (h-l)) else none
 | _=>if l=h then some (.f (.s [] 0)) else none
theorem subS_sl {H:List Row}{sz:Nat}{E:TypeId}{r off n l h:Nat}:subS H sz E (.sl r off n) l h=subR sz E r off l h H[r]?:=by
 unfold subS rowType subR
 dsimp only
 split<;>split<;>simp only [*]
 all_goals first|(split<;>simp_all)|simp_all
theorem subR_data {sz:Nat}{E U:TypeId}{r off l h:Nat}{xs:List F}:subR sz E r off l h (some (.data U xs))=if l=h then some (.f (.s [] 0)) else if 0<xs.length∧some U=some E then some (.sl r (off+l*sz) (h-l)) else none:=id rfl
theorem subR_froz {sz:Nat}{E U:TypeId}{r off l h:Nat}{xs:List F}:subR sz E r off l h (some (.froz U xs))=if l=h then some (.f (.s [] 0)) else if some U=some E then some (.sl r (off+l*sz) (h-l)) else none:=id rfl
theorem subS_s {H:List Row}{sz:Nat}{E:TypeId}{xs:List F}{n l h:Nat}:subS H sz E (.f (.s xs n)) l h=some (.f (.s ((xs.drop (l*sz)).take ((h-l)*sz)) (h-l))):=id rfl
theorem subS_e {H:List Row}{sz:Nat}{E:TypeId}{l h:Nat}:subS H sz E (.f .e) l h=some (.f .e):=id rfl
theorem subS_nil {H:List Row}{sz:Nat}{E:TypeId}{l h:Nat}:subS H sz E (.f (.v (.slice none 0 0))) l h=some (.f (.v (.slice none 0 0))):=id rfl
theorem mxS_nil:mxS (.f (.v (.slice none 0 0))) = .f (.v (.slice none 0 0)):=id rfl
theorem mxS_s {xs:List F}{n:Nat}:mxS (.f (.s xs n)) = .f .e:=id rfl
theorem mxS_e:mxS (.f .e) = .f .e:=id rfl
theorem mxS_sl {r o n:Nat}:mxS (.sl r o n) = .f .e:=id rfl
theorem fillS_nil {cs:List D}:fillS cs []=some cs:=id rfl
theorem fillS_cons {cs:List D}{off size:Nat}{d:D}{rest:List (Nat × Nat × D)}:fillS cs ((off,size,d) :: rest)=if okCell d=true∧d.cells.length=size∧off+size≤cs.length then fillS (putL off d.cells cs) rest else none:=id rfl
theorem freeze_nil {P:Program}{H:List Row}:freezeAll P H []=some ([],[]):=id rfl
def freezeR (x:F)(o:Option (List F × List (Nat × Row))):Option (List F × List (Nat × Row)):=match o with
 | some (xs,us)=>some (x :: xs,us)
 | none=>none
theorem freeze_f {P:Program}{H:List Row}{x:F}{ds:List D}:freezeAll P H (.f x :: ds)=freezeR x (freezeAll P H ds):=by
 simp only [freezeAll,freeze1,applyUpd,List.nil_append]
 cases freezeAll P H ds<;>rfl
theorem freezeR_s {x:F}{xs:List F}{us:List (Nat × Row)}:freezeR x (some (xs,us))=some (x :: xs,us):=id rfl
theorem applyUpd_nil {H:List Row}:applyUpd H []=H:=id rfl
theorem fs_nil:fs? []=some []:=id rfl
theorem fs_cons {x:F}{ds:List D}:fs? (.f x :: ds)=(fs? ds).map (x :: ·):=id rfl
theorem elemsS_nil {H:List Row}{sz:Nat}:elemsS H sz (.f (.v (.slice none 0 0)))=some (0,[]):=id rfl
theorem elemsS_e {H:List Row}{sz:Nat}:elemsS H sz (.f .e)=some (0,[]):=id rfl
theorem elemsS_s {H:List Row}{sz n:Nat}{xs:List F}:elemsS H sz (.f (.s xs n))=some (n,xs):=id rfl
def elemsR (sz off n:Nat)(o:Option Row):Option (Nat × List F):=match o with
 | some (.data _ xs)=>if off+n*sz≤xs.length then some (n,(xs.drop off).take (n*sz)) else none
 | some (.froz _ xs)=>if off+n*sz≤xs.length then some (n,(xs.drop off).take (n*sz)) else none
 | some (.box _ ds)=>match fs? ds with
  | some xs=>if off+n*sz≤xs.length then some (n,(xs.drop off).take (n*sz)) else none
  | none=>none
 | _=>none
theorem elemsS_sl {H:List Row}{sz r off n:Nat}:elemsS H sz (.sl r off n)=elemsR sz off n H[r]?:=id rfl
theorem elemsR_data {sz off n:Nat}{T:TypeId}{xs:List F}:elemsR sz off n (some (.data T xs))=if off+n*sz≤xs.length then some (n,(xs.drop off).take (n*sz)) else none:=id rfl
theorem elemsR_froz {sz off n:Nat}{T:TypeId}{xs:List F}:elemsR sz off n (some (.froz T xs))=if off+n*sz≤xs.length then some (n,(xs.drop off).take (n*sz)) else none:=id rfl
theorem appS_nil {H:List Row}{T:TypeId}{sz b:Nat}{x:D}{K:D→List Row→Prop}:appS H T sz b (.f (.v (.slice none 0 0))) x K=bind' (elemsS H sz x) fun p=>Two (p.1=0) (K (.f (.v (.slice none 0 0))) H) (p.2.length=p.1*sz∧p.1*b≤most∧p.1≤most∧K (.sl H.length 0 p.1) (H++[.data T p.2])):=id rfl
theorem appS_e {H:List Row}{T:TypeId}{sz b:Nat}{x:D}{K:D→List Row→Prop}:appS H T sz b (.f .e) x K=bind' (elemsS H sz x) fun p=>Two (p.1=0) (K (.f .e) H) (p.2.length=p.1*sz∧p.1*b≤most∧p.1≤most∧K (.sl H.length 0 p.1) (H++[.data T p.2])):=id rfl
def appR (H:List Row)(T:TypeId)(sz b r off n m:Nat)(ys:List F)(K:D→List Row→Prop)(o:Option Row):Prop:=match o with
 | some (.data U xs)=>U=T∧ys.length=m*sz∧xs.length=off+n*sz∧(n+m)*b≤most∧n+m≤most∧K (.sl H.length 0 (n+m)) (H.set r .dead++[.data T (xs.drop off++ys)])
 | _=>False
theorem appS_sl {H:List Row}{T:TypeId}{sz b:Nat}{x:D}{K:D→List Row→Prop}{r off n:Nat}:appS H T sz b (.sl r off n) x K=bind' (elemsS H sz x) fun p=>Two (p.1=0) (K (.sl r off n) H) (appR H T sz b r off n p.1 p.2 K H[r]?):=id rfl
theorem appR_data {H:List Row}{T U:TypeId}{sz b r off n m:Nat}{ys xs:List F}{K:D→List Row→Prop}:appR H T sz b r off n m ys K (some (.data U xs))=(U=T∧ys.length=m*sz∧xs.length=off+n*sz∧(n+m)*b≤most∧n+m≤most∧K (.sl H.length 0 (n+m)) (H.set r .dead++[.data T (xs.drop off++ys)])):=id rfl
theorem mapEs_nil {H:List Row}:mapEs H (.f (.v (.map none)))=some []:=id rfl
def mapER (o:Option Row):Option (List (Value × D)):=match o with
 | some (.map es)=>some es
 | _=>none
theorem mapEs_mp {H:List Row}{r:Nat}:mapEs H (.mp r)=mapER H[r]?:=id rfl
theorem mapER_map {es:List (Value × D)}:mapER (some (.map es))=some es:=id rfl
theorem wantV_t {w:Bool}{p q:Prop}{b:Bool}:wantV (some (.f (.v (.bool b)))) w p q=if w then Bsel b p q else Bsel b q p:=id rfl
theorem wantV_u {w:Bool}{p q:Prop}{ds:List D}:wantV (some (.tp ds)) w p q=q:=id rfl
theorem Dint {n:Int}:D.int n = .f (.v (.int .i64 n)):=id rfl
theorem Dbool {b:Bool}:D.bool b = .f (.v (.bool b)):=id rfl
theorem Dv {x:Value}:D.v x = .f (.v x):=id rfl
theorem Dundef:D.undef = .tp []:=id rfl
theorem ren_nil {N r:Nat}:ren [] N r=N+r:=by simp [ren]
theorem renE_f {ρ:Nat→Nat}{x:F}:renE ρ (.f x) = .f x:=id rfl
theorem renE_sl {ρ:Nat→Nat}{r o n:Nat}:renE ρ (.sl r o n) = .sl (ρ r) o n:=id rfl
theorem renE_pt {ρ:Nat→Nat}{r o:Nat}:renE ρ (.pt r o) = .pt (ρ r) o:=id rfl
theorem renE_mp {ρ:Nat→Nat}{r:Nat}:renE ρ (.mp r) = .mp (ρ r):=id rfl
theorem renE_rf {ρ:Nat→Nat}{xs:List F}:renE ρ (.rf xs) = .rf xs:=id rfl
theorem renE_ag {ρ:Nat→Nat}{ds:List D}:renE ρ (.ag ds) = .ag (ds.map (renE ρ)):=by simp [renE,renE_go]
theorem renE_tp {ρ:Nat→Nat}{ds:List D}:renE ρ (.tp ds) = .tp (ds.map (renE ρ)):=by simp [renE,renE_go]
theorem renE_fn {ρ:Nat→Nat}{f:FuncId}{ds:List D}:renE ρ (.fn f ds) = .fn f (ds.map (renE ρ)):=by simp [renE,renE_go]
theorem renR_box {ρ:Nat→Nat}{T:TypeId}{ds:List D}:renR ρ (.box T ds) = .box T (ds.map (renE ρ)):=id rfl
theorem renR_data {ρ:Nat→Nat}{T:TypeId}{xs:List F}:renR ρ (.data T xs) = .data T xs:=id rfl
theorem renR_froz {ρ:Nat→Nat}{T:TypeId}{xs:List F}:renR ρ (.froz T xs) = .froz T xs:=id rfl
theorem renR_map {ρ:Nat→Nat}{es:List (Value × D)}:renR ρ (.map es) = .map es:=id rfl
theorem renR_dead {ρ:Nat→Nat}:renR ρ .dead = .dead:=id rfl
theorem putRows_nil {ρ:Nat→Nat}{rows H:List Row}:putRows ρ [] rows H=H:=by cases rows<;>rfl
theorem putRows_cons {ρ:Nat→Nat}{r:Nat}{ι:List Nat}{row:Row}{rows H:List Row}:putRows ρ (r :: ι) (row :: rows) H=putRows ρ ι rows (H.set r (renR ρ row)):=id rfl
theorem putD_some {ts:List D}{t:Nat}{d:D}:putD! ts (some t) d=ts.set t d:=id rfl
theorem putD_none {ts:List D}{d:D}:putD! ts none d=ts:=id rfl
theorem range_zero:List.range 0=[]:=id rfl
theorem wpDr_nil {P:Program}{b own:List Nat}{n0 i:Nat}{log:List (List Nat × List Nat)}{ts:List D}{H:List Row}{dr:List Nat}{K:St→Prop}:wpDr P b n0 [] i own log ⟨ts,H,dr⟩ K=K ⟨ts,H,[]⟩:=id rfl
def drStep (P:Program)(b own:List Nat)(n0 i:Nat)(log:List (List Nat × List Nat))(o:SOp)(V:List Nat)(ts:List D)(H:List Row)(next:List Nat→List (List Nat × List Nat)→D→List Row→Prop):Prop :=
 stepDr P ts (maskV V H) o fun w d H'=>H'=(effS w V H.length d H').heap (maskV V H) ∧
  Chk (chkS n0 own (b.getD i 0) V (o.vs.map (SV.ev ts)) (maskV V H) (effS w V H.length d H') log) ∧
  next (own++(effS w V H.length d H').news.map fun _=>i) (log++[(V,(effS w V H.length d H').upd.map (·.1))]) d ((effS w V H.length d H').heap H)
@[congr] theorem drStep_congr {P:Program} {b own own':List Nat} {n0 i i':Nat} {log log':List (List Nat × List Nat)} {o:SOp} {V V':List Nat} {ts ts':List D} {H H':List Row} {next:List Nat→List (List Nat × List Nat)→D→List Row→Prop} (h1:own=own') (h5:log=log') (h2:V=V') (h3:ts=ts') (h4:H=H') (h6:i=i'):drStep P b own n0 i log o V ts H next=drStep P b own' n0 i' log' o V' ts' H' next:=by rw [h1,h2,h3,h4,h5,h6]
theorem wpDr_a {P:Program}{b own:List Nat}{n0 i:Nat}{log:List (List Nat × List Nat)}{l:List SI}{ts:List D}{H:List Row}{dr:List Nat}{K:St→Prop}{t:Nat}{o:SOp}:wpDr P b n0 (.a t o :: l) i own log ⟨ts,H,dr⟩ K=drStep P b own n0 i log o (viewS ts H o) ts H fun own1 log1 d H1=>wpDr P b n0 l (i+1) own1 log1 ⟨ts.set t d,H1,[]⟩ K:=id rfl
theorem wpDr_n {P:Program}{b own:List Nat}{n0 i:Nat}{log:List (List Nat × List Nat)}{l:List SI}{ts:List D}{H:List Row}{dr:List Nat}{K:St→Prop}{o:SOp}:wpDr P b n0 (.n o :: l) i own log ⟨ts,H,dr⟩ K=drStep P b own n0 i log o (viewS ts H o) ts H fun own1 log1 d H1=>wpDr P b n0 l (i+1) own1 log1 ⟨ts,H1,[]⟩ K:=id rfl
theorem wpDr_g {P:Program}{b own:List Nat}{n0 i:Nat}{log:List (List Nat × List Nat)}{l:List SI}{ts:List D}{H:List Row}{dr:List Nat}{K:St→Prop}{d:Option Nat}{t:Nat}{w:Bool}{o:SOp}:wpDr P b n0 (.g d o t w :: l) i own log ⟨ts,H,dr⟩ K=wantV ts[t]? w (drStep P b own n0 i log o (viewS ts H o) ts H fun own1 log1 r H1=>wpDr P b n0 l (i+1) own1 log1 ⟨putD! ts d r,H1,[]⟩ K) (wpDr P b n0 l (i+1) own (log++[([],[])]) ⟨putD! ts d D.undef,H,[]⟩ K):=id rfl
theorem drStep_def {P:Program}{b own:List Nat}{n0 i:Nat}{log:List (List Nat × List Nat)}{o:SOp}{V:List Nat}{ts:List D}{H:List Row}{next:List Nat→List (List Nat × List Nat)→D→List Row→Prop}:drStep P b own n0 i log o V ts H next=stepDr P ts (maskV V H) o fun w d H1=>H1=(effS w V H.length d H1).heap (maskV V H)∧Chk (chkS n0 own (b.getD i 0) V (o.vs.map (SV.ev ts)) (maskV V H) (effS w V H.length d H1) log)∧next (own++(effS w V H.length d H1).news.map fun _=>i) (log++[(V,(effS w V H.length d H1).upd.map (·.1))]) d ((effS w V H.length d H1).heap H):=id rfl
theorem stepDr_mv {P:Program}{ts:List D}{H:List Row}{K:Bool→D→List Row→Prop}(x:SV):stepDr P ts H (.mv x) K=((K false) (x.ev ts) H):=id rfl
theorem viewS_mv {ts:List D}{H:List Row}(x:SV):viewS ts H (.mv x)=[]:=id rfl
theorem turns_mv (x:SV):SOp.turns (.mv x)=false:=id rfl
theorem stepDr_pick {P:Program}{ts:List D}{H:List Row}{K:Bool→D→List Row→Prop}(c a b:SV):stepDr P ts H (.pick c a b) K=(pickS (c.ev ts) ((K false) (a.ev ts) H) ((K false) (b.ev ts) H)):=id rfl
theorem viewS_pick {ts:List D}{H:List Row}(c a b:SV):viewS ts H (.pick c a b)=[]:=id rfl
theorem turns_pick (c a b:SV):SOp.turns (.pick c a b)=false:=id rfl
theorem stepDr_alloc {P:Program}{ts:List D}{H:List Row}{K:Bool→D→List Row→Prop}(T:TypeId)(z:List D):stepDr P ts H (.alloc T z) K=((K false) (.pt H.length 0) (H++[.box T z])):=id rfl
theorem viewS_alloc {ts:List D}{H:List Row}(T:TypeId)(z:List D):viewS ts H (.alloc T z)=[]:=id rfl
theorem turns_alloc (T:TypeId)(z:List D):SOp.turns (.alloc T z)=false:=id rfl
theorem stepDr_box {P:Program}{ts:List D}{H:List Row}{K:Bool→D→List Row→Prop}(T:TypeId)(x:SV):stepDr P ts H (.box T x) K=(bind' (boxD (x.ev ts)) fun cs=>(K false) (.pt H.length 0) (H++[.box T cs])):=id rfl
theorem viewS_box {ts:List D}{H:List Row}(T:TypeId)(x:SV):viewS ts H (.box T x)=[]:=id rfl
theorem turns_box (T:TypeId)(x:SV):SOp.turns (.box T x)=false:=id rfl
theorem stepDr_load1 {P:Program}{ts:List D}{H:List Row}{K:Bool→D→List Row→Prop}(a:SV):stepDr P ts H (.load1 a) K=(bind' (load1 H (a.ev ts)) fun d=>(K false) d H):=id rfl
theorem viewS_load1 {ts:List D}{H:List Row}(a:SV):viewS ts H (.load1 a)=dedN (refsL ([a.ev ts])):=id rfl
theorem turns_load1 (a:SV):SOp.turns (.load1 a)=false:=id rfl
theorem stepDr_loadA {P:Program}{ts:List D}{H:List Row}{K:Bool→D→List Row→Prop}(n:Nat)(a:SV):stepDr P ts H (.loadA n a) K=(bind' (loadA H n (a.ev ts)) fun d=>(K false) d H):=id rfl
theorem viewS_loadA {ts:List D}{H:List Row}(n:Nat)(a:SV):viewS ts H (.loadA n a)=dedN (refsL ([a.ev ts])):=id rfl
theorem turns_loadA (n:Nat)(a:SV):SOp.turns (.loadA n a)=false:=id rfl
theorem stepDr_store {P:Program}{ts:List D}{H:List Row}{K:Bool→D→List Row→Prop}(n:Nat)(a x:SV):stepDr P ts H (.store n a x) K=(bind' (storeS P H n (a.ev ts) (x.ev ts)) fun H'=>(K true) D.undef H'):=id rfl
theorem viewS_store {ts:List D}{H:List Row}(n:Nat)(a x:SV):viewS ts H (.store n a x)=dedN (refsL ([a.ev ts,x.ev ts])):=id rfl
theorem turns_store (n:Nat)(a x:SV):SOp.turns (.store n a x)=true:=id rfl
theorem stepDr_nilc {P:Program}{ts:List D}{H:List Row}{K:Bool→D→List Row→Prop}(x:SV):stepDr P ts H (.nilc x) K=(bind' (nilcD (x.ev ts)) fun d=>(K false) d H):=id rfl
theorem viewS_nilc {ts:List D}{H:List Row}(x:SV):viewS ts H (.nilc x)=[]:=id rfl
theorem turns_nilc (x:SV):SOp.turns (.nilc x)=false:=id rfl
theorem stepDr_off {P:Program}{ts:List D}{H:List Row}{K:Bool→D→List Row→Prop}(o:Nat)(a:SV):stepDr P ts H (.off o a) K=(bind' (offD o (a.ev ts)) fun d=>(K false) d H):=id rfl
theorem viewS_off {ts:List D}{H:List Row}(o:Nat)(a:SV):viewS ts H (.off o a)=[]:=id rfl
theorem turns_off (o:Nat)(a:SV):SOp.turns (.off o a)=false:=id rfl
theorem stepDr_fld1 {P:Program}{ts:List D}{H:List Row}{K:Bool→D→List Row→Prop}(o:Nat)(x:SV):stepDr P ts H (.fld1 o x) K=(bind' (fld1 o (x.ev ts)) fun d=>(K false) d H):=id rfl
theorem viewS_fld1 {ts:List D}{H:List Row}(o:Nat)(x:SV):viewS ts H (.fld1 o x)=[]:=id rfl
theorem turns_fld1 (o:Nat)(x:SV):SOp.turns (.fld1 o x)=false:=id rfl
theorem stepDr_fldA {P:Program}{ts:List D}{H:List Row}{K:Bool→D→List Row→Prop}(o n:Nat)(x:SV):stepDr P ts H (.fldA o n x) K=(bind' (fldA o n (x.ev ts)) fun d=>(K false) d H):=id rfl
theorem viewS_fldA {ts:List D}{H:List Row}(o n:Nat)(x:SV):viewS ts H (.fldA o n x)=[]:=id rfl
theorem turns_fldA (o n:Nat)(x:SV):SOp.turns (.fldA o n x)=false:=id rfl
theorem stepDr_idx {P:Program}{ts:List D}{H:List Row}{K:Bool→D→List Row→Prop}(sz:Nat)(x i:SV):stepDr P ts H (.idx sz x i) K=(idxS sz (x.ev ts) (i.ev ts) fun d=>(K false) d H):=id rfl
theorem viewS_idx {ts:List D}{H:List Row}(sz:Nat)(x i:SV):viewS ts H (.idx sz x i)=[]:=id rfl
theorem turns_idx (sz:Nat)(x i:SV):SOp.turns (.idx sz x i)=false:=id rfl
theorem stepDr_arr {P:Program}{ts:List D}{H:List Row}{K:Bool→D→List Row→Prop}(sz n:Nat)(x i:SV):stepDr P ts H (.arr sz n x i) K=(arrS sz n (x.ev ts) (i.ev ts) fun d=>(K false) d H):=id rfl
theorem viewS_arr {ts:List D}{H:List Row}(sz n:Nat)(x i:SV):viewS ts H (.arr sz n x i)=[]:=id rfl
theorem turns_arr (sz n:Nat)(x i:SV):SOp.turns (.arr sz n x i)=false:=id rfl
theorem stepDr_ext {P:Program}{ts:List D}{H:List Row}{K:Bool→D→List Row→Prop}(i:Nat)(x:SV):stepDr P ts H (.ext i x) K=(bind' (extD i (x.ev ts)) fun d=>(K false) d H):=id rfl
theorem viewS_ext {ts:List D}{H:List Row}(i:Nat)(x:SV):viewS ts H (.ext i x)=[]:=id rfl
theorem turns_ext (i:Nat)(x:SV):SOp.turns (.ext i x)=false:=id rfl
theorem stepDr_bin {P:Program}{ts:List D}{H:List Row}{K:Bool→D→List Row→Prop}(op:BinOp)(x y:SV):stepDr P ts H (.bin op x y) K=(binS op (x.ev ts) (y.ev ts) fun d=>(K false) d H):=id rfl
theorem viewS_bin {ts:List D}{H:List Row}(op:BinOp)(x y:SV):viewS ts H (.bin op x y)=[]:=id rfl
theorem turns_bin (op:BinOp)(x y:SV):SOp.turns (.bin op x y)=false:=id rfl
theorem stepDr_binb {P:Program}{ts:List D}{H:List Row}{K:Bool→D→List Row→Prop}(op:BinOp)(x y:SV):stepDr P ts H (.binb op x y) K=(binbS op (x.ev ts) (y.ev ts) fun d=>(K false) d H):=id rfl
theorem viewS_binb {ts:List D}{H:List Row}(op:BinOp)(x y:SV):viewS ts H (.binb op x y)=[]:=id rfl
theorem turns_binb (op:BinOp)(x y:SV):SOp.turns (.binb op x y)=false:=id rfl
theorem stepDr_aeq {P:Program}{ts:List D}{H:List Row}{K:Bool→D→List Row→Prop}(eq:Bool)(ks:List Nat)(x y:SV):stepDr P ts H (.aeq eq ks x y) K=(aeqS eq ks (x.ev ts) (y.ev ts) fun d=>(K false) d H):=id rfl
theorem viewS_aeq {ts:List D}{H:List Row}(eq:Bool)(ks:List Nat)(x y:SV):viewS ts H (.aeq eq ks x y)=[]:=id rfl
theorem turns_aeq (eq:Bool)(ks:List Nat)(x y:SV):SOp.turns (.aeq eq ks x y)=false:=id rfl
theorem stepDr_unot {P:Program}{ts:List D}{H:List Row}{K:Bool→D→List Row→Prop}(x:SV):stepDr P ts H (.unot x) K=(bind' (notS (x.ev ts)) fun d=>(K false) d H):=id rfl
theorem viewS_unot {ts:List D}{H:List Row}(x:SV):viewS ts H (.unot x)=[]:=id rfl
theorem turns_unot (x:SV):SOp.turns (.unot x)=false:=id rfl
theorem stepDr_fn {P:Program}{ts:List D}{H:List Row}{K:Bool→D→List Row→Prop}(f:FuncId)(caps:List SV):stepDr P ts H (.fn f caps) K=((K false) (.fn f (caps.map (SV.ev ts))) H):=id rfl
theorem viewS_fn {ts:List D}{H:List Row}(f:FuncId)(caps:List SV):viewS ts H (.fn f caps)=[]:=id rfl
theorem turns_fn (f:FuncId)(caps:List SV):SOp.turns (.fn f caps)=false:=id rfl
theorem stepDr_mkmap {P:Program}{ts:List D}{H:List Row}{K:Bool→D→List Row→Prop}  : stepDr P ts H (.mkmap) K=((K false) (.mp H.length) (H++[.map []])):=id rfl
theorem viewS_mkmap {ts:List D}{H:List Row}  : viewS ts H (.mkmap)=[]:=id rfl
theorem turns_mkmap  : SOp.turns (.mkmap)=false:=id rfl
theorem stepDr_mkslice {P:Program}{ts:List D}{H:List Row}{K:Bool→D→List Row→Prop}(T:TypeId)(sz b:Nat)(z:List F)(l c:SV):stepDr P ts H (.mkslice T sz b z l c) K=(bind' (intOf? (l.ev ts)) fun a=>bind' (intOf? (c.ev ts)) fun c=>((0<a∨c=0)∧0≤a∧a≤c∧b*c≤140737488355328∧c.toNat*sz≤16777216)∧(K false) (.sl H.length 0 a.toNat) (H++[.data T ((List.range (a.toNat*sz)).map fun j=>z.getD (j % sz) (.v Go.undef))])):=id rfl
theorem viewS_mkslice {ts:List D}{H:List Row}(T:TypeId)(sz b:Nat)(z:List F)(l c:SV):viewS ts H (.mkslice T sz b z l c)=[]:=id rfl
theorem turns_mkslice (T:TypeId)(sz b:Nat)(z:List F)(l c:SV):SOp.turns (.mkslice T sz b z l c)=false:=id rfl
theorem stepDr_bld {P:Program}{ts:List D}{H:List Row}{K:Bool→D→List Row→Prop}(z:List D)(parts:List (Nat × Nat × SV)):stepDr P ts H (.bld z parts) K=(bind' (fillS z (parts.map fun p=>(p.1,p.2.1,p.2.2.ev ts))) fun ds=>(K false) (.ag ds) H):=id rfl
theorem viewS_bld {ts:List D}{H:List Row}(z:List D)(parts:List (Nat × Nat × SV)):viewS ts H (.bld z parts)=[]:=id rfl
theorem turns_bld (z:List D)(parts:List (Nat × Nat × SV)):SOp.turns (.bld z parts)=false:=id rfl
theorem stepDr_bsl {P:Program}{ts:List D}{H:List Row}{K:Bool→D→List Row→Prop}(T:TypeId)(sz len:Nat)(z:List D)(parts:List (Nat × SV)):stepDr P ts H (.bsl T sz len z parts) K=(bind' (fillS z (parts.map fun p=>(p.1,sz,p.2.ev ts))) fun ds=>bind' (freezeAll P H ds) fun xu=>(K true) (.sl H.length 0 len) (applyUpd H xu.2++[.data T xu.1])):=id rfl
theorem viewS_bsl {ts:List D}{H:List Row}(T:TypeId)(sz len:Nat)(z:List D)(parts:List (Nat × SV)):viewS ts H (.bsl T sz len z parts)=dedN (refsL ((parts.map fun p=>p.2).map (SV.ev ts))):=id rfl
theorem turns_bsl (T:TypeId)(sz len:Nat)(z:List D)(parts:List (Nat × SV)):SOp.turns (.bsl T sz len z parts)=true:=id rfl
theorem stepDr_app {P:Program}{ts:List D}{H:List Row}{K:Bool→D→List Row→Prop}(T:TypeId)(sz b:Nat)(s x:SV):stepDr P ts H (.app T sz b s x) K=(appS H T sz b (s.ev ts) (x.ev ts) (K true)):=id rfl
theorem viewS_app {ts:List D}{H:List Row}(T:TypeId)(sz b:Nat)(s x:SV):viewS ts H (.app T sz b s x)=dedN (refsL ([s.ev ts,x.ev ts])):=id rfl
theorem turns_app (T:TypeId)(sz b:Nat)(s x:SV):SOp.turns (.app T sz b s x)=true:=id rfl
theorem stepDr_slen {P:Program}{ts:List D}{H:List Row}{K:Bool→D→List Row→Prop}(x:SV):stepDr P ts H (.slen x) K=(bind' (slcS (x.ev ts)) fun n=>(K false) (D.int n) H):=id rfl
theorem viewS_slen {ts:List D}{H:List Row}(x:SV):viewS ts H (.slen x)=[]:=id rfl
theorem turns_slen (x:SV):SOp.turns (.slen x)=false:=id rfl
theorem stepDr_mlen {P:Program}{ts:List D}{H:List Row}{K:Bool→D→List Row→Prop}(x:SV):stepDr P ts H (.mlen x) K=(bind' (mapEs H (x.ev ts)) fun es=>(K false) (D.int es.length) H):=id rfl
theorem viewS_mlen {ts:List D}{H:List Row}(x:SV):viewS ts H (.mlen x)=dedN (refsL ([x.ev ts])):=id rfl
theorem turns_mlen (x:SV):SOp.turns (.mlen x)=false:=id rfl
theorem stepDr_conv {P:Program}{ts:List D}{H:List Row}{K:Bool→D→List Row→Prop}(k:IntKind)(x:SV):stepDr P ts H (.conv k x) K=(bind' (convS k (x.ev ts)) fun d=>(K false) d H):=id rfl
theorem viewS_conv {ts:List D}{H:List Row}(k:IntKind)(x:SV):viewS ts H (.conv k x)=[]:=id rfl
theorem turns_conv (k:IntKind)(x:SV):SOp.turns (.conv k x)=false:=id rfl
theorem stepDr_s2b {P:Program}{ts:List D}{H:List Row}{K:Bool→D→List Row→Prop}(x:SV):stepDr P ts H (.s2b x) K=(bind' (strOf? (x.ev ts)) fun s=>s.size≤most∧(K false) (.f (.s (s.data.toList.map fun b=>.v (.int .u8 b.toNat)) s.size)) H):=id rfl
theorem viewS_s2b {ts:List D}{H:List Row}(x:SV):viewS ts H (.s2b x)=[]:=id rfl
theorem turns_s2b (x:SV):SOp.turns (.s2b x)=false:=id rfl
theorem stepDr_b2s {P:Program}{ts:List D}{H:List Row}{K:Bool→D→List Row→Prop}(x:SV):stepDr P ts H (.b2s x) K=(bind' (elemsS H 1 (x.ev ts)) fun p=>bind' (bytesOf? (p.2.map .f)) fun l=>p.2.length=p.1∧(K false) (.f (.v (.string ⟨l.toArray⟩))) H):=id rfl
theorem viewS_b2s {ts:List D}{H:List Row}(x:SV):viewS ts H (.b2s x)=dedN (refsL ([x.ev ts])):=id rfl
theorem turns_b2s (x:SV):SOp.turns (.b2s x)=false:=id rfl
theorem stepDr_strlen {P:Program}{ts:List D}{H:List Row}{K:Bool→D→List Row→Prop}(x:SV):stepDr P ts H (.strlen x) K=(bind' (strOf? (x.ev ts)) fun s=>(K false) (D.int s.size) H):=id rfl
theorem viewS_strlen {ts:List D}{H:List Row}(x:SV):viewS ts H (.strlen x)=[]:=id rfl
theorem turns_strlen (x:SV):SOp.turns (.strlen x)=false:=id rfl
theorem stepDr_aidx {P:Program}{ts:List D}{H:List Row}{K:Bool→D→List Row→Prop}(sz n:Nat)(x i:SV):stepDr P ts H (.aidx sz n x i) K=(aidxS sz n (x.ev ts) (i.ev ts) fun d=>(K false) d H):=id rfl
theorem viewS_aidx {ts:List D}{H:List Row}(sz n:Nat)(x i:SV):viewS ts H (.aidx sz n x i)=[]:=id rfl
theorem turns_aidx (sz n:Nat)(x i:SV):SOp.turns (.aidx sz n x i)=false:=id rfl
theorem stepDr_sidx {P:Program}{ts:List D}{H:List Row}{K:Bool→D→List Row→Prop}(x i:SV):stepDr P ts H (.sidx x i) K=(bind' (strOf? (x.ev ts)) fun s=>bind' (intOf? (i.ev ts)) fun i=>bind' (if 0≤i then s.data.toList[i.toNat]? else none) fun b=>(K false) (.f (.v (.int .u8 b.toNat))) H):=id rfl
theorem viewS_sidx {ts:List D}{H:List Row}(x i:SV):viewS ts H (.sidx x i)=[]:=id rfl
theorem turns_sidx (x i:SV):SOp.turns (.sidx x i)=false:=id rfl
theorem stepDr_ssub {P:Program}{ts:List D}{H:List Row}{K:Bool→D→List Row→Prop}(x:SV)(lo hi:Option SV):stepDr P ts H (.ssub x lo hi) K=(bind' (ssubS (x.ev ts) (lo.map (SV.ev ts)) (hi.map (SV.ev ts))) fun d=>(K false) d H):=id rfl
theorem viewS_ssub {ts:List D}{H:List Row}(x:SV)(lo hi:Option SV):viewS ts H (.ssub x lo hi)=[]:=id rfl
theorem turns_ssub (x:SV)(lo hi:Option SV):SOp.turns (.ssub x lo hi)=false:=id rfl
theorem stepDr_look {P:Program}{ts:List D}{H:List Row}{K:Bool→D→List Row→Prop}(ok:Bool)(K0:TypeId)(z:D)(m k:SV):stepDr P ts H (.look ok K0 z m k) K=(bind' (lookS P H ok K0 z (m.ev ts) (k.ev ts)) fun d=>(K false) d H):=id rfl
theorem viewS_look {ts:List D}{H:List Row}(ok:Bool)(K0:TypeId)(z:D)(m k:SV):viewS ts H (.look ok K0 z m k)=dedN (refsL ([m.ev ts,k.ev ts])):=id rfl
theorem turns_look (ok:Bool)(K0:TypeId)(z:D)(m k:SV):SOp.turns (.look ok K0 z m k)=false:=id rfl
theorem stepDr_mput {P:Program}{ts:List D}{H:List Row}{K:Bool→D→List Row→Prop}(K0:TypeId)(m k x:SV):stepDr P ts H (.mput K0 m k x) K=(bind' (mputS P H K0 (m.ev ts) (k.ev ts) (x.ev ts)) fun H'=>(K true) D.undef H'):=id rfl
theorem viewS_mput {ts:List D}{H:List Row}(K0:TypeId)(m k x:SV):viewS ts H (.mput K0 m k x)=dedN (refsL ([m.ev ts,k.ev ts,x.ev ts])):=id rfl
theorem turns_mput (K0:TypeId)(m k x:SV):SOp.turns (.mput K0 m k x)=true:=id rfl
theorem stepDr_mdel {P:Program}{ts:List D}{H:List Row}{K:Bool→D→List Row→Prop}(K0:TypeId)(m k:SV):stepDr P ts H (.mdel K0 m k) K=(bind' (mdelS P H K0 (m.ev ts) (k.ev ts)) fun H'=>(K true) (.tp []) H'):=id rfl
theorem viewS_mdel {ts:List D}{H:List Row}(K0:TypeId)(m k:SV):viewS ts H (.mdel K0 m k)=dedN (refsL ([m.ev ts,k.ev ts])):=id rfl
theorem turns_mdel (K0:TypeId)(m k:SV):SOp.turns (.mdel K0 m k)=true:=id rfl
theorem stepDr_clr {P:Program}{ts:List D}{H:List Row}{K:Bool→D→List Row→Prop}(T:TypeId)(x:SV):stepDr P ts H (.clr T x) K=(bind' (clearS P H T (x.ev ts)) fun H'=>(K true) (.tp []) H'):=id rfl
theorem viewS_clr {ts:List D}{H:List Row}(T:TypeId)(x:SV):viewS ts H (.clr T x)=dedN (refsL ([x.ev ts])):=id rfl
theorem turns_clr (T:TypeId)(x:SV):SOp.turns (.clr T x)=true:=id rfl
theorem stepDr_mm {P:Program}{ts:List D}{H:List Row}{K:Bool→D→List Row→Prop}(mx:Bool)(x y:SV):stepDr P ts H (.mm mx x y) K=(bind' (intOf? (x.ev ts)) fun a=>bind' (intOf? (y.ev ts)) fun b=>(K false) (D.int (if mx then max a b else min a b)) H):=id rfl
theorem viewS_mm {ts:List D}{H:List Row}(mx:Bool)(x y:SV):viewS ts H (.mm mx x y)=[]:=id rfl
theorem turns_mm (mx:Bool)(x y:SV):SOp.turns (.mm mx x y)=false:=id rfl
theorem stepDr_call {P:Program}{ts:List D}{H:List Row}{K:Bool→D→List Row→Prop}(f:SV)(args:List SV):stepDr P ts H (.call f args) K=callDr P (f.ev ts) (args.map (SV.ev ts)) H K:=id rfl
theorem viewS_call {ts:List D}{H:List Row}(f:SV)(args:List SV):viewS ts H (.call f args)=dedN (lvl H (lvl H (lvl H (refsL (args.map (SV.ev ts))++(f.ev ts).refs)))):=id rfl
theorem turns_call (f:SV)(args:List SV):SOp.turns (.call f args)=true:=id rfl
theorem stepDr_sub0 {P:Program}{ts:List D}{H:List Row}{K:Bool→D→List Row→Prop}(sz:Nat)(E:TypeId)(x:SV):stepDr P ts H (.sub sz E x none none none) K=(bind' (slcS (x.ev ts)) fun n=>(0≤(0:Int)∧(0:Int)≤n∧(n:Int)≤n)∧bind' (subS H sz E (x.ev ts) (0:Int).toNat (n:Int).toNat) fun d=>(K false) d H):=id rfl
theorem viewS_sub0 {ts:List D}{H:List Row}(sz:Nat)(E:TypeId)(x:SV):viewS ts H (.sub sz E x none none none)=dedN (refsL ([x.ev ts])):=id rfl
theorem turns_sub0 (sz:Nat)(E:TypeId)(x:SV):SOp.turns (.sub sz E x none none none)=false:=id rfl
theorem stepDr_subl {P:Program}{ts:List D}{H:List Row}{K:Bool→D→List Row→Prop}(sz:Nat)(E:TypeId)(x l:SV):stepDr P ts H (.sub sz E x (some l) none none) K=(bind' (slcS (x.ev ts)) fun n=>bind' (intOf? (l.ev ts)) fun l=>(0≤l∧l≤n∧(n:Int)≤n)∧bind' (subS H sz E (x.ev ts) l.toNat (n:Int).toNat) fun d=>(K false) d H):=id rfl
theorem viewS_subl {ts:List D}{H:List Row}(sz:Nat)(E:TypeId)(x l:SV):viewS ts H (.sub sz E x (some l) none none)=dedN (refsL ([x.ev ts,l.ev ts])):=id rfl
theorem turns_subl (sz:Nat)(E:TypeId)(x l:SV):SOp.turns (.sub sz E x (some l) none none)=false:=id rfl
theorem stepDr_subh {P:Program}{ts:List D}{H:List Row}{K:Bool→D→List Row→Prop}(sz:Nat)(E:TypeId)(x h:SV):stepDr P ts H (.sub sz E x none (some h) none) K=(bind' (slcS (x.ev ts)) fun n=>bind' (intOf? (h.ev ts)) fun h=>(0≤(0:Int)∧0≤h∧h≤n)∧bind' (subS H sz E (x.ev ts) (0:Int).toNat h.toNat) fun d=>(K false) d H):=id rfl
theorem viewS_subh {ts:List D}{H:List Row}(sz:Nat)(E:TypeId)(x h:SV):viewS ts H (.sub sz E x none (some h) none)=dedN (refsL ([x.ev ts,h.ev ts])):=id rfl
theorem turns_subh (sz:Nat)(E:TypeId)(x h:SV):SOp.turns (.sub sz E x none (some h) none)=false:=id rfl
theorem stepDr_sublh {P:Program}{ts:List D}{H:List Row}{K:Bool→D→List Row→Prop}(sz:Nat)(E:TypeId)(x l h:SV):stepDr P ts H (.sub sz E x (some l) (some h) none) K=(bind' (slcS (x.ev ts)) fun n=>bind' (intOf? (l.ev ts)) fun l=>bind' (intOf? (h.ev ts)) fun h=>(0≤l∧l≤h∧h≤n)∧bind' (subS H sz E (x.ev ts) l.toNat h.toNat) fun d=>(K false) d H):=id rfl
theorem viewS_sublh {ts:List D}{H:List Row}(sz:Nat)(E:TypeId)(x l h:SV):viewS ts H (.sub sz E x (some l) (some h) none)=dedN (refsL ([x.ev ts,l.ev ts,h.ev ts])):=id rfl
theorem turns_sublh (sz:Nat)(E:TypeId)(x l h:SV):SOp.turns (.sub sz E x (some l) (some h) none)=false:=id rfl
theorem stepDr_subm {P:Program}{ts:List D}{H:List Row}{K:Bool→D→List Row→Prop}(sz:Nat)(E:TypeId)(x l h m:SV):stepDr P ts H (.sub sz E x (some l) (some h) (some m)) K=(bind' (slcS (x.ev ts)) fun n=>bind' (intOf? (l.ev ts)) fun l=>bind' (intOf? (h.ev ts)) fun h=>(0≤l∧l≤h∧h≤n)∧(intOf? (m.ev ts)=some l∧l=h∧(some h).isSome=true)∧(K false) (mxS (x.ev ts)) H):=id rfl
theorem viewS_subm {ts:List D}{H:List Row}(sz:Nat)(E:TypeId)(x l h m:SV):viewS ts H (.sub sz E x (some l) (some h) (some m))=dedN (refsL ([x.ev ts,l.ev ts,h.ev ts,m.ev ts])):=id rfl
theorem turns_subm (sz:Nat)(E:TypeId)(x l h m:SV):SOp.turns (.sub sz E x (some l) (some h) (some m))=false:=id rfl
theorem stepDr_subm0 {P:Program}{ts:List D}{H:List Row}{K:Bool→D→List Row→Prop}(sz:Nat)(E:TypeId)(x h m:SV):stepDr P ts H (.sub sz E x none (some h) (some m)) K=(bind' (slcS (x.ev ts)) fun n=>bind' (intOf? (h.ev ts)) fun h=>(0≤(0:Int)∧0≤h∧h≤n)∧(intOf? (m.ev ts)=some 0∧(0:Int)=h∧(some h).isSome=true)∧(K false) (mxS (x.ev ts)) H):=id rfl
theorem viewS_subm0 {ts:List D}{H:List Row}(sz:Nat)(E:TypeId)(x h m:SV):viewS ts H (.sub sz E x none (some h) (some m))=dedN (refsL ([x.ev ts,h.ev ts,m.ev ts])):=id rfl
theorem turns_subm0 (sz:Nat)(E:TypeId)(x h m:SV):SOp.turns (.sub sz E x none (some h) (some m))=false:=id rfl
def hasB:List Nat→Nat→Bool
 | [],_=>false
 | x :: xs,i=>if x=i then true else hasB xs i
theorem hasB_eq:∀ (V:List Nat) (i:Nat),hasB V i=V.contains i
 | [],_=>rfl
 | x :: xs,i=>by
  simp only [hasB,List.contains_cons,hasB_eq xs i]
  by_cases h:x=i
  ·simp [h]
  ·simp [h,Ne.symm h]
def msk (V:List Nat):Nat→List Row→List Row
 | _,[]=>[]
 | i,r :: H=>(if hasB V i=true then r else .dead) :: msk V (i+1) H
theorem msk_eq (V:List Nat):∀ (H:List Row) (k:Nat),((H.zipIdx k).map fun p=>if V.contains p.2 then p.1 else .dead)=msk V k H
 | [],_=>rfl
 | r :: H,k=>by
  simp only [List.zipIdx_cons,List.map_cons,msk,hasB_eq]
  rw [msk_eq V H (k+1)]
theorem maskV_msk {V:List Nat}{H:List Row}:maskV V H=msk V 0 H:=msk_eq V H 0
theorem msk_nil {V:List Nat}{i:Nat}:msk V i []=[]:=id rfl
theorem msk_cons {V:List Nat}{i:Nat}{r:Row}{H:List Row}:msk V i (r :: H)=(if hasB V i=true then r else .dead) :: msk V (i+1) H:=id rfl
theorem hasB_nil {i:Nat}:hasB [] i=false:=id rfl
theorem hasB_cons {x i:Nat}{xs:List Nat}:hasB (x :: xs) i=if x=i then true else hasB xs i:=id rfl
theorem dedN_nil:dedN []=[]:=id rfl
theorem dedN_cons {x:Nat}{xs:List Nat}:dedN (x :: xs)=if hasB xs x=true then dedN xs else x :: dedN xs:=by rw [hasB_eq];rfl
theorem refsL_nil:refsL []=[]:=id rfl
theorem refsL_cons {d:D}{ds:List D}:refsL (d :: ds)=d.refs++refsL ds:=id rfl
theorem refs_f {x:F}:D.refs (.f x)=[]:=id rfl
theorem refs_sl {r o n:Nat}:D.refs (.sl r o n)=[r]:=id rfl
theorem refs_pt {r o:Nat}:D.refs (.pt r o)=[r]:=id rfl
theorem refs_mp {r:Nat}:D.refs (.mp r)=[r]:=id rfl
theorem refs_rf {xs:List F}:D.refs (.rf xs)=[]:=id rfl
theorem refs_junk:D.refs .junk=[]:=id rfl
theorem refs_goL (ds:List D):D.refs.go ds=refsL ds:=by
 induction ds with
 | nil=>rfl
 | cons d ds ih=>simp only [D.refs.go,refsL,ih]
theorem refs_ag {ds:List D}:D.refs (.ag ds)=refsL ds:=by rw [D.refs,refs_goL]
theorem refs_tp {ds:List D}:D.refs (.tp ds)=refsL ds:=by rw [D.refs,refs_goL]
theorem refs_fn {f:FuncId}{ds:List D}:D.refs (.fn f ds)=refsL ds:=by rw [D.refs,refs_goL]
theorem lvl_nil {H:List Row}:lvl H []=[]:=id rfl
theorem lvl_cons {H:List Row}{r:Nat}{rs:List Nat}:lvl H (r :: rs)=r :: (rowRefs H[r]?++lvl H rs):=id rfl
theorem rowRefs_box {T:TypeId}{ds:List D}:rowRefs (some (.box T ds))=refsL ds:=by
 simp only [rowRefs,Row.refs]
 induction ds with
 | nil=>rfl
 | cons d ds ih=>simp only [List.flatMap_cons,refsL,ih]
theorem rowRefs_data {T:TypeId}{xs:List F}:rowRefs (some (.data T xs))=[]:=id rfl
theorem rowRefs_froz {T:TypeId}{xs:List F}:rowRefs (some (.froz T xs))=[]:=id rfl
theorem rowRefs_map {es:List (Value × D)}:rowRefs (some (.map es))=[]:=id rfl
theorem rowRefs_dead  : rowRefs (some (.dead))=[]:=id rfl
theorem effS_f {V:List Nat}{n:Nat}{d:D}{H1:List Row}:effS false V n d H1=⟨d,[],H1.drop n⟩:=id rfl
theorem effS_t {V:List Nat}{n:Nat}{d:D}{H1:List Row}:effS true V n d H1=⟨d,V.map fun r=>(r,H1.getD r .dead),H1.drop n⟩:=id rfl
theorem heap_mk {d:D}{u:List (Nat × Row)}{n H:List Row}:(⟨d,u,n⟩:Eff).heap H=applyUpd H u++n:=id rfl
theorem applyUpd_cons {H:List Row}{i:Nat}{r:Row}{us:List (Nat × Row)}:applyUpd H ((i,r) :: us)=applyUpd (H.set i r) us:=id rfl
theorem getD_0 {α:Type}{a d:α}{l:List α}:(a :: l).getD 0 d=a:=id rfl
theorem getD_s {α:Type}{a d:α}{l:List α}{n:Nat}:(a :: l).getD (n+1) d=l.getD n d:=id rfl
section
variable {P:Program}
theorem callDr_emb {g:FuncId}{caps args args0:List D}{H H0 H1:List Row}{d0:D}{K:Bool→D→List Row→Prop}(h:Con P g args0 H0 fun d H'=>d=d0∧H'=H1)(ι:List Nat)(hb:embOk ι H.length H0 args0=true)(ha:args++caps=args0.map (renE (ren ι H.length)))
  (hr:(ι.map fun r=>H.getD r .dead)=H0.map (renR (ren ι H.length)))
  (hk:K true (renE (ren ι H.length) d0) (putRows (ren ι H.length) ι H1 H++(H1.drop H0.length).map (renR (ren ι H.length)))):callDr P (.fn g caps) args H K:=by
 obtain ⟨g',caps',e,hc⟩:=callW_emb (K:=fun d H'=>d=renE (ren ι H.length) d0∧H'=putRows (ren ι H.length) ι H1 H++(H1.drop H0.length).map (renR (ren ι H.length))) h ι hb ha hr (fun d H' ⟨h1,h2⟩=>by rw [h1,h2];exact ⟨rfl,rfl⟩)
 injection e with e1 e2
 subst e1;subst e2
 exact ⟨true,g,caps,_,_,rfl,hc,hk⟩
theorem callDr_peek {g:FuncId}{caps args args0:List D}{H H1:List Row}{d0:D}{K:Bool→D→List Row→Prop}(h:Con P g args0 [] fun d H'=>d=d0∧H'=H1)(hv:Vws H (args++caps) args0)(hp:PlainD d0∧∀ row∈H1,PlainR row)
  (hk:K false (renE (ren [] H.length) d0) (H++H1.map (renR (ren [] H.length)))):callDr P (.fn g caps) args H K:=by
 obtain ⟨g',caps',e,hc⟩:=callW_peek (K:=fun d H'=>d=renE (ren [] H.length) d0∧H'=H++H1.map (renR (ren [] H.length))) h hv (fun d H' ⟨h1,h2⟩=>by rw [h1,h2];exact hp) (fun d H' ⟨h1,h2⟩=>by rw [h1,h2];exact ⟨rfl,rfl⟩)
 injection e with e1 e2
 subst e1;subst e2
 exact ⟨false,g,caps,_,_,rfl,hc,hk⟩
end
def storeF (H:List Row)(r off:Nat)(x:F)(o:Option Row):Option (List Row):=match o with
 | some (.box U xs)=>if off+1≤xs.length then some (H.set r (.box U (putL off [.f x] xs))) else none
 | some (.data U xs)=>if off+1≤xs.length then some (H.set r (.data U (xs.set off x))) else none
 | _=>none
theorem storeF_box {H:List Row}{r off:Nat}{x:F}{U:TypeId}{xs:List D}:storeF H r off x (some (.box U xs))=if off+1≤xs.length then some (H.set r (.box U (putL off [.f x] xs))) else none:=id rfl
theorem storeF_data {H:List Row}{r off:Nat}{x:F}{U:TypeId}{xs:List F}:storeF H r off x (some (.data U xs))=if off+1≤xs.length then some (H.set r (.data U (xs.set off x))) else none:=id rfl
theorem storeS_1f {P:Program}{H:List Row}{r off:Nat}{x:F}:storeS P H 1 (.pt r off) (.f x)=storeF H r off x H[r]?:=by
 rw [storeS_pt]
 generalize hr:H[r]?=o
 cases o with
 | none=>rfl
 | some row =>
  cases row with
  | data U xs=>rw [storeR_f hr];rfl
  | box U xs=>simp [storeR,storeF,okCell,D.cells]
  | _=>rfl
theorem storeS_n {P:Program}{H:List Row}{n r off:Nat}{x:D}:storeS P H (n+2) (.pt r off) x=storeR P H (n+2) r off x H[r]?:=storeS_pt
theorem storeS_1sl {P:Program}{H:List Row}{r off a b c:Nat}:storeS P H 1 (.pt r off) (.sl a b c)=storeR P H 1 r off (.sl a b c) H[r]?:=storeS_pt
theorem storeS_1pt {P:Program}{H:List Row}{r off a b:Nat}:storeS P H 1 (.pt r off) (.pt a b)=storeR P H 1 r off (.pt a b) H[r]?:=storeS_pt
theorem storeS_1mp {P:Program}{H:List Row}{r off a:Nat}:storeS P H 1 (.pt r off) (.mp a)=storeR P H 1 r off (.mp a) H[r]?:=storeS_pt
theorem storeS_1rf {P:Program}{H:List Row}{r off:Nat}{a:List F}:storeS P H 1 (.pt r off) (.rf a)=storeR P H 1 r off (.rf a) H[r]?:=storeS_pt
theorem storeS_1fn {P:Program}{H:List Row}{r off:Nat}{f:FuncId}{a:List D}:storeS P H 1 (.pt r off) (.fn f a)=storeR P H 1 r off (.fn f a) H[r]?:=storeS_pt
end Go.Proofs.YtahoaijkchgdaaaGreatDoor.Mir
namespace Go.Proofs.YtahoaijkchgdaaaGreatDoor.Mir
open Go Go.RowKit
theorem LD:(((((((type_of% @W_mv∧type_of% @W_pick)∧(type_of% @W_alloc∧type_of% @W_box))∧((type_of% @W_load1∧type_of% @W_loadA)∧(type_of% @W_store∧(type_of% @W_nilc∧type_of% @W_off))))∧(((type_of% @W_fld1∧type_of% @W_fldA)∧(type_of% @W_idx∧type_of% @W_arr))∧((type_of% @W_ext∧type_of% @W_bin)∧(type_of% @W_binb∧(type_of% @W_aeq∧type_of% @W_nilq)))))∧((((type_of% @W_unot∧type_of% @W_fn)∧(type_of% @W_mkmap∧type_of% @W_mkslice))∧((type_of% @W_bld∧type_of% @W_bsl)∧(type_of% @W_app∧(type_of% @W_slen∧type_of% @W_mlen))))∧(((type_of% @W_conv∧type_of% @W_s2b)∧(type_of% @W_b2s∧type_of% @W_strlen))∧((type_of% @W_aidx∧type_of% @W_sidx)∧(type_of% @W_ssub∧(type_of% @W_look∧type_of% @W_mput))))))∧(((((type_of% @W_mdel∧type_of% @W_clr)∧(type_of% @W_mm∧type_of% @W_call))∧((type_of% @W_sub0∧type_of% @W_subl)∧(type_of% @W_subh∧(type_of% @W_sublh∧type_of% @W_subm))))∧(((type_of% @W_subm0∧type_of% @binS_int)∧(type_of% @binS_str∧type_of% @aeqS_ag))∧((type_of% @aidxS_ag∧type_of% @binbS_b)∧(type_of% @intS_shl∧(type_of% @intS_shr∧type_of% @intS_and)))))∧((((type_of% @intS_or∧type_of% @intS_xor)∧(type_of% @intS_add∧type_of% @intS_sub))∧((type_of% @intS_mul∧type_of% @intS_quo)∧(type_of% @intS_rem∧(type_of% @intS_eql∧type_of% @intS_neq))))∧(((type_of% @intS_lss∧type_of% @intS_leq)∧(type_of% @intS_gtr∧type_of% @intS_geq))∧((type_of% @strS_add∧type_of% @strS_eql)∧(type_of% @strS_neq∧(type_of% @strS_lss∧type_of% @strS_gtr)))))))∧((((((type_of% @strS_leq∧type_of% @strS_geq)∧(type_of% @boolS_eql∧type_of% @boolS_neq))∧((type_of% @idxS_sl∧type_of% @idxS_s)∧(type_of% @arrS_pt∧(type_of% @pickS_t∧type_of% @pickS_f))))∧(((type_of% @pickS_b∧type_of% @nilq_145)∧(type_of% @nilq_146∧type_of% @nilq_147))∧((type_of% @nilq_148∧type_of% @nilq_149)∧(type_of% @nilq_150∧(type_of% @nilq_151∧type_of% @appS_nil)))))∧((((type_of% @appS_e∧type_of% @appS_sl)∧(type_of% @appR_data∧type_of% @wantV_t))∧((type_of% @wantV_u∧type_of% @stepDr_mv)∧(type_of% @stepDr_pick∧(type_of% @stepDr_alloc∧type_of% @stepDr_box))))∧(((type_of% @stepDr_load1∧type_of% @stepDr_loadA)∧(type_of% @stepDr_store∧type_of% @stepDr_nilc))∧((type_of% @stepDr_off∧type_of% @stepDr_fld1)∧(type_of% @stepDr_fldA∧(type_of% @stepDr_idx∧type_of% @stepDr_arr))))))∧(((((type_of% @stepDr_ext∧type_of% @stepDr_bin)∧(type_of% @stepDr_binb∧type_of% @stepDr_aeq))∧((type_of% @stepDr_unot∧type_of% @stepDr_fn)∧(type_of% @stepDr_mkmap∧(type_of% @stepDr_mkslice∧type_of% @stepDr_bld))))∧(((type_of% @stepDr_bsl∧type_of% @stepDr_app)∧(type_of% @stepDr_slen∧type_of% @stepDr_mlen))∧((type_of% @stepDr_conv∧type_of% @stepDr_s2b)∧(type_of% @stepDr_b2s∧(type_of% @stepDr_strlen∧type_of% @stepDr_aidx)))))∧((((type_of% @stepDr_sidx∧type_of% @stepDr_ssub)∧(type_of% @stepDr_look∧type_of% @stepDr_mput))∧((type_of% @stepDr_mdel∧type_of% @stepDr_clr)∧(type_of% @stepDr_mm∧(type_of% @stepDr_call∧type_of% @stepDr_sub0))))∧(((type_of% @stepDr_subl∧type_of% @stepDr_subh)∧(type_of% @stepDr_sublh∧(type_of% @stepDr_subm∧type_of% @stepDr_subm0)))∧((type_of% @Bsel_true∧type_of% @Bsel_false)∧(type_of% @bind'_some∧(type_of% @Two_true∧type_of% @Two_false)))))))):=(.intro (.intro (.intro (.intro (.intro (.intro (.intro @W_mv @W_pick) (.intro @W_alloc @W_box)) (.intro (.intro @W_load1 @W_loadA) (.intro @W_store (.intro @W_nilc @W_off)))) (.intro (.intro (.intro @W_fld1 @W_fldA) (.intro @W_idx @W_arr)) (.intro (.intro @W_ext @W_bin) (.intro @W_binb (.intro @W_aeq @W_nilq))))) (.intro (.intro (.intro (.intro @W_unot @W_fn) (.intro @W_mkmap @W_mkslice)) (.intro (.intro @W_bld @W_bsl) (.intro @W_app (.intro @W_slen @W_mlen)))) (.intro (.intro (.intro @W_conv @W_s2b) (.intro @W_b2s @W_strlen)) (.intro (.intro @W_aidx @W_sidx) (.intro @W_ssub (.intro @W_look @W_mput)))))) (.intro (.intro (.intro (.intro (.intro @W_mdel @W_clr) (.intro @W_mm @W_call)) (.intro (.intro @W_sub0 @W_subl) (.intro @W_subh (.intro @W_sublh @W_subm)))) (.intro (.intro (.intro @W_subm0 @binS_int) (.intro @binS_str @aeqS_ag)) (.intro (.intro @aidxS_ag @binbS_b) (.intro @intS_shl (.intro @intS_shr @intS_and))))) (.intro (.intro (.intro (.intro @intS_or @intS_xor) (.intro @intS_add @intS_sub)) (.intro (.intro @intS_mul @intS_quo) (.intro @intS_rem (.intro @intS_eql @intS_neq)))) (.intro (.intro (.intro @intS_lss @intS_leq) (.intro @intS_gtr @intS_geq)) (.intro (.intro @strS_add @strS_eql) (.intro @strS_neq (.intro @strS_lss @strS_gtr))))))) (.intro (.intro (.intro (.intro (.intro (.intro @strS_leq @strS_geq) (.intro @boolS_eql @boolS_neq)) (.intro (.intro @idxS_sl @idxS_s) (.intro @arrS_pt (.intro @pickS_t @pickS_f)))) (.intro (.intro (.intro @pickS_b @nilq_145) (.intro @nilq_146 @nilq_147)) (.intro (.intro @nilq_148 @nilq_149) (.intro @nilq_150 (.intro @nilq_151 @appS_nil))))) (.intro (.intro (.intro (.intro @appS_e @appS_sl) (.intro @appR_data @wantV_t)) (.intro (.intro @wantV_u @stepDr_mv) (.intro @stepDr_pick (.intro @stepDr_alloc @stepDr_box)))) (.intro (.intro (.intro @stepDr_load1 @stepDr_loadA) (.intro @stepDr_store @stepDr_nilc)) (.intro (.intro @stepDr_off @stepDr_fld1) (.intro @stepDr_fldA (.intro @stepDr_idx @stepDr_arr)))))) (.intro (.intro (.intro (.intro (.intro @stepDr_ext @stepDr_bin) (.intro @stepDr_binb @stepDr_aeq)) (.intro (.intro @stepDr_unot @stepDr_fn) (.intro @stepDr_mkmap (.intro @stepDr_mkslice @stepDr_bld)))) (.intro (.intro (.intro @stepDr_bsl @stepDr_app) (.intro @stepDr_slen @stepDr_mlen)) (.intro (.intro @stepDr_conv @stepDr_s2b) (.intro @stepDr_b2s (.intro @stepDr_strlen @stepDr_aidx))))) (.intro (.intro (.intro (.intro @stepDr_sidx @stepDr_ssub) (.intro @stepDr_look @stepDr_mput)) (.intro (.intro @stepDr_mdel @stepDr_clr) (.intro @stepDr_mm (.intro @stepDr_call @stepDr_sub0)))) (.intro (.intro (.intro @stepDr_subl @stepDr_subh) (.intro @stepDr_sublh (.intro @stepDr_subm @stepDr_subm0))) (.intro (.intro @Bsel_true @Bsel_false) (.intro @bind'_some (.intro @Two_true @Two_false))))))))
theorem LU:(((((((type_of% @ev_t∧(type_of% @ev_c∧type_of% @boxD_f))∧((type_of% @okCell_f∧type_of% @cells_f)∧(type_of% @boxD_sl∧type_of% @okCell_sl)))∧(((type_of% @cells_sl∧type_of% @boxD_pt)∧(type_of% @okCell_pt∧type_of% @cells_pt))∧((type_of% @boxD_mp∧type_of% @okCell_mp)∧(type_of% @cells_mp∧type_of% @boxD_rf))))∧((((type_of% @okCell_rf∧type_of% @cells_rf)∧(type_of% @boxD_ag∧type_of% @okCell_ag))∧((type_of% @cells_ag∧type_of% @boxD_fn)∧(type_of% @okCell_fn∧type_of% @cells_fn)))∧(((type_of% @load1_pt∧type_of% @load1_rf)∧(type_of% @load1R_box∧type_of% @load1R_data))∧((type_of% @load1R_froz∧type_of% @loadA_pt)∧(type_of% @loadAR_box∧type_of% @loadAR_data)))))∧((((type_of% @loadAR_froz∧(type_of% @offD_pt∧type_of% @offD_rf))∧((type_of% @fld1_ag∧type_of% @fldA_ag)∧(type_of% @nilcD_pt∧type_of% @nilcD_rf)))∧(((type_of% @nilcD_fn∧type_of% @extD_tp)∧(type_of% @storeR_box∧type_of% @storeR_f))∧((type_of% @putL_nil0∧type_of% @putL_cons0)∧(type_of% @putL_succ∧type_of% @shQ_self))))∧((((type_of% @shQ_shl∧type_of% @shQ_shr)∧(type_of% @notS_b∧type_of% @convS_i))∧((type_of% @intOf_i∧type_of% @strOf_s)∧(type_of% @slcS_sl∧type_of% @slcS_s)))∧(((type_of% @slcS_e∧type_of% @slcS_nil)∧(type_of% @nilS_R∧type_of% @nilR_ss))∧((type_of% @isNil_142∧type_of% @isNil_143)∧(type_of% @isNil_144∧type_of% @isNil_s))))))∧(((((type_of% @isNil_sl∧(type_of% @isNil_pt∧type_of% @isNil_rf))∧((type_of% @isNil_mp∧type_of% @subS_sl)∧(type_of% @subR_data∧type_of% @subR_froz)))∧(((type_of% @subS_s∧type_of% @subS_e)∧(type_of% @subS_nil∧type_of% @mxS_nil))∧((type_of% @mxS_s∧type_of% @mxS_e)∧(type_of% @mxS_sl∧type_of% @fillS_nil))))∧((((type_of% @fillS_cons∧type_of% @freeze_nil)∧(type_of% @freeze_f∧type_of% @freezeR_s))∧((type_of% @applyUpd_nil∧type_of% @fs_nil)∧(type_of% @fs_cons∧type_of% @elemsS_nil)))∧(((type_of% @elemsS_e∧type_of% @elemsS_s)∧(type_of% @elemsS_sl∧type_of% @elemsR_data))∧((type_of% @elemsR_froz∧type_of% @mapEs_nil)∧(type_of% @mapEs_mp∧type_of% @mapER_map)))))∧(((((type_of% @Dint∧type_of% @Dbool)∧(type_of% @Dv∧type_of% @Dundef))∧((type_of% @ren_nil∧type_of% @renE_f)∧(type_of% @renE_sl∧type_of% @renE_pt)))∧(((type_of% @renE_mp∧type_of% @renE_rf)∧(type_of% @renE_ag∧type_of% @renE_tp))∧((type_of% @renE_fn∧type_of% @renR_box)∧(type_of% @renR_data∧type_of% @renR_froz))))∧((((type_of% @renR_map∧type_of% @renR_dead)∧(type_of% @putRows_nil∧type_of% @putRows_cons))∧((type_of% @putD_some∧type_of% @putD_none)∧(type_of% @range_zero∧type_of% @wpDr_nil)))∧(((type_of% @wpDr_a∧type_of% @wpDr_n)∧(type_of% @wpDr_g∧type_of% @drStep_def))∧((type_of% @viewS_mv∧type_of% @turns_mv)∧(type_of% @viewS_pick∧type_of% @turns_pick)))))))∧((((((type_of% @viewS_alloc∧(type_of% @turns_alloc∧type_of% @viewS_box))∧((type_of% @turns_box∧type_of% @viewS_load1)∧(type_of% @turns_load1∧type_of% @viewS_loadA)))∧(((type_of% @turns_loadA∧type_of% @viewS_store)∧(type_of% @turns_store∧type_of% @viewS_nilc))∧((type_of% @turns_nilc∧type_of% @viewS_off)∧(type_of% @turns_off∧type_of% @viewS_fld1))))∧((((type_of% @turns_fld1∧type_of% @viewS_fldA)∧(type_of% @turns_fldA∧type_of% @viewS_idx))∧((type_of% @turns_idx∧type_of% @viewS_arr)∧(type_of% @turns_arr∧type_of% @viewS_ext)))∧(((type_of% @turns_ext∧type_of% @viewS_bin)∧(type_of% @turns_bin∧type_of% @viewS_binb))∧((type_of% @turns_binb∧type_of% @viewS_aeq)∧(type_of% @turns_aeq∧type_of% @viewS_unot)))))∧(((((type_of% @turns_unot∧type_of% @viewS_fn)∧(type_of% @turns_fn∧type_of% @viewS_mkmap))∧((type_of% @turns_mkmap∧type_of% @viewS_mkslice)∧(type_of% @turns_mkslice∧type_of% @viewS_bld)))∧(((type_of% @turns_bld∧type_of% @viewS_bsl)∧(type_of% @turns_bsl∧type_of% @viewS_app))∧((type_of% @turns_app∧type_of% @viewS_slen)∧(type_of% @turns_slen∧type_of% @viewS_mlen))))∧((((type_of% @turns_mlen∧type_of% @viewS_conv)∧(type_of% @turns_conv∧type_of% @viewS_s2b))∧((type_of% @turns_s2b∧type_of% @viewS_b2s)∧(type_of% @turns_b2s∧type_of% @viewS_strlen)))∧(((type_of% @turns_strlen∧type_of% @viewS_aidx)∧(type_of% @turns_aidx∧type_of% @viewS_sidx))∧((type_of% @turns_sidx∧type_of% @viewS_ssub)∧(type_of% @turns_ssub∧type_of% @viewS_look))))))∧(((((type_of% @turns_look∧(type_of% @viewS_mput∧type_of% @turns_mput))∧((type_of% @viewS_mdel∧type_of% @turns_mdel)∧(type_of% @viewS_clr∧type_of% @turns_clr)))∧(((type_of% @viewS_mm∧type_of% @turns_mm)∧(type_of% @viewS_call∧type_of% @turns_call))∧((type_of% @viewS_sub0∧type_of% @turns_sub0)∧(type_of% @viewS_subl∧type_of% @turns_subl))))∧((((type_of% @viewS_subh∧type_of% @turns_subh)∧(type_of% @viewS_sublh∧type_of% @turns_sublh))∧((type_of% @viewS_subm∧type_of% @turns_subm)∧(type_of% @viewS_subm0∧type_of% @turns_subm0)))∧(((type_of% @maskV_msk∧type_of% @msk_nil)∧(type_of% @msk_cons∧type_of% @hasB_nil))∧((type_of% @hasB_cons∧type_of% @dedN_nil)∧(type_of% @dedN_cons∧type_of% @refsL_nil)))))∧(((((type_of% @refsL_cons∧type_of% @refs_f)∧(type_of% @refs_sl∧type_of% @refs_pt))∧((type_of% @refs_mp∧type_of% @refs_rf)∧(type_of% @refs_junk∧type_of% @refs_ag)))∧(((type_of% @refs_tp∧type_of% @refs_fn)∧(type_of% @lvl_nil∧type_of% @lvl_cons))∧((type_of% @rowRefs_box∧type_of% @rowRefs_data)∧(type_of% @rowRefs_froz∧type_of% @rowRefs_map))))∧((((type_of% @rowRefs_dead∧type_of% @effS_f)∧(type_of% @effS_t∧type_of% @heap_mk))∧((type_of% @applyUpd_cons∧type_of% @getD_0)∧(type_of% @getD_s∧type_of% @storeF_box)))∧(((type_of% @storeF_data∧type_of% @storeS_1f)∧(type_of% @storeS_n∧type_of% @storeS_1sl))∧((type_of% @storeS_1pt∧type_of% @storeS_1mp)∧(type_of% @storeS_1rf∧type_of% @storeS_1fn)))))))):=(.intro (.intro (.intro (.intro (.intro (.intro (.intro @ev_t (.intro @ev_c @boxD_f)) (.intro (.intro @okCell_f @cells_f) (.intro @boxD_sl @okCell_sl))) (.intro (.intro (.intro @cells_sl @boxD_pt) (.intro @okCell_pt @cells_pt)) (.intro (.intro @boxD_mp @okCell_mp) (.intro @cells_mp @boxD_rf)))) (.intro (.intro (.intro (.intro @okCell_rf @cells_rf) (.intro @boxD_ag @okCell_ag)) (.intro (.intro @cells_ag @boxD_fn) (.intro @okCell_fn @cells_fn))) (.intro (.intro (.intro @load1_pt @load1_rf) (.intro @load1R_box @load1R_data)) (.intro (.intro @load1R_froz @loadA_pt) (.intro @loadAR_box @loadAR_data))))) (.intro (.intro (.intro (.intro @loadAR_froz (.intro @offD_pt @offD_rf)) (.intro (.intro @fld1_ag @fldA_ag) (.intro @nilcD_pt @nilcD_rf))) (.intro (.intro (.intro @nilcD_fn @extD_tp) (.intro @storeR_box @storeR_f)) (.intro (.intro @putL_nil0 @putL_cons0) (.intro @putL_succ @shQ_self)))) (.intro (.intro (.intro (.intro @shQ_shl @shQ_shr) (.intro @notS_b @convS_i)) (.intro (.intro @intOf_i @strOf_s) (.intro @slcS_sl @slcS_s))) (.intro (.intro (.intro @slcS_e @slcS_nil) (.intro @nilS_R @nilR_ss)) (.intro (.intro @isNil_142 @isNil_143) (.intro @isNil_144 @isNil_s)))))) (.intro (.intro (.intro (.intro (.intro @isNil_sl (.intro @isNil_pt @isNil_rf)) (.intro (.intro @isNil_mp @subS_sl) (.intro @subR_data @subR_froz))) (.intro (.intro (.intro @subS_s @subS_e) (.intro @subS_nil @mxS_nil)) (.intro (.intro @mxS_s @mxS_e) (.intro @mxS_sl @fillS_nil)))) (.intro (.intro (.intro (.intro @fillS_cons @freeze_nil) (.intro @freeze_f @freezeR_s)) (.intro (.intro @applyUpd_nil @fs_nil) (.intro @fs_cons @elemsS_nil))) (.intro (.intro (.intro @elemsS_e @elemsS_s) (.intro @elemsS_sl @elemsR_data)) (.intro (.intro @elemsR_froz @mapEs_nil) (.intro @mapEs_mp @mapER_map))))) (.intro (.intro (.intro (.intro (.intro @Dint @Dbool) (.intro @Dv @Dundef)) (.intro (.intro @ren_nil @renE_f) (.intro @renE_sl @renE_pt))) (.intro (.intro (.intro @renE_mp @renE_rf) (.intro @renE_ag @renE_tp)) (.intro (.intro @renE_fn @renR_box) (.intro @renR_data @renR_froz)))) (.intro (.intro (.intro (.intro @renR_map @renR_dead) (.intro @putRows_nil @putRows_cons)) (.intro (.intro @putD_some @putD_none) (.intro @range_zero @wpDr_nil))) (.intro (.intro (.intro @wpDr_a @wpDr_n) (.intro @wpDr_g @drStep_def)) (.intro (.intro @viewS_mv @turns_mv) (.intro @viewS_pick @turns_pick))))))) (.intro (.intro (.intro (.intro (.intro (.intro @viewS_alloc (.intro @turns_alloc @viewS_box)) (.intro (.intro @turns_box @viewS_load1) (.intro @turns_load1 @viewS_loadA))) (.intro (.intro (.intro @turns_loadA @viewS_store) (.intro @turns_store @viewS_nilc)) (.intro (.intro @turns_nilc @viewS_off) (.intro @turns_off @viewS_fld1)))) (.intro (.intro (.intro (.intro @turns_fld1 @viewS_fldA) (.intro @turns_fldA @viewS_idx)) (.intro (.intro @turns_idx @viewS_arr) (.intro @turns_arr @viewS_ext))) (.intro (.intro (.intro @turns_ext @viewS_bin) (.intro @turns_bin @viewS_binb)) (.intro (.intro @turns_binb @viewS_aeq) (.intro @turns_aeq @viewS_unot))))) (.intro (.intro (.intro (.intro (.intro @turns_unot @viewS_fn) (.intro @turns_fn @viewS_mkmap)) (.intro (.intro @turns_mkmap @viewS_mkslice) (.intro @turns_mkslice @viewS_bld))) (.intro (.intro (.intro @turns_bld @viewS_bsl) (.intro @turns_bsl @viewS_app)) (.intro (.intro @turns_app @viewS_slen) (.intro @turns_slen @viewS_mlen)))) (.intro (.intro (.intro (.intro @turns_mlen @viewS_conv) (.intro @turns_conv @viewS_s2b)) (.intro (.intro @turns_s2b @viewS_b2s) (.intro @turns_b2s @viewS_strlen))) (.intro (.intro (.intro @turns_strlen @viewS_aidx) (.intro @turns_aidx @viewS_sidx)) (.intro (.intro @turns_sidx @viewS_ssub) (.intro @turns_ssub @viewS_look)))))) (.intro (.intro (.intro (.intro (.intro @turns_look (.intro @viewS_mput @turns_mput)) (.intro (.intro @viewS_mdel @turns_mdel) (.intro @viewS_clr @turns_clr))) (.intro (.intro (.intro @viewS_mm @turns_mm) (.intro @viewS_call @turns_call)) (.intro (.intro @viewS_sub0 @turns_sub0) (.intro @viewS_subl @turns_subl)))) (.intro (.intro (.intro (.intro @viewS_subh @turns_subh) (.intro @viewS_sublh @turns_sublh)) (.intro (.intro @viewS_subm @turns_subm) (.intro @viewS_subm0 @turns_subm0))) (.intro (.intro (.intro @maskV_msk @msk_nil) (.intro @msk_cons @hasB_nil)) (.intro (.intro @hasB_cons @dedN_nil) (.intro @dedN_cons @refsL_nil))))) (.intro (.intro (.intro (.intro (.intro @refsL_cons @refs_f) (.intro @refs_sl @refs_pt)) (.intro (.intro @refs_mp @refs_rf) (.intro @refs_junk @refs_ag))) (.intro (.intro (.intro @refs_tp @refs_fn) (.intro @lvl_nil @lvl_cons)) (.intro (.intro @rowRefs_box @rowRefs_data) (.intro @rowRefs_froz @rowRefs_map)))) (.intro (.intro (.intro (.intro @rowRefs_dead @effS_f) (.intro @effS_t @heap_mk)) (.intro (.intro @applyUpd_cons @getD_0) (.intro @getD_s @storeF_box))) (.intro (.intro (.intro @storeF_data @storeS_1f) (.intro @storeS_n @storeS_1sl)) (.intro (.intro @storeS_1pt @storeS_1mp) (.intro @storeS_1rf @storeS_1fn))))))))
theorem LS:(((((type_of% @wpS_nil∧(type_of% @wpS_a∧type_of% @wpS_n))∧(type_of% @wpS_g∧(type_of% @frm_get∧type_of% @frm_getD)))∧((type_of% @frm_set∧(type_of% @look_cons∧type_of% @look_nil))∧((type_of% @List.set_cons_succ.{0}∧type_of% @List.set_cons_zero.{0})∧(type_of% @List.getElem?_cons_succ.{0}∧type_of% @List.getElem?_cons_zero.{0}))))∧(((type_of% @List.length_cons.{0}∧(type_of% @List.length_nil.{0}∧type_of% @List.cons_append.{0}))∧((type_of% @List.nil_append.{0}∧type_of% @List.map_cons.{0,0})∧(type_of% @List.map_nil.{0,0}∧type_of% @List.take_succ_cons.{0})))∧((type_of% @List.take_zero.{0}∧(type_of% @List.drop_succ_cons.{0}∧type_of% @List.drop_zero.{0}))∧((type_of% @Option.map_some.{0,0}∧type_of% @Option.map_none.{0,0})∧(type_of% @Nat.add_zero∧type_of% @Nat.zero_add)))))∧((((type_of% @Nat.mul_one∧(type_of% @Int.toNat_natCast∧type_of% @Nat.mul_zero))∧(type_of% @Nat.zero_mul∧(type_of% @true_and∧type_of% @and_true)))∧((type_of% @wrap_in∧(type_of% @List.getElem?_drop.{0}∧type_of% @List.getElem?_map.{0,0}))∧((type_of% @List.length_map.{0,0}∧type_of% @Int.natCast_nonneg)∧(type_of% @getElem?_some_of∧type_of% @Bool.false_eq_true))))∧(((type_of% @decide_true∧(type_of% @decide_false∧type_of% @Bool.not_true))∧((type_of% @Bool.not_false∧type_of% @and_self)∧(type_of% @eq_self.{0}∧type_of% @false_implies)))∧((type_of% @or_self∧(type_of% @Bool.and_self∧type_of% @false_or))∧((type_of% @or_false∧type_of% @Bool.false_and)∧(type_of% @Bool.true_beq∧type_of% @Bool.false_beq)))))):=(.intro (.intro (.intro (.intro (.intro @wpS_nil (.intro @wpS_a @wpS_n)) (.intro @wpS_g (.intro @frm_get @frm_getD))) (.intro (.intro @frm_set (.intro @look_cons @look_nil)) (.intro (.intro @List.set_cons_succ.{0} @List.set_cons_zero.{0}) (.intro @List.getElem?_cons_succ.{0} @List.getElem?_cons_zero.{0})))) (.intro (.intro (.intro @List.length_cons.{0} (.intro @List.length_nil.{0} @List.cons_append.{0})) (.intro (.intro @List.nil_append.{0} @List.map_cons.{0,0}) (.intro @List.map_nil.{0,0} @List.take_succ_cons.{0}))) (.intro (.intro @List.take_zero.{0} (.intro @List.drop_succ_cons.{0} @List.drop_zero.{0})) (.intro (.intro @Option.map_some.{0,0} @Option.map_none.{0,0}) (.intro @Nat.add_zero @Nat.zero_add))))) (.intro (.intro (.intro (.intro @Nat.mul_one (.intro @Int.toNat_natCast @Nat.mul_zero)) (.intro @Nat.zero_mul (.intro @true_and @and_true))) (.intro (.intro @wrap_in (.intro @List.getElem?_drop.{0} @List.getElem?_map.{0,0})) (.intro (.intro @List.length_map.{0,0} @Int.natCast_nonneg) (.intro @getElem?_some_of @Bool.false_eq_true)))) (.intro (.intro (.intro @decide_true (.intro @decide_false @Bool.not_true)) (.intro (.intro @Bool.not_false @and_self) (.intro @eq_self.{0} @false_implies))) (.intro (.intro @or_self (.intro @Bool.and_self @false_or)) (.intro (.intro @or_false @Bool.false_and) (.intro @Bool.true_beq @Bool.false_beq))))))
end Go.Proofs.YtahoaijkchgdaaaGreatDoor.Mir
