/- Lemmas for the proof. No condition. -/
import Derived.Test.YtahoaijkchgdaaaGreatDoorSo06
set_option linter.unusedVariables false
set_option linter.unusedSimpArgs false
namespace Go.Proofs.YtahoaijkchgdaaaGreatDoor.Mir
open Go Go.RowKit
inductive SR where
 | t (n:Nat)
 | c1 (a:Nat)
 | cA (n a:Nat)
def n0j (P:Program):List ResultVar→Option (List SR)
 | []=>some []
 | .tmp t :: rs=>(n0j P rs).map (.t t :: ·)
 | .cell a T :: rs=>match e0A P T,inf P T,n0j P rs with
  | some false,_,some l=>some (.c1 a :: l)
  | some true,some (n,_,_),some l=>some (.cA n a :: l)
  | _,_,_=>none
def resS (H:List Row)(ts:List D):List SR→Option (List D)
 | []=>some []
 | .t n :: rs=>match resS H ts rs with
  | some ds=>some (ts.getD n D.undef :: ds)
  | none=>none
 | .c1 a :: rs=>match load1 H (ts.getD a D.undef),resS H ts rs with
  | some d,some ds=>some (d :: ds)
  | _,_=>none
 | .cA n a :: rs=>match loadA H n (ts.getD a D.undef),resS H ts rs with
  | some d,some ds=>some (d :: ds)
  | _,_=>none
section
variable {P:Program}
theorem o0G {H:List Row}{ts:List D}:∀ {rs:List ResultVar} {l:List SR} {ds:List D},n0j P rs=some l→resS H ts l=some ds→b0l P H ts rs=some ds
 | [],l,ds,h,k=>by simp [n0j] at h;subst h;exact k
 | .tmp t :: rs,l,ds,h,k=>by
  simp only [n0j,Option.map_eq_some_iff] at h
  obtain ⟨l',h1,rfl⟩:=h
  simp only [resS] at k
  split at k
  ·rename_i ds' h2
   injection k with k
   subst k
   simp only [b0l,o0G h1 h2,Option.map_some]
  ·cases k
 | .cell a T :: rs,l,ds,h,k=>by
  simp only [n0j] at h
  split at h
  ·rename_i l' hT hl
   injection h with h
   subst h
   simp only [resS] at k
   split at k
   ·rename_i d ds' h1 h2
    injection k with k
    subst k
    simp only [b0l,t0i hT h1,o0G hl h2]
   ·cases k
  ·rename_i n b z l' hT hi hl
   injection h with h
   subst h
   simp only [resS] at k
   split at k
   ·rename_i d ds' h1 h2
    injection k with k
    subst k
    simp only [b0l,v0Q hT hi h1,o0G hl h2]
   ·cases k
  ·cases h
def d0o:Nat→List Row→List Row
 | 0,H=>H
 | _+1,[]=>[]
 | n+1,_ :: H=>.dead :: d0o n H
theorem k0E:∀ (n:Nat) (H:List Row),(d0o n H).length=H.length
 | 0,_=>rfl
 | _+1,[]=>rfl
 | n+1,_ :: H=>by simp [d0o,k0E n H]
theorem f0J:∀ (n:Nat) (H:List Row) (r:Nat),(d0o n H)[r]?=if r<n then (H[r]?).map fun _=>.dead else H[r]?
 | 0,H,r=>by simp [d0o]
 | n+1,[],r=>by simp [d0o]
 | n+1,x :: H,0=>by simp [d0o]
 | n+1,x :: H,r+1=>by simp [d0o,f0J n H r]
def lowB (n:Nat)(H:List Row):Bool:=H.all fun row=>row.refs.all fun r=>Nat.blt r n
inductive RetS (n0:Nat)(rs:List SR)(Q:D→List Row→Prop)(s:St):Prop
 | gather {ds:List D} {e:Eff}:resS s.H s.ts rs=some ds→gather n0 (one ds) (List.range n0) s.H=some e→Q e.res (a0B (s.H.take n0) e.upd++e.news)→RetS n0 rs Q s
 | still {ds:List D} {d0:D}:resS s.H s.ts rs=some ds→lowB n0 (s.H.take n0)=true→Vw (d0o n0 s.H) (one ds) d0→Q d0 (s.H.take n0)→RetS n0 rs Q s
 | all {ds:List D}:resS s.H s.ts rs=some ds→Q (one ds) s.H→RetS n0 rs Q s
def endS (n0:Nat)(rs:List SR)(Q:D→List Row→Prop):Out→St→Prop
 | .exit _,_=>False
 | .normal,s=>RetS n0 rs Q s
 | .ret,s=>RetS n0 rs Q s
def Fn (P:Program)(f:FuncId)(n:Nat)(rs:List SR)(c:SCode):Prop:=∃ fn k,P.funcs[f]?=some fn∧fn.body=some k∧fn.ntmps=n∧n0j P fn.results.toList=some rs∧a0o P k=c
theorem Fn.of {P:Program}{f:FuncId}{fn:Func}{n:Nat}{rs:List SR}{c:SCode}(h:P.funcs[f]?=some fn)(e:(fn.body.map (a0o P),fn.ntmps,n0j P fn.results.toList)=(some c,n,some rs)):Fn P f n rs c:=by
 obtain ⟨e1,e2,e3⟩:=by simpa only [Prod.mk.injEq] using e
 cases hb:fn.body with
 | none=>rw [hb] at e1;cases e1
 | some k=>rw [hb] at e1;exact ⟨fn,k,h,hb,e2,e3,Option.some.inj e1⟩
theorem HR.takeN {w:World}{φ:Nat→Nat × Nat}{X:Nat→Prop}{H:List Row}(h:HR P w φ X H){n:Nat}(hl:lowB n (H.take n)=true)(hn:n≤H.length):HR P w φ X (H.take n)∧∀ b,Av X φ (H.take n) b→Av X φ H b:=by
 have hlen:(H.take n).length=n:=by simp;omega
 have get:∀ (r:Nat) (row:Row),(H.take n)[r]?=some row→r<n∧H[r]?=some row:=by
  intro r row hr
  rw [List.getElem?_take] at hr
  split at hr
  ·exact ⟨‹_›,hr⟩
  ·cases hr
 have ha:∀ b,Av X φ (H.take n) b→Av X φ H b:=by
  rintro b (hb|⟨r,row,hr,hv,rfl⟩)
  ·exact .inl hb
  ·exact .inr ⟨r,row,(get r row hr).2,hv,rfl⟩
 refine ⟨⟨fun r row hr=>?_,fun r s x y hr hs=>h.apart r s x y (get r x hr).2 (get s y hs).2,fun r row hr=>h.off r row (get r row hr).2,h.old,fun p hp=>(h.gl p hp).thin ha⟩,ha⟩
 obtain ⟨h1,h2⟩:=get r row hr
 rw [hlen]
 refine (h.rows r row h2).lower (S:=(· < n)) rfl (fun r hr=>⟨rfl,hr⟩) ha (b0w fun q hq=>?_)
 have h3:=List.all_eq_true.1 hl row (List.mem_of_getElem? hr)
 have h4:=List.all_eq_true.1 h3 q hq
 simpa using h4
theorem c1Z {w w':World}{φ φ':Nat→Nat × Nat}{X:Nat→Prop}{H:List Row}{s:St}{a:Act}{fn:Func}{rs:List SR}(hrs:n0j P fn.results.toList=some rs){Q:D→List Row→Prop}(hq:RetS H.length rs Q s)(hr:RunW P X w φ H w' φ' s a) :
  a.defers=[]∧∃ v,(results fn a.tmps).run P w' = .ok v w'∧∃ v' d H',Ending.returned v = .returned v'∧Q d H'∧LeavesW P w φ X H v' w' d H':=by
 refine ⟨hr.sim.defers,?_⟩
 have hone:∀ ds,resS s.H s.ts rs=some ds→∃ v,(results fn a.tmps).run P w' = .ok v w'∧R P w' φ' (Av X φ' s.H) s.H.length (one ds) v:=by
  intro ds hds
  obtain ⟨us,h1,h2⟩:=e0K hr.sim.heap hr.sim.tmps _ _ (o0G hrs hds)
  refine ⟨if h:us.toArray.size=1 then us.toArray[0] else .tuple us.toArray,?_,?_⟩
  ·unfold results
   rw [Array.mapM_eq_mapM_toList]
   simp at h1
   simp
   exact congrArg (fun r:Result (List Value)=>r.andThen fun a w'=>Result.ok (if h:a.length=1 then a[0] else Value.tuple a.toArray) w') h1
  ·match ds,us,h2 with
   | [],[],_=>exact .tp rfl (fun i d u hd=>by simp at hd)
   | [d],[u],h2=>exact h2.2 0 d u (by simp) (by simp)
   | d :: d2 :: ds,u :: u2 :: us,h2=>exact .tp (by have:=h2.1;simpa using this) (fun i d' u' hd hu=>h2.2 i d' u' hd (by simpa using hu))
   | [],_ :: _,h2=>have:=h2.1;simp at this
   | _ :: _,[],h2=>have:=h2.1;simp at this
   | [_],_ :: _ :: _,h2=>have:=h2.1;simp at this
   | _ :: _ :: _,[_],h2=>have:=h2.1;simp at this
 have hlt:(s.H.take H.length).length=H.length:=by rw [List.length_take];have:=hr.ons.len;omega
 cases hq with
 | gather hds hg hq =>
  obtain ⟨v,h3,h4⟩:=hone _ hds
  obtain ⟨ψ,k1,k2,k3,k4,_⟩:=d0Q hr.sim.heap hr.ons.len hlt h4 (fun r row hr hnd hrow=>absurd (List.mem_range.2 hr) hnd) hg
  exact ⟨v,h3,v,_,_,rfl,hq,ψ,⟨by simp [a0G,hlt],fun r hr'=>(k1 r hr').trans (hr.ons.same r hr'),hr.ons.keep,fun b hb=>hr.ons.fresh b (k4 b hb)⟩,k2,k3⟩
 | all hds hq =>
  obtain ⟨v,h3,h4⟩:=hone _ hds
  exact ⟨v,h3,v,_,_,rfl,hq,φ',hr.ons,hr.sim.heap,h4⟩
 | still hds hlow hv hq =>
  rename_i ds d0
  obtain ⟨v,h3,h4⟩:=hone _ hds
  obtain ⟨t1,t2⟩:=hr.sim.heap.takeN hlow hr.ons.len
  refine ⟨v,h3,v,d0,_,rfl,hq,φ',⟨by rw [hlt];exact Nat.le_refl _,hr.ons.same,hr.ons.keep,fun b hb=>hr.ons.fresh b ?_⟩,t1,?_⟩
  ·obtain ⟨r,row,hx,hl,rfl⟩:=hb
   rw [List.getElem?_take] at hx
   split at hx
   ·exact ⟨r,row,hx,hl,rfl⟩
   ·cases hx
  ·
   have hM:HR P w' φ' (Rest X φ' s.H (d0o H.length s.H)) (d0o H.length s.H):=by
    refine hr.sim.heap.part (S:=fun r=>r<s.H.length) (fun r h=>by rw [k0E];exact h) (fun x row hx=>?_)
    rw [f0J] at hx
    split at hx
    ·rw [Option.map_eq_some_iff] at hx
     obtain ⟨_,_,rfl⟩:=hx
     exact .inl rfl
    ·exact .inr ⟨hx,(hr.sim.heap.rows x row hx).isLow⟩
   have hA:∀ b,Av X φ' (s.H.take H.length) b→Rest X φ' s.H (d0o H.length s.H) b:=by
    rintro b (hb|⟨r,row,hx,hl,rfl⟩)
    ·exact .inl hb
    ·rw [List.getElem?_take] at hx
     split at hx
     ·rename_i hlt'
      refine .inr ⟨r,row,hx,hl,?_,rfl⟩
      rw [f0J,if_pos hlt',hx]
      intro e
      simp at e
      subst e
      simp [Row.live] at hl
     ·cases hx
   have h5:R P w' φ' (Av (Rest X φ' s.H (d0o H.length s.H)) φ' (d0o H.length s.H)) (d0o H.length s.H).length (one ds) v:=by
    rw [k0E]
    refine h4.lower (S:=fun r=>r<s.H.length) (fun r h=>⟨rfl,h⟩) (fun b hb=>?_) h4.isLow
    rcases hb with (hb|⟨x,row,hx,hl,_,rfl⟩)|⟨x,row,hx,hl,rfl⟩
    ·exact .inl hb
    ·exact .inr ⟨x,row,hx,hl,rfl⟩
    ·rw [f0J] at hx
     split at hx
     ·rw [Option.map_eq_some_iff] at hx
      obtain ⟨_,_,rfl⟩:=hx
      simp [Row.live] at hl
     ·exact .inr ⟨x,row,hx,hl,rfl⟩
   have h6:=hv.ok (φ':=φ') hM hA v h5
   exact h6.upper (Nat.zero_le _)
theorem Con.fn (hP:Good P){f:FuncId}{n:Nat}{rs:List SR}{c:SCode}(hf:Fn P f n rs c){args:List D}{H:List Row}{Q:D→List Row→Prop}
  (h:HS P H.length c ⟨args++List.replicate (n-args.length) D.undef,H,[]⟩ (endS H.length rs Q)):Con P f args H Q:=by
 obtain ⟨fn,k,h1,h2,h3,h4,h5⟩:=hf
 subst h3
 refine ⟨⟨fn,h1,by rw [h2];rfl⟩,fun w φ X vs hH hargs=>calls_of_wp h1 h2 ?_⟩
 have hlen:vs.size=args.length:=by have:=hargs.1;simpa using this
 refine h k h5 X w φ H w φ _ _ rfl ⟨⟨hH,?_,rfl⟩,Ons.refl _ _ _ _⟩ ?_
 ·rw [Array.toList_append,Array.toList_replicate,hlen]
  refine hargs.append ⟨by simp,fun i d u hd hu=>?_⟩
  rw [List.getElem?_replicate] at hd hu
  split at hd
  ·rename_i hi
   rw [if_pos hi] at hu
   injection hd with hd;injection hu with hu
   subst hd;subst hu
   exact R.undef
  ·cases hd
 ·intro out s' w' φ' a' hq hr'
  cases out with
  | normal=>exact c1Z h4 hq hr'
  | exit i=>exact hq.elim
  | ret=>exact c1Z h4 hq hr'
def k0S (ι:List Nat)(N:Nat)(H0:List Row)(args0:List D):Bool :=
 Nat.beq ι.length H0.length&&j0p ι&&(args0.all fun d=>d.refs.all fun r=>Nat.blt r H0.length)&&(H0.all fun row=>row.refs.all fun r=>Nat.blt r H0.length)&&ι.all fun r=>Nat.blt r N
theorem q0f:∀ {l:List Nat},j0p l=true→l.Nodup
 | [],_=>List.nodup_nil
 | x :: xs,h=>by
  simp only [j0p,Bool.and_eq_true,Bool.not_eq_true'] at h
  exact List.nodup_cons.2 ⟨by simpa using h.1,q0f h.2⟩
theorem a0F {g:FuncId}{caps args args0:List D}{H H0:List Row}{Q K:D→List Row→Prop}(h:Con P g args0 H0 Q)(ι:List Nat)(hb:k0S ι H.length H0 args0=true)(ha:args++caps=args0.map (renE (ren ι H.length)))
  (hr:(ι.map fun r=>H.getD r .dead)=H0.map (renR (ren ι H.length)))
  (hk:∀ d0 H0',Q d0 H0'→K (renE (ren ι H.length) d0) (b0T (ren ι H.length) ι H0' H++(H0'.drop H0.length).map (renR (ren ι H.length)))):a0S P (.fn g caps) args H K:=by
 unfold k0S at hb
 simp only [Bool.and_eq_true] at hb
 obtain ⟨⟨⟨⟨b1,b2⟩,b3⟩,b4⟩,b5⟩:=hb
 have e1:ι.length=H0.length:=Nat.eq_of_beq_eq_true b1
 refine ⟨g,caps,rfl,(h.embed e1 (q0f b2) ha (fun d hd=>b0M fun r hr=>?_) (fun i row hi=>⟨b0w fun r hr=>?_,?_⟩)).mono ?_⟩
 ·have h1:=List.all_eq_true.1 b3 d hd
  have h2:=List.all_eq_true.1 h1 r hr
  simpa using h2
 ·have h1:=List.all_eq_true.1 b4 row (List.mem_of_getElem? hi)
  have h2:=List.all_eq_true.1 h1 r hr
  simpa using h2
 ·have hlt:i<ι.length:=by rw [e1];exact (List.getElem?_eq_some_iff.1 hi).1
  have h1:(ι.map fun r=>H.getD r .dead)[i]?=some (H.getD ι[i] .dead):=by simp [hlt]
  rw [hr,List.getElem?_map,hi] at h1
  have h2:ι[i]<H.length:=by
   have:=List.all_eq_true.1 b5 ι[i] (List.getElem_mem hlt)
   simpa using this
  refine ⟨ι[i],by simp [hlt],?_⟩
  have h3:H.getD ι[i] .dead=H[ι[i]]:=by simp [List.getD,h2]
  rw [h3] at h1
  rw [List.getElem?_eq_getElem h2]
  exact h1.symm
 ·rintro d H' ⟨d0,H0',hq,_,rfl,rfl⟩
  exact hk d0 H0' hq
theorem a0W {g:FuncId}{caps args args0:List D}{H:List Row}{Q K:D→List Row→Prop}(h:Con P g args0 [] Q)(hv:Vws H (args++caps) args0)(hp:∀ d H',Q d H'→PlainD d∧∀ row∈H',k0y row)
  (hk:∀ d0 H0',Q d0 H0'→K (renE (ren [] H.length) d0) (H++H0'.map (renR (ren [] H.length)))):a0S P (.fn g caps) args H K:=by
 refine ⟨g,caps,rfl,(h.peek hv hp).mono ?_⟩
 rintro d H' ⟨d0,H0',hq,rfl,rfl⟩
 exact hk d0 H0' hq
variable {n0:Nat}{s:St}{Q:Out→St→Prop}
theorem HS.opsK (hP:Good P){l:List SI}(h:∀ K:St→Prop,(∀ s',Q .normal s'→K s')→wpS P l s K):HS P n0 (.ops l) s Q:=HS.ops hP (h _ fun _ h=>h)
theorem HS.condB {c:SV}{x y:SCode}{b:Bool}(hc:c.ev s.ts = .f (.v (.bool b)))(h1:b=true→HS P n0 x s Q)(h0:b=false→HS P n0 y s Q):HS P n0 (.cond c x y) s Q:=HS.cond (by rw [hc];exact ⟨h1,h0⟩)
theorem n0S {next:St→Prop}(h:next s):h0K next Q .normal s:=h
theorem d1k {next:St→Prop}{i:Nat}(h:Q (.exit i) s):h0K next Q (.exit i) s:=h
theorem e1Y {next:St→Prop}(h:Q .ret s):h0K next Q .ret s:=h
theorem b1a {id:Nat}(h:Q .normal s):d0F id Q .normal s:=h
theorem e0L {id:Nat}(h:Q .normal s):d0F id Q (.exit id) s:=by rw [e0t,if_pos rfl];exact h
theorem r0m {id i:Nat}(hne:Nat.beq i id=false)(h:Q (.exit i) s):d0F id Q (.exit i) s:=by rw [e0t,if_neg (Nat.ne_of_beq_eq_false hne)];exact h
theorem b1X {id:Nat}(h:Q .ret s):d0F id Q .ret s:=h
theorem f1L {rs:List SR}{Q:D→List Row→Prop}(h:RetS n0 rs Q s):endS n0 rs Q .ret s:=h
theorem f1U {rs:List SR}{Q:D→List Row→Prop}(h:RetS n0 rs Q s):endS n0 rs Q .normal s:=h
theorem Bsel.mk' {b:Bool}{p q:Prop}(h1:b=true→p)(h2:b=false→q):Bsel b p q:=⟨h1,h2⟩
def Next (n0:Nat)(keep:List Nat){α:Type}(st:α→St)(p:α→Prop)(m:α→Nat)(x:α)(s:St):Prop:=∃ y,i0h n0 keep s=some (st y)∧p y∧m y<m x
theorem Next.mk {n0:Nat}{keep:List Nat}{α:Type}{st:α→St}{p:α→Prop}{m:α→Nat}{x:α}{s:St}(y:α)(h:i0h n0 keep s=some (st y))(hp:p y)(hm:m y<m x):Next n0 keep st p m x s:=⟨y,h,hp,hm⟩
theorem HS.loopG {c:SCode}{α:Type}(keep:List Nat)(st:α→St)(p:α→Prop)(m:α→Nat)(x0:α)(hs:i0h n0 keep s=some (st x0))(h0:p x0)
  (hbody:∀ x,p x→HS P n0 c (st x) (h0K (Next n0 keep st p m x) Q)):HS P n0 (.loop c) s Q:=by
 refine HS.view (View.sweep hs) ?_
 intro k hk
 cases k with
 | loop a =>
  simp only [a0o] at hk
  injection hk with h1
  intro X w0 φ0 H0 w φ a' K hn hr hK
  refine wp_loop_rounds (m x0+1) ?_
  have key:∀ (k:Nat) (x:α) (w:World) (φ:Nat→Nat × Nat) (a':Act),m x≤k→p x→RunW P X w0 φ0 H0 w φ (st x) a'→Code.rounds P a K (k+1) a' w:=by
   intro k
   induction k with
   | zero =>
    intro x w φ a' hm hp hr
    rw [rounds_succ]
    refine hbody x hp a h1 X w0 φ0 H0 w φ a' _ hn hr ?_
    intro out s' w' φ' a' hq hr'
    cases out with
    | normal=>obtain ⟨y,_,_,hlt⟩:=hq;omega
    | exit i=>exact hK _ s' w' φ' a' hq hr'
    | ret=>exact hK _ s' w' φ' a' hq hr'
   | succ k ih =>
    intro x w φ a' hm hp hr
    rw [rounds_succ]
    refine hbody x hp a h1 X w0 φ0 H0 w φ a' _ hn hr ?_
    intro out s' w' φ' a'' hq hr'
    cases out with
    | normal =>
     obtain ⟨y,hsw,hp',hlt⟩:=hq
     obtain ⟨φ2,hr2⟩:=View.sweep hsw X w0 φ0 H0 w' φ' a'' hn hr'
     exact ih y w' φ2 a'' (by omega) hp' hr2
    | exit i=>exact hK _ s' w' φ' a'' hq hr'
    | ret=>exact hK _ s' w' φ' a'' hq hr'
  exact key (m x0) x0 w φ a' (Nat.le_refl _) h0 hr
 | region id ops draw=>cases draw<;>simp only [a0o] at hk<;>first|(split at hk<;>first|cases hk|(split at hk<;>cases hk))|cases hk
 | cond c a b=>simp only [a0o] at hk;split at hk<;>cases hk
 | _=>simp [a0o] at hk
end
theorem r0g {a:Int}(h1 : -9223372036854775808≤a)(h2:a≤9223372036854775807):IntKind.i64.wrap a=a:=by
 have:=IntWalk.i64_in a ⟨h1,h2⟩
 exact this
def gt {α:Type}[Inhabited α](l:List α)(k:Nat):α:=l[k]!
theorem getElem?_some_of {α:Type}[Inhabited α]{l:List α}{i:Nat}(h:i<l.length):l[i]?=some (gt l i):=by rw [gt,List.getElem?_eq_getElem h,getElem!_pos l i h]
theorem b0N {α:Type}[Inhabited α]{l:List α}{i:Nat}(h:i<l.length):gt l i=l[i]:=by rw [gt,getElem!_pos l i h]
theorem a0I {α:Type}[Inhabited α]{l:List α}{k:Nat}(h:k<l.length):l.drop k=gt l k :: l.drop (k+1):=by
 rw [List.drop_eq_getElem_cons h,b0N h]
def look (i:Nat):List (Nat × D)→D
 | []=>.junk
 | (j,d) :: e=>if j=i then d else look i e
def frm (n:Nat)(e:List (Nat × D)):List D:=(List.range n).map fun i=>look i e
theorem d0Z (n:Nat)(e:List (Nat × D)):(frm n e).length=n:=by simp [frm]
theorem c0Z {n:Nat}{e:List (Nat × D)}{i:Nat}(h:i<n):(frm n e)[i]?=some (look i e):=by
 unfold frm
 rw [List.getElem?_map,List.getElem?_range h];rfl
theorem b0x {n:Nat}{e:List (Nat × D)}{i:Nat}{u:D}(h:i<n):(frm n e).getD i u=look i e:=by
 rw [List.getD_eq_getElem?_getD,c0Z h];rfl
theorem f0y {n:Nat}{e:List (Nat × D)}{i:Nat}{d:D}:(frm n e).set i d=frm n ((i,d) :: e):=by
 apply List.ext_getElem?
 intro j
 by_cases hj:j<n
 ·rw [List.getElem?_set,c0Z hj,c0Z hj,d0Z]
  simp only [look]
  split
  ·rename_i e;subst e;rw [if_pos hj]
  ·rfl
 ·rw [List.getElem?_eq_none (by simp [d0Z];omega),List.getElem?_eq_none (by simp [d0Z];omega)]
theorem o0c {i j:Nat}{d:D}{e:List (Nat × D)}:look i ((j,d) :: e)=if j=i then d else look i e:=id rfl
theorem t0L {i:Nat}:look i [] = .junk:=id rfl
section
variable {P:Program}{n0:Nat}{s:St}{Q:Out→St→Prop}
theorem View.frm {n:Nat}{e:List (Nat × D)}(hl:s.ts.length=n)(h:∀ i,i<n→look i e = .junk∨s.ts[i]?=some (look i e)):View P n0 s ⟨frm n e,s.H,[]⟩:=by
 intro X w0 φ0 H0 w φ a _ hr
 refine ⟨φ,⟨hr.sim.heap,⟨?_,fun i d u hd hu=>?_⟩,hr.sim.defers⟩,hr.ons⟩
 ·rw [d0Z,hr.sim.tmps.1,hl]
 ·dsimp only at hd
  have hi:i<n:=by have:=(List.getElem?_eq_some_iff.1 hd).1;rwa [d0Z] at this
  rw [c0Z hi] at hd
  injection hd with hd
  subst hd
  rcases h i hi with h1|h1
  ·rw [h1];exact .junk
  ·exact hr.sim.tmps.2 i _ u h1 hu
def a0J:Nat→List D→List (Nat × D)
 | _,[]=>[]
 | i,d :: ds=>(i,d) :: a0J (i+1) ds
theorem l0F:∀ (ds:List D) (k i:Nat),look (k+i) (a0J k ds) = .junk∨ds[i]?=some (look (k+i) (a0J k ds))
 | [],_,_=>.inl rfl
 | d :: ds,k,0=>by simp [a0J,look]
 | d :: ds,k,i+1=>by
  simp only [a0J,look]
  rw [if_neg (by omega),show k+(i+1)=k+1+i by omega]
  simpa using l0F ds (k+1) i
theorem Con.walk (hP:Good P){f:FuncId}{n:Nat}{rs:List SR}{c:SCode}(hf:Fn P f n rs c){args:List D}{H:List Row}{Q:D→List Row→Prop}(hn:args.length≤n)
  (h:HS P H.length c ⟨frm n (a0J 0 args),H,[]⟩ (endS H.length rs Q)):Con P f args H Q:=by
 refine Con.fn hP hf (HS.view (View.frm ?_ (fun i hi=>?_)) h)
 ·simp;omega
 ·dsimp only
  have:=l0F args 0 i
  rw [Nat.zero_add] at this
  rcases this with h1|h1
  ·exact .inl h1
  ·have hlt:=(List.getElem?_eq_some_iff.1 h1).1
   rw [List.getElem?_append_left hlt]
   exact .inr h1
end
theorem b0A {P:Program}{g:FuncId}{caps args:List D}{H:List Row}{Q K:D→List Row→Prop}(h:Con P g (args++caps) H Q)(hk:∀ d H',Q d H'→K d H'):a0S P (.fn g caps) args H K:=⟨g,caps,rfl,h.mono hk⟩
theorem u0V {i:Nat}:∀ {e:List (Nat × D)},look i e = .junk∨(i,look i e)∈e
 | []=>.inl rfl
 | (j,d) :: e=>by
  simp only [look]
  split
  ·rename_i h;subst h;exact .inr List.mem_cons_self
  ·rcases u0V (i:=i) (e:=e) with h|h
   ·exact .inl h
   ·exact .inr (List.mem_cons_of_mem _ h)
def NextP (n:Nat){α:Type}(st:α→List (Nat × D))(hs:α→List Row)(p:α→Prop)(m:α→Nat)(x:α)(s:St):Prop:=∃ y,s.H=hs y∧(∃ e,s.ts=frm n e∧(st y).map (fun q=>look q.1 e)=(st y).map (·.2))∧p y∧m y<m x
theorem NextP.mk {α:Type}{st:α→List (Nat × D)}{hs:α→List Row}{p:α→Prop}{m:α→Nat}{x:α}{n:Nat}{e:List (Nat × D)}{H:List Row}{dr:List Nat}(y:α)(hH:H=hs y)(he:(st y).map (fun q=>look q.1 e)=(st y).map (·.2))(hp:p y)(hm:m y<m x):NextP n st hs p m x ⟨frm n e,H,dr⟩:=⟨y,hH,⟨e,rfl,he⟩,hp,hm⟩
section
variable {P:Program}{n0:Nat}{s:St}{Q:Out→St→Prop}
theorem View.told {n:Nat}{e e':List (Nat × D)}{H:List Row}{dr:List Nat}(he:e'.map (fun q=>look q.1 e)=e'.map (·.2)):View P n0 ⟨Mir.frm n e,H,dr⟩ ⟨Mir.frm n e',H,[]⟩:=by
 refine View.frm (s:=⟨Mir.frm n e,H,dr⟩) (d0Z _ _) (fun i hi=>?_)
 rcases u0V (i:=i) (e:=e') with h|h
 ·exact .inl h
 ·refine .inr ?_
  dsimp only
  rw [c0Z hi]
  have:∀ q∈e',look q.1 e=q.2:=by
   intro q hq
   obtain ⟨k,hk,rfl⟩:=List.getElem_of_mem hq
   have:=congrArg (fun l=>l[k]?) he
   simpa [hk] using this
  exact congrArg some (this _ h)
theorem HS.loopP {c:SCode}{α:Type}{n:Nat}{e:List (Nat × D)}{H:List Row}{dr:List Nat}(st:α→List (Nat × D))(hs:α→List Row)(p:α→Prop)(m:α→Nat)(x0:α)(hH:H=hs x0)(he:(st x0).map (fun q=>look q.1 e)=(st x0).map (·.2))(h0:p x0)
  (hbody:∀ x,p x→HS P n0 c ⟨Mir.frm n (st x),hs x,[]⟩ (h0K (NextP n st hs p m x) Q)):HS P n0 (.loop c) ⟨Mir.frm n e,H,dr⟩ Q:=by
 subst hH
 refine HS.view (View.told he) ?_
 intro k hk
 cases k with
 | loop a =>
  simp only [a0o] at hk
  injection hk with h1
  intro X w0 φ0 H0 w φ a' K hn0 hr hK
  refine wp_loop_rounds (m x0+1) ?_
  have key:∀ (k:Nat) (x:α) (w:World) (φ:Nat→Nat × Nat) (a':Act),m x≤k→p x→RunW P X w0 φ0 H0 w φ ⟨Mir.frm n (st x),hs x,[]⟩ a'→Code.rounds P a K (k+1) a' w:=by
   have nx:∀ (x y:α) (s':St) (w':World) (φ':Nat→Nat × Nat) (a'':Act),RunW P X w0 φ0 H0 w' φ' s' a''→s'.H=hs y→(∃ e,s'.ts=Mir.frm n e∧(st y).map (fun q=>look q.1 e)=(st y).map (·.2))→∃ φ2,RunW P X w0 φ0 H0 w' φ2 ⟨Mir.frm n (st y),hs y,[]⟩ a'':=by
    rintro x y ⟨ts,H,dr⟩ w' φ' a'' hr' hy ⟨e,he1,he2⟩
    dsimp only at hy he1
    subst hy;subst he1
    exact View.told (dr:=dr) he2 X w0 φ0 H0 w' φ' a'' hn0 hr'
   intro k
   induction k with
   | zero =>
    intro x w φ a' hm hp hr
    rw [rounds_succ]
    refine hbody x hp a h1 X w0 φ0 H0 w φ a' _ hn0 hr ?_
    intro out s' w' φ' a'' hq hr'
    cases out with
    | normal=>obtain ⟨y,_,_,_,hlt⟩:=hq;omega
    | exit i=>exact hK _ s' w' φ' a'' hq hr'
    | ret=>exact hK _ s' w' φ' a'' hq hr'
   | succ k ih =>
    intro x w φ a' hm hp hr
    rw [rounds_succ]
    refine hbody x hp a h1 X w0 φ0 H0 w φ a' _ hn0 hr ?_
    intro out s' w' φ' a'' hq hr'
    cases out with
    | normal =>
     obtain ⟨y,hy,he,hp',hlt⟩:=hq
     obtain ⟨φ2,hr2⟩:=nx x y s' w' φ' a'' hr' hy he
     exact ih y w' φ2 a'' (by omega) hp' hr2
    | exit i=>exact hK _ s' w' φ' a'' hq hr'
    | ret=>exact hK _ s' w' φ' a'' hq hr'
  exact key (m x0) x0 w φ a' (Nat.le_refl _) h0 hr
 | region id ops draw=>cases draw<;>simp only [a0o] at hk<;>first|(split at hk<;>first|cases hk|(split at hk<;>cases hk))|cases hk
 | cond c a b=>simp only [a0o] at hk;split at hk<;>cases hk
 | _=>simp [a0o] at hk
end
section
variable {P:Program}{n0:Nat}{Q:D→List Row→Prop}
theorem end1 {n t:Nat}{e:List (Nat × D)}{H:List Row}{dr:List Nat}{d d0:D}(ht:Nat.blt t n=true)(h:look t e=d)(hl:lowB n0 (H.take n0)=true)(hv:Vw (d0o n0 H) d d0)(q:Q d0 (H.take n0)):RetS n0 [.t t] Q ⟨frm n e,H,dr⟩:=by
 refine .still (ds:=[d]) ?_ hl hv q
 simp only [resS]
 rw [b0x (by simpa using ht),h]
theorem endA {n t:Nat}{e:List (Nat × D)}{H:List Row}{dr:List Nat}{d:D}(ht:Nat.blt t n=true)(h:look t e=d)(q:Q d H):RetS n0 [.t t] Q ⟨frm n e,H,dr⟩:=by
 refine .all (ds:=[d]) ?_ q
 simp only [resS]
 rw [b0x (by simpa using ht),h]
theorem end2 {n t u:Nat}{e:List (Nat × D)}{H:List Row}{dr:List Nat}{d f d0:D}(ht:Nat.blt t n=true)(hu:Nat.blt u n=true)(h:look t e=d)(k:look u e=f)(hl:lowB n0 (H.take n0)=true)(hv:Vw (d0o n0 H) (.tp [d,f]) d0)(q:Q d0 (H.take n0)):RetS n0 [.t t,.t u] Q ⟨frm n e,H,dr⟩:=by
 refine .still (ds:=[d,f]) ?_ hl hv q
 simp only [resS]
 rw [b0x (by simpa using ht),b0x (by simpa using hu),h,k]
theorem endG {n t:Nat}{e:List (Nat × D)}{H:List Row}{dr:List Nat}{d:D}{ef:Eff}(ht:Nat.blt t n=true)(h:look t e=d)(hg:gather n0 d (List.range n0) H=some ef)(q:Q ef.res (a0B (H.take n0) ef.upd++ef.news)):RetS n0 [.t t] Q ⟨frm n e,H,dr⟩:=by
 refine .gather (ds:=[d]) ?_ hg q
 simp only [resS]
 rw [b0x (by simpa using ht),h]
end
end Go.Proofs.YtahoaijkchgdaaaGreatDoor.Mir
namespace Go.Proofs.YtahoaijkchgdaaaGreatDoor.Mir
open Go Go.RowKit
theorem m0v {P:Program}:∀ (l1 l2:List SI) (s:St) (K:St→Prop),wpS P (l1++l2) s K=wpS P l1 s fun s'=>wpS P l2 s' K
 | [],l2,s,K=>rfl
 | i :: l1,l2,s,K=>by
  simp only [List.cons_append,wpS,m0v l1 l2]
theorem e1L {P:Program}{l1 l2:List SI}{s:St}{K:St→Prop}(h:∀ K':St→Prop,(∀ s',wpS P l2 s' K→K' s')→wpS P l1 s K'):wpS P (l1++l2) s K:=by
 rw [m0v]
 exact h _ fun _ h=>h
abbrev kI (n:Int):SV:=.c (.f (.v (.int .i64 n)))
abbrev kT:SV:=.c (.f (.v (.bool true)))
abbrev kF:SV:=.c (.f (.v (.bool false)))
abbrev kN:SV:=.c (.f (.v (.slice none 0 0)))
abbrev kC (f:Nat):SV:=.c (.fn f [])
abbrev jI:D:=.f (.v (.int .i64 0))
abbrev jN:D:=.f (.v (.slice none 0 0))
abbrev jF:D:=.f (.v (.bool false))
abbrev jm (t x:Nat):SI:=.a t (.mv (.t x))
abbrev jl (t x:Nat):SI:=.a t (.load1 (.t x))
abbrev jo (t o x:Nat):SI:=.a t (.off o (.t x))
abbrev jn (t x:Nat):SI:=.a t (.nilc (.t x))
abbrev gM (t x g:Nat) (b:Bool):SI:=.g (some t) (.mv (.t x)) g b
abbrev gL (t x g:Nat) (b:Bool):SI:=.g (some t) (.load1 (.t x)) g b
abbrev gO (t o x g:Nat) (b:Bool):SI:=.g (some t) (.off o (.t x)) g b
abbrev gN (t x g:Nat) (b:Bool):SI:=.g (some t) (.nilc (.t x)) g b
abbrev je (t x:Nat):SI:=.a t (.slen (.t x))
abbrev jx (t n x i:Nat):SI:=.a t (.idx n (.t x) (.t i))
abbrev jL (t n x:Nat):SI:=.a t (.loadA n (.t x))
abbrev jE (t n x:Nat):SI:=.a t (.ext n (.t x))
abbrev jb (t:Nat) (op:BinOp) (x:Nat) (k:Int):SI:=.a t (.bin op (.t x) (kI k))
abbrev jB (t:Nat) (op:BinOp) (x y:Nat):SI:=.a t (.bin op (.t x) (.t y))
abbrev jk (t:Nat) (k:Int):SI:=.a t (.mv (kI k))
abbrev jG (t:Nat) (o:SOp) (g:Nat) (b:Bool):SI:=.g (some t) o g b
abbrev jq (l:List SI) (y:SCode):SCode:=.seq (.ops l) y
abbrev jc (t:Nat) (x y:SCode):SCode:=.cond (.t t) x y
def ap (a b:List SI):List SI:=a++b
theorem W_mv {P:Program}{ts:List D}{H:List Row}{K:D→List Row→Prop}(x:SV):a0T P ts H (.mv x) K=(K (x.ev ts) H):=id rfl
theorem c1f {P:Program}{ts:List D}{H:List Row}{K:D→List Row→Prop}(c a b:SV):a0T P ts H (.pick c a b) K=(k0Z (c.ev ts) (K (a.ev ts) H) (K (b.ev ts) H)):=id rfl
theorem y0Z {P:Program}{ts:List D}{H:List Row}{K:D→List Row→Prop}(T:TypeId)(z:List D):a0T P ts H (.alloc T z) K=(K (.pt H.length 0) (H++[.box T z])):=id rfl
theorem f1Q {P:Program}{ts:List D}{H:List Row}{K:D→List Row→Prop}(T:TypeId)(x:SV):a0T P ts H (.box T x) K=(a0D (boxD (x.ev ts)) fun cs=>K (.pt H.length 0) (H++[.box T cs])):=id rfl
theorem y0a {P:Program}{ts:List D}{H:List Row}{K:D→List Row→Prop}(a:SV):a0T P ts H (.load1 a) K=(a0D (load1 H (a.ev ts)) fun d=>K d H):=id rfl
theorem y0k {P:Program}{ts:List D}{H:List Row}{K:D→List Row→Prop}(n:Nat)(a:SV):a0T P ts H (.loadA n a) K=(a0D (loadA H n (a.ev ts)) fun d=>K d H):=id rfl
theorem x0c {P:Program}{ts:List D}{H:List Row}{K:D→List Row→Prop}(n:Nat)(a x:SV):a0T P ts H (.store n a x) K=(a0D (c0i P H n (a.ev ts) (x.ev ts)) fun H'=>K D.undef H'):=id rfl
theorem d1J {P:Program}{ts:List D}{H:List Row}{K:D→List Row→Prop}(x:SV):a0T P ts H (.nilc x) K=(a0D (s0M (x.ev ts)) fun d=>K d H):=id rfl
theorem f1a {P:Program}{ts:List D}{H:List Row}{K:D→List Row→Prop}(o:Nat)(a:SV):a0T P ts H (.off o a) K=(a0D (offD o (a.ev ts)) fun d=>K d H):=id rfl
theorem c1p {P:Program}{ts:List D}{H:List Row}{K:D→List Row→Prop}(o:Nat)(x:SV):a0T P ts H (.fld1 o x) K=(a0D (fld1 o (x.ev ts)) fun d=>K d H):=id rfl
theorem d1Q {P:Program}{ts:List D}{H:List Row}{K:D→List Row→Prop}(o n:Nat)(x:SV):a0T P ts H (.fldA o n x) K=(a0D (fldA o n (x.ev ts)) fun d=>K d H):=id rfl
theorem e1p {P:Program}{ts:List D}{H:List Row}{K:D→List Row→Prop}(sz:Nat)(x i:SV):a0T P ts H (.idx sz x i) K=(idxS sz (x.ev ts) (i.ev ts) fun d=>K d H):=id rfl
theorem e1z {P:Program}{ts:List D}{H:List Row}{K:D→List Row→Prop}(sz n:Nat)(x i:SV):a0T P ts H (.arr sz n x i) K=(arrS sz n (x.ev ts) (i.ev ts) fun d=>K d H):=id rfl
theorem e1i {P:Program}{ts:List D}{H:List Row}{K:D→List Row→Prop}(i:Nat)(x:SV):a0T P ts H (.ext i x) K=(a0D (extD i (x.ev ts)) fun d=>K d H):=id rfl
theorem e1l {P:Program}{ts:List D}{H:List Row}{K:D→List Row→Prop}(op:BinOp)(x y:SV):a0T P ts H (.bin op x y) K=(binS op (x.ev ts) (y.ev ts) fun d=>K d H):=id rfl
theorem c1y {P:Program}{ts:List D}{H:List Row}{K:D→List Row→Prop}(op:BinOp)(x y:SV):a0T P ts H (.binb op x y) K=(p0x op (x.ev ts) (y.ev ts) fun d=>K d H):=id rfl
theorem f1f {P:Program}{ts:List D}{H:List Row}{K:D→List Row→Prop}(eq:Bool)(ks:List Nat)(x y:SV):a0T P ts H (.aeq eq ks x y) K=(aeqS eq ks (x.ev ts) (y.ev ts) fun d=>K d H):=id rfl
theorem c1L {P:Program}{ts:List D}{H:List Row}{K:D→List Row→Prop}(eq:Bool)(k:Nat)(x y:SV):a0T P ts H (.nilq eq k x y) K=(d0H k (x.ev ts) (y.ev ts) fun b=>K (D.bool (if eq then b else !b)) H):=id rfl
theorem c1r {P:Program}{ts:List D}{H:List Row}{K:D→List Row→Prop}(x:SV):a0T P ts H (.unot x) K=(a0D (notS (x.ev ts)) fun d=>K d H):=id rfl
theorem W_fn {P:Program}{ts:List D}{H:List Row}{K:D→List Row→Prop}(f:FuncId)(caps:List SV):a0T P ts H (.fn f caps) K=(K (.fn f (caps.map (SV.ev ts))) H):=id rfl
theorem a1w {P:Program}{ts:List D}{H:List Row}{K:D→List Row→Prop}  : a0T P ts H (.mkmap) K=(K (.mp H.length) (H++[.map []])):=id rfl
theorem p0i {P:Program}{ts:List D}{H:List Row}{K:D→List Row→Prop}(T:TypeId)(sz b:Nat)(z:List F)(l c:SV):a0T P ts H (.mkslice T sz b z l c) K=(a0D (intOf? (l.ev ts)) fun a=>a0D (intOf? (c.ev ts)) fun c=>((0<a∨c=0)∧0≤a∧a≤c∧b*c≤140737488355328∧c.toNat*sz≤16777216)∧K (.sl H.length 0 a.toNat) (H++[.data T ((List.range (a.toNat*sz)).map fun j=>z.getD (j % sz) (.v Go.undef))])):=id rfl
theorem f1A {P:Program}{ts:List D}{H:List Row}{K:D→List Row→Prop}(z:List D)(parts:List (Nat × Nat × SV)):a0T P ts H (.bld z parts) K=(a0D (e0X z (parts.map fun p=>(p.1,p.2.1,p.2.2.ev ts))) fun ds=>K (.ag ds) H):=id rfl
theorem f1C {P:Program}{ts:List D}{H:List Row}{K:D→List Row→Prop}(T:TypeId)(sz len:Nat)(z:List D)(parts:List (Nat × SV)):a0T P ts H (.bsl T sz len z parts) K=(a0D (e0X z (parts.map fun p=>(p.1,sz,p.2.ev ts))) fun ds=>a0D (a0U P H ds) fun xu=>K (.sl H.length 0 len) (a0B H xu.2++[.data T xu.1])):=id rfl
theorem f1P {P:Program}{ts:List D}{H:List Row}{K:D→List Row→Prop}(T:TypeId)(sz b:Nat)(s x:SV):a0T P ts H (.app T sz b s x) K=(appS H T sz b (s.ev ts) (x.ev ts) K):=id rfl
theorem c1i {P:Program}{ts:List D}{H:List Row}{K:D→List Row→Prop}(x:SV):a0T P ts H (.slen x) K=(a0D (slcS (x.ev ts)) fun n=>K (D.int n) H):=id rfl
theorem d1D {P:Program}{ts:List D}{H:List Row}{K:D→List Row→Prop}(x:SV):a0T P ts H (.mlen x) K=(a0D (g0G H (x.ev ts)) fun es=>K (D.int es.length) H):=id rfl
theorem c1q {P:Program}{ts:List D}{H:List Row}{K:D→List Row→Prop}(k:IntKind)(x:SV):a0T P ts H (.conv k x) K=(a0D (z0d k (x.ev ts)) fun d=>K d H):=id rfl
theorem f1J {P:Program}{ts:List D}{H:List Row}{K:D→List Row→Prop}(x:SV):a0T P ts H (.s2b x) K=(a0D (strOf? (x.ev ts)) fun s=>s.size≤most∧K (.f (.s (s.data.toList.map fun b=>.v (.int .u8 b.toNat)) s.size)) H):=id rfl
theorem f1V {P:Program}{ts:List D}{H:List Row}{K:D→List Row→Prop}(x:SV):a0T P ts H (.b2s x) K=(a0D (b0R H 1 (x.ev ts)) fun p=>a0D (bytesOf? (p.2.map .f)) fun l=>p.2.length=p.1∧K (.f (.v (.string ⟨l.toArray⟩))) H):=id rfl
theorem u0b {P:Program}{ts:List D}{H:List Row}{K:D→List Row→Prop}(x:SV):a0T P ts H (.strlen x) K=(a0D (strOf? (x.ev ts)) fun s=>K (D.int s.size) H):=id rfl
theorem c1l {P:Program}{ts:List D}{H:List Row}{K:D→List Row→Prop}(sz n:Nat)(x i:SV):a0T P ts H (.aidx sz n x i) K=(x0G sz n (x.ev ts) (i.ev ts) fun d=>K d H):=id rfl
theorem d1B {P:Program}{ts:List D}{H:List Row}{K:D→List Row→Prop}(x i:SV):a0T P ts H (.sidx x i) K=(a0D (strOf? (x.ev ts)) fun s=>a0D (intOf? (i.ev ts)) fun i=>a0D (if 0≤i then s.data.toList[i.toNat]? else none) fun b=>K (.f (.v (.int .u8 b.toNat))) H):=id rfl
theorem c1v {P:Program}{ts:List D}{H:List Row}{K:D→List Row→Prop}(x:SV)(lo hi:Option SV):a0T P ts H (.ssub x lo hi) K=(a0D (x0X (x.ev ts) (lo.map (SV.ev ts)) (hi.map (SV.ev ts))) fun d=>K d H):=id rfl
theorem d1R {P:Program}{ts:List D}{H:List Row}{K:D→List Row→Prop}(ok:Bool)(K0:TypeId)(z:D)(m k:SV):a0T P ts H (.look ok K0 z m k) K=(a0D (r0n P H ok K0 z (m.ev ts) (k.ev ts)) fun d=>K d H):=id rfl
theorem c1U {P:Program}{ts:List D}{H:List Row}{K:D→List Row→Prop}(K0:TypeId)(m k x:SV):a0T P ts H (.mput K0 m k x) K=(a0D (r0c P H K0 (m.ev ts) (k.ev ts) (x.ev ts)) fun H'=>K D.undef H'):=id rfl
theorem d1A {P:Program}{ts:List D}{H:List Row}{K:D→List Row→Prop}(K0:TypeId)(m k:SV):a0T P ts H (.mdel K0 m k) K=(a0D (z0m P H K0 (m.ev ts) (k.ev ts)) fun H'=>K (.tp []) H'):=id rfl
theorem f1F {P:Program}{ts:List D}{H:List Row}{K:D→List Row→Prop}(T:TypeId)(x:SV):a0T P ts H (.clr T x) K=(a0D (h0A P H T (x.ev ts)) fun H'=>K (.tp []) H'):=id rfl
theorem W_mm {P:Program}{ts:List D}{H:List Row}{K:D→List Row→Prop}(mx:Bool)(x y:SV):a0T P ts H (.mm mx x y) K=(a0D (intOf? (x.ev ts)) fun a=>a0D (intOf? (y.ev ts)) fun b=>K (D.int (if mx then max a b else min a b)) H):=id rfl
theorem d1H {P:Program}{ts:List D}{H:List Row}{K:D→List Row→Prop}(f:SV)(args:List SV):a0T P ts H (.call f args) K=(a0S P (f.ev ts) (args.map (SV.ev ts)) H K):=id rfl
theorem d1K {P:Program}{ts:List D}{H:List Row}{K:D→List Row→Prop}(sz:Nat)(E:TypeId)(x:SV):a0T P ts H (.sub sz E x none none none) K=(a0D (slcS (x.ev ts)) fun n=>(0≤(0:Int)∧(0:Int)≤n∧(n:Int)≤n)∧a0D (subS H sz E (x.ev ts) (0:Int).toNat (n:Int).toNat) fun d=>K d H):=id rfl
theorem d1U {P:Program}{ts:List D}{H:List Row}{K:D→List Row→Prop}(sz:Nat)(E:TypeId)(x l:SV):a0T P ts H (.sub sz E x (some l) none none) K=(a0D (slcS (x.ev ts)) fun n=>a0D (intOf? (l.ev ts)) fun l=>(0≤l∧l≤n∧(n:Int)≤n)∧a0D (subS H sz E (x.ev ts) l.toNat (n:Int).toNat) fun d=>K d H):=id rfl
theorem c1W {P:Program}{ts:List D}{H:List Row}{K:D→List Row→Prop}(sz:Nat)(E:TypeId)(x h:SV):a0T P ts H (.sub sz E x none (some h) none) K=(a0D (slcS (x.ev ts)) fun n=>a0D (intOf? (h.ev ts)) fun h=>(0≤(0:Int)∧0≤h∧h≤n)∧a0D (subS H sz E (x.ev ts) (0:Int).toNat h.toNat) fun d=>K d H):=id rfl
theorem y0l {P:Program}{ts:List D}{H:List Row}{K:D→List Row→Prop}(sz:Nat)(E:TypeId)(x l h:SV):a0T P ts H (.sub sz E x (some l) (some h) none) K=(a0D (slcS (x.ev ts)) fun n=>a0D (intOf? (l.ev ts)) fun l=>a0D (intOf? (h.ev ts)) fun h=>(0≤l∧l≤h∧h≤n)∧a0D (subS H sz E (x.ev ts) l.toNat h.toNat) fun d=>K d H):=id rfl
theorem d1V {P:Program}{ts:List D}{H:List Row}{K:D→List Row→Prop}(sz:Nat)(E:TypeId)(x l h m:SV):a0T P ts H (.sub sz E x (some l) (some h) (some m)) K=(a0D (slcS (x.ev ts)) fun n=>a0D (intOf? (l.ev ts)) fun l=>a0D (intOf? (h.ev ts)) fun h=>(0≤l∧l≤h∧h≤n)∧(intOf? (m.ev ts)=some l∧l=h∧(some h).isSome=true)∧K (mxS (x.ev ts)) H):=id rfl
theorem a1G {P:Program}{ts:List D}{H:List Row}{K:D→List Row→Prop}(sz:Nat)(E:TypeId)(x h m:SV):a0T P ts H (.sub sz E x none (some h) (some m)) K=(a0D (slcS (x.ev ts)) fun n=>a0D (intOf? (h.ev ts)) fun h=>(0≤(0:Int)∧0≤h∧h≤n)∧(intOf? (m.ev ts)=some 0∧(0:Int)=h∧(some h).isSome=true)∧K (mxS (x.ev ts)) H):=id rfl
theorem ev_t {ts:List D}{n:Nat}:(SV.t n).ev ts=ts.getD n D.undef:=id rfl
theorem ev_c {ts:List D}{d:D}:(SV.c d).ev ts=d:=id rfl
theorem c1o {x:F}:boxD (.f x)=some ([.f x]):=id rfl
theorem v0k {x:F}:b0F (.f x)=true:=id rfl
theorem y0S {x:F}:(D.f x).cells=[.f x]:=id rfl
theorem x0p {r o n:Nat}:boxD (.sl r o n)=some ([.sl r o n]):=id rfl
theorem r0T {r o n:Nat}:b0F (.sl r o n)=true:=id rfl
theorem v0x {r o n:Nat}:(D.sl r o n).cells=[.sl r o n]:=id rfl
theorem y0d {r o:Nat}:boxD (.pt r o)=some ([.pt r o]):=id rfl
theorem r0E {r o:Nat}:b0F (.pt r o)=true:=id rfl
theorem v0a {r o:Nat}:(D.pt r o).cells=[.pt r o]:=id rfl
theorem y0Y {r:Nat}:boxD (.mp r)=some ([.mp r]):=id rfl
theorem o0x {r:Nat}:b0F (.mp r)=true:=id rfl
theorem u0z {r:Nat}:(D.mp r).cells=[.mp r]:=id rfl
theorem z0b {xs:List F}:boxD (.rf xs)=some ([.rf xs]):=id rfl
theorem q0p {xs:List F}:b0F (.rf xs)=true:=id rfl
theorem w0D {xs:List F}:(D.rf xs).cells=[.rf xs]:=id rfl
theorem a1h {ds:List D}:boxD (.ag ds)=some (ds):=id rfl
theorem p0L {ds:List D}:b0F (.ag ds)=true:=id rfl
theorem t0z {ds:List D}:(D.ag ds).cells=ds:=id rfl
theorem a1y {f:FuncId}{ds:List D}:boxD (.fn f ds)=some ([.fn f ds]):=id rfl
theorem q0l {f:FuncId}{ds:List D}:b0F (.fn f ds)=true:=id rfl
theorem t0V {f:FuncId}{ds:List D}:(D.fn f ds).cells=[.fn f ds]:=id rfl
def k0x (o:Option Row)(off:Nat):Option D:=match o with
 | some row=>match row.cells with
  | some xs=>xs[off]?
  | none=>none
 | none=>none
theorem t0Z {H:List Row}{r off:Nat}:load1 H (.pt r off)=k0x H[r]? off:=id rfl
theorem u0m {H:List Row}{xs:List F}:load1 H (.rf xs)=(xs[0]?).map .f:=id rfl
theorem m0e {T:TypeId}{ds:List D}{off:Nat}:k0x (some (.box T ds)) off=ds[off]?:=id rfl
theorem j0w {T:TypeId}{xs:List F}{off:Nat}:k0x (some (.data T xs)) off=(xs[off]?).map .f:=by simp [k0x,Row.cells]
theorem i0u {T:TypeId}{xs:List F}{off:Nat}:k0x (some (.froz T xs)) off=(xs[off]?).map .f:=by simp [k0x,Row.cells]
def k0o (n:Nat)(o:Option Row)(off:Nat):Option D:=match o with
 | some row=>match row.cells with
  | some xs=>if off+n≤xs.length then some (.ag ((xs.drop off).take n)) else none
  | none=>none
 | none=>none
theorem v0f {H:List Row}{n r off:Nat}:loadA H n (.pt r off)=k0o n H[r]? off:=id rfl
theorem a0A {H:List Row}{n:Nat}{xs:List F}:loadA H n (.rf xs)=if n≤xs.length then some (.ag ((xs.map .f).take n)) else none:=id rfl
theorem k0v {n:Nat}{T:TypeId}{ds:List D}{off:Nat}:k0o n (some (.box T ds)) off=if off+n≤ds.length then some (.ag ((ds.drop off).take n)) else none:=id rfl
theorem h0m {n:Nat}{T:TypeId}{xs:List F}{off:Nat}:k0o n (some (.data T xs)) off=if off+n≤xs.length then some (.ag (((xs.drop off).take n).map .f)) else none:=by simp [k0o,Row.cells,List.map_take,List.map_drop]
theorem j0L {n:Nat}{T:TypeId}{xs:List F}{off:Nat}:k0o n (some (.froz T xs)) off=if off+n≤xs.length then some (.ag (((xs.drop off).take n).map .f)) else none:=by simp [k0o,Row.cells,List.map_take,List.map_drop]
theorem a1M {o r off:Nat}:offD o (.pt r off)=some (.pt r (off+o)):=id rfl
theorem a1q {o:Nat}{xs:List F}:offD o (.rf xs)=some (.rf (xs.drop o)):=id rfl
theorem x0Y {o:Nat}{ds:List D}:fld1 o (.ag ds)=ds[o]?:=id rfl
theorem y0O {o n:Nat}{ds:List D}:fldA o n (.ag ds)=if o+n≤ds.length then some (.ag ((ds.drop o).take n)) else none:=id rfl
theorem v0u {r o:Nat}:s0M (.pt r o)=some (.pt r o):=id rfl
theorem u0u {xs:List F}:s0M (.rf xs)=some (.rf xs):=id rfl
theorem u0q {f:FuncId}{cs:List D}:s0M (.fn f cs)=some (.fn f cs):=id rfl
theorem a1p {i:Nat}{ds:List D}:extD i (.tp ds)=ds[i]?:=id rfl
def c0N (P:Program)(H:List Row)(n r off:Nat)(x:D)(o:Option Row):Option (List Row):=match o with
 | some (.box U xs)=>if b0F x=true∧x.cells.length=n∧off+n≤xs.length then some (H.set r (.box U (putL off x.cells xs))) else none
 | some (.data U xs)=>if b0F x=true∧x.cells.length=n∧off+n≤xs.length∧0<n then
   match a0U P H x.cells with
   | some (ys,us)=>match (a0B H us)[r]? with
    | some (.data U ws)=>some ((a0B H us).set r (.data U (splice ws off ys)))
    | _=>none
   | none=>none
  else none
 | _=>none
theorem w0V {α:Type}{xs:List α}{off:Nat}{x:α}(h:off<xs.length):splice xs off [x]=xs.set off x:=by
 rw [List.set_eq_take_append_cons_drop,if_pos h]
 simp [splice]
theorem b0y {P:Program}{H:List Row}{n r off:Nat}{x:D}:c0i P H n (.pt r off) x=c0N P H n r off x H[r]?:=id rfl
theorem m0b {P:Program}{H:List Row}{n r off:Nat}{x:D}{U:TypeId}{xs:List D}:c0N P H n r off x (some (.box U xs))=if b0F x=true∧x.cells.length=n∧off+n≤xs.length then some (H.set r (.box U (putL off x.cells xs))) else none:=id rfl
theorem o0C {P:Program}{H:List Row}{r off:Nat}{x:F}{U:TypeId}{xs:List F}(h:H[r]?=some (.data U xs)):c0N P H 1 r off (.f x) (some (.data U xs))=if off+1≤xs.length then some (H.set r (.data U (xs.set off x))) else none:=by
 unfold c0N
 simp only [b0F,D.cells,a0U,b0L,a0B,List.append_nil,List.length_cons,List.length_nil,h,true_and,Nat.reduceAdd,Nat.zero_lt_one,and_true]
 split
 ·rw [w0V (by omega)]
 ·rfl
theorem o0p {α:Type}{cs:List α}:putL 0 [] cs=cs:=by cases cs<;>rfl
theorem l0C {α:Type}{y c:α}{ys cs:List α}:putL 0 (y :: ys) (c :: cs)=y :: putL 0 ys cs:=id rfl
theorem p0E {α:Type}{n:Nat}{c:α}{ys cs:List α}:putL (n+1) ys (c :: cs)=c :: putL n ys cs:=id rfl
theorem v0U {op:BinOp}{k k2:IntKind}{a b:Int}{K:D→Prop}:binS op (.f (.v (.int k a))) (.f (.v (.int k2 b))) K=(shQ op k k2∧intS op k a b K):=id rfl
theorem u0N {op:BinOp}{k:IntKind}:shQ op k k=True:=by cases op<;>simp [shQ]
theorem a1a {k k2:IntKind}:shQ .shl k k2=True:=id rfl
theorem z0C {k k2:IntKind}:shQ .shr k k2=True:=id rfl
theorem v0d {op:BinOp}{a b:ByteArray}{K:D→Prop}:binS op (.f (.v (.string a))) (.f (.v (.string b))) K=strS op a b K:=id rfl
theorem y0W {eq:Bool}{ks:List Nat}{xs ys:List D}{K:D→Prop}:aeqS eq ks (.ag xs) (.ag ys) K=a0D (eqL ks xs ys) fun b=>K (.f (.v (.bool (if eq then b else !b)))):=id rfl
theorem v0Y {sz n:Nat}{ds:List D}{k:IntKind}{a:Int}{K:D→Prop}:x0G sz n (.ag ds) (.f (.v (.int k a))) K=((0≤a∧a<n)∧a0D (ds[a.toNat*sz]?) K):=id rfl
theorem a1C {op:BinOp}{a b:Bool}{K:D→Prop}:p0x op (.f (.v (.bool a))) (.f (.v (.bool b))) K=t0D op a b K:=id rfl
theorem u0c {k:IntKind}{a b:Int}{K:D→Prop}:intS .shl k a b K=(0≤b∧K (.f (.v (.int k (k.wrap (a*2 ^ (min b.toNat k.bits))))))):=id rfl
theorem v0D {k:IntKind}{a b:Int}{K:D→Prop}:intS .shr k a b K=(0≤b∧K (.f (.v (.int k (a.fdiv (2 ^ (min b.toNat k.bits))))))):=id rfl
theorem u0p {k:IntKind}{a b:Int}{K:D→Prop}:intS .and k a b K=(K (.f (.v (.int k (k.wrap (BitVec.ofInt k.bits a &&& BitVec.ofInt k.bits b).toNat))))):=id rfl
theorem z0z {k:IntKind}{a b:Int}{K:D→Prop}:intS .or k a b K=(K (.f (.v (.int k (k.wrap (BitVec.ofInt k.bits a ||| BitVec.ofInt k.bits b).toNat))))):=id rfl
theorem v0T {k:IntKind}{a b:Int}{K:D→Prop}:intS .xor k a b K=(K (.f (.v (.int k (k.wrap (BitVec.ofInt k.bits a ^^^ BitVec.ofInt k.bits b).toNat))))):=id rfl
theorem v0z {k:IntKind}{a b:Int}{K:D→Prop}:intS .add k a b K=(K (.f (.v (.int k (k.wrap (a+b)))))):=id rfl
theorem u0Y {k:IntKind}{a b:Int}{K:D→Prop}:intS .sub k a b K=(K (.f (.v (.int k (k.wrap (a-b)))))):=id rfl
theorem v0X {k:IntKind}{a b:Int}{K:D→Prop}:intS .mul k a b K=(K (.f (.v (.int k (k.wrap (a*b)))))):=id rfl
theorem v0W {k:IntKind}{a b:Int}{K:D→Prop}:intS .quo k a b K=(b≠0∧K (.f (.v (.int k (k.wrap (a.tdiv b)))))):=id rfl
theorem v0Z {k:IntKind}{a b:Int}{K:D→Prop}:intS .rem k a b K=(b≠0∧K (.f (.v (.int k (a.tmod b))))):=id rfl
theorem w0H {k:IntKind}{a b:Int}{K:D→Prop}:intS .eql k a b K=(Two (a=b) (K (.f (.v (.bool true)))) (K (.f (.v (.bool false))))):=id rfl
theorem t0x {k:IntKind}{a b:Int}{K:D→Prop}:intS .neq k a b K=(Two (a=b) (K (.f (.v (.bool false)))) (K (.f (.v (.bool true))))):=id rfl
theorem t0S {k:IntKind}{a b:Int}{K:D→Prop}:intS .lss k a b K=(Two (a<b) (K (.f (.v (.bool true)))) (K (.f (.v (.bool false))))):=id rfl
theorem v0r {k:IntKind}{a b:Int}{K:D→Prop}:intS .leq k a b K=(Two (a≤b) (K (.f (.v (.bool true)))) (K (.f (.v (.bool false))))):=id rfl
theorem u0y {k:IntKind}{a b:Int}{K:D→Prop}:intS .gtr k a b K=(Two (b<a) (K (.f (.v (.bool true)))) (K (.f (.v (.bool false))))):=id rfl
theorem u0P {k:IntKind}{a b:Int}{K:D→Prop}:intS .geq k a b K=(Two (b≤a) (K (.f (.v (.bool true)))) (K (.f (.v (.bool false))))):=id rfl
theorem w0A {a b:ByteArray}{K:D→Prop}:strS .add a b K=(a.size+b.size≤9223372036854775807∧K (.f (.v (.string (a++b))))):=id rfl
theorem t0P {a b:ByteArray}{K:D→Prop}:strS .eql a b K=(Two (a=b) (K (.f (.v (.bool true)))) (K (.f (.v (.bool false))))):=id rfl
theorem w0I {a b:ByteArray}{K:D→Prop}:strS .neq a b K=(Two (a=b) (K (.f (.v (.bool false)))) (K (.f (.v (.bool true))))):=id rfl
theorem u0j {a b:ByteArray}{K:D→Prop}:strS .lss a b K=(Two (Op.bytesLess a.toList b.toList=true) (K (.f (.v (.bool true)))) (K (.f (.v (.bool false))))):=id rfl
theorem v0m {a b:ByteArray}{K:D→Prop}:strS .gtr a b K=(Two (Op.bytesLess b.toList a.toList=true) (K (.f (.v (.bool true)))) (K (.f (.v (.bool false))))):=id rfl
theorem u0F {a b:ByteArray}{K:D→Prop}:strS .leq a b K=(Two (Op.bytesLess b.toList a.toList=true) (K (.f (.v (.bool false)))) (K (.f (.v (.bool true))))):=id rfl
theorem t0m {a b:ByteArray}{K:D→Prop}:strS .geq a b K=(Two (Op.bytesLess a.toList b.toList=true) (K (.f (.v (.bool false)))) (K (.f (.v (.bool true))))):=id rfl
theorem q0F {a b:Bool}{K:D→Prop}:t0D .eql a b K=K (.f (.v (.bool (a==b)))):=id rfl
theorem r0b {a b:Bool}{K:D→Prop}:t0D .neq a b K=K (.f (.v (.bool (!(a==b))))):=id rfl
theorem a1z {sz r off n:Nat}{k:IntKind}{i:Int}{K:D→Prop}:idxS sz (.sl r off n) (.f (.v (.int k i))) K=((0≤i∧i<n)∧K (.pt r (off+i.toNat*sz))):=id rfl
theorem d1O {sz n:Nat}{xs:List F}{k:IntKind}{i:Int}{K:D→Prop}:idxS sz (.f (.s xs n)) (.f (.v (.int k i))) K=((0≤i∧i<n)∧K (.rf (xs.drop (i.toNat*sz)))):=id rfl
theorem x0t {sz n r off:Nat}{k:IntKind}{i:Int}{K:D→Prop}:arrS sz n (.pt r off) (.f (.v (.int k i))) K=((0≤i∧i<n)∧K (.pt r (off+i.toNat*sz))):=id rfl
theorem y0N {p q:Prop}:k0Z (.f (.v (.bool true))) p q=p:=c0X
theorem x0b {p q:Prop}:k0Z (.f (.v (.bool false))) p q=q:=b0m
theorem y0s {b:Bool}{p q:Prop}:k0Z (.f (.v (.bool b))) p q=Bsel b p q:=id rfl
theorem d1W {b:Bool}:notS (.f (.v (.bool b)))=some (.f (.v (.bool (!b)))):=id rfl
theorem z0V {k k2:IntKind}{n:Int}:z0d k (.f (.v (.int k2 n)))=some (.f (.v (.int k (k.wrap n)))):=id rfl
theorem x0U {n:Int}:intOf? (.f (.v (.int .i64 n)))=some n:=id rfl
theorem y0g {s:ByteArray}:strOf? (.f (.v (.string s)))=some s:=id rfl
theorem x0V {r o n:Nat}:slcS (.sl r o n)=some n:=id rfl
theorem d1F {xs:List F}{n:Nat}:slcS (.f (.s xs n))=some n:=id rfl
theorem c1T:slcS (.f .e)=some 0:=id rfl
theorem w0E:slcS (.f (.v (.slice none 0 0)))=some 0:=id rfl
def nilR (k:Nat)(p q:Option (Nat × Bool)):Option Bool:=match p,q with
 | some (i,a),some (j,b)=>if k=i∧k=j∧(a=true∨b=true) then some (a&&b) else none
 | _,_=>none
theorem c1x {k:Nat}{x y:D}:nilS k x y=nilR k (c0B x) (c0B y):=id rfl
theorem x0f {k i j:Nat}{a b:Bool}:nilR k (some (i,a)) (some (j,b))=if k=i∧k=j∧(a=true∨b=true) then some (a&&b) else none:=id rfl
theorem q0H:c0B (.f (.v (.slice none 0 0)))=some (0,true):=id rfl
theorem o0j:c0B (.f (.v (.pointer none)))=some (1,true):=id rfl
theorem p0W:c0B (.f (.v (.map none)))=some (2,true):=id rfl
theorem u0l {k:Nat}{y:D}{K:Bool→Prop}:d0H k (.f (.v (.slice none 0 0))) y K=a0D (nilS k (.f (.v (.slice none 0 0))) y) K:=id rfl
theorem u0B {k:Nat}{y:D}{K:Bool→Prop}:d0H k (.f (.v (.pointer none))) y K=a0D (nilS k (.f (.v (.pointer none))) y) K:=id rfl
theorem u0h {k:Nat}{y:D}{K:Bool→Prop}:d0H k (.f (.v (.map none))) y K=a0D (nilS k (.f (.v (.map none))) y) K:=id rfl
theorem t0d {k:Nat}{y:D}{K:Bool→Prop}:d0H k (.f .e) y K=a0D (nilS k (.f .e) y) K:=id rfl
theorem t0R {r o:Nat}{k:Nat}{y:D}{K:Bool→Prop}:d0H k (.pt r o) y K=a0D (nilS k (.pt r o) y) K:=id rfl
theorem v0i {r:Nat}{k:Nat}{y:D}{K:Bool→Prop}:d0H k (.mp r) y K=a0D (nilS k (.mp r) y) K:=id rfl
theorem v0g {xs:List F}{k:Nat}{y:D}{K:Bool→Prop}:d0H k (.rf xs) y K=a0D (nilS k (.rf xs) y) K:=id rfl
theorem a1S {xs:List F}{n:Nat}:c0B (.f (.s xs (n+1)))=some (0,false):=id rfl
theorem w0C {r o n:Nat}:c0B (.sl r o (n+1))=some (0,false):=id rfl
theorem t0X {r o:Nat}:c0B (.pt r o)=some (1,false):=id rfl
theorem u0L {xs:List F}:c0B (.rf xs)=some (1,false):=id rfl
theorem v0K {r:Nat}:c0B (.mp r)=some (2,false):=id rfl
def subR (sz:Nat)(E:TypeId)(r off l h:Nat)(o:Option Row):Option D:=match o with
 | some (.data U xs)=>if l=h then some (.f (.s [] 0)) else if 0<xs.length∧some U=some E then some (.sl r (off+l*sz) (h-l)) else none
 | some (.froz U _)=>if l=h then some (.f (.s [] 0)) else if some U=some E then some (.sl r (off+l*sz) (h-l)) else none
 | _=>if l=h then some (.f (.s [] 0)) else none
theorem z0t {H:List Row}{sz:Nat}{E:TypeId}{r off n l h:Nat}:subS H sz E (.sl r off n) l h=subR sz E r off l h H[r]?:=by
 unfold subS j0A subR
 dsimp only
 split<;>split<;>simp only [*]
 all_goals first|(split<;>simp_all)|simp_all
theorem o0z {sz:Nat}{E U:TypeId}{r off l h:Nat}{xs:List F}:subR sz E r off l h (some (.data U xs))=if l=h then some (.f (.s [] 0)) else if 0<xs.length∧some U=some E then some (.sl r (off+l*sz) (h-l)) else none:=id rfl
theorem p0y {sz:Nat}{E U:TypeId}{r off l h:Nat}{xs:List F}:subR sz E r off l h (some (.froz U xs))=if l=h then some (.f (.s [] 0)) else if some U=some E then some (.sl r (off+l*sz) (h-l)) else none:=id rfl
theorem k0r {H:List Row}{sz:Nat}{E:TypeId}{xs:List F}{n l h:Nat}:subS H sz E (.f (.s xs n)) l h=some (.f (.s ((xs.drop (l*sz)).take ((h-l)*sz)) (h-l))):=id rfl
theorem d1N {H:List Row}{sz:Nat}{E:TypeId}{l h:Nat}:subS H sz E (.f .e) l h=some (.f .e):=id rfl
theorem u0d {H:List Row}{sz:Nat}{E:TypeId}{l h:Nat}:subS H sz E (.f (.v (.slice none 0 0))) l h=some (.f (.v (.slice none 0 0))):=id rfl
theorem y0L:mxS (.f (.v (.slice none 0 0))) = .f (.v (.slice none 0 0)):=id rfl
theorem e1o {xs:List F}{n:Nat}:mxS (.f (.s xs n)) = .f .e:=id rfl
theorem f1S:mxS (.f .e) = .f .e:=id rfl
theorem d1C {r o n:Nat}:mxS (.sl r o n) = .f .e:=id rfl
theorem p0P {cs:List D}:e0X cs []=some cs:=id rfl
theorem m0n {cs:List D}{off size:Nat}{d:D}{rest:List (Nat × Nat × D)}:e0X cs ((off,size,d) :: rest)=if b0F d=true∧d.cells.length=size∧off+size≤cs.length then e0X (putL off d.cells cs) rest else none:=id rfl
theorem m0a {P:Program}{H:List Row}:a0U P H []=some ([],[]):=id rfl
def y0h (x:F)(o:Option (List F × List (Nat × Row))):Option (List F × List (Nat × Row)):=match o with
 | some (xs,us)=>some (x :: xs,us)
 | none=>none
theorem v0J {P:Program}{H:List Row}{x:F}{ds:List D}:a0U P H (.f x :: ds)=y0h x (a0U P H ds):=by
 simp only [a0U,b0L,a0B,List.nil_append]
 cases a0U P H ds<;>rfl
theorem r0a {x:F}{xs:List F}{us:List (Nat × Row)}:y0h x (some (xs,us))=some (x :: xs,us):=id rfl
theorem g0n {H:List Row}:a0B H []=H:=id rfl
theorem d1G:fs? []=some []:=id rfl
theorem a1u {x:F}{ds:List D}:fs? (.f x :: ds)=(fs? ds).map (x :: ·):=id rfl
theorem m0t {H:List Row}{sz:Nat}:b0R H sz (.f (.v (.slice none 0 0)))=some (0,[]):=id rfl
theorem u0A {H:List Row}{sz:Nat}:b0R H sz (.f .e)=some (0,[]):=id rfl
theorem v0y {H:List Row}{sz n:Nat}{xs:List F}:b0R H sz (.f (.s xs n))=some (n,xs):=id rfl
def z0F (sz off n:Nat)(o:Option Row):Option (Nat × List F):=match o with
 | some (.data _ xs)=>if off+n*sz≤xs.length then some (n,(xs.drop off).take (n*sz)) else none
 | some (.froz _ xs)=>if off+n*sz≤xs.length then some (n,(xs.drop off).take (n*sz)) else none
 | some (.box _ ds)=>match fs? ds with
  | some xs=>if off+n*sz≤xs.length then some (n,(xs.drop off).take (n*sz)) else none
  | none=>none
 | _=>none
theorem o0g {H:List Row}{sz r off n:Nat}:b0R H sz (.sl r off n)=z0F sz off n H[r]?:=id rfl
theorem j0D {sz off n:Nat}{T:TypeId}{xs:List F}:z0F sz off n (some (.data T xs))=if off+n*sz≤xs.length then some (n,(xs.drop off).take (n*sz)) else none:=id rfl
theorem k0C {sz off n:Nat}{T:TypeId}{xs:List F}:z0F sz off n (some (.froz T xs))=if off+n*sz≤xs.length then some (n,(xs.drop off).take (n*sz)) else none:=id rfl
theorem t0h {H:List Row}{T:TypeId}{sz b:Nat}{x:D}{K:D→List Row→Prop}:appS H T sz b (.f (.v (.slice none 0 0))) x K=a0D (b0R H sz x) fun p=>Two (p.1=0) (K (.f (.v (.slice none 0 0))) H) (p.2.length=p.1*sz∧p.1*b≤most∧p.1≤most∧K (.sl H.length 0 p.1) (H++[.data T p.2])):=id rfl
theorem c1Q {H:List Row}{T:TypeId}{sz b:Nat}{x:D}{K:D→List Row→Prop}:appS H T sz b (.f .e) x K=a0D (b0R H sz x) fun p=>Two (p.1=0) (K (.f .e) H) (p.2.length=p.1*sz∧p.1*b≤most∧p.1≤most∧K (.sl H.length 0 p.1) (H++[.data T p.2])):=id rfl
def appR (H:List Row)(T:TypeId)(sz b r off n m:Nat)(ys:List F)(K:D→List Row→Prop)(o:Option Row):Prop:=match o with
 | some (.data U xs)=>U=T∧ys.length=m*sz∧xs.length=off+n*sz∧(n+m)*b≤most∧n+m≤most∧K (.sl H.length 0 (n+m)) (H.set r .dead++[.data T (xs.drop off++ys)])
 | _=>False
theorem y0o {H:List Row}{T:TypeId}{sz b:Nat}{x:D}{K:D→List Row→Prop}{r off n:Nat}:appS H T sz b (.sl r off n) x K=a0D (b0R H sz x) fun p=>Two (p.1=0) (K (.sl r off n) H) (appR H T sz b r off n p.1 p.2 K H[r]?):=id rfl
theorem p0p {H:List Row}{T U:TypeId}{sz b r off n m:Nat}{ys xs:List F}{K:D→List Row→Prop}:appR H T sz b r off n m ys K (some (.data U xs))=(U=T∧ys.length=m*sz∧xs.length=off+n*sz∧(n+m)*b≤most∧n+m≤most∧K (.sl H.length 0 (n+m)) (H.set r .dead++[.data T (xs.drop off++ys)])):=id rfl
theorem q0q {H:List Row}:g0G H (.f (.v (.map none)))=some []:=id rfl
def f1K (o:Option Row):Option (List (Value × D)):=match o with
 | some (.map es)=>some es
 | _=>none
theorem n0o {H:List Row}{r:Nat}:g0G H (.mp r)=f1K H[r]?:=id rfl
theorem o0W {es:List (Value × D)}:f1K (some (.map es))=some es:=id rfl
theorem a1s {w:Bool}{p q:Prop}{b:Bool}:r0Q (some (.f (.v (.bool b)))) w p q=if w then Bsel b p q else Bsel b q p:=id rfl
theorem y0q {w:Bool}{p q:Prop}{ds:List D}:r0Q (some (.tp ds)) w p q=q:=id rfl
theorem Dint {n:Int}:D.int n = .f (.v (.int .i64 n)):=id rfl
theorem f1M {b:Bool}:D.bool b = .f (.v (.bool b)):=id rfl
theorem Dv {x:Value}:D.v x = .f (.v x):=id rfl
theorem c1k:D.undef = .tp []:=id rfl
theorem y0E {N r:Nat}:ren [] N r=N+r:=by simp [ren]
theorem c1d {ρ:Nat→Nat}{x:F}:renE ρ (.f x) = .f x:=id rfl
theorem a1n {ρ:Nat→Nat}{r o n:Nat}:renE ρ (.sl r o n) = .sl (ρ r) o n:=id rfl
theorem x0w {ρ:Nat→Nat}{r o:Nat}:renE ρ (.pt r o) = .pt (ρ r) o:=id rfl
theorem z0e {ρ:Nat→Nat}{r:Nat}:renE ρ (.mp r) = .mp (ρ r):=id rfl
theorem y0u {ρ:Nat→Nat}{xs:List F}:renE ρ (.rf xs) = .rf xs:=id rfl
theorem z0M {ρ:Nat→Nat}{ds:List D}:renE ρ (.ag ds) = .ag (ds.map (renE ρ)):=by simp [renE,c0J]
theorem z0K {ρ:Nat→Nat}{ds:List D}:renE ρ (.tp ds) = .tp (ds.map (renE ρ)):=by simp [renE,c0J]
theorem x0k {ρ:Nat→Nat}{f:FuncId}{ds:List D}:renE ρ (.fn f ds) = .fn f (ds.map (renE ρ)):=by simp [renE,c0J]
theorem u0T {ρ:Nat→Nat}{T:TypeId}{ds:List D}:renR ρ (.box T ds) = .box T (ds.map (renE ρ)):=id rfl
theorem p0A {ρ:Nat→Nat}{T:TypeId}{xs:List F}:renR ρ (.data T xs) = .data T xs:=id rfl
theorem r0W {ρ:Nat→Nat}{T:TypeId}{xs:List F}:renR ρ (.froz T xs) = .froz T xs:=id rfl
theorem v0N {ρ:Nat→Nat}{es:List (Value × D)}:renR ρ (.map es) = .map es:=id rfl
theorem q0G {ρ:Nat→Nat}:renR ρ .dead = .dead:=id rfl
theorem i0K {ρ:Nat→Nat}{rows H:List Row}:b0T ρ [] rows H=H:=by cases rows<;>rfl
theorem g0m {ρ:Nat→Nat}{r:Nat}{ι:List Nat}{row:Row}{rows H:List Row}:b0T ρ (r :: ι) (row :: rows) H=b0T ρ ι rows (H.set r (renR ρ row)):=id rfl
theorem q0e {ts:List D}{t:Nat}{d:D}:putD! ts (some t) d=ts.set t d:=id rfl
theorem p0Q {ts:List D}{d:D}:putD! ts none d=ts:=id rfl
theorem k0z:List.range 0=[]:=id rfl
theorem t0u {P:Program}{b own:List Nat}{n0 i:Nat}{log:List (List Nat × List Nat)}{ts:List D}{H:List Row}{dr:List Nat}{K:St→Prop}:wpDr P b n0 [] i own log ⟨ts,H,dr⟩ K=K ⟨ts,H,[]⟩:=id rfl
def d0b (P:Program)(b own:List Nat)(n0 i:Nat)(log:List (List Nat × List Nat))(o:SOp)(V:List Nat)(ts:List D)(H:List Row)(next:List Nat→List (List Nat × List Nat)→D→List Row→Prop):Prop :=
 a0R P ts (b0b V H) o fun w d H'=>H'=(effS w V H.length d H').heap (b0b V H) ∧
  Chk (chkS n0 own (b.getD i 0) V (o.vs.map (SV.ev ts)) (b0b V H) (effS w V H.length d H') log) ∧
  next (own++(effS w V H.length d H').news.map fun _=>i) (log++[(V,(effS w V H.length d H').upd.map (·.1))]) d ((effS w V H.length d H').heap H)
@[congr] theorem drStep_congr {P:Program} {b own own':List Nat} {n0 i i':Nat} {log log':List (List Nat × List Nat)} {o:SOp} {V V':List Nat} {ts ts':List D} {H H':List Row} {next:List Nat→List (List Nat × List Nat)→D→List Row→Prop} (h1:own=own') (h5:log=log') (h2:V=V') (h3:ts=ts') (h4:H=H') (h6:i=i'):d0b P b own n0 i log o V ts H next=d0b P b own' n0 i' log' o V' ts' H' next:=by rw [h1,h2,h3,h4,h5,h6]
theorem z0p {P:Program}{b own:List Nat}{n0 i:Nat}{log:List (List Nat × List Nat)}{l:List SI}{ts:List D}{H:List Row}{dr:List Nat}{K:St→Prop}{t:Nat}{o:SOp}:wpDr P b n0 (.a t o :: l) i own log ⟨ts,H,dr⟩ K=d0b P b own n0 i log o (a0X ts H o) ts H fun own1 log1 d H1=>wpDr P b n0 l (i+1) own1 log1 ⟨ts.set t d,H1,[]⟩ K:=id rfl
theorem a1c {P:Program}{b own:List Nat}{n0 i:Nat}{log:List (List Nat × List Nat)}{l:List SI}{ts:List D}{H:List Row}{dr:List Nat}{K:St→Prop}{o:SOp}:wpDr P b n0 (.n o :: l) i own log ⟨ts,H,dr⟩ K=d0b P b own n0 i log o (a0X ts H o) ts H fun own1 log1 d H1=>wpDr P b n0 l (i+1) own1 log1 ⟨ts,H1,[]⟩ K:=id rfl
theorem a1K {P:Program}{b own:List Nat}{n0 i:Nat}{log:List (List Nat × List Nat)}{l:List SI}{ts:List D}{H:List Row}{dr:List Nat}{K:St→Prop}{d:Option Nat}{t:Nat}{w:Bool}{o:SOp}:wpDr P b n0 (.g d o t w :: l) i own log ⟨ts,H,dr⟩ K=r0Q ts[t]? w (d0b P b own n0 i log o (a0X ts H o) ts H fun own1 log1 r H1=>wpDr P b n0 l (i+1) own1 log1 ⟨putD! ts d r,H1,[]⟩ K) (wpDr P b n0 l (i+1) own (log++[([],[])]) ⟨putD! ts d D.undef,H,[]⟩ K):=id rfl
theorem l0W {P:Program}{b own:List Nat}{n0 i:Nat}{log:List (List Nat × List Nat)}{o:SOp}{V:List Nat}{ts:List D}{H:List Row}{next:List Nat→List (List Nat × List Nat)→D→List Row→Prop}:d0b P b own n0 i log o V ts H next=a0R P ts (b0b V H) o fun w d H1=>H1=(effS w V H.length d H1).heap (b0b V H)∧Chk (chkS n0 own (b.getD i 0) V (o.vs.map (SV.ev ts)) (b0b V H) (effS w V H.length d H1) log)∧next (own++(effS w V H.length d H1).news.map fun _=>i) (log++[(V,(effS w V H.length d H1).upd.map (·.1))]) d ((effS w V H.length d H1).heap H):=id rfl
theorem q0s {P:Program}{ts:List D}{H:List Row}{K:Bool→D→List Row→Prop}(x:SV):a0R P ts H (.mv x) K=((K false) (x.ev ts) H):=id rfl
theorem u0f {ts:List D}{H:List Row}(x:SV):a0X ts H (.mv x)=[]:=id rfl
theorem v0e (x:SV):SOp.turns (.mv x)=false:=id rfl
theorem i0I {P:Program}{ts:List D}{H:List Row}{K:Bool→D→List Row→Prop}(c a b:SV):a0R P ts H (.pick c a b) K=(k0Z (c.ev ts) ((K false) (a.ev ts) H) ((K false) (b.ev ts) H)):=id rfl
theorem m0S {ts:List D}{H:List Row}(c a b:SV):a0X ts H (.pick c a b)=[]:=id rfl
theorem l0S (c a b:SV):SOp.turns (.pick c a b)=false:=id rfl
theorem g0a {P:Program}{ts:List D}{H:List Row}{K:Bool→D→List Row→Prop}(T:TypeId)(z:List D):a0R P ts H (.alloc T z) K=((K false) (.pt H.length 0) (H++[.box T z])):=id rfl
theorem i0j {ts:List D}{H:List Row}(T:TypeId)(z:List D):a0X ts H (.alloc T z)=[]:=id rfl
theorem i0g (T:TypeId)(z:List D):SOp.turns (.alloc T z)=false:=id rfl
theorem l0c {P:Program}{ts:List D}{H:List Row}{K:Bool→D→List Row→Prop}(T:TypeId)(x:SV):a0R P ts H (.box T x) K=(a0D (boxD (x.ev ts)) fun cs=>(K false) (.pt H.length 0) (H++[.box T cs])):=id rfl
theorem r0I {ts:List D}{H:List Row}(T:TypeId)(x:SV):a0X ts H (.box T x)=[]:=id rfl
theorem o0R (T:TypeId)(x:SV):SOp.turns (.box T x)=false:=id rfl
theorem g0z {P:Program}{ts:List D}{H:List Row}{K:Bool→D→List Row→Prop}(a:SV):a0R P ts H (.load1 a) K=(a0D (load1 H (a.ev ts)) fun d=>(K false) d H):=id rfl
theorem j0x {ts:List D}{H:List Row}(a:SV):a0X ts H (.load1 a)=dedN (b0Z ([a.ev ts])):=id rfl
theorem i0W (a:SV):SOp.turns (.load1 a)=false:=id rfl
theorem g0R {P:Program}{ts:List D}{H:List Row}{K:Bool→D→List Row→Prop}(n:Nat)(a:SV):a0R P ts H (.loadA n a) K=(a0D (loadA H n (a.ev ts)) fun d=>(K false) d H):=id rfl
theorem i0i {ts:List D}{H:List Row}(n:Nat)(a:SV):a0X ts H (.loadA n a)=dedN (b0Z ([a.ev ts])):=id rfl
theorem i0f (n:Nat)(a:SV):SOp.turns (.loadA n a)=false:=id rfl
theorem g0T {P:Program}{ts:List D}{H:List Row}{K:Bool→D→List Row→Prop}(n:Nat)(a x:SV):a0R P ts H (.store n a x) K=(a0D (c0i P H n (a.ev ts) (x.ev ts)) fun H'=>(K true) D.undef H'):=id rfl
theorem j0r {ts:List D}{H:List Row}(n:Nat)(a x:SV):a0X ts H (.store n a x)=dedN (b0Z ([a.ev ts,x.ev ts])):=id rfl
theorem k0D (n:Nat)(a x:SV):SOp.turns (.store n a x)=true:=id rfl
theorem j0z {P:Program}{ts:List D}{H:List Row}{K:Bool→D→List Row→Prop}(x:SV):a0R P ts H (.nilc x) K=(a0D (s0M (x.ev ts)) fun d=>(K false) d H):=id rfl
theorem m0J {ts:List D}{H:List Row}(x:SV):a0X ts H (.nilc x)=[]:=id rfl
theorem l0a (x:SV):SOp.turns (.nilc x)=false:=id rfl
theorem k0j {P:Program}{ts:List D}{H:List Row}{K:Bool→D→List Row→Prop}(o:Nat)(a:SV):a0R P ts H (.off o a) K=(a0D (offD o (a.ev ts)) fun d=>(K false) d H):=id rfl
theorem o0K {ts:List D}{H:List Row}(o:Nat)(a:SV):a0X ts H (.off o a)=[]:=id rfl
theorem q0B (o:Nat)(a:SV):SOp.turns (.off o a)=false:=id rfl
theorem h0x {P:Program}{ts:List D}{H:List Row}{K:Bool→D→List Row→Prop}(o:Nat)(x:SV):a0R P ts H (.fld1 o x) K=(a0D (fld1 o (x.ev ts)) fun d=>(K false) d H):=id rfl
theorem l0w {ts:List D}{H:List Row}(o:Nat)(x:SV):a0X ts H (.fld1 o x)=[]:=id rfl
theorem m0P (o:Nat)(x:SV):SOp.turns (.fld1 o x)=false:=id rfl
theorem j0H {P:Program}{ts:List D}{H:List Row}{K:Bool→D→List Row→Prop}(o n:Nat)(x:SV):a0R P ts H (.fldA o n x) K=(a0D (fldA o n (x.ev ts)) fun d=>(K false) d H):=id rfl
theorem k0e {ts:List D}{H:List Row}(o n:Nat)(x:SV):a0X ts H (.fldA o n x)=[]:=id rfl
theorem m0k (o n:Nat)(x:SV):SOp.turns (.fldA o n x)=false:=id rfl
theorem m0y {P:Program}{ts:List D}{H:List Row}{K:Bool→D→List Row→Prop}(sz:Nat)(x i:SV):a0R P ts H (.idx sz x i) K=(idxS sz (x.ev ts) (i.ev ts) fun d=>(K false) d H):=id rfl
theorem r0P {ts:List D}{H:List Row}(sz:Nat)(x i:SV):a0X ts H (.idx sz x i)=[]:=id rfl
theorem p0a (sz:Nat)(x i:SV):SOp.turns (.idx sz x i)=false:=id rfl
theorem m0Q {P:Program}{ts:List D}{H:List Row}{K:Bool→D→List Row→Prop}(sz n:Nat)(x i:SV):a0R P ts H (.arr sz n x i) K=(arrS sz n (x.ev ts) (i.ev ts) fun d=>(K false) d H):=id rfl
theorem o0V {ts:List D}{H:List Row}(sz n:Nat)(x i:SV):a0X ts H (.arr sz n x i)=[]:=id rfl
theorem q0u (sz n:Nat)(x i:SV):SOp.turns (.arr sz n x i)=false:=id rfl
theorem m0D {P:Program}{ts:List D}{H:List Row}{K:Bool→D→List Row→Prop}(i:Nat)(x:SV):a0R P ts H (.ext i x) K=(a0D (extD i (x.ev ts)) fun d=>(K false) d H):=id rfl
theorem r0H {ts:List D}{H:List Row}(i:Nat)(x:SV):a0X ts H (.ext i x)=[]:=id rfl
theorem r0F (i:Nat)(x:SV):SOp.turns (.ext i x)=false:=id rfl
theorem m0L {P:Program}{ts:List D}{H:List Row}{K:Bool→D→List Row→Prop}(op:BinOp)(x y:SV):a0R P ts H (.bin op x y) K=(binS op (x.ev ts) (y.ev ts) fun d=>(K false) d H):=id rfl
theorem p0B {ts:List D}{H:List Row}(op:BinOp)(x y:SV):a0X ts H (.bin op x y)=[]:=id rfl
theorem p0I (op:BinOp)(x y:SV):SOp.turns (.bin op x y)=false:=id rfl
theorem i0q {P:Program}{ts:List D}{H:List Row}{K:Bool→D→List Row→Prop}(op:BinOp)(x y:SV):a0R P ts H (.binb op x y) K=(p0x op (x.ev ts) (y.ev ts) fun d=>(K false) d H):=id rfl
theorem k0n {ts:List D}{H:List Row}(op:BinOp)(x y:SV):a0X ts H (.binb op x y)=[]:=id rfl
theorem l0I (op:BinOp)(x y:SV):SOp.turns (.binb op x y)=false:=id rfl
theorem l0g {P:Program}{ts:List D}{H:List Row}{K:Bool→D→List Row→Prop}(eq:Bool)(ks:List Nat)(x y:SV):a0R P ts H (.aeq eq ks x y) K=(aeqS eq ks (x.ev ts) (y.ev ts) fun d=>(K false) d H):=id rfl
theorem o0d {ts:List D}{H:List Row}(eq:Bool)(ks:List Nat)(x y:SV):a0X ts H (.aeq eq ks x y)=[]:=id rfl
theorem p0h (eq:Bool)(ks:List Nat)(x y:SV):SOp.turns (.aeq eq ks x y)=false:=id rfl
theorem j0C {P:Program}{ts:List D}{H:List Row}{K:Bool→D→List Row→Prop}(x:SV):a0R P ts H (.unot x) K=(a0D (notS (x.ev ts)) fun d=>(K false) d H):=id rfl
theorem k0k {ts:List D}{H:List Row}(x:SV):a0X ts H (.unot x)=[]:=id rfl
theorem k0l (x:SV):SOp.turns (.unot x)=false:=id rfl
theorem q0t {P:Program}{ts:List D}{H:List Row}{K:Bool→D→List Row→Prop}(f:FuncId)(caps:List SV):a0R P ts H (.fn f caps) K=((K false) (.fn f (caps.map (SV.ev ts))) H):=id rfl
theorem t0r {ts:List D}{H:List Row}(f:FuncId)(caps:List SV):a0X ts H (.fn f caps)=[]:=id rfl
theorem u0r (f:FuncId)(caps:List SV):SOp.turns (.fn f caps)=false:=id rfl
theorem g0c {P:Program}{ts:List D}{H:List Row}{K:Bool→D→List Row→Prop}  : a0R P ts H (.mkmap) K=((K false) (.mp H.length) (H++[.map []])):=id rfl
theorem i0X {ts:List D}{H:List Row}  : a0X ts H (.mkmap)=[]:=id rfl
theorem i0D  : SOp.turns (.mkmap)=false:=id rfl
theorem e0h {P:Program}{ts:List D}{H:List Row}{K:Bool→D→List Row→Prop}(T:TypeId)(sz b:Nat)(z:List F)(l c:SV):a0R P ts H (.mkslice T sz b z l c) K=(a0D (intOf? (l.ev ts)) fun a=>a0D (intOf? (c.ev ts)) fun c=>((0<a∨c=0)∧0≤a∧a≤c∧b*c≤140737488355328∧c.toNat*sz≤16777216)∧(K false) (.sl H.length 0 a.toNat) (H++[.data T ((List.range (a.toNat*sz)).map fun j=>z.getD (j % sz) (.v Go.undef))])):=id rfl
theorem f0B {ts:List D}{H:List Row}(T:TypeId)(sz b:Nat)(z:List F)(l c:SV):a0X ts H (.mkslice T sz b z l c)=[]:=id rfl
theorem f0V (T:TypeId)(sz b:Nat)(z:List F)(l c:SV):SOp.turns (.mkslice T sz b z l c)=false:=id rfl
theorem m0I {P:Program}{ts:List D}{H:List Row}{K:Bool→D→List Row→Prop}(z:List D)(parts:List (Nat × Nat × SV)):a0R P ts H (.bld z parts) K=(a0D (e0X z (parts.map fun p=>(p.1,p.2.1,p.2.2.ev ts))) fun ds=>(K false) (.ag ds) H):=id rfl
theorem r0A {ts:List D}{H:List Row}(z:List D)(parts:List (Nat × Nat × SV)):a0X ts H (.bld z parts)=[]:=id rfl
theorem q0P (z:List D)(parts:List (Nat × Nat × SV)):SOp.turns (.bld z parts)=false:=id rfl
theorem l0y {P:Program}{ts:List D}{H:List Row}{K:Bool→D→List Row→Prop}(T:TypeId)(sz len:Nat)(z:List D)(parts:List (Nat × SV)):a0R P ts H (.bsl T sz len z parts) K=(a0D (e0X z (parts.map fun p=>(p.1,sz,p.2.ev ts))) fun ds=>a0D (a0U P H ds) fun xu=>(K true) (.sl H.length 0 len) (a0B H xu.2++[.data T xu.1])):=id rfl
theorem q0E {ts:List D}{H:List Row}(T:TypeId)(sz len:Nat)(z:List D)(parts:List (Nat × SV)):a0X ts H (.bsl T sz len z parts)=dedN (b0Z ((parts.map fun p=>p.2).map (SV.ev ts))):=id rfl
theorem q0r (T:TypeId)(sz len:Nat)(z:List D)(parts:List (Nat × SV)):SOp.turns (.bsl T sz len z parts)=true:=id rfl
theorem m0G {P:Program}{ts:List D}{H:List Row}{K:Bool→D→List Row→Prop}(T:TypeId)(sz b:Nat)(s x:SV):a0R P ts H (.app T sz b s x) K=(appS H T sz b (s.ev ts) (x.ev ts) (K true)):=id rfl
theorem p0e {ts:List D}{H:List Row}(T:TypeId)(sz b:Nat)(s x:SV):a0X ts H (.app T sz b s x)=dedN (b0Z ([s.ev ts,x.ev ts])):=id rfl
theorem q0w (T:TypeId)(sz b:Nat)(s x:SV):SOp.turns (.app T sz b s x)=true:=id rfl
theorem i0R {P:Program}{ts:List D}{H:List Row}{K:Bool→D→List Row→Prop}(x:SV):a0R P ts H (.slen x) K=(a0D (slcS (x.ev ts)) fun n=>(K false) (D.int n) H):=id rfl
theorem l0Z {ts:List D}{H:List Row}(x:SV):a0X ts H (.slen x)=[]:=id rfl
theorem l0r (x:SV):SOp.turns (.slen x)=false:=id rfl
theorem h0k {P:Program}{ts:List D}{H:List Row}{K:Bool→D→List Row→Prop}(x:SV):a0R P ts H (.mlen x) K=(a0D (g0G H (x.ev ts)) fun es=>(K false) (D.int es.length) H):=id rfl
theorem l0x {ts:List D}{H:List Row}(x:SV):a0X ts H (.mlen x)=dedN (b0Z ([x.ev ts])):=id rfl
theorem l0m (x:SV):SOp.turns (.mlen x)=false:=id rfl
theorem h0n {P:Program}{ts:List D}{H:List Row}{K:Bool→D→List Row→Prop}(k:IntKind)(x:SV):a0R P ts H (.conv k x) K=(a0D (z0d k (x.ev ts)) fun d=>(K false) d H):=id rfl
theorem l0z {ts:List D}{H:List Row}(k:IntKind)(x:SV):a0X ts H (.conv k x)=[]:=id rfl
theorem m0u (k:IntKind)(x:SV):SOp.turns (.conv k x)=false:=id rfl
theorem m0Y {P:Program}{ts:List D}{H:List Row}{K:Bool→D→List Row→Prop}(x:SV):a0R P ts H (.s2b x) K=(a0D (strOf? (x.ev ts)) fun s=>s.size≤most∧(K false) (.f (.s (s.data.toList.map fun b=>.v (.int .u8 b.toNat)) s.size)) H):=id rfl
theorem o0O {ts:List D}{H:List Row}(x:SV):a0X ts H (.s2b x)=[]:=id rfl
theorem r0e (x:SV):SOp.turns (.s2b x)=false:=id rfl
theorem m0T {P:Program}{ts:List D}{H:List Row}{K:Bool→D→List Row→Prop}(x:SV):a0R P ts H (.b2s x) K=(a0D (b0R H 1 (x.ev ts)) fun p=>a0D (bytesOf? (p.2.map .f)) fun l=>p.2.length=p.1∧(K false) (.f (.v (.string ⟨l.toArray⟩))) H):=id rfl
theorem p0r {ts:List D}{H:List Row}(x:SV):a0X ts H (.b2s x)=dedN (b0Z ([x.ev ts])):=id rfl
theorem r0U (x:SV):SOp.turns (.b2s x)=false:=id rfl
theorem f0i {P:Program}{ts:List D}{H:List Row}{K:Bool→D→List Row→Prop}(x:SV):a0R P ts H (.strlen x) K=(a0D (strOf? (x.ev ts)) fun s=>(K false) (D.int s.size) H):=id rfl
theorem g0S {ts:List D}{H:List Row}(x:SV):a0X ts H (.strlen x)=[]:=id rfl
theorem g0p (x:SV):SOp.turns (.strlen x)=false:=id rfl
theorem i0k {P:Program}{ts:List D}{H:List Row}{K:Bool→D→List Row→Prop}(sz n:Nat)(x i:SV):a0R P ts H (.aidx sz n x i) K=(x0G sz n (x.ev ts) (i.ev ts) fun d=>(K false) d H):=id rfl
theorem l0l {ts:List D}{H:List Row}(sz n:Nat)(x i:SV):a0X ts H (.aidx sz n x i)=[]:=id rfl
theorem k0h (sz n:Nat)(x i:SV):SOp.turns (.aidx sz n x i)=false:=id rfl
theorem j0b {P:Program}{ts:List D}{H:List Row}{K:Bool→D→List Row→Prop}(x i:SV):a0R P ts H (.sidx x i) K=(a0D (strOf? (x.ev ts)) fun s=>a0D (intOf? (i.ev ts)) fun i=>a0D (if 0≤i then s.data.toList[i.toNat]? else none) fun b=>(K false) (.f (.v (.int .u8 b.toNat))) H):=id rfl
theorem k0q {ts:List D}{H:List Row}(x i:SV):a0X ts H (.sidx x i)=[]:=id rfl
theorem k0s (x i:SV):SOp.turns (.sidx x i)=false:=id rfl
theorem j0u {P:Program}{ts:List D}{H:List Row}{K:Bool→D→List Row→Prop}(x:SV)(lo hi:Option SV):a0R P ts H (.ssub x lo hi) K=(a0D (x0X (x.ev ts) (lo.map (SV.ev ts)) (hi.map (SV.ev ts))) fun d=>(K false) d H):=id rfl
theorem l0u {ts:List D}{H:List Row}(x:SV)(lo hi:Option SV):a0X ts H (.ssub x lo hi)=[]:=id rfl
theorem m0Z (x:SV)(lo hi:Option SV):SOp.turns (.ssub x lo hi)=false:=id rfl
theorem j0q {P:Program}{ts:List D}{H:List Row}{K:Bool→D→List Row→Prop}(ok:Bool)(K0:TypeId)(z:D)(m k:SV):a0R P ts H (.look ok K0 z m k) K=(a0D (r0n P H ok K0 z (m.ev ts) (k.ev ts)) fun d=>(K false) d H):=id rfl
theorem m0F {ts:List D}{H:List Row}(ok:Bool)(K0:TypeId)(z:D)(m k:SV):a0X ts H (.look ok K0 z m k)=dedN (b0Z ([m.ev ts,k.ev ts])):=id rfl
theorem k0g (ok:Bool)(K0:TypeId)(z:D)(m k:SV):SOp.turns (.look ok K0 z m k)=false:=id rfl
theorem i0Y {P:Program}{ts:List D}{H:List Row}{K:Bool→D→List Row→Prop}(K0:TypeId)(m k x:SV):a0R P ts H (.mput K0 m k x) K=(a0D (r0c P H K0 (m.ev ts) (k.ev ts) (x.ev ts)) fun H'=>(K true) D.undef H'):=id rfl
theorem m0c {ts:List D}{H:List Row}(K0:TypeId)(m k x:SV):a0X ts H (.mput K0 m k x)=dedN (b0Z ([m.ev ts,k.ev ts,x.ev ts])):=id rfl
theorem m0g (K0:TypeId)(m k x:SV):SOp.turns (.mput K0 m k x)=true:=id rfl
theorem j0h {P:Program}{ts:List D}{H:List Row}{K:Bool→D→List Row→Prop}(K0:TypeId)(m k:SV):a0R P ts H (.mdel K0 m k) K=(a0D (z0m P H K0 (m.ev ts) (k.ev ts)) fun H'=>(K true) (.tp []) H'):=id rfl
theorem l0P {ts:List D}{H:List Row}(K0:TypeId)(m k:SV):a0X ts H (.mdel K0 m k)=dedN (b0Z ([m.ev ts,k.ev ts])):=id rfl
theorem l0O (K0:TypeId)(m k:SV):SOp.turns (.mdel K0 m k)=true:=id rfl
theorem m0h {P:Program}{ts:List D}{H:List Row}{K:Bool→D→List Row→Prop}(T:TypeId)(x:SV):a0R P ts H (.clr T x) K=(a0D (h0A P H T (x.ev ts)) fun H'=>(K true) (.tp []) H'):=id rfl
theorem q0d {ts:List D}{H:List Row}(T:TypeId)(x:SV):a0X ts H (.clr T x)=dedN (b0Z ([x.ev ts])):=id rfl
theorem q0i (T:TypeId)(x:SV):SOp.turns (.clr T x)=true:=id rfl
theorem r0K {P:Program}{ts:List D}{H:List Row}{K:Bool→D→List Row→Prop}(mx:Bool)(x y:SV):a0R P ts H (.mm mx x y) K=(a0D (intOf? (x.ev ts)) fun a=>a0D (intOf? (y.ev ts)) fun b=>(K false) (D.int (if mx then max a b else min a b)) H):=id rfl
theorem t0q {ts:List D}{H:List Row}(mx:Bool)(x y:SV):a0X ts H (.mm mx x y)=[]:=id rfl
theorem v0V (mx:Bool)(x y:SV):SOp.turns (.mm mx x y)=false:=id rfl
theorem h0w {P:Program}{ts:List D}{H:List Row}{K:Bool→D→List Row→Prop}(f:SV)(args:List SV):a0R P ts H (.call f args) K=a0m P (f.ev ts) (args.map (SV.ev ts)) H K:=id rfl
theorem l0B {ts:List D}{H:List Row}(f:SV)(args:List SV):a0X ts H (.call f args)=dedN (lvl H (lvl H (lvl H (b0Z (args.map (SV.ev ts))++(f.ev ts).refs)))):=id rfl
theorem m0B (f:SV)(args:List SV):SOp.turns (.call f args)=true:=id rfl
theorem j0V {P:Program}{ts:List D}{H:List Row}{K:Bool→D→List Row→Prop}(sz:Nat)(E:TypeId)(x:SV):a0R P ts H (.sub sz E x none none none) K=(a0D (slcS (x.ev ts)) fun n=>(0≤(0:Int)∧(0:Int)≤n∧(n:Int)≤n)∧a0D (subS H sz E (x.ev ts) (0:Int).toNat (n:Int).toNat) fun d=>(K false) d H):=id rfl
theorem l0k {ts:List D}{H:List Row}(sz:Nat)(E:TypeId)(x:SV):a0X ts H (.sub sz E x none none none)=dedN (b0Z ([x.ev ts])):=id rfl
theorem l0K (sz:Nat)(E:TypeId)(x:SV):SOp.turns (.sub sz E x none none none)=false:=id rfl
theorem j0j {P:Program}{ts:List D}{H:List Row}{K:Bool→D→List Row→Prop}(sz:Nat)(E:TypeId)(x l:SV):a0R P ts H (.sub sz E x (some l) none none) K=(a0D (slcS (x.ev ts)) fun n=>a0D (intOf? (l.ev ts)) fun l=>(0≤l∧l≤n∧(n:Int)≤n)∧a0D (subS H sz E (x.ev ts) l.toNat (n:Int).toNat) fun d=>(K false) d H):=id rfl
theorem l0L {ts:List D}{H:List Row}(sz:Nat)(E:TypeId)(x l:SV):a0X ts H (.sub sz E x (some l) none none)=dedN (b0Z ([x.ev ts,l.ev ts])):=id rfl
theorem m0q (sz:Nat)(E:TypeId)(x l:SV):SOp.turns (.sub sz E x (some l) none none)=false:=id rfl
theorem j0X {P:Program}{ts:List D}{H:List Row}{K:Bool→D→List Row→Prop}(sz:Nat)(E:TypeId)(x h:SV):a0R P ts H (.sub sz E x none (some h) none) K=(a0D (slcS (x.ev ts)) fun n=>a0D (intOf? (h.ev ts)) fun h=>(0≤(0:Int)∧0≤h∧h≤n)∧a0D (subS H sz E (x.ev ts) (0:Int).toNat h.toNat) fun d=>(K false) d H):=id rfl
theorem l0i {ts:List D}{H:List Row}(sz:Nat)(E:TypeId)(x h:SV):a0X ts H (.sub sz E x none (some h) none)=dedN (b0Z ([x.ev ts,h.ev ts])):=id rfl
theorem m0w (sz:Nat)(E:TypeId)(x h:SV):SOp.turns (.sub sz E x none (some h) none)=false:=id rfl
theorem g0q {P:Program}{ts:List D}{H:List Row}{K:Bool→D→List Row→Prop}(sz:Nat)(E:TypeId)(x l h:SV):a0R P ts H (.sub sz E x (some l) (some h) none) K=(a0D (slcS (x.ev ts)) fun n=>a0D (intOf? (l.ev ts)) fun l=>a0D (intOf? (h.ev ts)) fun h=>(0≤l∧l≤h∧h≤n)∧a0D (subS H sz E (x.ev ts) l.toNat h.toNat) fun d=>(K false) d H):=id rfl
theorem j0s {ts:List D}{H:List Row}(sz:Nat)(E:TypeId)(x l h:SV):a0X ts H (.sub sz E x (some l) (some h) none)=dedN (b0Z ([x.ev ts,l.ev ts,h.ev ts])):=id rfl
theorem h0f (sz:Nat)(E:TypeId)(x l h:SV):SOp.turns (.sub sz E x (some l) (some h) none)=false:=id rfl
theorem j0Z {P:Program}{ts:List D}{H:List Row}{K:Bool→D→List Row→Prop}(sz:Nat)(E:TypeId)(x l h m:SV):a0R P ts H (.sub sz E x (some l) (some h) (some m)) K=(a0D (slcS (x.ev ts)) fun n=>a0D (intOf? (l.ev ts)) fun l=>a0D (intOf? (h.ev ts)) fun h=>(0≤l∧l≤h∧h≤n)∧(intOf? (m.ev ts)=some l∧l=h∧(some h).isSome=true)∧(K false) (mxS (x.ev ts)) H):=id rfl
theorem l0R {ts:List D}{H:List Row}(sz:Nat)(E:TypeId)(x l h m:SV):a0X ts H (.sub sz E x (some l) (some h) (some m))=dedN (b0Z ([x.ev ts,l.ev ts,h.ev ts,m.ev ts])):=id rfl
theorem m0V (sz:Nat)(E:TypeId)(x l h m:SV):SOp.turns (.sub sz E x (some l) (some h) (some m))=false:=id rfl
theorem g0b {P:Program}{ts:List D}{H:List Row}{K:Bool→D→List Row→Prop}(sz:Nat)(E:TypeId)(x h m:SV):a0R P ts H (.sub sz E x none (some h) (some m)) K=(a0D (slcS (x.ev ts)) fun n=>a0D (intOf? (h.ev ts)) fun h=>(0≤(0:Int)∧0≤h∧h≤n)∧(intOf? (m.ev ts)=some 0∧(0:Int)=h∧(some h).isSome=true)∧(K false) (mxS (x.ev ts)) H):=id rfl
theorem i0d {ts:List D}{H:List Row}(sz:Nat)(E:TypeId)(x h m:SV):a0X ts H (.sub sz E x none (some h) (some m))=dedN (b0Z ([x.ev ts,h.ev ts,m.ev ts])):=id rfl
theorem j0e (sz:Nat)(E:TypeId)(x h m:SV):SOp.turns (.sub sz E x none (some h) (some m))=false:=id rfl
def hasB:List Nat→Nat→Bool
 | [],_=>false
 | x :: xs,i=>if x=i then true else hasB xs i
theorem s0I:∀ (V:List Nat) (i:Nat),hasB V i=V.contains i
 | [],_=>rfl
 | x :: xs,i=>by
  simp only [hasB,List.contains_cons,s0I xs i]
  by_cases h:x=i
  ·simp [h]
  ·simp [h,Ne.symm h]
def msk (V:List Nat):Nat→List Row→List Row
 | _,[]=>[]
 | i,r :: H=>(if hasB V i=true then r else .dead) :: msk V (i+1) H
theorem c1X (V:List Nat):∀ (H:List Row) (k:Nat),((H.zipIdx k).map fun p=>if V.contains p.2 then p.1 else .dead)=msk V k H
 | [],_=>rfl
 | r :: H,k=>by
  simp only [List.zipIdx_cons,List.map_cons,msk,s0I]
  rw [c1X V H (k+1)]
theorem q0X {V:List Nat}{H:List Row}:b0b V H=msk V 0 H:=c1X V H 0
theorem z0R {V:List Nat}{i:Nat}:msk V i []=[]:=id rfl
theorem v0S {V:List Nat}{i:Nat}{r:Row}{H:List Row}:msk V i (r :: H)=(if hasB V i=true then r else .dead) :: msk V (i+1) H:=id rfl
theorem t0f {i:Nat}:hasB [] i=false:=id rfl
theorem p0b {x i:Nat}{xs:List Nat}:hasB (x :: xs) i=if x=i then true else hasB xs i:=id rfl
theorem v0v:dedN []=[]:=id rfl
theorem p0J {x:Nat}{xs:List Nat}:dedN (x :: xs)=if hasB xs x=true then dedN xs else x :: dedN xs:=by rw [s0I];rfl
theorem q0N:b0Z []=[]:=id rfl
theorem l0X {d:D}{ds:List D}:b0Z (d :: ds)=d.refs++b0Z ds:=id rfl
theorem d1L {x:F}:D.refs (.f x)=[]:=id rfl
theorem y0z {r o n:Nat}:D.refs (.sl r o n)=[r]:=id rfl
theorem x0m {r o:Nat}:D.refs (.pt r o)=[r]:=id rfl
theorem y0t {r:Nat}:D.refs (.mp r)=[r]:=id rfl
theorem a1r {xs:List F}:D.refs (.rf xs)=[]:=id rfl
theorem o0k:D.refs .junk=[]:=id rfl
theorem n0e (ds:List D):D.refs.go ds=b0Z ds:=by
 induction ds with
 | nil=>rfl
 | cons d ds ih=>simp only [D.refs.go,b0Z,ih]
theorem a1Y {ds:List D}:D.refs (.ag ds)=b0Z ds:=by rw [D.refs,n0e]
theorem y0r {ds:List D}:D.refs (.tp ds)=b0Z ds:=by rw [D.refs,n0e]
theorem y0m {f:FuncId}{ds:List D}:D.refs (.fn f ds)=b0Z ds:=by rw [D.refs,n0e]
theorem z0a {H:List Row}:lvl H []=[]:=id rfl
theorem t0y {H:List Row}{r:Nat}{rs:List Nat}:lvl H (r :: rs)=r :: (d0t H[r]?++lvl H rs):=id rfl
theorem k0B {T:TypeId}{ds:List D}:d0t (some (.box T ds))=b0Z ds:=by
 simp only [d0t,Row.refs]
 induction ds with
 | nil=>rfl
 | cons d ds ih=>simp only [List.flatMap_cons,b0Z,ih]
theorem g0Y {T:TypeId}{xs:List F}:d0t (some (.data T xs))=[]:=id rfl
theorem g0s {T:TypeId}{xs:List F}:d0t (some (.froz T xs))=[]:=id rfl
theorem i0e {es:List (Value × D)}:d0t (some (.map es))=[]:=id rfl
theorem g0f  : d0t (some (.dead))=[]:=id rfl
theorem d1T {V:List Nat}{n:Nat}{d:D}{H1:List Row}:effS false V n d H1=⟨d,[],H1.drop n⟩:=id rfl
theorem d1P {V:List Nat}{n:Nat}{d:D}{H1:List Row}:effS true V n d H1=⟨d,V.map fun r=>(r,H1.getD r .dead),H1.drop n⟩:=id rfl
theorem z0A {d:D}{u:List (Nat × Row)}{n H:List Row}:(⟨d,u,n⟩:Eff).heap H=a0B H u++n:=id rfl
theorem f0a {H:List Row}{i:Nat}{r:Row}{us:List (Nat × Row)}:a0B H ((i,r) :: us)=a0B (H.set i r) us:=id rfl
theorem c1V {α:Type}{a d:α}{l:List α}:(a :: l).getD 0 d=a:=id rfl
theorem c1t {α:Type}{a d:α}{l:List α}{n:Nat}:(a :: l).getD (n+1) d=l.getD n d:=id rfl
section
variable {P:Program}
theorem e0R {g:FuncId}{caps args args0:List D}{H H0 H1:List Row}{d0:D}{K:Bool→D→List Row→Prop}(h:Con P g args0 H0 fun d H'=>d=d0∧H'=H1)(ι:List Nat)(hb:k0S ι H.length H0 args0=true)(ha:args++caps=args0.map (renE (ren ι H.length)))
  (hr:(ι.map fun r=>H.getD r .dead)=H0.map (renR (ren ι H.length)))
  (hk:K true (renE (ren ι H.length) d0) (b0T (ren ι H.length) ι H1 H++(H1.drop H0.length).map (renR (ren ι H.length)))):a0m P (.fn g caps) args H K:=by
 obtain ⟨g',caps',e,hc⟩:=a0F (K:=fun d H'=>d=renE (ren ι H.length) d0∧H'=b0T (ren ι H.length) ι H1 H++(H1.drop H0.length).map (renR (ren ι H.length))) h ι hb ha hr (fun d H' ⟨h1,h2⟩=>by rw [h1,h2];exact ⟨rfl,rfl⟩)
 injection e with e1 e2
 subst e1;subst e2
 exact ⟨true,g,caps,_,_,rfl,hc,hk⟩
theorem d0O {g:FuncId}{caps args args0:List D}{H H1:List Row}{d0:D}{K:Bool→D→List Row→Prop}(h:Con P g args0 [] fun d H'=>d=d0∧H'=H1)(hv:Vws H (args++caps) args0)(hp:PlainD d0∧∀ row∈H1,k0y row)
  (hk:K false (renE (ren [] H.length) d0) (H++H1.map (renR (ren [] H.length)))):a0m P (.fn g caps) args H K:=by
 obtain ⟨g',caps',e,hc⟩:=a0W (K:=fun d H'=>d=renE (ren [] H.length) d0∧H'=H++H1.map (renR (ren [] H.length))) h hv (fun d H' ⟨h1,h2⟩=>by rw [h1,h2];exact hp) (fun d H' ⟨h1,h2⟩=>by rw [h1,h2];exact ⟨rfl,rfl⟩)
 injection e with e1 e2
 subst e1;subst e2
 exact ⟨false,g,caps,_,_,rfl,hc,hk⟩
end
def u0e (H:List Row)(r off:Nat)(x:F)(o:Option Row):Option (List Row):=match o with
 | some (.box U xs)=>if off+1≤xs.length then some (H.set r (.box U (putL off [.f x] xs))) else none
 | some (.data U xs)=>if off+1≤xs.length then some (H.set r (.data U (xs.set off x))) else none
 | _=>none
theorem m0O {H:List Row}{r off:Nat}{x:F}{U:TypeId}{xs:List D}:u0e H r off x (some (.box U xs))=if off+1≤xs.length then some (H.set r (.box U (putL off [.f x] xs))) else none:=id rfl
theorem h0i {H:List Row}{r off:Nat}{x:F}{U:TypeId}{xs:List F}:u0e H r off x (some (.data U xs))=if off+1≤xs.length then some (H.set r (.data U (xs.set off x))) else none:=id rfl
theorem q0C {P:Program}{H:List Row}{r off:Nat}{x:F}:c0i P H 1 (.pt r off) (.f x)=u0e H r off x H[r]?:=by
 rw [b0y]
 generalize hr:H[r]?=o
 cases o with
 | none=>rfl
 | some row =>
  cases row with
  | data U xs=>rw [o0C hr];rfl
  | box U xs=>simp [c0N,u0e,b0F,D.cells]
  | _=>rfl
theorem v0O {P:Program}{H:List Row}{n r off:Nat}{x:D}:c0i P H (n+2) (.pt r off) x=c0N P H (n+2) r off x H[r]?:=b0y
theorem m0f {P:Program}{H:List Row}{r off a b c:Nat}:c0i P H 1 (.pt r off) (.sl a b c)=c0N P H 1 r off (.sl a b c) H[r]?:=b0y
theorem l0b {P:Program}{H:List Row}{r off a b:Nat}:c0i P H 1 (.pt r off) (.pt a b)=c0N P H 1 r off (.pt a b) H[r]?:=b0y
theorem l0G {P:Program}{H:List Row}{r off a:Nat}:c0i P H 1 (.pt r off) (.mp a)=c0N P H 1 r off (.mp a) H[r]?:=b0y
theorem l0v {P:Program}{H:List Row}{r off:Nat}{a:List F}:c0i P H 1 (.pt r off) (.rf a)=c0N P H 1 r off (.rf a) H[r]?:=b0y
theorem m0W {P:Program}{H:List Row}{r off:Nat}{f:FuncId}{a:List D}:c0i P H 1 (.pt r off) (.fn f a)=c0N P H 1 r off (.fn f a) H[r]?:=b0y
end Go.Proofs.YtahoaijkchgdaaaGreatDoor.Mir
namespace Go.Proofs.YtahoaijkchgdaaaGreatDoor.Mir
open Go Go.RowKit
theorem LD:(((((((type_of% @W_mv∧type_of% @c1f)∧(type_of% @y0Z∧type_of% @f1Q))∧((type_of% @y0a∧type_of% @y0k)∧(type_of% @x0c∧(type_of% @d1J∧type_of% @f1a))))∧(((type_of% @c1p∧type_of% @d1Q)∧(type_of% @e1p∧type_of% @e1z))∧((type_of% @e1i∧type_of% @e1l)∧(type_of% @c1y∧(type_of% @f1f∧type_of% @c1L)))))∧((((type_of% @c1r∧type_of% @W_fn)∧(type_of% @a1w∧type_of% @p0i))∧((type_of% @f1A∧type_of% @f1C)∧(type_of% @f1P∧(type_of% @c1i∧type_of% @d1D))))∧(((type_of% @c1q∧type_of% @f1J)∧(type_of% @f1V∧type_of% @u0b))∧((type_of% @c1l∧type_of% @d1B)∧(type_of% @c1v∧(type_of% @d1R∧type_of% @c1U))))))∧(((((type_of% @d1A∧type_of% @f1F)∧(type_of% @W_mm∧type_of% @d1H))∧((type_of% @d1K∧type_of% @d1U)∧(type_of% @c1W∧(type_of% @y0l∧type_of% @d1V))))∧(((type_of% @a1G∧type_of% @v0U)∧(type_of% @v0d∧type_of% @y0W))∧((type_of% @v0Y∧type_of% @a1C)∧(type_of% @u0c∧(type_of% @v0D∧type_of% @u0p)))))∧((((type_of% @z0z∧type_of% @v0T)∧(type_of% @v0z∧type_of% @u0Y))∧((type_of% @v0X∧type_of% @v0W)∧(type_of% @v0Z∧(type_of% @w0H∧type_of% @t0x))))∧(((type_of% @t0S∧type_of% @v0r)∧(type_of% @u0y∧type_of% @u0P))∧((type_of% @w0A∧type_of% @t0P)∧(type_of% @w0I∧(type_of% @u0j∧type_of% @v0m)))))))∧((((((type_of% @u0F∧type_of% @t0m)∧(type_of% @q0F∧type_of% @r0b))∧((type_of% @a1z∧type_of% @d1O)∧(type_of% @x0t∧(type_of% @y0N∧type_of% @x0b))))∧(((type_of% @y0s∧type_of% @u0l)∧(type_of% @u0B∧type_of% @u0h))∧((type_of% @t0d∧type_of% @t0R)∧(type_of% @v0i∧(type_of% @v0g∧type_of% @t0h)))))∧((((type_of% @c1Q∧type_of% @y0o)∧(type_of% @p0p∧type_of% @a1s))∧((type_of% @y0q∧type_of% @q0s)∧(type_of% @i0I∧(type_of% @g0a∧type_of% @l0c))))∧(((type_of% @g0z∧type_of% @g0R)∧(type_of% @g0T∧type_of% @j0z))∧((type_of% @k0j∧type_of% @h0x)∧(type_of% @j0H∧(type_of% @m0y∧type_of% @m0Q))))))∧(((((type_of% @m0D∧type_of% @m0L)∧(type_of% @i0q∧type_of% @l0g))∧((type_of% @j0C∧type_of% @q0t)∧(type_of% @g0c∧(type_of% @e0h∧type_of% @m0I))))∧(((type_of% @l0y∧type_of% @m0G)∧(type_of% @i0R∧type_of% @h0k))∧((type_of% @h0n∧type_of% @m0Y)∧(type_of% @m0T∧(type_of% @f0i∧type_of% @i0k)))))∧((((type_of% @j0b∧type_of% @j0u)∧(type_of% @j0q∧type_of% @i0Y))∧((type_of% @j0h∧type_of% @m0h)∧(type_of% @r0K∧(type_of% @h0w∧type_of% @j0V))))∧(((type_of% @j0j∧type_of% @j0X)∧(type_of% @g0q∧(type_of% @j0Z∧type_of% @g0b)))∧((type_of% @c0X∧type_of% @b0m)∧(type_of% @c0T∧(type_of% @t0v∧type_of% @q0U)))))))):=(.intro (.intro (.intro (.intro (.intro (.intro (.intro @W_mv @c1f) (.intro @y0Z @f1Q)) (.intro (.intro @y0a @y0k) (.intro @x0c (.intro @d1J @f1a)))) (.intro (.intro (.intro @c1p @d1Q) (.intro @e1p @e1z)) (.intro (.intro @e1i @e1l) (.intro @c1y (.intro @f1f @c1L))))) (.intro (.intro (.intro (.intro @c1r @W_fn) (.intro @a1w @p0i)) (.intro (.intro @f1A @f1C) (.intro @f1P (.intro @c1i @d1D)))) (.intro (.intro (.intro @c1q @f1J) (.intro @f1V @u0b)) (.intro (.intro @c1l @d1B) (.intro @c1v (.intro @d1R @c1U)))))) (.intro (.intro (.intro (.intro (.intro @d1A @f1F) (.intro @W_mm @d1H)) (.intro (.intro @d1K @d1U) (.intro @c1W (.intro @y0l @d1V)))) (.intro (.intro (.intro @a1G @v0U) (.intro @v0d @y0W)) (.intro (.intro @v0Y @a1C) (.intro @u0c (.intro @v0D @u0p))))) (.intro (.intro (.intro (.intro @z0z @v0T) (.intro @v0z @u0Y)) (.intro (.intro @v0X @v0W) (.intro @v0Z (.intro @w0H @t0x)))) (.intro (.intro (.intro @t0S @v0r) (.intro @u0y @u0P)) (.intro (.intro @w0A @t0P) (.intro @w0I (.intro @u0j @v0m))))))) (.intro (.intro (.intro (.intro (.intro (.intro @u0F @t0m) (.intro @q0F @r0b)) (.intro (.intro @a1z @d1O) (.intro @x0t (.intro @y0N @x0b)))) (.intro (.intro (.intro @y0s @u0l) (.intro @u0B @u0h)) (.intro (.intro @t0d @t0R) (.intro @v0i (.intro @v0g @t0h))))) (.intro (.intro (.intro (.intro @c1Q @y0o) (.intro @p0p @a1s)) (.intro (.intro @y0q @q0s) (.intro @i0I (.intro @g0a @l0c)))) (.intro (.intro (.intro @g0z @g0R) (.intro @g0T @j0z)) (.intro (.intro @k0j @h0x) (.intro @j0H (.intro @m0y @m0Q)))))) (.intro (.intro (.intro (.intro (.intro @m0D @m0L) (.intro @i0q @l0g)) (.intro (.intro @j0C @q0t) (.intro @g0c (.intro @e0h @m0I)))) (.intro (.intro (.intro @l0y @m0G) (.intro @i0R @h0k)) (.intro (.intro @h0n @m0Y) (.intro @m0T (.intro @f0i @i0k))))) (.intro (.intro (.intro (.intro @j0b @j0u) (.intro @j0q @i0Y)) (.intro (.intro @j0h @m0h) (.intro @r0K (.intro @h0w @j0V)))) (.intro (.intro (.intro @j0j @j0X) (.intro @g0q (.intro @j0Z @g0b))) (.intro (.intro @c0X @b0m) (.intro @c0T (.intro @t0v @q0U))))))))
theorem LU:(((((((type_of% @ev_t∧(type_of% @ev_c∧type_of% @c1o))∧((type_of% @v0k∧type_of% @y0S)∧(type_of% @x0p∧type_of% @r0T)))∧(((type_of% @v0x∧type_of% @y0d)∧(type_of% @r0E∧type_of% @v0a))∧((type_of% @y0Y∧type_of% @o0x)∧(type_of% @u0z∧type_of% @z0b))))∧((((type_of% @q0p∧type_of% @w0D)∧(type_of% @a1h∧type_of% @p0L))∧((type_of% @t0z∧type_of% @a1y)∧(type_of% @q0l∧type_of% @t0V)))∧(((type_of% @t0Z∧type_of% @u0m)∧(type_of% @m0e∧type_of% @j0w))∧((type_of% @i0u∧type_of% @v0f)∧(type_of% @k0v∧type_of% @h0m)))))∧((((type_of% @j0L∧(type_of% @a1M∧type_of% @a1q))∧((type_of% @x0Y∧type_of% @y0O)∧(type_of% @v0u∧type_of% @u0u)))∧(((type_of% @u0q∧type_of% @a1p)∧(type_of% @m0b∧type_of% @o0C))∧((type_of% @o0p∧type_of% @l0C)∧(type_of% @p0E∧type_of% @u0N))))∧((((type_of% @a1a∧type_of% @z0C)∧(type_of% @d1W∧type_of% @z0V))∧((type_of% @x0U∧type_of% @y0g)∧(type_of% @x0V∧type_of% @d1F)))∧(((type_of% @c1T∧type_of% @w0E)∧(type_of% @c1x∧type_of% @x0f))∧((type_of% @q0H∧type_of% @o0j)∧(type_of% @p0W∧type_of% @a1S))))))∧(((((type_of% @w0C∧(type_of% @t0X∧type_of% @u0L))∧((type_of% @v0K∧type_of% @z0t)∧(type_of% @o0z∧type_of% @p0y)))∧(((type_of% @k0r∧type_of% @d1N)∧(type_of% @u0d∧type_of% @y0L))∧((type_of% @e1o∧type_of% @f1S)∧(type_of% @d1C∧type_of% @p0P))))∧((((type_of% @m0n∧type_of% @m0a)∧(type_of% @v0J∧type_of% @r0a))∧((type_of% @g0n∧type_of% @d1G)∧(type_of% @a1u∧type_of% @m0t)))∧(((type_of% @u0A∧type_of% @v0y)∧(type_of% @o0g∧type_of% @j0D))∧((type_of% @k0C∧type_of% @q0q)∧(type_of% @n0o∧type_of% @o0W)))))∧(((((type_of% @Dint∧type_of% @f1M)∧(type_of% @Dv∧type_of% @c1k))∧((type_of% @y0E∧type_of% @c1d)∧(type_of% @a1n∧type_of% @x0w)))∧(((type_of% @z0e∧type_of% @y0u)∧(type_of% @z0M∧type_of% @z0K))∧((type_of% @x0k∧type_of% @u0T)∧(type_of% @p0A∧type_of% @r0W))))∧((((type_of% @v0N∧type_of% @q0G)∧(type_of% @i0K∧type_of% @g0m))∧((type_of% @q0e∧type_of% @p0Q)∧(type_of% @k0z∧type_of% @t0u)))∧(((type_of% @z0p∧type_of% @a1c)∧(type_of% @a1K∧type_of% @l0W))∧((type_of% @u0f∧type_of% @v0e)∧(type_of% @m0S∧type_of% @l0S)))))))∧((((((type_of% @i0j∧(type_of% @i0g∧type_of% @r0I))∧((type_of% @o0R∧type_of% @j0x)∧(type_of% @i0W∧type_of% @i0i)))∧(((type_of% @i0f∧type_of% @j0r)∧(type_of% @k0D∧type_of% @m0J))∧((type_of% @l0a∧type_of% @o0K)∧(type_of% @q0B∧type_of% @l0w))))∧((((type_of% @m0P∧type_of% @k0e)∧(type_of% @m0k∧type_of% @r0P))∧((type_of% @p0a∧type_of% @o0V)∧(type_of% @q0u∧type_of% @r0H)))∧(((type_of% @r0F∧type_of% @p0B)∧(type_of% @p0I∧type_of% @k0n))∧((type_of% @l0I∧type_of% @o0d)∧(type_of% @p0h∧type_of% @k0k)))))∧(((((type_of% @k0l∧type_of% @t0r)∧(type_of% @u0r∧type_of% @i0X))∧((type_of% @i0D∧type_of% @f0B)∧(type_of% @f0V∧type_of% @r0A)))∧(((type_of% @q0P∧type_of% @q0E)∧(type_of% @q0r∧type_of% @p0e))∧((type_of% @q0w∧type_of% @l0Z)∧(type_of% @l0r∧type_of% @l0x))))∧((((type_of% @l0m∧type_of% @l0z)∧(type_of% @m0u∧type_of% @o0O))∧((type_of% @r0e∧type_of% @p0r)∧(type_of% @r0U∧type_of% @g0S)))∧(((type_of% @g0p∧type_of% @l0l)∧(type_of% @k0h∧type_of% @k0q))∧((type_of% @k0s∧type_of% @l0u)∧(type_of% @m0Z∧type_of% @m0F))))))∧(((((type_of% @k0g∧(type_of% @m0c∧type_of% @m0g))∧((type_of% @l0P∧type_of% @l0O)∧(type_of% @q0d∧type_of% @q0i)))∧(((type_of% @t0q∧type_of% @v0V)∧(type_of% @l0B∧type_of% @m0B))∧((type_of% @l0k∧type_of% @l0K)∧(type_of% @l0L∧type_of% @m0q))))∧((((type_of% @l0i∧type_of% @m0w)∧(type_of% @j0s∧type_of% @h0f))∧((type_of% @l0R∧type_of% @m0V)∧(type_of% @i0d∧type_of% @j0e)))∧(((type_of% @q0X∧type_of% @z0R)∧(type_of% @v0S∧type_of% @t0f))∧((type_of% @p0b∧type_of% @v0v)∧(type_of% @p0J∧type_of% @q0N)))))∧(((((type_of% @l0X∧type_of% @d1L)∧(type_of% @y0z∧type_of% @x0m))∧((type_of% @y0t∧type_of% @a1r)∧(type_of% @o0k∧type_of% @a1Y)))∧(((type_of% @y0r∧type_of% @y0m)∧(type_of% @z0a∧type_of% @t0y))∧((type_of% @k0B∧type_of% @g0Y)∧(type_of% @g0s∧type_of% @i0e))))∧((((type_of% @g0f∧type_of% @d1T)∧(type_of% @d1P∧type_of% @z0A))∧((type_of% @f0a∧type_of% @c1V)∧(type_of% @c1t∧type_of% @m0O)))∧(((type_of% @h0i∧type_of% @q0C)∧(type_of% @v0O∧type_of% @m0f))∧((type_of% @l0b∧type_of% @l0G)∧(type_of% @l0v∧type_of% @m0W)))))))):=(.intro (.intro (.intro (.intro (.intro (.intro (.intro @ev_t (.intro @ev_c @c1o)) (.intro (.intro @v0k @y0S) (.intro @x0p @r0T))) (.intro (.intro (.intro @v0x @y0d) (.intro @r0E @v0a)) (.intro (.intro @y0Y @o0x) (.intro @u0z @z0b)))) (.intro (.intro (.intro (.intro @q0p @w0D) (.intro @a1h @p0L)) (.intro (.intro @t0z @a1y) (.intro @q0l @t0V))) (.intro (.intro (.intro @t0Z @u0m) (.intro @m0e @j0w)) (.intro (.intro @i0u @v0f) (.intro @k0v @h0m))))) (.intro (.intro (.intro (.intro @j0L (.intro @a1M @a1q)) (.intro (.intro @x0Y @y0O) (.intro @v0u @u0u))) (.intro (.intro (.intro @u0q @a1p) (.intro @m0b @o0C)) (.intro (.intro @o0p @l0C) (.intro @p0E @u0N)))) (.intro (.intro (.intro (.intro @a1a @z0C) (.intro @d1W @z0V)) (.intro (.intro @x0U @y0g) (.intro @x0V @d1F))) (.intro (.intro (.intro @c1T @w0E) (.intro @c1x @x0f)) (.intro (.intro @q0H @o0j) (.intro @p0W @a1S)))))) (.intro (.intro (.intro (.intro (.intro @w0C (.intro @t0X @u0L)) (.intro (.intro @v0K @z0t) (.intro @o0z @p0y))) (.intro (.intro (.intro @k0r @d1N) (.intro @u0d @y0L)) (.intro (.intro @e1o @f1S) (.intro @d1C @p0P)))) (.intro (.intro (.intro (.intro @m0n @m0a) (.intro @v0J @r0a)) (.intro (.intro @g0n @d1G) (.intro @a1u @m0t))) (.intro (.intro (.intro @u0A @v0y) (.intro @o0g @j0D)) (.intro (.intro @k0C @q0q) (.intro @n0o @o0W))))) (.intro (.intro (.intro (.intro (.intro @Dint @f1M) (.intro @Dv @c1k)) (.intro (.intro @y0E @c1d) (.intro @a1n @x0w))) (.intro (.intro (.intro @z0e @y0u) (.intro @z0M @z0K)) (.intro (.intro @x0k @u0T) (.intro @p0A @r0W)))) (.intro (.intro (.intro (.intro @v0N @q0G) (.intro @i0K @g0m)) (.intro (.intro @q0e @p0Q) (.intro @k0z @t0u))) (.intro (.intro (.intro @z0p @a1c) (.intro @a1K @l0W)) (.intro (.intro @u0f @v0e) (.intro @m0S @l0S))))))) (.intro (.intro (.intro (.intro (.intro (.intro @i0j (.intro @i0g @r0I)) (.intro (.intro @o0R @j0x) (.intro @i0W @i0i))) (.intro (.intro (.intro @i0f @j0r) (.intro @k0D @m0J)) (.intro (.intro @l0a @o0K) (.intro @q0B @l0w)))) (.intro (.intro (.intro (.intro @m0P @k0e) (.intro @m0k @r0P)) (.intro (.intro @p0a @o0V) (.intro @q0u @r0H))) (.intro (.intro (.intro @r0F @p0B) (.intro @p0I @k0n)) (.intro (.intro @l0I @o0d) (.intro @p0h @k0k))))) (.intro (.intro (.intro (.intro (.intro @k0l @t0r) (.intro @u0r @i0X)) (.intro (.intro @i0D @f0B) (.intro @f0V @r0A))) (.intro (.intro (.intro @q0P @q0E) (.intro @q0r @p0e)) (.intro (.intro @q0w @l0Z) (.intro @l0r @l0x)))) (.intro (.intro (.intro (.intro @l0m @l0z) (.intro @m0u @o0O)) (.intro (.intro @r0e @p0r) (.intro @r0U @g0S))) (.intro (.intro (.intro @g0p @l0l) (.intro @k0h @k0q)) (.intro (.intro @k0s @l0u) (.intro @m0Z @m0F)))))) (.intro (.intro (.intro (.intro (.intro @k0g (.intro @m0c @m0g)) (.intro (.intro @l0P @l0O) (.intro @q0d @q0i))) (.intro (.intro (.intro @t0q @v0V) (.intro @l0B @m0B)) (.intro (.intro @l0k @l0K) (.intro @l0L @m0q)))) (.intro (.intro (.intro (.intro @l0i @m0w) (.intro @j0s @h0f)) (.intro (.intro @l0R @m0V) (.intro @i0d @j0e))) (.intro (.intro (.intro @q0X @z0R) (.intro @v0S @t0f)) (.intro (.intro @p0b @v0v) (.intro @p0J @q0N))))) (.intro (.intro (.intro (.intro (.intro @l0X @d1L) (.intro @y0z @x0m)) (.intro (.intro @y0t @a1r) (.intro @o0k @a1Y))) (.intro (.intro (.intro @y0r @y0m) (.intro @z0a @t0y)) (.intro (.intro @k0B @g0Y) (.intro @g0s @i0e)))) (.intro (.intro (.intro (.intro @g0f @d1T) (.intro @d1P @z0A)) (.intro (.intro @f0a @c1V) (.intro @c1t @m0O))) (.intro (.intro (.intro @h0i @q0C) (.intro @v0O @m0f)) (.intro (.intro @l0b @l0G) (.intro @l0v @m0W))))))))
theorem LS:(((((type_of% @a1v∧(type_of% @e1t∧type_of% @f1N))∧(type_of% @e1k∧(type_of% @c0Z∧type_of% @b0x)))∧((type_of% @f0y∧(type_of% @o0c∧type_of% @t0L))∧((type_of% @List.set_cons_succ.{0}∧type_of% @List.set_cons_zero.{0})∧(type_of% @List.getElem?_cons_succ.{0}∧type_of% @List.getElem?_cons_zero.{0}))))∧(((type_of% @List.length_cons.{0}∧(type_of% @List.length_nil.{0}∧type_of% @List.cons_append.{0}))∧((type_of% @List.nil_append.{0}∧type_of% @List.map_cons.{0,0})∧(type_of% @List.map_nil.{0,0}∧type_of% @List.take_succ_cons.{0})))∧((type_of% @List.take_zero.{0}∧(type_of% @List.drop_succ_cons.{0}∧type_of% @List.drop_zero.{0}))∧((type_of% @Option.map_some.{0,0}∧type_of% @Option.map_none.{0,0})∧(type_of% @Nat.add_zero∧type_of% @Nat.zero_add)))))∧((((type_of% @Nat.mul_one∧(type_of% @Int.toNat_natCast∧type_of% @Nat.mul_zero))∧(type_of% @Nat.zero_mul∧(type_of% @true_and∧type_of% @and_true)))∧((type_of% @r0g∧(type_of% @List.getElem?_drop.{0}∧type_of% @List.getElem?_map.{0,0}))∧((type_of% @List.length_map.{0,0}∧type_of% @Int.natCast_nonneg)∧(type_of% @getElem?_some_of∧type_of% @Bool.false_eq_true))))∧(((type_of% @decide_true∧(type_of% @decide_false∧type_of% @Bool.not_true))∧((type_of% @Bool.not_false∧type_of% @and_self)∧(type_of% @eq_self.{0}∧type_of% @false_implies)))∧((type_of% @or_self∧(type_of% @Bool.and_self∧type_of% @false_or))∧((type_of% @or_false∧type_of% @Bool.false_and)∧(type_of% @Bool.true_beq∧type_of% @Bool.false_beq)))))):=(.intro (.intro (.intro (.intro (.intro @a1v (.intro @e1t @f1N)) (.intro @e1k (.intro @c0Z @b0x))) (.intro (.intro @f0y (.intro @o0c @t0L)) (.intro (.intro @List.set_cons_succ.{0} @List.set_cons_zero.{0}) (.intro @List.getElem?_cons_succ.{0} @List.getElem?_cons_zero.{0})))) (.intro (.intro (.intro @List.length_cons.{0} (.intro @List.length_nil.{0} @List.cons_append.{0})) (.intro (.intro @List.nil_append.{0} @List.map_cons.{0,0}) (.intro @List.map_nil.{0,0} @List.take_succ_cons.{0}))) (.intro (.intro @List.take_zero.{0} (.intro @List.drop_succ_cons.{0} @List.drop_zero.{0})) (.intro (.intro @Option.map_some.{0,0} @Option.map_none.{0,0}) (.intro @Nat.add_zero @Nat.zero_add))))) (.intro (.intro (.intro (.intro @Nat.mul_one (.intro @Int.toNat_natCast @Nat.mul_zero)) (.intro @Nat.zero_mul (.intro @true_and @and_true))) (.intro (.intro @r0g (.intro @List.getElem?_drop.{0} @List.getElem?_map.{0,0})) (.intro (.intro @List.length_map.{0,0} @Int.natCast_nonneg) (.intro @getElem?_some_of @Bool.false_eq_true)))) (.intro (.intro (.intro @decide_true (.intro @decide_false @Bool.not_true)) (.intro (.intro @Bool.not_false @and_self) (.intro @eq_self.{0} @false_implies))) (.intro (.intro @or_self (.intro @Bool.and_self @false_or)) (.intro (.intro @or_false @Bool.false_and) (.intro @Bool.true_beq @Bool.false_beq))))))
end Go.Proofs.YtahoaijkchgdaaaGreatDoor.Mir
