/- Lemmas for the proof. No condition. -/
import Derived.Test.YthjgmldnegaaiaaGreatDoorQf06
set_option linter.unusedVariables false
set_option linter.unusedSimpArgs false
namespace Go.Proofs.YthjgmldnegaaiaaGreatDoor.Mir
open Go Go.RowKit
inductive SR where
 | t (n:Nat)
 | c1 (a:Nat)
 | cA (n a:Nat)
def n0r (P:Program):List ResultVar→Option (List SR)
 | []=>some []
 | .tmp t :: rs=>(n0r P rs).map (.t t :: ·)
 | .cell a T :: rs=>match d0s P T,inf P T,n0r P rs with
  | some false,_,some l=>some (.c1 a :: l)
  | some true,some (n,_,_),some l=>some (.cA n a :: l)
  | _,_,_=>none
def resS (H:List Row)(ts:List D):List SR→Option (List D)
 | []=>some []
 | .t n :: rs=>match resS H ts rs with
  | some ds=>some (ts.getD n D.undef :: ds)
  | none=>none
 | .c1 a :: rs=>match load1 H (ts.getD a D.undef),resS H ts rs with
  | some d,some ds=>some (d :: ds)
  | _,_=>none
 | .cA n a :: rs=>match loadA H n (ts.getD a D.undef),resS H ts rs with
  | some d,some ds=>some (d :: ds)
  | _,_=>none
section
variable {P:Program}
theorem n0J {H:List Row}{ts:List D}:∀ {rs:List ResultVar} {l:List SR} {ds:List D},n0r P rs=some l→resS H ts l=some ds→b0v P H ts rs=some ds
 | [],l,ds,h,k=>by simp [n0r] at h;subst h;exact k
 | .tmp t :: rs,l,ds,h,k=>by
  simp only [n0r,Option.map_eq_some_iff] at h
  obtain ⟨l',h1,rfl⟩:=h
  simp only [resS] at k
  split at k
  ·rename_i ds' h2
   injection k with k
   subst k
   simp only [b0v,n0J h1 h2,Option.map_some]
  ·cases k
 | .cell a T :: rs,l,ds,h,k=>by
  simp only [n0r] at h
  split at h
  ·rename_i l' hT hl
   injection h with h
   subst h
   simp only [resS] at k
   split at k
   ·rename_i d ds' h1 h2
    injection k with k
    subst k
    simp only [b0v,t0b hT h1,n0J hl h2]
   ·cases k
  ·rename_i n b z l' hT hi hl
   injection h with h
   subst h
   simp only [resS] at k
   split at k
   ·rename_i d ds' h1 h2
    injection k with k
    subst k
    simp only [b0v,w0E hT hi h1,n0J hl h2]
   ·cases k
  ·cases h
def e0H:Nat→List Row→List Row
 | 0,H=>H
 | _+1,[]=>[]
 | n+1,_ :: H=>.dead :: e0H n H
theorem k0I:∀ (n:Nat) (H:List Row),(e0H n H).length=H.length
 | 0,_=>rfl
 | _+1,[]=>rfl
 | n+1,_ :: H=>by simp [e0H,k0I n H]
theorem f0i:∀ (n:Nat) (H:List Row) (r:Nat),(e0H n H)[r]?=if r<n then (H[r]?).map fun _=>.dead else H[r]?
 | 0,H,r=>by simp [e0H]
 | n+1,[],r=>by simp [e0H]
 | n+1,x :: H,0=>by simp [e0H]
 | n+1,x :: H,r+1=>by simp [e0H,f0i n H r]
def lowB (n:Nat)(H:List Row):Bool:=H.all fun row=>row.refs.all fun r=>Nat.blt r n
inductive RetS (n0:Nat)(rs:List SR)(Q:D→List Row→Prop)(s:St):Prop
 | gather {ds:List D} {e:Eff}:resS s.H s.ts rs=some ds→gather n0 (one ds) (List.range n0) s.H=some e→Q e.res (a0B (s.H.take n0) e.upd++e.news)→RetS n0 rs Q s
 | still {ds:List D} {d0:D}:resS s.H s.ts rs=some ds→lowB n0 (s.H.take n0)=true→Vw (e0H n0 s.H) (one ds) d0→Q d0 (s.H.take n0)→RetS n0 rs Q s
 | all {ds:List D}:resS s.H s.ts rs=some ds→Q (one ds) s.H→RetS n0 rs Q s
def endS (n0:Nat)(rs:List SR)(Q:D→List Row→Prop):Out→St→Prop
 | .exit _,_=>False
 | .normal,s=>RetS n0 rs Q s
 | .ret,s=>RetS n0 rs Q s
def Fn (P:Program)(f:FuncId)(n:Nat)(rs:List SR)(c:SCode):Prop:=∃ fn k,P.funcs[f]?=some fn∧fn.body=some k∧fn.ntmps=n∧n0r P fn.results.toList=some rs∧a0p P k=c
theorem Fn.of {P:Program}{f:FuncId}{fn:Func}{n:Nat}{rs:List SR}{c:SCode}(h:P.funcs[f]?=some fn)(e:(fn.body.map (a0p P),fn.ntmps,n0r P fn.results.toList)=(some c,n,some rs)):Fn P f n rs c:=by
 obtain ⟨e1,e2,e3⟩:=by simpa only [Prod.mk.injEq] using e
 cases hb:fn.body with
 | none=>rw [hb] at e1;cases e1
 | some k=>rw [hb] at e1;exact ⟨fn,k,h,hb,e2,e3,Option.some.inj e1⟩
theorem HR.takeN {w:World}{φ:Nat→Nat × Nat}{X:Nat→Prop}{H:List Row}(h:HR P w φ X H){n:Nat}(hl:lowB n (H.take n)=true)(hn:n≤H.length):HR P w φ X (H.take n)∧∀ b,Av X φ (H.take n) b→Av X φ H b:=by
 have hlen:(H.take n).length=n:=by simp;omega
 have get:∀ (r:Nat) (row:Row),(H.take n)[r]?=some row→r<n∧H[r]?=some row:=by
  intro r row hr
  rw [List.getElem?_take] at hr
  split at hr
  ·exact ⟨‹_›,hr⟩
  ·cases hr
 have ha:∀ b,Av X φ (H.take n) b→Av X φ H b:=by
  rintro b (hb|⟨r,row,hr,hv,rfl⟩)
  ·exact .inl hb
  ·exact .inr ⟨r,row,(get r row hr).2,hv,rfl⟩
 refine ⟨⟨fun r row hr=>?_,fun r s x y hr hs=>h.apart r s x y (get r x hr).2 (get s y hs).2,fun r row hr=>h.off r row (get r row hr).2,h.old,fun p hp=>(h.gl p hp).thin ha⟩,ha⟩
 obtain ⟨h1,h2⟩:=get r row hr
 rw [hlen]
 refine (h.rows r row h2).lower (S:=(· < n)) rfl (fun r hr=>⟨rfl,hr⟩) ha (c0D fun q hq=>?_)
 have h3:=List.all_eq_true.1 hl row (List.mem_of_getElem? hr)
 have h4:=List.all_eq_true.1 h3 q hq
 simpa using h4
theorem d1L {w w':World}{φ φ':Nat→Nat × Nat}{X:Nat→Prop}{H:List Row}{s:St}{a:Act}{fn:Func}{rs:List SR}(hrs:n0r P fn.results.toList=some rs){Q:D→List Row→Prop}(hq:RetS H.length rs Q s)(hr:RunW P X w φ H w' φ' s a) :
  a.defers=[]∧∃ v,(results fn a.tmps).run P w' = .ok v w'∧∃ v' d H',Ending.returned v = .returned v'∧Q d H'∧LeavesW P w φ X H v' w' d H':=by
 refine ⟨hr.sim.defers,?_⟩
 have hone:∀ ds,resS s.H s.ts rs=some ds→∃ v,(results fn a.tmps).run P w' = .ok v w'∧R P w' φ' (Av X φ' s.H) s.H.length (one ds) v:=by
  intro ds hds
  obtain ⟨us,h1,h2⟩:=e0P hr.sim.heap hr.sim.tmps _ _ (n0J hrs hds)
  refine ⟨if h:us.toArray.size=1 then us.toArray[0] else .tuple us.toArray,?_,?_⟩
  ·unfold results
   rw [Array.mapM_eq_mapM_toList]
   simp at h1
   simp
   exact congrArg (fun r:Result (List Value)=>r.andThen fun a w'=>Result.ok (if h:a.length=1 then a[0] else Value.tuple a.toArray) w') h1
  ·match ds,us,h2 with
   | [],[],_=>exact .tp rfl (fun i d u hd=>by simp at hd)
   | [d],[u],h2=>exact h2.2 0 d u (by simp) (by simp)
   | d :: d2 :: ds,u :: u2 :: us,h2=>exact .tp (by have:=h2.1;simpa using this) (fun i d' u' hd hu=>h2.2 i d' u' hd (by simpa using hu))
   | [],_ :: _,h2=>have:=h2.1;simp at this
   | _ :: _,[],h2=>have:=h2.1;simp at this
   | [_],_ :: _ :: _,h2=>have:=h2.1;simp at this
   | _ :: _ :: _,[_],h2=>have:=h2.1;simp at this
 have hlt:(s.H.take H.length).length=H.length:=by rw [List.length_take];have:=hr.ons.len;omega
 cases hq with
 | gather hds hg hq =>
  obtain ⟨v,h3,h4⟩:=hone _ hds
  obtain ⟨ψ,k1,k2,k3,k4,_⟩:=d0e hr.sim.heap hr.ons.len hlt h4 (fun r row hr hnd hrow=>absurd (List.mem_range.2 hr) hnd) hg
  exact ⟨v,h3,v,_,_,rfl,hq,ψ,⟨by simp [a0F,hlt],fun r hr'=>(k1 r hr').trans (hr.ons.same r hr'),hr.ons.keep,fun b hb=>hr.ons.fresh b (k4 b hb)⟩,k2,k3⟩
 | all hds hq =>
  obtain ⟨v,h3,h4⟩:=hone _ hds
  exact ⟨v,h3,v,_,_,rfl,hq,φ',hr.ons,hr.sim.heap,h4⟩
 | still hds hlow hv hq =>
  rename_i ds d0
  obtain ⟨v,h3,h4⟩:=hone _ hds
  obtain ⟨t1,t2⟩:=hr.sim.heap.takeN hlow hr.ons.len
  refine ⟨v,h3,v,d0,_,rfl,hq,φ',⟨by rw [hlt];exact Nat.le_refl _,hr.ons.same,hr.ons.keep,fun b hb=>hr.ons.fresh b ?_⟩,t1,?_⟩
  ·obtain ⟨r,row,hx,hl,rfl⟩:=hb
   rw [List.getElem?_take] at hx
   split at hx
   ·exact ⟨r,row,hx,hl,rfl⟩
   ·cases hx
  ·
   have hM:HR P w' φ' (Rest X φ' s.H (e0H H.length s.H)) (e0H H.length s.H):=by
    refine hr.sim.heap.part (S:=fun r=>r<s.H.length) (fun r h=>by rw [k0I];exact h) (fun x row hx=>?_)
    rw [f0i] at hx
    split at hx
    ·rw [Option.map_eq_some_iff] at hx
     obtain ⟨_,_,rfl⟩:=hx
     exact .inl rfl
    ·exact .inr ⟨hx,(hr.sim.heap.rows x row hx).isLow⟩
   have hA:∀ b,Av X φ' (s.H.take H.length) b→Rest X φ' s.H (e0H H.length s.H) b:=by
    rintro b (hb|⟨r,row,hx,hl,rfl⟩)
    ·exact .inl hb
    ·rw [List.getElem?_take] at hx
     split at hx
     ·rename_i hlt'
      refine .inr ⟨r,row,hx,hl,?_,rfl⟩
      rw [f0i,if_pos hlt',hx]
      intro e
      simp at e
      subst e
      simp [Row.live] at hl
     ·cases hx
   have h5:R P w' φ' (Av (Rest X φ' s.H (e0H H.length s.H)) φ' (e0H H.length s.H)) (e0H H.length s.H).length (one ds) v:=by
    rw [k0I]
    refine h4.lower (S:=fun r=>r<s.H.length) (fun r h=>⟨rfl,h⟩) (fun b hb=>?_) h4.isLow
    rcases hb with (hb|⟨x,row,hx,hl,_,rfl⟩)|⟨x,row,hx,hl,rfl⟩
    ·exact .inl hb
    ·exact .inr ⟨x,row,hx,hl,rfl⟩
    ·rw [f0i] at hx
     split at hx
     ·rw [Option.map_eq_some_iff] at hx
      obtain ⟨_,_,rfl⟩:=hx
      simp [Row.live] at hl
     ·exact .inr ⟨x,row,hx,hl,rfl⟩
   have h6:=hv.ok (φ':=φ') hM hA v h5
   exact h6.upper (Nat.zero_le _)
theorem Con.fn (hP:Good P){f:FuncId}{n:Nat}{rs:List SR}{c:SCode}(hf:Fn P f n rs c){args:List D}{H:List Row}{Q:D→List Row→Prop}
  (h:HS P H.length c ⟨args++List.replicate (n-args.length) D.undef,H,[]⟩ (endS H.length rs Q)):Con P f args H Q:=by
 obtain ⟨fn,k,h1,h2,h3,h4,h5⟩:=hf
 subst h3
 refine ⟨⟨fn,h1,by rw [h2];rfl⟩,fun w φ X vs hH hargs=>calls_of_wp h1 h2 ?_⟩
 have hlen:vs.size=args.length:=by have:=hargs.1;simpa using this
 refine h k h5 X w φ H w φ _ _ rfl ⟨⟨hH,?_,rfl⟩,Ons.refl _ _ _ _⟩ ?_
 ·rw [Array.toList_append,Array.toList_replicate,hlen]
  refine hargs.append ⟨by simp,fun i d u hd hu=>?_⟩
  rw [List.getElem?_replicate] at hd hu
  split at hd
  ·rename_i hi
   rw [if_pos hi] at hu
   injection hd with hd;injection hu with hu
   subst hd;subst hu
   exact R.undef
  ·cases hd
 ·intro out s' w' φ' a' hq hr'
  cases out with
  | normal=>exact d1L h4 hq hr'
  | exit i=>exact hq.elim
  | ret=>exact d1L h4 hq hr'
def k0P (ι:List Nat)(N:Nat)(H0:List Row)(args0:List D):Bool :=
 Nat.beq ι.length H0.length&&i0s ι&&(args0.all fun d=>d.refs.all fun r=>Nat.blt r H0.length)&&(H0.all fun row=>row.refs.all fun r=>Nat.blt r H0.length)&&ι.all fun r=>Nat.blt r N
theorem q0a:∀ {l:List Nat},i0s l=true→l.Nodup
 | [],_=>List.nodup_nil
 | x :: xs,h=>by
  simp only [i0s,Bool.and_eq_true,Bool.not_eq_true'] at h
  exact List.nodup_cons.2 ⟨by simpa using h.1,q0a h.2⟩
theorem a0J {g:FuncId}{caps args args0:List D}{H H0:List Row}{Q K:D→List Row→Prop}(h:Con P g args0 H0 Q)(ι:List Nat)(hb:k0P ι H.length H0 args0=true)(ha:args++caps=args0.map (renE (ren ι H.length)))
  (hr:(ι.map fun r=>H.getD r .dead)=H0.map (renR (ren ι H.length)))
  (hk:∀ d0 H0',Q d0 H0'→K (renE (ren ι H.length) d0) (b0Z (ren ι H.length) ι H0' H++(H0'.drop H0.length).map (renR (ren ι H.length)))):a0P P (.fn g caps) args H K:=by
 unfold k0P at hb
 simp only [Bool.and_eq_true] at hb
 obtain ⟨⟨⟨⟨b1,b2⟩,b3⟩,b4⟩,b5⟩:=hb
 have e1:ι.length=H0.length:=Nat.eq_of_beq_eq_true b1
 refine ⟨g,caps,rfl,(h.embed e1 (q0a b2) ha (fun d hd=>b0U fun r hr=>?_) (fun i row hi=>⟨c0D fun r hr=>?_,?_⟩)).mono ?_⟩
 ·have h1:=List.all_eq_true.1 b3 d hd
  have h2:=List.all_eq_true.1 h1 r hr
  simpa using h2
 ·have h1:=List.all_eq_true.1 b4 row (List.mem_of_getElem? hi)
  have h2:=List.all_eq_true.1 h1 r hr
  simpa using h2
 ·have hlt:i<ι.length:=by rw [e1];exact (List.getElem?_eq_some_iff.1 hi).1
  have h1:(ι.map fun r=>H.getD r .dead)[i]?=some (H.getD ι[i] .dead):=by simp [hlt]
  rw [hr,List.getElem?_map,hi] at h1
  have h2:ι[i]<H.length:=by
   have:=List.all_eq_true.1 b5 ι[i] (List.getElem_mem hlt)
   simpa using this
  refine ⟨ι[i],by simp [hlt],?_⟩
  have h3:H.getD ι[i] .dead=H[ι[i]]:=by simp [List.getD,h2]
  rw [h3] at h1
  rw [List.getElem?_eq_getElem h2]
  exact h1.symm
 ·rintro d H' ⟨d0,H0',hq,_,rfl,rfl⟩
  exact hk d0 H0' hq
theorem a0X {g:FuncId}{caps args args0:List D}{H:List Row}{Q K:D→List Row→Prop}(h:Con P g args0 [] Q)(hv:Vws H (args++caps) args0)(hp:∀ d H',Q d H'→PlainD d∧∀ row∈H',m0c row)
  (hk:∀ d0 H0',Q d0 H0'→K (renE (ren [] H.length) d0) (H++H0'.map (renR (ren [] H.length)))):a0P P (.fn g caps) args H K:=by
 refine ⟨g,caps,rfl,(h.peek hv hp).mono ?_⟩
 rintro d H' ⟨d0,H0',hq,rfl,rfl⟩
 exact hk d0 H0' hq
variable {n0:Nat}{s:St}{Q:Out→St→Prop}
theorem HS.opsK (hP:Good P){l:List SI}(h:∀ K:St→Prop,(∀ s',Q .normal s'→K s')→wpS P l s K):HS P n0 (.ops l) s Q:=HS.ops hP (h _ fun _ h=>h)
theorem HS.condB {c:SV}{x y:SCode}{b:Bool}(hc:c.ev s.ts = .f (.v (.bool b)))(h1:b=true→HS P n0 x s Q)(h0:b=false→HS P n0 y s Q):HS P n0 (.cond c x y) s Q:=HS.cond (by rw [hc];exact ⟨h1,h0⟩)
theorem o0G {next:St→Prop}(h:next s):h0V next Q .normal s:=h
theorem e1q {next:St→Prop}{i:Nat}(h:Q (.exit i) s):h0V next Q (.exit i) s:=h
theorem e1B {next:St→Prop}(h:Q .ret s):h0V next Q .ret s:=h
theorem c1N {id:Nat}(h:Q .normal s):d0K id Q .normal s:=h
theorem e0W {id:Nat}(h:Q .normal s):d0K id Q (.exit id) s:=by rw [f0C,if_pos rfl];exact h
theorem s0t {id i:Nat}(hne:Nat.beq i id=false)(h:Q (.exit i) s):d0K id Q (.exit i) s:=by rw [f0C,if_neg (Nat.ne_of_beq_eq_false hne)];exact h
theorem b1x {id:Nat}(h:Q .ret s):d0K id Q .ret s:=h
theorem f1z {rs:List SR}{Q:D→List Row→Prop}(h:RetS n0 rs Q s):endS n0 rs Q .ret s:=h
theorem f1k {rs:List SR}{Q:D→List Row→Prop}(h:RetS n0 rs Q s):endS n0 rs Q .normal s:=h
theorem Bsel.mk' {b:Bool}{p q:Prop}(h1:b=true→p)(h2:b=false→q):Bsel b p q:=⟨h1,h2⟩
def Next (n0:Nat)(keep:List Nat){α:Type}(st:α→St)(p:α→Prop)(m:α→Nat)(x:α)(s:St):Prop:=∃ y,i0g n0 keep s=some (st y)∧p y∧m y<m x
theorem Next.mk {n0:Nat}{keep:List Nat}{α:Type}{st:α→St}{p:α→Prop}{m:α→Nat}{x:α}{s:St}(y:α)(h:i0g n0 keep s=some (st y))(hp:p y)(hm:m y<m x):Next n0 keep st p m x s:=⟨y,h,hp,hm⟩
theorem HS.loopG {c:SCode}{α:Type}(keep:List Nat)(st:α→St)(p:α→Prop)(m:α→Nat)(x0:α)(hs:i0g n0 keep s=some (st x0))(h0:p x0)
  (hbody:∀ x,p x→HS P n0 c (st x) (h0V (Next n0 keep st p m x) Q)):HS P n0 (.loop c) s Q:=by
 refine HS.view (View.sweep hs) ?_
 intro k hk
 cases k with
 | loop a =>
  simp only [a0p] at hk
  injection hk with h1
  intro X w0 φ0 H0 w φ a' K hn hr hK
  refine wp_loop_rounds (m x0+1) ?_
  have key:∀ (k:Nat) (x:α) (w:World) (φ:Nat→Nat × Nat) (a':Act),m x≤k→p x→RunW P X w0 φ0 H0 w φ (st x) a'→Code.rounds P a K (k+1) a' w:=by
   intro k
   induction k with
   | zero =>
    intro x w φ a' hm hp hr
    rw [rounds_succ]
    refine hbody x hp a h1 X w0 φ0 H0 w φ a' _ hn hr ?_
    intro out s' w' φ' a' hq hr'
    cases out with
    | normal=>obtain ⟨y,_,_,hlt⟩:=hq;omega
    | exit i=>exact hK _ s' w' φ' a' hq hr'
    | ret=>exact hK _ s' w' φ' a' hq hr'
   | succ k ih =>
    intro x w φ a' hm hp hr
    rw [rounds_succ]
    refine hbody x hp a h1 X w0 φ0 H0 w φ a' _ hn hr ?_
    intro out s' w' φ' a'' hq hr'
    cases out with
    | normal =>
     obtain ⟨y,hsw,hp',hlt⟩:=hq
     obtain ⟨φ2,hr2⟩:=View.sweep hsw X w0 φ0 H0 w' φ' a'' hn hr'
     exact ih y w' φ2 a'' (by omega) hp' hr2
    | exit i=>exact hK _ s' w' φ' a'' hq hr'
    | ret=>exact hK _ s' w' φ' a'' hq hr'
  exact key (m x0) x0 w φ a' (Nat.le_refl _) h0 hr
 | region id ops draw=>cases draw<;>simp only [a0p] at hk<;>first|(split at hk<;>first|cases hk|(split at hk<;>cases hk))|cases hk
 | cond c a b=>simp only [a0p] at hk;split at hk<;>cases hk
 | _=>simp [a0p] at hk
end
theorem s0k {a:Int}(h1 : -9223372036854775808≤a)(h2:a≤9223372036854775807):IntKind.i64.wrap a=a:=by
 have:=IntWalk.i64_in a ⟨h1,h2⟩
 exact this
def gt {α:Type}[Inhabited α](l:List α)(k:Nat):α:=l[k]!
theorem getElem?_some_of {α:Type}[Inhabited α]{l:List α}{i:Nat}(h:i<l.length):l[i]?=some (gt l i):=by rw [gt,List.getElem?_eq_getElem h,getElem!_pos l i h]
theorem b0P {α:Type}[Inhabited α]{l:List α}{i:Nat}(h:i<l.length):gt l i=l[i]:=by rw [gt,getElem!_pos l i h]
theorem a0G {α:Type}[Inhabited α]{l:List α}{k:Nat}(h:k<l.length):l.drop k=gt l k :: l.drop (k+1):=by
 rw [List.drop_eq_getElem_cons h,b0P h]
def look (i:Nat):List (Nat × D)→D
 | []=>.junk
 | (j,d) :: e=>if j=i then d else look i e
def frm (n:Nat)(e:List (Nat × D)):List D:=(List.range n).map fun i=>look i e
theorem d0R (n:Nat)(e:List (Nat × D)):(frm n e).length=n:=by simp [frm]
theorem c0h {n:Nat}{e:List (Nat × D)}{i:Nat}(h:i<n):(frm n e)[i]?=some (look i e):=by
 unfold frm
 rw [List.getElem?_map,List.getElem?_range h];rfl
theorem b0e {n:Nat}{e:List (Nat × D)}{i:Nat}{u:D}(h:i<n):(frm n e).getD i u=look i e:=by
 rw [List.getD_eq_getElem?_getD,c0h h];rfl
theorem g0U {n:Nat}{e:List (Nat × D)}{i:Nat}{d:D}:(frm n e).set i d=frm n ((i,d) :: e):=by
 apply List.ext_getElem?
 intro j
 by_cases hj:j<n
 ·rw [List.getElem?_set,c0h hj,c0h hj,d0R]
  simp only [look]
  split
  ·rename_i e;subst e;rw [if_pos hj]
  ·rfl
 ·rw [List.getElem?_eq_none (by simp [d0R];omega),List.getElem?_eq_none (by simp [d0R];omega)]
theorem o0w {i j:Nat}{d:D}{e:List (Nat × D)}:look i ((j,d) :: e)=if j=i then d else look i e:=id rfl
theorem w0F {i:Nat}:look i [] = .junk:=id rfl
section
variable {P:Program}{n0:Nat}{s:St}{Q:Out→St→Prop}
theorem View.frm {n:Nat}{e:List (Nat × D)}(hl:s.ts.length=n)(h:∀ i,i<n→look i e = .junk∨s.ts[i]?=some (look i e)):View P n0 s ⟨frm n e,s.H,[]⟩:=by
 intro X w0 φ0 H0 w φ a _ hr
 refine ⟨φ,⟨hr.sim.heap,⟨?_,fun i d u hd hu=>?_⟩,hr.sim.defers⟩,hr.ons⟩
 ·rw [d0R,hr.sim.tmps.1,hl]
 ·dsimp only at hd
  have hi:i<n:=by have:=(List.getElem?_eq_some_iff.1 hd).1;rwa [d0R] at this
  rw [c0h hi] at hd
  injection hd with hd
  subst hd
  rcases h i hi with h1|h1
  ·rw [h1];exact .junk
  ·exact hr.sim.tmps.2 i _ u h1 hu
def a0I:Nat→List D→List (Nat × D)
 | _,[]=>[]
 | i,d :: ds=>(i,d) :: a0I (i+1) ds
theorem m0T:∀ (ds:List D) (k i:Nat),look (k+i) (a0I k ds) = .junk∨ds[i]?=some (look (k+i) (a0I k ds))
 | [],_,_=>.inl rfl
 | d :: ds,k,0=>by simp [a0I,look]
 | d :: ds,k,i+1=>by
  simp only [a0I,look]
  rw [if_neg (by omega),show k+(i+1)=k+1+i by omega]
  simpa using m0T ds (k+1) i
theorem Con.walk (hP:Good P){f:FuncId}{n:Nat}{rs:List SR}{c:SCode}(hf:Fn P f n rs c){args:List D}{H:List Row}{Q:D→List Row→Prop}(hn:args.length≤n)
  (h:HS P H.length c ⟨frm n (a0I 0 args),H,[]⟩ (endS H.length rs Q)):Con P f args H Q:=by
 refine Con.fn hP hf (HS.view (View.frm ?_ (fun i hi=>?_)) h)
 ·simp;omega
 ·dsimp only
  have:=m0T args 0 i
  rw [Nat.zero_add] at this
  rcases this with h1|h1
  ·exact .inl h1
  ·have hlt:=(List.getElem?_eq_some_iff.1 h1).1
   rw [List.getElem?_append_left hlt]
   exact .inr h1
end
theorem b0D {P:Program}{g:FuncId}{caps args:List D}{H:List Row}{Q K:D→List Row→Prop}(h:Con P g (args++caps) H Q)(hk:∀ d H',Q d H'→K d H'):a0P P (.fn g caps) args H K:=⟨g,caps,rfl,h.mono hk⟩
theorem t0l {i:Nat}:∀ {e:List (Nat × D)},look i e = .junk∨(i,look i e)∈e
 | []=>.inl rfl
 | (j,d) :: e=>by
  simp only [look]
  split
  ·rename_i h;subst h;exact .inr List.mem_cons_self
  ·rcases t0l (i:=i) (e:=e) with h|h
   ·exact .inl h
   ·exact .inr (List.mem_cons_of_mem _ h)
def NextP (n:Nat){α:Type}(st:α→List (Nat × D))(hs:α→List Row)(p:α→Prop)(m:α→Nat)(x:α)(s:St):Prop:=∃ y,s.H=hs y∧(∃ e,s.ts=frm n e∧(st y).map (fun q=>look q.1 e)=(st y).map (·.2))∧p y∧m y<m x
theorem NextP.mk {α:Type}{st:α→List (Nat × D)}{hs:α→List Row}{p:α→Prop}{m:α→Nat}{x:α}{n:Nat}{e:List (Nat × D)}{H:List Row}{dr:List Nat}(y:α)(hH:H=hs y)(he:(st y).map (fun q=>look q.1 e)=(st y).map (·.2))(hp:p y)(hm:m y<m x):NextP n st hs p m x ⟨frm n e,H,dr⟩:=⟨y,hH,⟨e,rfl,he⟩,hp,hm⟩
section
variable {P:Program}{n0:Nat}{s:St}{Q:Out→St→Prop}
theorem View.told {n:Nat}{e e':List (Nat × D)}{H:List Row}{dr:List Nat}(he:e'.map (fun q=>look q.1 e)=e'.map (·.2)):View P n0 ⟨Mir.frm n e,H,dr⟩ ⟨Mir.frm n e',H,[]⟩:=by
 refine View.frm (s:=⟨Mir.frm n e,H,dr⟩) (d0R _ _) (fun i hi=>?_)
 rcases t0l (i:=i) (e:=e') with h|h
 ·exact .inl h
 ·refine .inr ?_
  dsimp only
  rw [c0h hi]
  have:∀ q∈e',look q.1 e=q.2:=by
   intro q hq
   obtain ⟨k,hk,rfl⟩:=List.getElem_of_mem hq
   have:=congrArg (fun l=>l[k]?) he
   simpa [hk] using this
  exact congrArg some (this _ h)
theorem HS.loopP {c:SCode}{α:Type}{n:Nat}{e:List (Nat × D)}{H:List Row}{dr:List Nat}(st:α→List (Nat × D))(hs:α→List Row)(p:α→Prop)(m:α→Nat)(x0:α)(hH:H=hs x0)(he:(st x0).map (fun q=>look q.1 e)=(st x0).map (·.2))(h0:p x0)
  (hbody:∀ x,p x→HS P n0 c ⟨Mir.frm n (st x),hs x,[]⟩ (h0V (NextP n st hs p m x) Q)):HS P n0 (.loop c) ⟨Mir.frm n e,H,dr⟩ Q:=by
 subst hH
 refine HS.view (View.told he) ?_
 intro k hk
 cases k with
 | loop a =>
  simp only [a0p] at hk
  injection hk with h1
  intro X w0 φ0 H0 w φ a' K hn0 hr hK
  refine wp_loop_rounds (m x0+1) ?_
  have key:∀ (k:Nat) (x:α) (w:World) (φ:Nat→Nat × Nat) (a':Act),m x≤k→p x→RunW P X w0 φ0 H0 w φ ⟨Mir.frm n (st x),hs x,[]⟩ a'→Code.rounds P a K (k+1) a' w:=by
   have nx:∀ (x y:α) (s':St) (w':World) (φ':Nat→Nat × Nat) (a'':Act),RunW P X w0 φ0 H0 w' φ' s' a''→s'.H=hs y→(∃ e,s'.ts=Mir.frm n e∧(st y).map (fun q=>look q.1 e)=(st y).map (·.2))→∃ φ2,RunW P X w0 φ0 H0 w' φ2 ⟨Mir.frm n (st y),hs y,[]⟩ a'':=by
    rintro x y ⟨ts,H,dr⟩ w' φ' a'' hr' hy ⟨e,he1,he2⟩
    dsimp only at hy he1
    subst hy;subst he1
    exact View.told (dr:=dr) he2 X w0 φ0 H0 w' φ' a'' hn0 hr'
   intro k
   induction k with
   | zero =>
    intro x w φ a' hm hp hr
    rw [rounds_succ]
    refine hbody x hp a h1 X w0 φ0 H0 w φ a' _ hn0 hr ?_
    intro out s' w' φ' a'' hq hr'
    cases out with
    | normal=>obtain ⟨y,_,_,_,hlt⟩:=hq;omega
    | exit i=>exact hK _ s' w' φ' a'' hq hr'
    | ret=>exact hK _ s' w' φ' a'' hq hr'
   | succ k ih =>
    intro x w φ a' hm hp hr
    rw [rounds_succ]
    refine hbody x hp a h1 X w0 φ0 H0 w φ a' _ hn0 hr ?_
    intro out s' w' φ' a'' hq hr'
    cases out with
    | normal =>
     obtain ⟨y,hy,he,hp',hlt⟩:=hq
     obtain ⟨φ2,hr2⟩:=nx x y s' w' φ' a'' hr' hy he
     exact ih y w' φ2 a'' (by omega) hp' hr2
    | exit i=>exact hK _ s' w' φ' a'' hq hr'
    | ret=>exact hK _ s' w' φ' a'' hq hr'
  exact key (m x0) x0 w φ a' (Nat.le_refl _) h0 hr
 | region id ops draw=>cases draw<;>simp only [a0p] at hk<;>first|(split at hk<;>first|cases hk|(split at hk<;>cases hk))|cases hk
 | cond c a b=>simp only [a0p] at hk;split at hk<;>cases hk
 | _=>simp [a0p] at hk
end
section
variable {P:Program}{n0:Nat}{Q:D→List Row→Prop}
theorem end1 {n t:Nat}{e:List (Nat × D)}{H:List Row}{dr:List Nat}{d d0:D}(ht:Nat.blt t n=true)(h:look t e=d)(hl:lowB n0 (H.take n0)=true)(hv:Vw (e0H n0 H) d d0)(q:Q d0 (H.take n0)):RetS n0 [.t t] Q ⟨frm n e,H,dr⟩:=by
 refine .still (ds:=[d]) ?_ hl hv q
 simp only [resS]
 rw [b0e (by simpa using ht),h]
theorem endA {n t:Nat}{e:List (Nat × D)}{H:List Row}{dr:List Nat}{d:D}(ht:Nat.blt t n=true)(h:look t e=d)(q:Q d H):RetS n0 [.t t] Q ⟨frm n e,H,dr⟩:=by
 refine .all (ds:=[d]) ?_ q
 simp only [resS]
 rw [b0e (by simpa using ht),h]
theorem end2 {n t u:Nat}{e:List (Nat × D)}{H:List Row}{dr:List Nat}{d f d0:D}(ht:Nat.blt t n=true)(hu:Nat.blt u n=true)(h:look t e=d)(k:look u e=f)(hl:lowB n0 (H.take n0)=true)(hv:Vw (e0H n0 H) (.tp [d,f]) d0)(q:Q d0 (H.take n0)):RetS n0 [.t t,.t u] Q ⟨frm n e,H,dr⟩:=by
 refine .still (ds:=[d,f]) ?_ hl hv q
 simp only [resS]
 rw [b0e (by simpa using ht),b0e (by simpa using hu),h,k]
theorem g1T {n t u:Nat}{e:List (Nat × D)}{H:List Row}{dr:List Nat}{d f:D}{ef:Eff}(ht:Nat.blt t n=true)(hu:Nat.blt u n=true)(h:look t e=d)(k:look u e=f)(hg:gather n0 (.tp [d,f]) (List.range n0) H=some ef)(q:Q ef.res (a0B (H.take n0) ef.upd++ef.news)):RetS n0 [.t t,.t u] Q ⟨frm n e,H,dr⟩:=by
 refine .gather (ds:=[d,f]) ?_ hg q
 simp only [resS]
 rw [b0e (by simpa using ht),b0e (by simpa using hu),h,k]
theorem endG {n t:Nat}{e:List (Nat × D)}{H:List Row}{dr:List Nat}{d:D}{ef:Eff}(ht:Nat.blt t n=true)(h:look t e=d)(hg:gather n0 d (List.range n0) H=some ef)(q:Q ef.res (a0B (H.take n0) ef.upd++ef.news)):RetS n0 [.t t] Q ⟨frm n e,H,dr⟩:=by
 refine .gather (ds:=[d]) ?_ hg q
 simp only [resS]
 rw [b0e (by simpa using ht),h]
end
end Go.Proofs.YthjgmldnegaaiaaGreatDoor.Mir
namespace Go.Proofs.YthjgmldnegaaiaaGreatDoor.Mir
open Go Go.RowKit
theorem l0S {P:Program}:∀ (l1 l2:List SI) (s:St) (K:St→Prop),wpS P (l1++l2) s K=wpS P l1 s fun s'=>wpS P l2 s' K
 | [],l2,s,K=>rfl
 | i :: l1,l2,s,K=>by
  simp only [List.cons_append,wpS,l0S l1 l2]
theorem e1E {P:Program}{l1 l2:List SI}{s:St}{K:St→Prop}(h:∀ K':St→Prop,(∀ s',wpS P l2 s' K→K' s')→wpS P l1 s K'):wpS P (l1++l2) s K:=by
 rw [l0S]
 exact h _ fun _ h=>h
abbrev kI (n:Int):SV:=.c (.f (.v (.int .i64 n)))
abbrev kT:SV:=.c (.f (.v (.bool true)))
abbrev kF:SV:=.c (.f (.v (.bool false)))
abbrev kN:SV:=.c (.f (.v (.slice none 0 0)))
abbrev kC (f:Nat):SV:=.c (.fn f [])
abbrev jI:D:=.f (.v (.int .i64 0))
abbrev jN:D:=.f (.v (.slice none 0 0))
abbrev jF:D:=.f (.v (.bool false))
abbrev jm (t x:Nat):SI:=.a t (.mv (.t x))
abbrev jl (t x:Nat):SI:=.a t (.load1 (.t x))
abbrev jo (t o x:Nat):SI:=.a t (.off o (.t x))
abbrev jn (t x:Nat):SI:=.a t (.nilc (.t x))
abbrev gM (t x g:Nat) (b:Bool):SI:=.g (some t) (.mv (.t x)) g b
abbrev gL (t x g:Nat) (b:Bool):SI:=.g (some t) (.load1 (.t x)) g b
abbrev gO (t o x g:Nat) (b:Bool):SI:=.g (some t) (.off o (.t x)) g b
abbrev gN (t x g:Nat) (b:Bool):SI:=.g (some t) (.nilc (.t x)) g b
abbrev je (t x:Nat):SI:=.a t (.slen (.t x))
abbrev jx (t n x i:Nat):SI:=.a t (.idx n (.t x) (.t i))
abbrev jL (t n x:Nat):SI:=.a t (.loadA n (.t x))
abbrev jE (t n x:Nat):SI:=.a t (.ext n (.t x))
abbrev jb (t:Nat) (op:BinOp) (x:Nat) (k:Int):SI:=.a t (.bin op (.t x) (kI k))
abbrev jB (t:Nat) (op:BinOp) (x y:Nat):SI:=.a t (.bin op (.t x) (.t y))
abbrev jk (t:Nat) (k:Int):SI:=.a t (.mv (kI k))
abbrev jG (t:Nat) (o:SOp) (g:Nat) (b:Bool):SI:=.g (some t) o g b
abbrev jq (l:List SI) (y:SCode):SCode:=.seq (.ops l) y
abbrev jc (t:Nat) (x y:SCode):SCode:=.cond (.t t) x y
def ap (a b:List SI):List SI:=a++b
theorem W_mv {P:Program}{ts:List D}{H:List Row}{K:D→List Row→Prop}(x:SV):a0T P ts H (.mv x) K=(K (x.ev ts) H):=id rfl
theorem d1l {P:Program}{ts:List D}{H:List Row}{K:D→List Row→Prop}(c a b:SV):a0T P ts H (.pick c a b) K=(k0i (c.ev ts) (K (a.ev ts) H) (K (b.ev ts) H)):=id rfl
theorem b1R {P:Program}{ts:List D}{H:List Row}{K:D→List Row→Prop}(T:TypeId)(z:List D):a0T P ts H (.alloc T z) K=(K (.pt H.length 0) (H++[.box T z])):=id rfl
theorem g1D {P:Program}{ts:List D}{H:List Row}{K:D→List Row→Prop}(T:TypeId)(x:SV):a0T P ts H (.box T x) K=(a0D (boxD (x.ev ts)) fun cs=>K (.pt H.length 0) (H++[.box T cs])):=id rfl
theorem y0H {P:Program}{ts:List D}{H:List Row}{K:D→List Row→Prop}(a:SV):a0T P ts H (.load1 a) K=(a0D (load1 H (a.ev ts)) fun d=>K d H):=id rfl
theorem a1y {P:Program}{ts:List D}{H:List Row}{K:D→List Row→Prop}(n:Nat)(a:SV):a0T P ts H (.loadA n a) K=(a0D (loadA H n (a.ev ts)) fun d=>K d H):=id rfl
theorem y0S {P:Program}{ts:List D}{H:List Row}{K:D→List Row→Prop}(n:Nat)(a x:SV):a0T P ts H (.store n a x) K=(a0D (c0o P H n (a.ev ts) (x.ev ts)) fun H'=>K D.undef H'):=id rfl
theorem d1V {P:Program}{ts:List D}{H:List Row}{K:D→List Row→Prop}(x:SV):a0T P ts H (.nilc x) K=(a0D (t0F (x.ev ts)) fun d=>K d H):=id rfl
theorem f1t {P:Program}{ts:List D}{H:List Row}{K:D→List Row→Prop}(o:Nat)(a:SV):a0T P ts H (.off o a) K=(a0D (offD o (a.ev ts)) fun d=>K d H):=id rfl
theorem d1O {P:Program}{ts:List D}{H:List Row}{K:D→List Row→Prop}(o:Nat)(x:SV):a0T P ts H (.fld1 o x) K=(a0D (fld1 o (x.ev ts)) fun d=>K d H):=id rfl
theorem d1g {P:Program}{ts:List D}{H:List Row}{K:D→List Row→Prop}(o n:Nat)(x:SV):a0T P ts H (.fldA o n x) K=(a0D (fldA o n (x.ev ts)) fun d=>K d H):=id rfl
theorem g1L {P:Program}{ts:List D}{H:List Row}{K:D→List Row→Prop}(sz:Nat)(x i:SV):a0T P ts H (.idx sz x i) K=(idxS sz (x.ev ts) (i.ev ts) fun d=>K d H):=id rfl
theorem f1f {P:Program}{ts:List D}{H:List Row}{K:D→List Row→Prop}(sz n:Nat)(x i:SV):a0T P ts H (.arr sz n x i) K=(arrS sz n (x.ev ts) (i.ev ts) fun d=>K d H):=id rfl
theorem f1Z {P:Program}{ts:List D}{H:List Row}{K:D→List Row→Prop}(i:Nat)(x:SV):a0T P ts H (.ext i x) K=(a0D (extD i (x.ev ts)) fun d=>K d H):=id rfl
theorem f1W {P:Program}{ts:List D}{H:List Row}{K:D→List Row→Prop}(op:BinOp)(x y:SV):a0T P ts H (.bin op x y) K=(binS op (x.ev ts) (y.ev ts) fun d=>K d H):=id rfl
theorem d1r {P:Program}{ts:List D}{H:List Row}{K:D→List Row→Prop}(op:BinOp)(x y:SV):a0T P ts H (.binb op x y) K=(q0Q op (x.ev ts) (y.ev ts) fun d=>K d H):=id rfl
theorem g1G {P:Program}{ts:List D}{H:List Row}{K:D→List Row→Prop}(eq:Bool)(ks:List Nat)(x y:SV):a0T P ts H (.aeq eq ks x y) K=(aeqS eq ks (x.ev ts) (y.ev ts) fun d=>K d H):=id rfl
theorem d1b {P:Program}{ts:List D}{H:List Row}{K:D→List Row→Prop}(eq:Bool)(k:Nat)(x y:SV):a0T P ts H (.nilq eq k x y) K=(d0C k (x.ev ts) (y.ev ts) fun b=>K (D.bool (if eq then b else !b)) H):=id rfl
theorem d1x {P:Program}{ts:List D}{H:List Row}{K:D→List Row→Prop}(x:SV):a0T P ts H (.unot x) K=(a0D (notS (x.ev ts)) fun d=>K d H):=id rfl
theorem W_fn {P:Program}{ts:List D}{H:List Row}{K:D→List Row→Prop}(f:FuncId)(caps:List SV):a0T P ts H (.fn f caps) K=(K (.fn f (caps.map (SV.ev ts))) H):=id rfl
theorem y0U {P:Program}{ts:List D}{H:List Row}{K:D→List Row→Prop}  : a0T P ts H (.mkmap) K=(K (.mp H.length) (H++[.map []])):=id rfl
theorem r0A {P:Program}{ts:List D}{H:List Row}{K:D→List Row→Prop}(T:TypeId)(sz b:Nat)(z:List F)(l c:SV):a0T P ts H (.mkslice T sz b z l c) K=(a0D (intOf? (l.ev ts)) fun a=>a0D (intOf? (c.ev ts)) fun c=>((0<a∨c=0)∧0≤a∧a≤c∧b*c≤140737488355328∧c.toNat*sz≤16777216)∧K (.sl H.length 0 a.toNat) (H++[.data T ((List.range (a.toNat*sz)).map fun j=>z.getD (j % sz) (.v Go.undef))])):=id rfl
theorem f1u {P:Program}{ts:List D}{H:List Row}{K:D→List Row→Prop}(z:List D)(parts:List (Nat × Nat × SV)):a0T P ts H (.bld z parts) K=(a0D (e0a z (parts.map fun p=>(p.1,p.2.1,p.2.2.ev ts))) fun ds=>K (.ag ds) H):=id rfl
theorem g1W {P:Program}{ts:List D}{H:List Row}{K:D→List Row→Prop}(T:TypeId)(sz len:Nat)(z:List D)(parts:List (Nat × SV)):a0T P ts H (.bsl T sz len z parts) K=(a0D (e0a z (parts.map fun p=>(p.1,sz,p.2.ev ts))) fun ds=>a0D (a0U P H ds) fun xu=>K (.sl H.length 0 len) (a0B H xu.2++[.data T xu.1])):=id rfl
theorem g1I {P:Program}{ts:List D}{H:List Row}{K:D→List Row→Prop}(T:TypeId)(sz b:Nat)(s x:SV):a0T P ts H (.app T sz b s x) K=(appS H T sz b (s.ev ts) (x.ev ts) K):=id rfl
theorem d1W {P:Program}{ts:List D}{H:List Row}{K:D→List Row→Prop}(x:SV):a0T P ts H (.slen x) K=(a0D (slcS (x.ev ts)) fun n=>K (D.int n) H):=id rfl
theorem d1q {P:Program}{ts:List D}{H:List Row}{K:D→List Row→Prop}(x:SV):a0T P ts H (.mlen x) K=(a0D (f0r H (x.ev ts)) fun es=>K (D.int es.length) H):=id rfl
theorem d1H {P:Program}{ts:List D}{H:List Row}{K:D→List Row→Prop}(k:IntKind)(x:SV):a0T P ts H (.conv k x) K=(a0D (z0l k (x.ev ts)) fun d=>K d H):=id rfl
theorem f1e {P:Program}{ts:List D}{H:List Row}{K:D→List Row→Prop}(x:SV):a0T P ts H (.s2b x) K=(a0D (strOf? (x.ev ts)) fun s=>s.size≤most∧K (.f (.s (s.data.toList.map fun b=>.v (.int .u8 b.toNat)) s.size)) H):=id rfl
theorem f1S {P:Program}{ts:List D}{H:List Row}{K:D→List Row→Prop}(x:SV):a0T P ts H (.b2s x) K=(a0D (b0S H 1 (x.ev ts)) fun p=>a0D (bytesOf? (p.2.map .f)) fun l=>p.2.length=p.1∧K (.f (.v (.string ⟨l.toArray⟩))) H):=id rfl
theorem u0E {P:Program}{ts:List D}{H:List Row}{K:D→List Row→Prop}(x:SV):a0T P ts H (.strlen x) K=(a0D (strOf? (x.ev ts)) fun s=>K (D.int s.size) H):=id rfl
theorem d1P {P:Program}{ts:List D}{H:List Row}{K:D→List Row→Prop}(sz n:Nat)(x i:SV):a0T P ts H (.aidx sz n x i) K=(w0e sz n (x.ev ts) (i.ev ts) fun d=>K d H):=id rfl
theorem d1F {P:Program}{ts:List D}{H:List Row}{K:D→List Row→Prop}(x i:SV):a0T P ts H (.sidx x i) K=(a0D (strOf? (x.ev ts)) fun s=>a0D (intOf? (i.ev ts)) fun i=>a0D (if 0≤i then s.data.toList[i.toNat]? else none) fun b=>K (.f (.v (.int .u8 b.toNat))) H):=id rfl
theorem d1K {P:Program}{ts:List D}{H:List Row}{K:D→List Row→Prop}(x:SV)(lo hi:Option SV):a0T P ts H (.ssub x lo hi) K=(a0D (z0f (x.ev ts) (lo.map (SV.ev ts)) (hi.map (SV.ev ts))) fun d=>K d H):=id rfl
theorem c1r {P:Program}{ts:List D}{H:List Row}{K:D→List Row→Prop}(ok:Bool)(K0:TypeId)(z:D)(m k:SV):a0T P ts H (.look ok K0 z m k) K=(a0D (z0J P H ok K0 z (m.ev ts) (k.ev ts)) fun d=>K d H):=id rfl
theorem d1u {P:Program}{ts:List D}{H:List Row}{K:D→List Row→Prop}(K0:TypeId)(m k x:SV):a0T P ts H (.mput K0 m k x) K=(a0D (a1o P H K0 (m.ev ts) (k.ev ts) (x.ev ts)) fun H'=>K D.undef H'):=id rfl
theorem c1v {P:Program}{ts:List D}{H:List Row}{K:D→List Row→Prop}(K0:TypeId)(m k:SV):a0T P ts H (.mdel K0 m k) K=(a0D (z0w P H K0 (m.ev ts) (k.ev ts)) fun H'=>K (.tp []) H'):=id rfl
theorem f1U {P:Program}{ts:List D}{H:List Row}{K:D→List Row→Prop}(T:TypeId)(x:SV):a0T P ts H (.clr T x) K=(a0D (p0V P H T (x.ev ts)) fun H'=>K (.tp []) H'):=id rfl
theorem W_mm {P:Program}{ts:List D}{H:List Row}{K:D→List Row→Prop}(mx:Bool)(x y:SV):a0T P ts H (.mm mx x y) K=(a0D (intOf? (x.ev ts)) fun a=>a0D (intOf? (y.ev ts)) fun b=>K (D.int (if mx then max a b else min a b)) H):=id rfl
theorem c1t {P:Program}{ts:List D}{H:List Row}{K:D→List Row→Prop}(f:SV)(args:List SV):a0T P ts H (.call f args) K=(a0P P (f.ev ts) (args.map (SV.ev ts)) H K):=id rfl
theorem d1X {P:Program}{ts:List D}{H:List Row}{K:D→List Row→Prop}(sz:Nat)(E:TypeId)(x:SV):a0T P ts H (.sub sz E x none none none) K=(a0D (slcS (x.ev ts)) fun n=>(0≤(0:Int)∧(0:Int)≤n∧(n:Int)≤n)∧a0D (subS H sz E (x.ev ts) (0:Int).toNat (n:Int).toNat) fun d=>K d H):=id rfl
theorem c1x {P:Program}{ts:List D}{H:List Row}{K:D→List Row→Prop}(sz:Nat)(E:TypeId)(x l:SV):a0T P ts H (.sub sz E x (some l) none none) K=(a0D (slcS (x.ev ts)) fun n=>a0D (intOf? (l.ev ts)) fun l=>(0≤l∧l≤n∧(n:Int)≤n)∧a0D (subS H sz E (x.ev ts) l.toNat (n:Int).toNat) fun d=>K d H):=id rfl
theorem d1U {P:Program}{ts:List D}{H:List Row}{K:D→List Row→Prop}(sz:Nat)(E:TypeId)(x h:SV):a0T P ts H (.sub sz E x none (some h) none) K=(a0D (slcS (x.ev ts)) fun n=>a0D (intOf? (h.ev ts)) fun h=>(0≤(0:Int)∧0≤h∧h≤n)∧a0D (subS H sz E (x.ev ts) (0:Int).toNat h.toNat) fun d=>K d H):=id rfl
theorem a1A {P:Program}{ts:List D}{H:List Row}{K:D→List Row→Prop}(sz:Nat)(E:TypeId)(x l h:SV):a0T P ts H (.sub sz E x (some l) (some h) none) K=(a0D (slcS (x.ev ts)) fun n=>a0D (intOf? (l.ev ts)) fun l=>a0D (intOf? (h.ev ts)) fun h=>(0≤l∧l≤h∧h≤n)∧a0D (subS H sz E (x.ev ts) l.toNat h.toNat) fun d=>K d H):=id rfl
theorem d1i {P:Program}{ts:List D}{H:List Row}{K:D→List Row→Prop}(sz:Nat)(E:TypeId)(x l h m:SV):a0T P ts H (.sub sz E x (some l) (some h) (some m)) K=(a0D (slcS (x.ev ts)) fun n=>a0D (intOf? (l.ev ts)) fun l=>a0D (intOf? (h.ev ts)) fun h=>(0≤l∧l≤h∧h≤n)∧(intOf? (m.ev ts)=some l∧l=h∧(some h).isSome=true)∧K (mxS (x.ev ts)) H):=id rfl
theorem y0P {P:Program}{ts:List D}{H:List Row}{K:D→List Row→Prop}(sz:Nat)(E:TypeId)(x h m:SV):a0T P ts H (.sub sz E x none (some h) (some m)) K=(a0D (slcS (x.ev ts)) fun n=>a0D (intOf? (h.ev ts)) fun h=>(0≤(0:Int)∧0≤h∧h≤n)∧(intOf? (m.ev ts)=some 0∧(0:Int)=h∧(some h).isSome=true)∧K (mxS (x.ev ts)) H):=id rfl
theorem ev_t {ts:List D}{n:Nat}:(SV.t n).ev ts=ts.getD n D.undef:=id rfl
theorem ev_c {ts:List D}{d:D}:(SV.c d).ev ts=d:=id rfl
theorem d1f {x:F}:boxD (.f x)=some ([.f x]):=id rfl
theorem w0M {x:F}:b0I (.f x)=true:=id rfl
theorem x0r {x:F}:(D.f x).cells=[.f x]:=id rfl
theorem a1q {r o n:Nat}:boxD (.sl r o n)=some ([.sl r o n]):=id rfl
theorem q0j {r o n:Nat}:b0I (.sl r o n)=true:=id rfl
theorem v0C {r o n:Nat}:(D.sl r o n).cells=[.sl r o n]:=id rfl
theorem b1F {r o:Nat}:boxD (.pt r o)=some ([.pt r o]):=id rfl
theorem p0o {r o:Nat}:b0I (.pt r o)=true:=id rfl
theorem w0O {r o:Nat}:(D.pt r o).cells=[.pt r o]:=id rfl
theorem z0d {r:Nat}:boxD (.mp r)=some ([.mp r]):=id rfl
theorem p0m {r:Nat}:b0I (.mp r)=true:=id rfl
theorem v0w {r:Nat}:(D.mp r).cells=[.mp r]:=id rfl
theorem y0J {xs:List F}:boxD (.rf xs)=some ([.rf xs]):=id rfl
theorem q0A {xs:List F}:b0I (.rf xs)=true:=id rfl
theorem v0a {xs:List F}:(D.rf xs).cells=[.rf xs]:=id rfl
theorem z0q {ds:List D}:boxD (.ag ds)=some (ds):=id rfl
theorem p0C {ds:List D}:b0I (.ag ds)=true:=id rfl
theorem v0b {ds:List D}:(D.ag ds).cells=ds:=id rfl
theorem a1z {f:FuncId}{ds:List D}:boxD (.fn f ds)=some ([.fn f ds]):=id rfl
theorem p0x {f:FuncId}{ds:List D}:b0I (.fn f ds)=true:=id rfl
theorem v0I {f:FuncId}{ds:List D}:(D.fn f ds).cells=[.fn f ds]:=id rfl
def m0z (o:Option Row)(off:Nat):Option D:=match o with
 | some row=>match row.cells with
  | some xs=>xs[off]?
  | none=>none
 | none=>none
theorem t0r {H:List Row}{r off:Nat}:load1 H (.pt r off)=m0z H[r]? off:=id rfl
theorem t0d {H:List Row}{xs:List F}:load1 H (.rf xs)=(xs[0]?).map .f:=id rfl
theorem m0X {T:TypeId}{ds:List D}{off:Nat}:m0z (some (.box T ds)) off=ds[off]?:=id rfl
theorem j0m {T:TypeId}{xs:List F}{off:Nat}:m0z (some (.data T xs)) off=(xs[off]?).map .f:=by simp [m0z,Row.cells]
theorem j0a {T:TypeId}{xs:List F}{off:Nat}:m0z (some (.froz T xs)) off=(xs[off]?).map .f:=by simp [m0z,Row.cells]
def n0D (n:Nat)(o:Option Row)(off:Nat):Option D:=match o with
 | some row=>match row.cells with
  | some xs=>if off+n≤xs.length then some (.ag ((xs.drop off).take n)) else none
  | none=>none
 | none=>none
theorem v0A {H:List Row}{n r off:Nat}:loadA H n (.pt r off)=n0D n H[r]? off:=id rfl
theorem a0A {H:List Row}{n:Nat}{xs:List F}:loadA H n (.rf xs)=if n≤xs.length then some (.ag ((xs.map .f).take n)) else none:=id rfl
theorem l0N {n:Nat}{T:TypeId}{ds:List D}{off:Nat}:n0D n (some (.box T ds)) off=if off+n≤ds.length then some (.ag ((ds.drop off).take n)) else none:=id rfl
theorem j0H {n:Nat}{T:TypeId}{xs:List F}{off:Nat}:n0D n (some (.data T xs)) off=if off+n≤xs.length then some (.ag (((xs.drop off).take n).map .f)) else none:=by simp [n0D,Row.cells,List.map_take,List.map_drop]
theorem j0v {n:Nat}{T:TypeId}{xs:List F}{off:Nat}:n0D n (some (.froz T xs)) off=if off+n≤xs.length then some (.ag (((xs.drop off).take n).map .f)) else none:=by simp [n0D,Row.cells,List.map_take,List.map_drop]
theorem y0o {o r off:Nat}:offD o (.pt r off)=some (.pt r (off+o)):=id rfl
theorem z0v {o:Nat}{xs:List F}:offD o (.rf xs)=some (.rf (xs.drop o)):=id rfl
theorem x0o {o:Nat}{ds:List D}:fld1 o (.ag ds)=ds[o]?:=id rfl
theorem z0c {o n:Nat}{ds:List D}:fldA o n (.ag ds)=if o+n≤ds.length then some (.ag ((ds.drop o).take n)) else none:=id rfl
theorem v0u {r o:Nat}:t0F (.pt r o)=some (.pt r o):=id rfl
theorem u0a {xs:List F}:t0F (.rf xs)=some (.rf xs):=id rfl
theorem t0f {f:FuncId}{cs:List D}:t0F (.fn f cs)=some (.fn f cs):=id rfl
theorem y0r {i:Nat}{ds:List D}:extD i (.tp ds)=ds[i]?:=id rfl
def c0k (P:Program)(H:List Row)(n r off:Nat)(x:D)(o:Option Row):Option (List Row):=match o with
 | some (.box U xs)=>if b0I x=true∧x.cells.length=n∧off+n≤xs.length then some (H.set r (.box U (putL off x.cells xs))) else none
 | some (.data U xs)=>if b0I x=true∧x.cells.length=n∧off+n≤xs.length∧0<n then
   match a0U P H x.cells with
   | some (ys,us)=>match (a0B H us)[r]? with
    | some (.data U ws)=>some ((a0B H us).set r (.data U (splice ws off ys)))
    | _=>none
   | none=>none
  else none
 | _=>none
theorem x0H {α:Type}{xs:List α}{off:Nat}{x:α}(h:off<xs.length):splice xs off [x]=xs.set off x:=by
 rw [List.set_eq_take_append_cons_drop,if_pos h]
 simp [splice]
theorem c0I {P:Program}{H:List Row}{n r off:Nat}{x:D}:c0o P H n (.pt r off) x=c0k P H n r off x H[r]?:=id rfl
theorem m0O {P:Program}{H:List Row}{n r off:Nat}{x:D}{U:TypeId}{xs:List D}:c0k P H n r off x (some (.box U xs))=if b0I x=true∧x.cells.length=n∧off+n≤xs.length then some (H.set r (.box U (putL off x.cells xs))) else none:=id rfl
theorem n0O {P:Program}{H:List Row}{r off:Nat}{x:F}{U:TypeId}{xs:List F}(h:H[r]?=some (.data U xs)):c0k P H 1 r off (.f x) (some (.data U xs))=if off+1≤xs.length then some (H.set r (.data U (xs.set off x))) else none:=by
 unfold c0k
 simp only [b0I,D.cells,a0U,b0T,a0B,List.append_nil,List.length_cons,List.length_nil,h,true_and,Nat.reduceAdd,Nat.zero_lt_one,and_true]
 split
 ·rw [x0H (by omega)]
 ·rfl
theorem p0T {α:Type}{cs:List α}:putL 0 [] cs=cs:=by cases cs<;>rfl
theorem m0l {α:Type}{y c:α}{ys cs:List α}:putL 0 (y :: ys) (c :: cs)=y :: putL 0 ys cs:=id rfl
theorem o0o {α:Type}{n:Nat}{c:α}{ys cs:List α}:putL (n+1) ys (c :: cs)=c :: putL n ys cs:=id rfl
theorem u0f {op:BinOp}{k k2:IntKind}{a b:Int}{K:D→Prop}:binS op (.f (.v (.int k a))) (.f (.v (.int k2 b))) K=(shQ op k k2∧intS op k a b K):=id rfl
theorem v0V {op:BinOp}{k:IntKind}:shQ op k k=True:=by cases op<;>simp [shQ]
theorem a1U {k k2:IntKind}:shQ .shl k k2=True:=id rfl
theorem a1m {k k2:IntKind}:shQ .shr k k2=True:=id rfl
theorem t0u {op:BinOp}{a b:ByteArray}{K:D→Prop}:binS op (.f (.v (.string a))) (.f (.v (.string b))) K=strS op a b K:=id rfl
theorem y0G {eq:Bool}{ks:List Nat}{xs ys:List D}{K:D→Prop}:aeqS eq ks (.ag xs) (.ag ys) K=a0D (eqL ks xs ys) fun b=>K (.f (.v (.bool (if eq then b else !b)))):=id rfl
theorem u0v {sz n:Nat}{ds:List D}{k:IntKind}{a:Int}{K:D→Prop}:w0e sz n (.ag ds) (.f (.v (.int k a))) K=((0≤a∧a<n)∧a0D (ds[a.toNat*sz]?) K):=id rfl
theorem b1V {op:BinOp}{a b:Bool}{K:D→Prop}:q0Q op (.f (.v (.bool a))) (.f (.v (.bool b))) K=s0c op a b K:=id rfl
theorem u0k {k:IntKind}{a b:Int}{K:D→Prop}:intS .shl k a b K=(0≤b∧K (.f (.v (.int k (k.wrap (a*2 ^ (min b.toNat k.bits))))))):=id rfl
theorem u0l {k:IntKind}{a b:Int}{K:D→Prop}:intS .shr k a b K=(0≤b∧K (.f (.v (.int k (a.fdiv (2 ^ (min b.toNat k.bits))))))):=id rfl
theorem t0m {k:IntKind}{a b:Int}{K:D→Prop}:intS .and k a b K=(K (.f (.v (.int k (k.wrap (BitVec.ofInt k.bits a &&& BitVec.ofInt k.bits b).toNat))))):=id rfl
theorem a1S {k:IntKind}{a b:Int}{K:D→Prop}:intS .or k a b K=(K (.f (.v (.int k (k.wrap (BitVec.ofInt k.bits a ||| BitVec.ofInt k.bits b).toNat))))):=id rfl
theorem v0D {k:IntKind}{a b:Int}{K:D→Prop}:intS .xor k a b K=(K (.f (.v (.int k (k.wrap (BitVec.ofInt k.bits a ^^^ BitVec.ofInt k.bits b).toNat))))):=id rfl
theorem t0s {k:IntKind}{a b:Int}{K:D→Prop}:intS .add k a b K=(K (.f (.v (.int k (k.wrap (a+b)))))):=id rfl
theorem u0Z {k:IntKind}{a b:Int}{K:D→Prop}:intS .sub k a b K=(K (.f (.v (.int k (k.wrap (a-b)))))):=id rfl
theorem w0I {k:IntKind}{a b:Int}{K:D→Prop}:intS .mul k a b K=(K (.f (.v (.int k (k.wrap (a*b)))))):=id rfl
theorem w0L {k:IntKind}{a b:Int}{K:D→Prop}:intS .quo k a b K=(b≠0∧K (.f (.v (.int k (k.wrap (a.tdiv b)))))):=id rfl
theorem u0s {k:IntKind}{a b:Int}{K:D→Prop}:intS .rem k a b K=(b≠0∧K (.f (.v (.int k (a.tmod b))))):=id rfl
theorem v0T {k:IntKind}{a b:Int}{K:D→Prop}:intS .eql k a b K=(Two (a=b) (K (.f (.v (.bool true)))) (K (.f (.v (.bool false))))):=id rfl
theorem u0x {k:IntKind}{a b:Int}{K:D→Prop}:intS .neq k a b K=(Two (a=b) (K (.f (.v (.bool false)))) (K (.f (.v (.bool true))))):=id rfl
theorem v0P {k:IntKind}{a b:Int}{K:D→Prop}:intS .lss k a b K=(Two (a<b) (K (.f (.v (.bool true)))) (K (.f (.v (.bool false))))):=id rfl
theorem t0i {k:IntKind}{a b:Int}{K:D→Prop}:intS .leq k a b K=(Two (a≤b) (K (.f (.v (.bool true)))) (K (.f (.v (.bool false))))):=id rfl
theorem t0g {k:IntKind}{a b:Int}{K:D→Prop}:intS .gtr k a b K=(Two (b<a) (K (.f (.v (.bool true)))) (K (.f (.v (.bool false))))):=id rfl
theorem w0W {k:IntKind}{a b:Int}{K:D→Prop}:intS .geq k a b K=(Two (b≤a) (K (.f (.v (.bool true)))) (K (.f (.v (.bool false))))):=id rfl
theorem u0F {a b:ByteArray}{K:D→Prop}:strS .add a b K=(a.size+b.size≤9223372036854775807∧K (.f (.v (.string (a++b))))):=id rfl
theorem u0r {a b:ByteArray}{K:D→Prop}:strS .eql a b K=(Two (a=b) (K (.f (.v (.bool true)))) (K (.f (.v (.bool false))))):=id rfl
theorem u0Y {a b:ByteArray}{K:D→Prop}:strS .neq a b K=(Two (a=b) (K (.f (.v (.bool false)))) (K (.f (.v (.bool true))))):=id rfl
theorem w0H {a b:ByteArray}{K:D→Prop}:strS .lss a b K=(Two (Op.bytesLess a.toList b.toList=true) (K (.f (.v (.bool true)))) (K (.f (.v (.bool false))))):=id rfl
theorem t0Z {a b:ByteArray}{K:D→Prop}:strS .gtr a b K=(Two (Op.bytesLess b.toList a.toList=true) (K (.f (.v (.bool true)))) (K (.f (.v (.bool false))))):=id rfl
theorem u0w {a b:ByteArray}{K:D→Prop}:strS .leq a b K=(Two (Op.bytesLess b.toList a.toList=true) (K (.f (.v (.bool false)))) (K (.f (.v (.bool true))))):=id rfl
theorem u0Q {a b:ByteArray}{K:D→Prop}:strS .geq a b K=(Two (Op.bytesLess a.toList b.toList=true) (K (.f (.v (.bool false)))) (K (.f (.v (.bool true))))):=id rfl
theorem p0e {a b:Bool}{K:D→Prop}:s0c .eql a b K=K (.f (.v (.bool (a==b)))):=id rfl
theorem o0s {a b:Bool}{K:D→Prop}:s0c .neq a b K=K (.f (.v (.bool (!(a==b))))):=id rfl
theorem z0n {sz r off n:Nat}{k:IntKind}{i:Int}{K:D→Prop}:idxS sz (.sl r off n) (.f (.v (.int k i))) K=((0≤i∧i<n)∧K (.pt r (off+i.toNat*sz))):=id rfl
theorem d1n {sz n:Nat}{xs:List F}{k:IntKind}{i:Int}{K:D→Prop}:idxS sz (.f (.s xs n)) (.f (.v (.int k i))) K=((0≤i∧i<n)∧K (.rf (xs.drop (i.toNat*sz)))):=id rfl
theorem b1J {sz n r off:Nat}{k:IntKind}{i:Int}{K:D→Prop}:arrS sz n (.pt r off) (.f (.v (.int k i))) K=((0≤i∧i<n)∧K (.pt r (off+i.toNat*sz))):=id rfl
theorem a1a {p q:Prop}:k0i (.f (.v (.bool true))) p q=p:=c0n
theorem b1E {p q:Prop}:k0i (.f (.v (.bool false))) p q=q:=b0y
theorem z0b {b:Bool}{p q:Prop}:k0i (.f (.v (.bool b))) p q=Bsel b p q:=id rfl
theorem d1h {b:Bool}:notS (.f (.v (.bool b)))=some (.f (.v (.bool (!b)))):=id rfl
theorem y0l {k k2:IntKind}{n:Int}:z0l k (.f (.v (.int k2 n)))=some (.f (.v (.int k (k.wrap n)))):=id rfl
theorem y0M {n:Int}:intOf? (.f (.v (.int .i64 n)))=some n:=id rfl
theorem a1O {s:ByteArray}:strOf? (.f (.v (.string s)))=some s:=id rfl
theorem b1e {r o n:Nat}:slcS (.sl r o n)=some n:=id rfl
theorem d1Y {xs:List F}{n:Nat}:slcS (.f (.s xs n))=some n:=id rfl
theorem d1D:slcS (.f .e)=some 0:=id rfl
theorem w0J:slcS (.f (.v (.slice none 0 0)))=some 0:=id rfl
def nilR (k:Nat)(p q:Option (Nat × Bool)):Option Bool:=match p,q with
 | some (i,a),some (j,b)=>if k=i∧k=j∧(a=true∨b=true) then some (a&&b) else none
 | _,_=>none
theorem d1p {k:Nat}{x y:D}:nilS k x y=nilR k (c0K x) (c0K y):=id rfl
theorem x0y {k i j:Nat}{a b:Bool}:nilR k (some (i,a)) (some (j,b))=if k=i∧k=j∧(a=true∨b=true) then some (a&&b) else none:=id rfl
theorem p0p:c0K (.f (.v (.slice none 0 0)))=some (0,true):=id rfl
theorem p0N:c0K (.f (.v (.pointer none)))=some (1,true):=id rfl
theorem p0A:c0K (.f (.v (.map none)))=some (2,true):=id rfl
theorem w0V {k:Nat}{y:D}{K:Bool→Prop}:d0C k (.f (.v (.slice none 0 0))) y K=a0D (nilS k (.f (.v (.slice none 0 0))) y) K:=id rfl
theorem v0J {k:Nat}{y:D}{K:Bool→Prop}:d0C k (.f (.v (.pointer none))) y K=a0D (nilS k (.f (.v (.pointer none))) y) K:=id rfl
theorem u0z {k:Nat}{y:D}{K:Bool→Prop}:d0C k (.f (.v (.map none))) y K=a0D (nilS k (.f (.v (.map none))) y) K:=id rfl
theorem t0t {k:Nat}{y:D}{K:Bool→Prop}:d0C k (.f .e) y K=a0D (nilS k (.f .e) y) K:=id rfl
theorem v0R {r o:Nat}{k:Nat}{y:D}{K:Bool→Prop}:d0C k (.pt r o) y K=a0D (nilS k (.pt r o) y) K:=id rfl
theorem w0R {r:Nat}{k:Nat}{y:D}{K:Bool→Prop}:d0C k (.mp r) y K=a0D (nilS k (.mp r) y) K:=id rfl
theorem u0y {xs:List F}{k:Nat}{y:D}{K:Bool→Prop}:d0C k (.rf xs) y K=a0D (nilS k (.rf xs) y) K:=id rfl
theorem a1h {xs:List F}{n:Nat}:c0K (.f (.s xs (n+1)))=some (0,false):=id rfl
theorem u0N {r o n:Nat}:c0K (.sl r o (n+1))=some (0,false):=id rfl
theorem u0d {r o:Nat}:c0K (.pt r o)=some (1,false):=id rfl
theorem t0q {xs:List F}:c0K (.rf xs)=some (1,false):=id rfl
theorem v0H {r:Nat}:c0K (.mp r)=some (2,false):=id rfl
def subR (sz:Nat)(E:TypeId)(r off l h:Nat)(o:Option Row):Option D:=match o with
 | some (.data U xs)=>if l=h then some (.f (.s [] 0)) else if 0<xs.length∧some U=some E then some (.sl r (off+l*sz) (h-l)) else none
 | some (.froz U _)=>if l=h then some (.f (.s [] 0)) else if some U=some E then some (.sl r (off+l*sz) (h-l)) else none
 | _=>if l=h then some (.f (.s [] 0)) else none
theorem a1s {H:List Row}{sz:Nat}{E:TypeId}{r off n l h:Nat}:subS H sz E (.sl r off n) l h=subR sz E r off l h H[r]?:=by
 unfold subS h0o subR
 dsimp only
 split<;>split<;>simp only [*]
 all_goals first|(split<;>simp_all)|simp_all
theorem q0b {sz:Nat}{E U:TypeId}{r off l h:Nat}{xs:List F}:subR sz E r off l h (some (.data U xs))=if l=h then some (.f (.s [] 0)) else if 0<xs.length∧some U=some E then some (.sl r (off+l*sz) (h-l)) else none:=id rfl
theorem q0N {sz:Nat}{E U:TypeId}{r off l h:Nat}{xs:List F}:subR sz E r off l h (some (.froz U xs))=if l=h then some (.f (.s [] 0)) else if some U=some E then some (.sl r (off+l*sz) (h-l)) else none:=id rfl
theorem m0p {H:List Row}{sz:Nat}{E:TypeId}{xs:List F}{n l h:Nat}:subS H sz E (.f (.s xs n)) l h=some (.f (.s ((xs.drop (l*sz)).take ((h-l)*sz)) (h-l))):=id rfl
theorem d1t {H:List Row}{sz:Nat}{E:TypeId}{l h:Nat}:subS H sz E (.f .e) l h=some (.f .e):=id rfl
theorem u0R {H:List Row}{sz:Nat}{E:TypeId}{l h:Nat}:subS H sz E (.f (.v (.slice none 0 0))) l h=some (.f (.v (.slice none 0 0))):=id rfl
theorem z0z:mxS (.f (.v (.slice none 0 0))) = .f (.v (.slice none 0 0)):=id rfl
theorem f1c {xs:List F}{n:Nat}:mxS (.f (.s xs n)) = .f .e:=id rfl
theorem g1S:mxS (.f .e) = .f .e:=id rfl
theorem d1E {r o n:Nat}:mxS (.sl r o n) = .f .e:=id rfl
theorem p0P {cs:List D}:e0a cs []=some cs:=id rfl
theorem n0A {cs:List D}{off size:Nat}{d:D}{rest:List (Nat × Nat × D)}:e0a cs ((off,size,d) :: rest)=if b0I d=true∧d.cells.length=size∧off+size≤cs.length then e0a (putL off d.cells cs) rest else none:=id rfl
theorem m0q {P:Program}{H:List Row}:a0U P H []=some ([],[]):=id rfl
def b1d (x:F)(o:Option (List F × List (Nat × Row))):Option (List F × List (Nat × Row)):=match o with
 | some (xs,us)=>some (x :: xs,us)
 | none=>none
theorem t0a {P:Program}{H:List Row}{x:F}{ds:List D}:a0U P H (.f x :: ds)=b1d x (a0U P H ds):=by
 simp only [a0U,b0T,a0B,List.nil_append]
 cases a0U P H ds<;>rfl
theorem q0s {x:F}{xs:List F}{us:List (Nat × Row)}:b1d x (some (xs,us))=some (x :: xs,us):=id rfl
theorem h0E {H:List Row}:a0B H []=H:=id rfl
theorem c1z:fs? []=some []:=id rfl
theorem a1t {x:F}{ds:List D}:fs? (.f x :: ds)=(fs? ds).map (x :: ·):=id rfl
theorem n0G {H:List Row}{sz:Nat}:b0S H sz (.f (.v (.slice none 0 0)))=some (0,[]):=id rfl
theorem v0e {H:List Row}{sz:Nat}:b0S H sz (.f .e)=some (0,[]):=id rfl
theorem v0Y {H:List Row}{sz n:Nat}{xs:List F}:b0S H sz (.f (.s xs n))=some (n,xs):=id rfl
def z0D (sz off n:Nat)(o:Option Row):Option (Nat × List F):=match o with
 | some (.data _ xs)=>if off+n*sz≤xs.length then some (n,(xs.drop off).take (n*sz)) else none
 | some (.froz _ xs)=>if off+n*sz≤xs.length then some (n,(xs.drop off).take (n*sz)) else none
 | some (.box _ ds)=>match fs? ds with
  | some xs=>if off+n*sz≤xs.length then some (n,(xs.drop off).take (n*sz)) else none
  | none=>none
 | _=>none
theorem q0J {H:List Row}{sz r off n:Nat}:b0S H sz (.sl r off n)=z0D sz off n H[r]?:=id rfl
theorem i0v {sz off n:Nat}{T:TypeId}{xs:List F}:z0D sz off n (some (.data T xs))=if off+n*sz≤xs.length then some (n,(xs.drop off).take (n*sz)) else none:=id rfl
theorem i0M {sz off n:Nat}{T:TypeId}{xs:List F}:z0D sz off n (some (.froz T xs))=if off+n*sz≤xs.length then some (n,(xs.drop off).take (n*sz)) else none:=id rfl
theorem u0K {H:List Row}{T:TypeId}{sz b:Nat}{x:D}{K:D→List Row→Prop}:appS H T sz b (.f (.v (.slice none 0 0))) x K=a0D (b0S H sz x) fun p=>Two (p.1=0) (K (.f (.v (.slice none 0 0))) H) (p.2.length=p.1*sz∧p.1*b≤most∧p.1≤most∧K (.sl H.length 0 p.1) (H++[.data T p.2])):=id rfl
theorem d1w {H:List Row}{T:TypeId}{sz b:Nat}{x:D}{K:D→List Row→Prop}:appS H T sz b (.f .e) x K=a0D (b0S H sz x) fun p=>Two (p.1=0) (K (.f .e) H) (p.2.length=p.1*sz∧p.1*b≤most∧p.1≤most∧K (.sl H.length 0 p.1) (H++[.data T p.2])):=id rfl
def appR (H:List Row)(T:TypeId)(sz b r off n m:Nat)(ys:List F)(K:D→List Row→Prop)(o:Option Row):Prop:=match o with
 | some (.data U xs)=>U=T∧ys.length=m*sz∧xs.length=off+n*sz∧(n+m)*b≤most∧n+m≤most∧K (.sl H.length 0 (n+m)) (H.set r .dead++[.data T (xs.drop off++ys)])
 | _=>False
theorem b1i {H:List Row}{T:TypeId}{sz b:Nat}{x:D}{K:D→List Row→Prop}{r off n:Nat}:appS H T sz b (.sl r off n) x K=a0D (b0S H sz x) fun p=>Two (p.1=0) (K (.sl r off n) H) (appR H T sz b r off n p.1 p.2 K H[r]?):=id rfl
theorem p0r {H:List Row}{T U:TypeId}{sz b r off n m:Nat}{ys xs:List F}{K:D→List Row→Prop}:appR H T sz b r off n m ys K (some (.data U xs))=(U=T∧ys.length=m*sz∧xs.length=off+n*sz∧(n+m)*b≤most∧n+m≤most∧K (.sl H.length 0 (n+m)) (H.set r .dead++[.data T (xs.drop off++ys)])):=id rfl
theorem p0c {H:List Row}:f0r H (.f (.v (.map none)))=some []:=id rfl
def f1o (o:Option Row):Option (List (Value × D)):=match o with
 | some (.map es)=>some es
 | _=>none
theorem u0g {H:List Row}{r:Nat}:f0r H (.mp r)=f1o H[r]?:=id rfl
theorem r0r {es:List (Value × D)}:f1o (some (.map es))=some es:=id rfl
theorem z0M {w:Bool}{p q:Prop}{b:Bool}:r0V (some (.f (.v (.bool b)))) w p q=if w then Bsel b p q else Bsel b q p:=id rfl
theorem y0Y {w:Bool}{p q:Prop}{ds:List D}:r0V (some (.tp ds)) w p q=q:=id rfl
theorem Dint {n:Int}:D.int n = .f (.v (.int .i64 n)):=id rfl
theorem f1p {b:Bool}:D.bool b = .f (.v (.bool b)):=id rfl
theorem Dv {x:Value}:D.v x = .f (.v x):=id rfl
theorem d1o:D.undef = .tp []:=id rfl
theorem z0T {N r:Nat}:ren [] N r=N+r:=by simp [ren]
theorem c1u {ρ:Nat→Nat}{x:F}:renE ρ (.f x) = .f x:=id rfl
theorem b1a {ρ:Nat→Nat}{r o n:Nat}:renE ρ (.sl r o n) = .sl (ρ r) o n:=id rfl
theorem z0h {ρ:Nat→Nat}{r o:Nat}:renE ρ (.pt r o) = .pt (ρ r) o:=id rfl
theorem z0C {ρ:Nat→Nat}{r:Nat}:renE ρ (.mp r) = .mp (ρ r):=id rfl
theorem z0G {ρ:Nat→Nat}{xs:List F}:renE ρ (.rf xs) = .rf xs:=id rfl
theorem y0Z {ρ:Nat→Nat}{ds:List D}:renE ρ (.ag ds) = .ag (ds.map (renE ρ)):=by simp [renE,c0N]
theorem b1c {ρ:Nat→Nat}{ds:List D}:renE ρ (.tp ds) = .tp (ds.map (renE ρ)):=by simp [renE,c0N]
theorem a1Z {ρ:Nat→Nat}{f:FuncId}{ds:List D}:renE ρ (.fn f ds) = .fn f (ds.map (renE ρ)):=by simp [renE,c0N]
theorem w0Y {ρ:Nat→Nat}{T:TypeId}{ds:List D}:renR ρ (.box T ds) = .box T (ds.map (renE ρ)):=id rfl
theorem o0m {ρ:Nat→Nat}{T:TypeId}{xs:List F}:renR ρ (.data T xs) = .data T xs:=id rfl
theorem q0c {ρ:Nat→Nat}{T:TypeId}{xs:List F}:renR ρ (.froz T xs) = .froz T xs:=id rfl
theorem w0P {ρ:Nat→Nat}{es:List (Value × D)}:renR ρ (.map es) = .map es:=id rfl
theorem q0i {ρ:Nat→Nat}:renR ρ .dead = .dead:=id rfl
theorem i0k {ρ:Nat→Nat}{rows H:List Row}:b0Z ρ [] rows H=H:=by cases rows<;>rfl
theorem g0d {ρ:Nat→Nat}{r:Nat}{ι:List Nat}{row:Row}{rows H:List Row}:b0Z ρ (r :: ι) (row :: rows) H=b0Z ρ ι rows (H.set r (renR ρ row)):=id rfl
theorem o0R {ts:List D}{t:Nat}{d:D}:putD! ts (some t) d=ts.set t d:=id rfl
theorem p0M {ts:List D}{d:D}:putD! ts none d=ts:=id rfl
theorem m0K:List.range 0=[]:=id rfl
theorem v0S {P:Program}{b own:List Nat}{n0 i:Nat}{log:List (List Nat × List Nat)}{ts:List D}{H:List Row}{dr:List Nat}{K:St→Prop}:wpDr P b n0 [] i own log ⟨ts,H,dr⟩ K=K ⟨ts,H,[]⟩:=id rfl
def d0i (P:Program)(b own:List Nat)(n0 i:Nat)(log:List (List Nat × List Nat))(o:SOp)(V:List Nat)(ts:List D)(H:List Row)(next:List Nat→List (List Nat × List Nat)→D→List Row→Prop):Prop :=
 a0S P ts (b0g V H) o fun w d H'=>H'=(effS w V H.length d H').heap (b0g V H) ∧
  Chk (chkS n0 own (b.getD i 0) V (o.vs.map (SV.ev ts)) (b0g V H) (effS w V H.length d H') log) ∧
  next (own++(effS w V H.length d H').news.map fun _=>i) (log++[(V,(effS w V H.length d H').upd.map (·.1))]) d ((effS w V H.length d H').heap H)
@[congr] theorem drStep_congr {P:Program} {b own own':List Nat} {n0 i i':Nat} {log log':List (List Nat × List Nat)} {o:SOp} {V V':List Nat} {ts ts':List D} {H H':List Row} {next:List Nat→List (List Nat × List Nat)→D→List Row→Prop} (h1:own=own') (h5:log=log') (h2:V=V') (h3:ts=ts') (h4:H=H') (h6:i=i'):d0i P b own n0 i log o V ts H next=d0i P b own' n0 i' log' o V' ts' H' next:=by rw [h1,h2,h3,h4,h5,h6]
theorem y0v {P:Program}{b own:List Nat}{n0 i:Nat}{log:List (List Nat × List Nat)}{l:List SI}{ts:List D}{H:List Row}{dr:List Nat}{K:St→Prop}{t:Nat}{o:SOp}:wpDr P b n0 (.a t o :: l) i own log ⟨ts,H,dr⟩ K=d0i P b own n0 i log o (a0Y ts H o) ts H fun own1 log1 d H1=>wpDr P b n0 l (i+1) own1 log1 ⟨ts.set t d,H1,[]⟩ K:=id rfl
theorem a1L {P:Program}{b own:List Nat}{n0 i:Nat}{log:List (List Nat × List Nat)}{l:List SI}{ts:List D}{H:List Row}{dr:List Nat}{K:St→Prop}{o:SOp}:wpDr P b n0 (.n o :: l) i own log ⟨ts,H,dr⟩ K=d0i P b own n0 i log o (a0Y ts H o) ts H fun own1 log1 d H1=>wpDr P b n0 l (i+1) own1 log1 ⟨ts,H1,[]⟩ K:=id rfl
theorem b1Z {P:Program}{b own:List Nat}{n0 i:Nat}{log:List (List Nat × List Nat)}{l:List SI}{ts:List D}{H:List Row}{dr:List Nat}{K:St→Prop}{d:Option Nat}{t:Nat}{w:Bool}{o:SOp}:wpDr P b n0 (.g d o t w :: l) i own log ⟨ts,H,dr⟩ K=r0V ts[t]? w (d0i P b own n0 i log o (a0Y ts H o) ts H fun own1 log1 r H1=>wpDr P b n0 l (i+1) own1 log1 ⟨putD! ts d r,H1,[]⟩ K) (wpDr P b n0 l (i+1) own (log++[([],[])]) ⟨putD! ts d D.undef,H,[]⟩ K):=id rfl
theorem l0y {P:Program}{b own:List Nat}{n0 i:Nat}{log:List (List Nat × List Nat)}{o:SOp}{V:List Nat}{ts:List D}{H:List Row}{next:List Nat→List (List Nat × List Nat)→D→List Row→Prop}:d0i P b own n0 i log o V ts H next=a0S P ts (b0g V H) o fun w d H1=>H1=(effS w V H.length d H1).heap (b0g V H)∧Chk (chkS n0 own (b.getD i 0) V (o.vs.map (SV.ev ts)) (b0g V H) (effS w V H.length d H1) log)∧next (own++(effS w V H.length d H1).news.map fun _=>i) (log++[(V,(effS w V H.length d H1).upd.map (·.1))]) d ((effS w V H.length d H1).heap H):=id rfl
theorem r0g {P:Program}{ts:List D}{H:List Row}{K:Bool→D→List Row→Prop}(x:SV):a0S P ts H (.mv x) K=((K false) (x.ev ts) H):=id rfl
theorem u0t {ts:List D}{H:List Row}(x:SV):a0Y ts H (.mv x)=[]:=id rfl
theorem u0U (x:SV):SOp.turns (.mv x)=false:=id rfl
theorem i0n {P:Program}{ts:List D}{H:List Row}{K:Bool→D→List Row→Prop}(c a b:SV):a0S P ts H (.pick c a b) K=(k0i (c.ev ts) ((K false) (a.ev ts) H) ((K false) (b.ev ts) H)):=id rfl
theorem l0q {ts:List D}{H:List Row}(c a b:SV):a0Y ts H (.pick c a b)=[]:=id rfl
theorem l0O (c a b:SV):SOp.turns (.pick c a b)=false:=id rfl
theorem g0n {P:Program}{ts:List D}{H:List Row}{K:Bool→D→List Row→Prop}(T:TypeId)(z:List D):a0S P ts H (.alloc T z) K=((K false) (.pt H.length 0) (H++[.box T z])):=id rfl
theorem j0w {ts:List D}{H:List Row}(T:TypeId)(z:List D):a0Y ts H (.alloc T z)=[]:=id rfl
theorem j0K (T:TypeId)(z:List D):SOp.turns (.alloc T z)=false:=id rfl
theorem l0m {P:Program}{ts:List D}{H:List Row}{K:Bool→D→List Row→Prop}(T:TypeId)(x:SV):a0S P ts H (.box T x) K=(a0D (boxD (x.ev ts)) fun cs=>(K false) (.pt H.length 0) (H++[.box T cs])):=id rfl
theorem r0M {ts:List D}{H:List Row}(T:TypeId)(x:SV):a0Y ts H (.box T x)=[]:=id rfl
theorem p0J (T:TypeId)(x:SV):SOp.turns (.box T x)=false:=id rfl
theorem g0Z {P:Program}{ts:List D}{H:List Row}{K:Bool→D→List Row→Prop}(a:SV):a0S P ts H (.load1 a) K=(a0D (load1 H (a.ev ts)) fun d=>(K false) d H):=id rfl
theorem h0q {ts:List D}{H:List Row}(a:SV):a0Y ts H (.load1 a)=dedN (b0f ([a.ev ts])):=id rfl
theorem i0G (a:SV):SOp.turns (.load1 a)=false:=id rfl
theorem g0u {P:Program}{ts:List D}{H:List Row}{K:Bool→D→List Row→Prop}(n:Nat)(a:SV):a0S P ts H (.loadA n a) K=(a0D (loadA H n (a.ev ts)) fun d=>(K false) d H):=id rfl
theorem i0D {ts:List D}{H:List Row}(n:Nat)(a:SV):a0Y ts H (.loadA n a)=dedN (b0f ([a.ev ts])):=id rfl
theorem i0Y (n:Nat)(a:SV):SOp.turns (.loadA n a)=false:=id rfl
theorem g0t {P:Program}{ts:List D}{H:List Row}{K:Bool→D→List Row→Prop}(n:Nat)(a x:SV):a0S P ts H (.store n a x) K=(a0D (c0o P H n (a.ev ts) (x.ev ts)) fun H'=>(K true) D.undef H'):=id rfl
theorem j0t {ts:List D}{H:List Row}(n:Nat)(a x:SV):a0Y ts H (.store n a x)=dedN (b0f ([a.ev ts,x.ev ts])):=id rfl
theorem j0O (n:Nat)(a x:SV):SOp.turns (.store n a x)=true:=id rfl
theorem j0r {P:Program}{ts:List D}{H:List Row}{K:Bool→D→List Row→Prop}(x:SV):a0S P ts H (.nilc x) K=(a0D (t0F (x.ev ts)) fun d=>(K false) d H):=id rfl
theorem m0H {ts:List D}{H:List Row}(x:SV):a0Y ts H (.nilc x)=[]:=id rfl
theorem l0g (x:SV):SOp.turns (.nilc x)=false:=id rfl
theorem k0z {P:Program}{ts:List D}{H:List Row}{K:Bool→D→List Row→Prop}(o:Nat)(a:SV):a0S P ts H (.off o a) K=(a0D (offD o (a.ev ts)) fun d=>(K false) d H):=id rfl
theorem q0e {ts:List D}{H:List Row}(o:Nat)(a:SV):a0Y ts H (.off o a)=[]:=id rfl
theorem o0t (o:Nat)(a:SV):SOp.turns (.off o a)=false:=id rfl
theorem j0A {P:Program}{ts:List D}{H:List Row}{K:Bool→D→List Row→Prop}(o:Nat)(x:SV):a0S P ts H (.fld1 o x) K=(a0D (fld1 o (x.ev ts)) fun d=>(K false) d H):=id rfl
theorem m0d {ts:List D}{H:List Row}(o:Nat)(x:SV):a0Y ts H (.fld1 o x)=[]:=id rfl
theorem l0R (o:Nat)(x:SV):SOp.turns (.fld1 o x)=false:=id rfl
theorem j0Y {P:Program}{ts:List D}{H:List Row}{K:Bool→D→List Row→Prop}(o n:Nat)(x:SV):a0S P ts H (.fldA o n x) K=(a0D (fldA o n (x.ev ts)) fun d=>(K false) d H):=id rfl
theorem l0K {ts:List D}{H:List Row}(o n:Nat)(x:SV):a0Y ts H (.fldA o n x)=[]:=id rfl
theorem l0p (o n:Nat)(x:SV):SOp.turns (.fldA o n x)=false:=id rfl
theorem k0s {P:Program}{ts:List D}{H:List Row}{K:Bool→D→List Row→Prop}(sz:Nat)(x i:SV):a0S P ts H (.idx sz x i) K=(idxS sz (x.ev ts) (i.ev ts) fun d=>(K false) d H):=id rfl
theorem p0k {ts:List D}{H:List Row}(sz:Nat)(x i:SV):a0Y ts H (.idx sz x i)=[]:=id rfl
theorem r0q (sz:Nat)(x i:SV):SOp.turns (.idx sz x i)=false:=id rfl
theorem l0B {P:Program}{ts:List D}{H:List Row}{K:Bool→D→List Row→Prop}(sz n:Nat)(x i:SV):a0S P ts H (.arr sz n x i) K=(arrS sz n (x.ev ts) (i.ev ts) fun d=>(K false) d H):=id rfl
theorem q0k {ts:List D}{H:List Row}(sz n:Nat)(x i:SV):a0Y ts H (.arr sz n x i)=[]:=id rfl
theorem r0e (sz n:Nat)(x i:SV):SOp.turns (.arr sz n x i)=false:=id rfl
theorem m0t {P:Program}{ts:List D}{H:List Row}{K:Bool→D→List Row→Prop}(i:Nat)(x:SV):a0S P ts H (.ext i x) K=(a0D (extD i (x.ev ts)) fun d=>(K false) d H):=id rfl
theorem p0U {ts:List D}{H:List Row}(i:Nat)(x:SV):a0Y ts H (.ext i x)=[]:=id rfl
theorem o0W (i:Nat)(x:SV):SOp.turns (.ext i x)=false:=id rfl
theorem m0G {P:Program}{ts:List D}{H:List Row}{K:Bool→D→List Row→Prop}(op:BinOp)(x y:SV):a0S P ts H (.bin op x y) K=(binS op (x.ev ts) (y.ev ts) fun d=>(K false) d H):=id rfl
theorem r0S {ts:List D}{H:List Row}(op:BinOp)(x y:SV):a0Y ts H (.bin op x y)=[]:=id rfl
theorem o0v (op:BinOp)(x y:SV):SOp.turns (.bin op x y)=false:=id rfl
theorem i0w {P:Program}{ts:List D}{H:List Row}{K:Bool→D→List Row→Prop}(op:BinOp)(x y:SV):a0S P ts H (.binb op x y) K=(q0Q op (x.ev ts) (y.ev ts) fun d=>(K false) d H):=id rfl
theorem l0i {ts:List D}{H:List Row}(op:BinOp)(x y:SV):a0Y ts H (.binb op x y)=[]:=id rfl
theorem l0n (op:BinOp)(x y:SV):SOp.turns (.binb op x y)=false:=id rfl
theorem m0v {P:Program}{ts:List D}{H:List Row}{K:Bool→D→List Row→Prop}(eq:Bool)(ks:List Nat)(x y:SV):a0S P ts H (.aeq eq ks x y) K=(aeqS eq ks (x.ev ts) (y.ev ts) fun d=>(K false) d H):=id rfl
theorem r0F {ts:List D}{H:List Row}(eq:Bool)(ks:List Nat)(x y:SV):a0Y ts H (.aeq eq ks x y)=[]:=id rfl
theorem p0Y (eq:Bool)(ks:List Nat)(x y:SV):SOp.turns (.aeq eq ks x y)=false:=id rfl
theorem j0z {P:Program}{ts:List D}{H:List Row}{K:Bool→D→List Row→Prop}(x:SV):a0S P ts H (.unot x) K=(a0D (notS (x.ev ts)) fun d=>(K false) d H):=id rfl
theorem m0B {ts:List D}{H:List Row}(x:SV):a0Y ts H (.unot x)=[]:=id rfl
theorem m0h (x:SV):SOp.turns (.unot x)=false:=id rfl
theorem r0Z {P:Program}{ts:List D}{H:List Row}{K:Bool→D→List Row→Prop}(f:FuncId)(caps:List SV):a0S P ts H (.fn f caps) K=((K false) (.fn f (caps.map (SV.ev ts))) H):=id rfl
theorem u0V {ts:List D}{H:List Row}(f:FuncId)(caps:List SV):a0Y ts H (.fn f caps)=[]:=id rfl
theorem w0K (f:FuncId)(caps:List SV):SOp.turns (.fn f caps)=false:=id rfl
theorem g0b {P:Program}{ts:List D}{H:List Row}{K:Bool→D→List Row→Prop}  : a0S P ts H (.mkmap) K=((K false) (.mp H.length) (H++[.map []])):=id rfl
theorem k0K {ts:List D}{H:List Row}  : a0Y ts H (.mkmap)=[]:=id rfl
theorem j0G  : SOp.turns (.mkmap)=false:=id rfl
theorem e0i {P:Program}{ts:List D}{H:List Row}{K:Bool→D→List Row→Prop}(T:TypeId)(sz b:Nat)(z:List F)(l c:SV):a0S P ts H (.mkslice T sz b z l c) K=(a0D (intOf? (l.ev ts)) fun a=>a0D (intOf? (c.ev ts)) fun c=>((0<a∨c=0)∧0≤a∧a≤c∧b*c≤140737488355328∧c.toNat*sz≤16777216)∧(K false) (.sl H.length 0 a.toNat) (H++[.data T ((List.range (a.toNat*sz)).map fun j=>z.getD (j % sz) (.v Go.undef))])):=id rfl
theorem f0W {ts:List D}{H:List Row}(T:TypeId)(sz b:Nat)(z:List F)(l c:SV):a0Y ts H (.mkslice T sz b z l c)=[]:=id rfl
theorem f0a (T:TypeId)(sz b:Nat)(z:List F)(l c:SV):SOp.turns (.mkslice T sz b z l c)=false:=id rfl
theorem m0P {P:Program}{ts:List D}{H:List Row}{K:Bool→D→List Row→Prop}(z:List D)(parts:List (Nat × Nat × SV)):a0S P ts H (.bld z parts) K=(a0D (e0a z (parts.map fun p=>(p.1,p.2.1,p.2.2.ev ts))) fun ds=>(K false) (.ag ds) H):=id rfl
theorem r0H {ts:List D}{H:List Row}(z:List D)(parts:List (Nat × Nat × SV)):a0Y ts H (.bld z parts)=[]:=id rfl
theorem p0a (z:List D)(parts:List (Nat × Nat × SV)):SOp.turns (.bld z parts)=false:=id rfl
theorem m0F {P:Program}{ts:List D}{H:List Row}{K:Bool→D→List Row→Prop}(T:TypeId)(sz len:Nat)(z:List D)(parts:List (Nat × SV)):a0S P ts H (.bsl T sz len z parts) K=(a0D (e0a z (parts.map fun p=>(p.1,sz,p.2.ev ts))) fun ds=>a0D (a0U P H ds) fun xu=>(K true) (.sl H.length 0 len) (a0B H xu.2++[.data T xu.1])):=id rfl
theorem q0Z {ts:List D}{H:List Row}(T:TypeId)(sz len:Nat)(z:List D)(parts:List (Nat × SV)):a0Y ts H (.bsl T sz len z parts)=dedN (b0f ((parts.map fun p=>p.2).map (SV.ev ts))):=id rfl
theorem q0X (T:TypeId)(sz len:Nat)(z:List D)(parts:List (Nat × SV)):SOp.turns (.bsl T sz len z parts)=true:=id rfl
theorem l0u {P:Program}{ts:List D}{H:List Row}{K:Bool→D→List Row→Prop}(T:TypeId)(sz b:Nat)(s x:SV):a0S P ts H (.app T sz b s x) K=(appS H T sz b (s.ev ts) (x.ev ts) (K true)):=id rfl
theorem q0U {ts:List D}{H:List Row}(T:TypeId)(sz b:Nat)(s x:SV):a0Y ts H (.app T sz b s x)=dedN (b0f ([s.ev ts,x.ev ts])):=id rfl
theorem p0I (T:TypeId)(sz b:Nat)(s x:SV):SOp.turns (.app T sz b s x)=true:=id rfl
theorem i0y {P:Program}{ts:List D}{H:List Row}{K:Bool→D→List Row→Prop}(x:SV):a0S P ts H (.slen x) K=(a0D (slcS (x.ev ts)) fun n=>(K false) (D.int n) H):=id rfl
theorem m0S {ts:List D}{H:List Row}(x:SV):a0Y ts H (.slen x)=[]:=id rfl
theorem l0a (x:SV):SOp.turns (.slen x)=false:=id rfl
theorem j0p {P:Program}{ts:List D}{H:List Row}{K:Bool→D→List Row→Prop}(x:SV):a0S P ts H (.mlen x) K=(a0D (f0r H (x.ev ts)) fun es=>(K false) (D.int es.length) H):=id rfl
theorem m0A {ts:List D}{H:List Row}(x:SV):a0Y ts H (.mlen x)=dedN (b0f ([x.ev ts])):=id rfl
theorem m0V (x:SV):SOp.turns (.mlen x)=false:=id rfl
theorem k0D {P:Program}{ts:List D}{H:List Row}{K:Bool→D→List Row→Prop}(k:IntKind)(x:SV):a0S P ts H (.conv k x) K=(a0D (z0l k (x.ev ts)) fun d=>(K false) d H):=id rfl
theorem m0n {ts:List D}{H:List Row}(k:IntKind)(x:SV):a0Y ts H (.conv k x)=[]:=id rfl
theorem l0H (k:IntKind)(x:SV):SOp.turns (.conv k x)=false:=id rfl
theorem k0u {P:Program}{ts:List D}{H:List Row}{K:Bool→D→List Row→Prop}(x:SV):a0S P ts H (.s2b x) K=(a0D (strOf? (x.ev ts)) fun s=>s.size≤most∧(K false) (.f (.s (s.data.toList.map fun b=>.v (.int .u8 b.toNat)) s.size)) H):=id rfl
theorem r0h {ts:List D}{H:List Row}(x:SV):a0Y ts H (.s2b x)=[]:=id rfl
theorem p0j (x:SV):SOp.turns (.s2b x)=false:=id rfl
theorem l0k {P:Program}{ts:List D}{H:List Row}{K:Bool→D→List Row→Prop}(x:SV):a0S P ts H (.b2s x) K=(a0D (b0S H 1 (x.ev ts)) fun p=>a0D (bytesOf? (p.2.map .f)) fun l=>p.2.length=p.1∧(K false) (.f (.v (.string ⟨l.toArray⟩))) H):=id rfl
theorem r0J {ts:List D}{H:List Row}(x:SV):a0Y ts H (.b2s x)=dedN (b0f ([x.ev ts])):=id rfl
theorem q0o (x:SV):SOp.turns (.b2s x)=false:=id rfl
theorem f0G {P:Program}{ts:List D}{H:List Row}{K:Bool→D→List Row→Prop}(x:SV):a0S P ts H (.strlen x) K=(a0D (strOf? (x.ev ts)) fun s=>(K false) (D.int s.size) H):=id rfl
theorem g0w {ts:List D}{H:List Row}(x:SV):a0Y ts H (.strlen x)=[]:=id rfl
theorem h0C (x:SV):SOp.turns (.strlen x)=false:=id rfl
theorem h0r {P:Program}{ts:List D}{H:List Row}{K:Bool→D→List Row→Prop}(sz n:Nat)(x i:SV):a0S P ts H (.aidx sz n x i) K=(w0e sz n (x.ev ts) (i.ev ts) fun d=>(K false) d H):=id rfl
theorem k0t {ts:List D}{H:List Row}(sz n:Nat)(x i:SV):a0Y ts H (.aidx sz n x i)=[]:=id rfl
theorem m0m (sz n:Nat)(x i:SV):SOp.turns (.aidx sz n x i)=false:=id rfl
theorem i0p {P:Program}{ts:List D}{H:List Row}{K:Bool→D→List Row→Prop}(x i:SV):a0S P ts H (.sidx x i) K=(a0D (strOf? (x.ev ts)) fun s=>a0D (intOf? (i.ev ts)) fun i=>a0D (if 0≤i then s.data.toList[i.toNat]? else none) fun b=>(K false) (.f (.v (.int .u8 b.toNat))) H):=id rfl
theorem m0k {ts:List D}{H:List Row}(x i:SV):a0Y ts H (.sidx x i)=[]:=id rfl
theorem l0r (x i:SV):SOp.turns (.sidx x i)=false:=id rfl
theorem i0U {P:Program}{ts:List D}{H:List Row}{K:Bool→D→List Row→Prop}(x:SV)(lo hi:Option SV):a0S P ts H (.ssub x lo hi) K=(a0D (z0f (x.ev ts) (lo.map (SV.ev ts)) (hi.map (SV.ev ts))) fun d=>(K false) d H):=id rfl
theorem m0Q {ts:List D}{H:List Row}(x:SV)(lo hi:Option SV):a0Y ts H (.ssub x lo hi)=[]:=id rfl
theorem k0v (x:SV)(lo hi:Option SV):SOp.turns (.ssub x lo hi)=false:=id rfl
theorem i0H {P:Program}{ts:List D}{H:List Row}{K:Bool→D→List Row→Prop}(ok:Bool)(K0:TypeId)(z:D)(m k:SV):a0S P ts H (.look ok K0 z m k) K=(a0D (z0J P H ok K0 z (m.ev ts) (k.ev ts)) fun d=>(K false) d H):=id rfl
theorem k0o {ts:List D}{H:List Row}(ok:Bool)(K0:TypeId)(z:D)(m k:SV):a0Y ts H (.look ok K0 z m k)=dedN (b0f ([m.ev ts,k.ev ts])):=id rfl
theorem m0i (ok:Bool)(K0:TypeId)(z:D)(m k:SV):SOp.turns (.look ok K0 z m k)=false:=id rfl
theorem h0g {P:Program}{ts:List D}{H:List Row}{K:Bool→D→List Row→Prop}(K0:TypeId)(m k x:SV):a0S P ts H (.mput K0 m k x) K=(a0D (a1o P H K0 (m.ev ts) (k.ev ts) (x.ev ts)) fun H'=>(K true) D.undef H'):=id rfl
theorem m0J {ts:List D}{H:List Row}(K0:TypeId)(m k x:SV):a0Y ts H (.mput K0 m k x)=dedN (b0f ([m.ev ts,k.ev ts,x.ev ts])):=id rfl
theorem l0A (K0:TypeId)(m k x:SV):SOp.turns (.mput K0 m k x)=true:=id rfl
theorem h0k {P:Program}{ts:List D}{H:List Row}{K:Bool→D→List Row→Prop}(K0:TypeId)(m k:SV):a0S P ts H (.mdel K0 m k) K=(a0D (z0w P H K0 (m.ev ts) (k.ev ts)) fun H'=>(K true) (.tp []) H'):=id rfl
theorem m0E {ts:List D}{H:List Row}(K0:TypeId)(m k:SV):a0Y ts H (.mdel K0 m k)=dedN (b0f ([m.ev ts,k.ev ts])):=id rfl
theorem l0d (K0:TypeId)(m k:SV):SOp.turns (.mdel K0 m k)=true:=id rfl
theorem l0h {P:Program}{ts:List D}{H:List Row}{K:Bool→D→List Row→Prop}(T:TypeId)(x:SV):a0S P ts H (.clr T x) K=(a0D (p0V P H T (x.ev ts)) fun H'=>(K true) (.tp []) H'):=id rfl
theorem q0H {ts:List D}{H:List Row}(T:TypeId)(x:SV):a0Y ts H (.clr T x)=dedN (b0f ([x.ev ts])):=id rfl
theorem o0r (T:TypeId)(x:SV):SOp.turns (.clr T x)=true:=id rfl
theorem q0d {P:Program}{ts:List D}{H:List Row}{K:Bool→D→List Row→Prop}(mx:Bool)(x y:SV):a0S P ts H (.mm mx x y) K=(a0D (intOf? (x.ev ts)) fun a=>a0D (intOf? (y.ev ts)) fun b=>(K false) (D.int (if mx then max a b else min a b)) H):=id rfl
theorem w0Q {ts:List D}{H:List Row}(mx:Bool)(x y:SV):a0Y ts H (.mm mx x y)=[]:=id rfl
theorem u0I (mx:Bool)(x y:SV):SOp.turns (.mm mx x y)=false:=id rfl
theorem j0R {P:Program}{ts:List D}{H:List Row}{K:Bool→D→List Row→Prop}(f:SV)(args:List SV):a0S P ts H (.call f args) K=a0k P (f.ev ts) (args.map (SV.ev ts)) H K:=id rfl
theorem k0p {ts:List D}{H:List Row}(f:SV)(args:List SV):a0Y ts H (.call f args)=dedN (lvl H (lvl H (lvl H (b0f (args.map (SV.ev ts))++(f.ev ts).refs)))):=id rfl
theorem l0c (f:SV)(args:List SV):SOp.turns (.call f args)=true:=id rfl
theorem j0b {P:Program}{ts:List D}{H:List Row}{K:Bool→D→List Row→Prop}(sz:Nat)(E:TypeId)(x:SV):a0S P ts H (.sub sz E x none none none) K=(a0D (slcS (x.ev ts)) fun n=>(0≤(0:Int)∧(0:Int)≤n∧(n:Int)≤n)∧a0D (subS H sz E (x.ev ts) (0:Int).toNat (n:Int).toNat) fun d=>(K false) d H):=id rfl
theorem l0E {ts:List D}{H:List Row}(sz:Nat)(E:TypeId)(x:SV):a0Y ts H (.sub sz E x none none none)=dedN (b0f ([x.ev ts])):=id rfl
theorem l0J (sz:Nat)(E:TypeId)(x:SV):SOp.turns (.sub sz E x none none none)=false:=id rfl
theorem i0c {P:Program}{ts:List D}{H:List Row}{K:Bool→D→List Row→Prop}(sz:Nat)(E:TypeId)(x l:SV):a0S P ts H (.sub sz E x (some l) none none) K=(a0D (slcS (x.ev ts)) fun n=>a0D (intOf? (l.ev ts)) fun l=>(0≤l∧l≤n∧(n:Int)≤n)∧a0D (subS H sz E (x.ev ts) l.toNat (n:Int).toNat) fun d=>(K false) d H):=id rfl
theorem l0F {ts:List D}{H:List Row}(sz:Nat)(E:TypeId)(x l:SV):a0Y ts H (.sub sz E x (some l) none none)=dedN (b0f ([x.ev ts,l.ev ts])):=id rfl
theorem l0M (sz:Nat)(E:TypeId)(x l:SV):SOp.turns (.sub sz E x (some l) none none)=false:=id rfl
theorem j0o {P:Program}{ts:List D}{H:List Row}{K:Bool→D→List Row→Prop}(sz:Nat)(E:TypeId)(x h:SV):a0S P ts H (.sub sz E x none (some h) none) K=(a0D (slcS (x.ev ts)) fun n=>a0D (intOf? (h.ev ts)) fun h=>(0≤(0:Int)∧0≤h∧h≤n)∧a0D (subS H sz E (x.ev ts) (0:Int).toNat h.toNat) fun d=>(K false) d H):=id rfl
theorem l0V {ts:List D}{H:List Row}(sz:Nat)(E:TypeId)(x h:SV):a0Y ts H (.sub sz E x none (some h) none)=dedN (b0f ([x.ev ts,h.ev ts])):=id rfl
theorem m0y (sz:Nat)(E:TypeId)(x h:SV):SOp.turns (.sub sz E x none (some h) none)=false:=id rfl
theorem h0D {P:Program}{ts:List D}{H:List Row}{K:Bool→D→List Row→Prop}(sz:Nat)(E:TypeId)(x l h:SV):a0S P ts H (.sub sz E x (some l) (some h) none) K=(a0D (slcS (x.ev ts)) fun n=>a0D (intOf? (l.ev ts)) fun l=>a0D (intOf? (h.ev ts)) fun h=>(0≤l∧l≤h∧h≤n)∧a0D (subS H sz E (x.ev ts) l.toNat h.toNat) fun d=>(K false) d H):=id rfl
theorem i0b {ts:List D}{H:List Row}(sz:Nat)(E:TypeId)(x l h:SV):a0Y ts H (.sub sz E x (some l) (some h) none)=dedN (b0f ([x.ev ts,l.ev ts,h.ev ts])):=id rfl
theorem k0B (sz:Nat)(E:TypeId)(x l h:SV):SOp.turns (.sub sz E x (some l) (some h) none)=false:=id rfl
theorem i0V {P:Program}{ts:List D}{H:List Row}{K:Bool→D→List Row→Prop}(sz:Nat)(E:TypeId)(x l h m:SV):a0S P ts H (.sub sz E x (some l) (some h) (some m)) K=(a0D (slcS (x.ev ts)) fun n=>a0D (intOf? (l.ev ts)) fun l=>a0D (intOf? (h.ev ts)) fun h=>(0≤l∧l≤h∧h≤n)∧(intOf? (m.ev ts)=some l∧l=h∧(some h).isSome=true)∧(K false) (mxS (x.ev ts)) H):=id rfl
theorem m0D {ts:List D}{H:List Row}(sz:Nat)(E:TypeId)(x l h m:SV):a0Y ts H (.sub sz E x (some l) (some h) (some m))=dedN (b0f ([x.ev ts,l.ev ts,h.ev ts,m.ev ts])):=id rfl
theorem l0X (sz:Nat)(E:TypeId)(x l h m:SV):SOp.turns (.sub sz E x (some l) (some h) (some m))=false:=id rfl
theorem g0j {P:Program}{ts:List D}{H:List Row}{K:Bool→D→List Row→Prop}(sz:Nat)(E:TypeId)(x h m:SV):a0S P ts H (.sub sz E x none (some h) (some m)) K=(a0D (slcS (x.ev ts)) fun n=>a0D (intOf? (h.ev ts)) fun h=>(0≤(0:Int)∧0≤h∧h≤n)∧(intOf? (m.ev ts)=some 0∧(0:Int)=h∧(some h).isSome=true)∧(K false) (mxS (x.ev ts)) H):=id rfl
theorem k0M {ts:List D}{H:List Row}(sz:Nat)(E:TypeId)(x h m:SV):a0Y ts H (.sub sz E x none (some h) (some m))=dedN (b0f ([x.ev ts,h.ev ts,m.ev ts])):=id rfl
theorem j0x (sz:Nat)(E:TypeId)(x h m:SV):SOp.turns (.sub sz E x none (some h) (some m))=false:=id rfl
def hasB:List Nat→Nat→Bool
 | [],_=>false
 | x :: xs,i=>if x=i then true else hasB xs i
theorem s0b:∀ (V:List Nat) (i:Nat),hasB V i=V.contains i
 | [],_=>rfl
 | x :: xs,i=>by
  simp only [hasB,List.contains_cons,s0b xs i]
  by_cases h:x=i
  ·simp [h]
  ·simp [h,Ne.symm h]
def msk (V:List Nat):Nat→List Row→List Row
 | _,[]=>[]
 | i,r :: H=>(if hasB V i=true then r else .dead) :: msk V (i+1) H
theorem d1a (V:List Nat):∀ (H:List Row) (k:Nat),((H.zipIdx k).map fun p=>if V.contains p.2 then p.1 else .dead)=msk V k H
 | [],_=>rfl
 | r :: H,k=>by
  simp only [List.zipIdx_cons,List.map_cons,msk,s0b]
  rw [d1a V H (k+1)]
theorem q0h {V:List Nat}{H:List Row}:b0g V H=msk V 0 H:=d1a V H 0
theorem x0w {V:List Nat}{i:Nat}:msk V i []=[]:=id rfl
theorem t0z {V:List Nat}{i:Nat}{r:Row}{H:List Row}:msk V i (r :: H)=(if hasB V i=true then r else .dead) :: msk V (i+1) H:=id rfl
theorem v0q {i:Nat}:hasB [] i=false:=id rfl
theorem o0c {x i:Nat}{xs:List Nat}:hasB (x :: xs) i=if x=i then true else hasB xs i:=id rfl
theorem v0r:dedN []=[]:=id rfl
theorem p0s {x:Nat}{xs:List Nat}:dedN (x :: xs)=if hasB xs x=true then dedN xs else x :: dedN xs:=by rw [s0b];rfl
theorem r0R:b0f []=[]:=id rfl
theorem l0z {d:D}{ds:List D}:b0f (d :: ds)=d.refs++b0f ds:=id rfl
theorem d1J {x:F}:D.refs (.f x)=[]:=id rfl
theorem a1v {r o n:Nat}:D.refs (.sl r o n)=[r]:=id rfl
theorem a1T {r o:Nat}:D.refs (.pt r o)=[r]:=id rfl
theorem a1j {r:Nat}:D.refs (.mp r)=[r]:=id rfl
theorem b1Q {xs:List F}:D.refs (.rf xs)=[]:=id rfl
theorem r0w:D.refs .junk=[]:=id rfl
theorem n0a (ds:List D):D.refs.go ds=b0f ds:=by
 induction ds with
 | nil=>rfl
 | cons d ds ih=>simp only [D.refs.go,b0f,ih]
theorem b1K {ds:List D}:D.refs (.ag ds)=b0f ds:=by rw [D.refs,n0a]
theorem b1P {ds:List D}:D.refs (.tp ds)=b0f ds:=by rw [D.refs,n0a]
theorem z0Z {f:FuncId}{ds:List D}:D.refs (.fn f ds)=b0f ds:=by rw [D.refs,n0a]
theorem a1P {H:List Row}:lvl H []=[]:=id rfl
theorem v0m {H:List Row}{r:Nat}{rs:List Nat}:lvl H (r :: rs)=r :: (d0w H[r]?++lvl H rs):=id rfl
theorem i0o {T:TypeId}{ds:List D}:d0w (some (.box T ds))=b0f ds:=by
 simp only [d0w,Row.refs]
 induction ds with
 | nil=>rfl
 | cons d ds ih=>simp only [List.flatMap_cons,b0f,ih]
theorem h0A {T:TypeId}{xs:List F}:d0w (some (.data T xs))=[]:=id rfl
theorem g0e {T:TypeId}{xs:List F}:d0w (some (.froz T xs))=[]:=id rfl
theorem h0p {es:List (Value × D)}:d0w (some (.map es))=[]:=id rfl
theorem h0M  : d0w (some (.dead))=[]:=id rfl
theorem c1y {V:List Nat}{n:Nat}{d:D}{H1:List Row}:effS false V n d H1=⟨d,[],H1.drop n⟩:=id rfl
theorem d1A {V:List Nat}{n:Nat}{d:D}{H1:List Row}:effS true V n d H1=⟨d,V.map fun r=>(r,H1.getD r .dead),H1.drop n⟩:=id rfl
theorem a1i {d:D}{u:List (Nat × Row)}{n H:List Row}:(⟨d,u,n⟩:Eff).heap H=a0B H u++n:=id rfl
theorem f0k {H:List Row}{i:Nat}{r:Row}{us:List (Nat × Row)}:a0B H ((i,r) :: us)=a0B (H.set i r) us:=id rfl
theorem d1s {α:Type}{a d:α}{l:List α}:(a :: l).getD 0 d=a:=id rfl
theorem d1y {α:Type}{a d:α}{l:List α}{n:Nat}:(a :: l).getD (n+1) d=l.getD n d:=id rfl
section
variable {P:Program}
theorem c0d {g:FuncId}{caps args args0:List D}{H H0 H1:List Row}{d0:D}{K:Bool→D→List Row→Prop}(h:Con P g args0 H0 fun d H'=>d=d0∧H'=H1)(ι:List Nat)(hb:k0P ι H.length H0 args0=true)(ha:args++caps=args0.map (renE (ren ι H.length)))
  (hr:(ι.map fun r=>H.getD r .dead)=H0.map (renR (ren ι H.length)))
  (hk:K true (renE (ren ι H.length) d0) (b0Z (ren ι H.length) ι H1 H++(H1.drop H0.length).map (renR (ren ι H.length)))):a0k P (.fn g caps) args H K:=by
 obtain ⟨g',caps',e,hc⟩:=a0J (K:=fun d H'=>d=renE (ren ι H.length) d0∧H'=b0Z (ren ι H.length) ι H1 H++(H1.drop H0.length).map (renR (ren ι H.length))) h ι hb ha hr (fun d H' ⟨h1,h2⟩=>by rw [h1,h2];exact ⟨rfl,rfl⟩)
 injection e with e1 e2
 subst e1;subst e2
 exact ⟨true,g,caps,_,_,rfl,hc,hk⟩
theorem c0l {g:FuncId}{caps args args0:List D}{H H1:List Row}{d0:D}{K:Bool→D→List Row→Prop}(h:Con P g args0 [] fun d H'=>d=d0∧H'=H1)(hv:Vws H (args++caps) args0)(hp:PlainD d0∧∀ row∈H1,m0c row)
  (hk:K false (renE (ren [] H.length) d0) (H++H1.map (renR (ren [] H.length)))):a0k P (.fn g caps) args H K:=by
 obtain ⟨g',caps',e,hc⟩:=a0X (K:=fun d H'=>d=renE (ren [] H.length) d0∧H'=H++H1.map (renR (ren [] H.length))) h hv (fun d H' ⟨h1,h2⟩=>by rw [h1,h2];exact hp) (fun d H' ⟨h1,h2⟩=>by rw [h1,h2];exact ⟨rfl,rfl⟩)
 injection e with e1 e2
 subst e1;subst e2
 exact ⟨false,g,caps,_,_,rfl,hc,hk⟩
end
def u0B (H:List Row)(r off:Nat)(x:F)(o:Option Row):Option (List Row):=match o with
 | some (.box U xs)=>if off+1≤xs.length then some (H.set r (.box U (putL off [.f x] xs))) else none
 | some (.data U xs)=>if off+1≤xs.length then some (H.set r (.data U (xs.set off x))) else none
 | _=>none
theorem k0l {H:List Row}{r off:Nat}{x:F}{U:TypeId}{xs:List D}:u0B H r off x (some (.box U xs))=if off+1≤xs.length then some (H.set r (.box U (putL off [.f x] xs))) else none:=id rfl
theorem i0S {H:List Row}{r off:Nat}{x:F}{U:TypeId}{xs:List F}:u0B H r off x (some (.data U xs))=if off+1≤xs.length then some (H.set r (.data U (xs.set off x))) else none:=id rfl
theorem q0p {P:Program}{H:List Row}{r off:Nat}{x:F}:c0o P H 1 (.pt r off) (.f x)=u0B H r off x H[r]?:=by
 rw [c0I]
 generalize hr:H[r]?=o
 cases o with
 | none=>rfl
 | some row =>
  cases row with
  | data U xs=>rw [n0O hr];rfl
  | box U xs=>simp [c0k,u0B,b0I,D.cells]
  | _=>rfl
theorem v0z {P:Program}{H:List Row}{n r off:Nat}{x:D}:c0o P H (n+2) (.pt r off) x=c0k P H (n+2) r off x H[r]?:=c0I
theorem l0o {P:Program}{H:List Row}{r off a b c:Nat}:c0o P H 1 (.pt r off) (.sl a b c)=c0k P H 1 r off (.sl a b c) H[r]?:=c0I
theorem l0x {P:Program}{H:List Row}{r off a b:Nat}:c0o P H 1 (.pt r off) (.pt a b)=c0k P H 1 r off (.pt a b) H[r]?:=c0I
theorem l0v {P:Program}{H:List Row}{r off a:Nat}:c0o P H 1 (.pt r off) (.mp a)=c0k P H 1 r off (.mp a) H[r]?:=c0I
theorem m0u {P:Program}{H:List Row}{r off:Nat}{a:List F}:c0o P H 1 (.pt r off) (.rf a)=c0k P H 1 r off (.rf a) H[r]?:=c0I
theorem l0G {P:Program}{H:List Row}{r off:Nat}{f:FuncId}{a:List D}:c0o P H 1 (.pt r off) (.fn f a)=c0k P H 1 r off (.fn f a) H[r]?:=c0I
end Go.Proofs.YthjgmldnegaaiaaGreatDoor.Mir
namespace Go.Proofs.YthjgmldnegaaiaaGreatDoor.Mir
open Go Go.RowKit
theorem LD:(((((((type_of% @W_mv∧type_of% @d1l)∧(type_of% @b1R∧type_of% @g1D))∧((type_of% @y0H∧type_of% @a1y)∧(type_of% @y0S∧(type_of% @d1V∧type_of% @f1t))))∧(((type_of% @d1O∧type_of% @d1g)∧(type_of% @g1L∧type_of% @f1f))∧((type_of% @f1Z∧type_of% @f1W)∧(type_of% @d1r∧(type_of% @g1G∧type_of% @d1b)))))∧((((type_of% @d1x∧type_of% @W_fn)∧(type_of% @y0U∧type_of% @r0A))∧((type_of% @f1u∧type_of% @g1W)∧(type_of% @g1I∧(type_of% @d1W∧type_of% @d1q))))∧(((type_of% @d1H∧type_of% @f1e)∧(type_of% @f1S∧type_of% @u0E))∧((type_of% @d1P∧type_of% @d1F)∧(type_of% @d1K∧(type_of% @c1r∧type_of% @d1u))))))∧(((((type_of% @c1v∧type_of% @f1U)∧(type_of% @W_mm∧type_of% @c1t))∧((type_of% @d1X∧type_of% @c1x)∧(type_of% @d1U∧(type_of% @a1A∧type_of% @d1i))))∧(((type_of% @y0P∧type_of% @u0f)∧(type_of% @t0u∧type_of% @y0G))∧((type_of% @u0v∧type_of% @b1V)∧(type_of% @u0k∧(type_of% @u0l∧type_of% @t0m)))))∧((((type_of% @a1S∧type_of% @v0D)∧(type_of% @t0s∧type_of% @u0Z))∧((type_of% @w0I∧type_of% @w0L)∧(type_of% @u0s∧(type_of% @v0T∧type_of% @u0x))))∧(((type_of% @v0P∧type_of% @t0i)∧(type_of% @t0g∧type_of% @w0W))∧((type_of% @u0F∧type_of% @u0r)∧(type_of% @u0Y∧(type_of% @w0H∧type_of% @t0Z)))))))∧((((((type_of% @u0w∧type_of% @u0Q)∧(type_of% @p0e∧type_of% @o0s))∧((type_of% @z0n∧type_of% @d1n)∧(type_of% @b1J∧(type_of% @a1a∧type_of% @b1E))))∧(((type_of% @z0b∧type_of% @w0V)∧(type_of% @v0J∧type_of% @u0z))∧((type_of% @t0t∧type_of% @v0R)∧(type_of% @w0R∧(type_of% @u0y∧type_of% @u0K)))))∧((((type_of% @d1w∧type_of% @b1i)∧(type_of% @p0r∧type_of% @z0M))∧((type_of% @y0Y∧type_of% @r0g)∧(type_of% @i0n∧(type_of% @g0n∧type_of% @l0m))))∧(((type_of% @g0Z∧type_of% @g0u)∧(type_of% @g0t∧type_of% @j0r))∧((type_of% @k0z∧type_of% @j0A)∧(type_of% @j0Y∧(type_of% @k0s∧type_of% @l0B))))))∧(((((type_of% @m0t∧type_of% @m0G)∧(type_of% @i0w∧type_of% @m0v))∧((type_of% @j0z∧type_of% @r0Z)∧(type_of% @g0b∧(type_of% @e0i∧type_of% @m0P))))∧(((type_of% @m0F∧type_of% @l0u)∧(type_of% @i0y∧type_of% @j0p))∧((type_of% @k0D∧type_of% @k0u)∧(type_of% @l0k∧(type_of% @f0G∧type_of% @h0r)))))∧((((type_of% @i0p∧type_of% @i0U)∧(type_of% @i0H∧type_of% @h0g))∧((type_of% @h0k∧type_of% @l0h)∧(type_of% @q0d∧(type_of% @j0R∧type_of% @j0b))))∧(((type_of% @i0c∧type_of% @j0o)∧(type_of% @h0D∧(type_of% @i0V∧type_of% @g0j)))∧((type_of% @c0n∧type_of% @b0y)∧(type_of% @c0Y∧(type_of% @v0d∧type_of% @q0E)))))))):=(.intro (.intro (.intro (.intro (.intro (.intro (.intro @W_mv @d1l) (.intro @b1R @g1D)) (.intro (.intro @y0H @a1y) (.intro @y0S (.intro @d1V @f1t)))) (.intro (.intro (.intro @d1O @d1g) (.intro @g1L @f1f)) (.intro (.intro @f1Z @f1W) (.intro @d1r (.intro @g1G @d1b))))) (.intro (.intro (.intro (.intro @d1x @W_fn) (.intro @y0U @r0A)) (.intro (.intro @f1u @g1W) (.intro @g1I (.intro @d1W @d1q)))) (.intro (.intro (.intro @d1H @f1e) (.intro @f1S @u0E)) (.intro (.intro @d1P @d1F) (.intro @d1K (.intro @c1r @d1u)))))) (.intro (.intro (.intro (.intro (.intro @c1v @f1U) (.intro @W_mm @c1t)) (.intro (.intro @d1X @c1x) (.intro @d1U (.intro @a1A @d1i)))) (.intro (.intro (.intro @y0P @u0f) (.intro @t0u @y0G)) (.intro (.intro @u0v @b1V) (.intro @u0k (.intro @u0l @t0m))))) (.intro (.intro (.intro (.intro @a1S @v0D) (.intro @t0s @u0Z)) (.intro (.intro @w0I @w0L) (.intro @u0s (.intro @v0T @u0x)))) (.intro (.intro (.intro @v0P @t0i) (.intro @t0g @w0W)) (.intro (.intro @u0F @u0r) (.intro @u0Y (.intro @w0H @t0Z))))))) (.intro (.intro (.intro (.intro (.intro (.intro @u0w @u0Q) (.intro @p0e @o0s)) (.intro (.intro @z0n @d1n) (.intro @b1J (.intro @a1a @b1E)))) (.intro (.intro (.intro @z0b @w0V) (.intro @v0J @u0z)) (.intro (.intro @t0t @v0R) (.intro @w0R (.intro @u0y @u0K))))) (.intro (.intro (.intro (.intro @d1w @b1i) (.intro @p0r @z0M)) (.intro (.intro @y0Y @r0g) (.intro @i0n (.intro @g0n @l0m)))) (.intro (.intro (.intro @g0Z @g0u) (.intro @g0t @j0r)) (.intro (.intro @k0z @j0A) (.intro @j0Y (.intro @k0s @l0B)))))) (.intro (.intro (.intro (.intro (.intro @m0t @m0G) (.intro @i0w @m0v)) (.intro (.intro @j0z @r0Z) (.intro @g0b (.intro @e0i @m0P)))) (.intro (.intro (.intro @m0F @l0u) (.intro @i0y @j0p)) (.intro (.intro @k0D @k0u) (.intro @l0k (.intro @f0G @h0r))))) (.intro (.intro (.intro (.intro @i0p @i0U) (.intro @i0H @h0g)) (.intro (.intro @h0k @l0h) (.intro @q0d (.intro @j0R @j0b)))) (.intro (.intro (.intro @i0c @j0o) (.intro @h0D (.intro @i0V @g0j))) (.intro (.intro @c0n @b0y) (.intro @c0Y (.intro @v0d @q0E))))))))
theorem LU:(((((((type_of% @ev_t∧(type_of% @ev_c∧type_of% @d1f))∧((type_of% @w0M∧type_of% @x0r)∧(type_of% @a1q∧type_of% @q0j)))∧(((type_of% @v0C∧type_of% @b1F)∧(type_of% @p0o∧type_of% @w0O))∧((type_of% @z0d∧type_of% @p0m)∧(type_of% @v0w∧type_of% @y0J))))∧((((type_of% @q0A∧type_of% @v0a)∧(type_of% @z0q∧type_of% @p0C))∧((type_of% @v0b∧type_of% @a1z)∧(type_of% @p0x∧type_of% @v0I)))∧(((type_of% @t0r∧type_of% @t0d)∧(type_of% @m0X∧type_of% @j0m))∧((type_of% @j0a∧type_of% @v0A)∧(type_of% @l0N∧type_of% @j0H)))))∧((((type_of% @j0v∧(type_of% @y0o∧type_of% @z0v))∧((type_of% @x0o∧type_of% @z0c)∧(type_of% @v0u∧type_of% @u0a)))∧(((type_of% @t0f∧type_of% @y0r)∧(type_of% @m0O∧type_of% @n0O))∧((type_of% @p0T∧type_of% @m0l)∧(type_of% @o0o∧type_of% @v0V))))∧((((type_of% @a1U∧type_of% @a1m)∧(type_of% @d1h∧type_of% @y0l))∧((type_of% @y0M∧type_of% @a1O)∧(type_of% @b1e∧type_of% @d1Y)))∧(((type_of% @d1D∧type_of% @w0J)∧(type_of% @d1p∧type_of% @x0y))∧((type_of% @p0p∧type_of% @p0N)∧(type_of% @p0A∧type_of% @a1h))))))∧(((((type_of% @u0N∧(type_of% @u0d∧type_of% @t0q))∧((type_of% @v0H∧type_of% @a1s)∧(type_of% @q0b∧type_of% @q0N)))∧(((type_of% @m0p∧type_of% @d1t)∧(type_of% @u0R∧type_of% @z0z))∧((type_of% @f1c∧type_of% @g1S)∧(type_of% @d1E∧type_of% @p0P))))∧((((type_of% @n0A∧type_of% @m0q)∧(type_of% @t0a∧type_of% @q0s))∧((type_of% @h0E∧type_of% @c1z)∧(type_of% @a1t∧type_of% @n0G)))∧(((type_of% @v0e∧type_of% @v0Y)∧(type_of% @q0J∧type_of% @i0v))∧((type_of% @i0M∧type_of% @p0c)∧(type_of% @u0g∧type_of% @r0r)))))∧(((((type_of% @Dint∧type_of% @f1p)∧(type_of% @Dv∧type_of% @d1o))∧((type_of% @z0T∧type_of% @c1u)∧(type_of% @b1a∧type_of% @z0h)))∧(((type_of% @z0C∧type_of% @z0G)∧(type_of% @y0Z∧type_of% @b1c))∧((type_of% @a1Z∧type_of% @w0Y)∧(type_of% @o0m∧type_of% @q0c))))∧((((type_of% @w0P∧type_of% @q0i)∧(type_of% @i0k∧type_of% @g0d))∧((type_of% @o0R∧type_of% @p0M)∧(type_of% @m0K∧type_of% @v0S)))∧(((type_of% @y0v∧type_of% @a1L)∧(type_of% @b1Z∧type_of% @l0y))∧((type_of% @u0t∧type_of% @u0U)∧(type_of% @l0q∧type_of% @l0O)))))))∧((((((type_of% @j0w∧(type_of% @j0K∧type_of% @r0M))∧((type_of% @p0J∧type_of% @h0q)∧(type_of% @i0G∧type_of% @i0D)))∧(((type_of% @i0Y∧type_of% @j0t)∧(type_of% @j0O∧type_of% @m0H))∧((type_of% @l0g∧type_of% @q0e)∧(type_of% @o0t∧type_of% @m0d))))∧((((type_of% @l0R∧type_of% @l0K)∧(type_of% @l0p∧type_of% @p0k))∧((type_of% @r0q∧type_of% @q0k)∧(type_of% @r0e∧type_of% @p0U)))∧(((type_of% @o0W∧type_of% @r0S)∧(type_of% @o0v∧type_of% @l0i))∧((type_of% @l0n∧type_of% @r0F)∧(type_of% @p0Y∧type_of% @m0B)))))∧(((((type_of% @m0h∧type_of% @u0V)∧(type_of% @w0K∧type_of% @k0K))∧((type_of% @j0G∧type_of% @f0W)∧(type_of% @f0a∧type_of% @r0H)))∧(((type_of% @p0a∧type_of% @q0Z)∧(type_of% @q0X∧type_of% @q0U))∧((type_of% @p0I∧type_of% @m0S)∧(type_of% @l0a∧type_of% @m0A))))∧((((type_of% @m0V∧type_of% @m0n)∧(type_of% @l0H∧type_of% @r0h))∧((type_of% @p0j∧type_of% @r0J)∧(type_of% @q0o∧type_of% @g0w)))∧(((type_of% @h0C∧type_of% @k0t)∧(type_of% @m0m∧type_of% @m0k))∧((type_of% @l0r∧type_of% @m0Q)∧(type_of% @k0v∧type_of% @k0o))))))∧(((((type_of% @m0i∧(type_of% @m0J∧type_of% @l0A))∧((type_of% @m0E∧type_of% @l0d)∧(type_of% @q0H∧type_of% @o0r)))∧(((type_of% @w0Q∧type_of% @u0I)∧(type_of% @k0p∧type_of% @l0c))∧((type_of% @l0E∧type_of% @l0J)∧(type_of% @l0F∧type_of% @l0M))))∧((((type_of% @l0V∧type_of% @m0y)∧(type_of% @i0b∧type_of% @k0B))∧((type_of% @m0D∧type_of% @l0X)∧(type_of% @k0M∧type_of% @j0x)))∧(((type_of% @q0h∧type_of% @x0w)∧(type_of% @t0z∧type_of% @v0q))∧((type_of% @o0c∧type_of% @v0r)∧(type_of% @p0s∧type_of% @r0R)))))∧(((((type_of% @l0z∧type_of% @d1J)∧(type_of% @a1v∧type_of% @a1T))∧((type_of% @a1j∧type_of% @b1Q)∧(type_of% @r0w∧type_of% @b1K)))∧(((type_of% @b1P∧type_of% @z0Z)∧(type_of% @a1P∧type_of% @v0m))∧((type_of% @i0o∧type_of% @h0A)∧(type_of% @g0e∧type_of% @h0p))))∧((((type_of% @h0M∧type_of% @c1y)∧(type_of% @d1A∧type_of% @a1i))∧((type_of% @f0k∧type_of% @d1s)∧(type_of% @d1y∧type_of% @k0l)))∧(((type_of% @i0S∧type_of% @q0p)∧(type_of% @v0z∧type_of% @l0o))∧((type_of% @l0x∧type_of% @l0v)∧(type_of% @m0u∧type_of% @l0G)))))))):=(.intro (.intro (.intro (.intro (.intro (.intro (.intro @ev_t (.intro @ev_c @d1f)) (.intro (.intro @w0M @x0r) (.intro @a1q @q0j))) (.intro (.intro (.intro @v0C @b1F) (.intro @p0o @w0O)) (.intro (.intro @z0d @p0m) (.intro @v0w @y0J)))) (.intro (.intro (.intro (.intro @q0A @v0a) (.intro @z0q @p0C)) (.intro (.intro @v0b @a1z) (.intro @p0x @v0I))) (.intro (.intro (.intro @t0r @t0d) (.intro @m0X @j0m)) (.intro (.intro @j0a @v0A) (.intro @l0N @j0H))))) (.intro (.intro (.intro (.intro @j0v (.intro @y0o @z0v)) (.intro (.intro @x0o @z0c) (.intro @v0u @u0a))) (.intro (.intro (.intro @t0f @y0r) (.intro @m0O @n0O)) (.intro (.intro @p0T @m0l) (.intro @o0o @v0V)))) (.intro (.intro (.intro (.intro @a1U @a1m) (.intro @d1h @y0l)) (.intro (.intro @y0M @a1O) (.intro @b1e @d1Y))) (.intro (.intro (.intro @d1D @w0J) (.intro @d1p @x0y)) (.intro (.intro @p0p @p0N) (.intro @p0A @a1h)))))) (.intro (.intro (.intro (.intro (.intro @u0N (.intro @u0d @t0q)) (.intro (.intro @v0H @a1s) (.intro @q0b @q0N))) (.intro (.intro (.intro @m0p @d1t) (.intro @u0R @z0z)) (.intro (.intro @f1c @g1S) (.intro @d1E @p0P)))) (.intro (.intro (.intro (.intro @n0A @m0q) (.intro @t0a @q0s)) (.intro (.intro @h0E @c1z) (.intro @a1t @n0G))) (.intro (.intro (.intro @v0e @v0Y) (.intro @q0J @i0v)) (.intro (.intro @i0M @p0c) (.intro @u0g @r0r))))) (.intro (.intro (.intro (.intro (.intro @Dint @f1p) (.intro @Dv @d1o)) (.intro (.intro @z0T @c1u) (.intro @b1a @z0h))) (.intro (.intro (.intro @z0C @z0G) (.intro @y0Z @b1c)) (.intro (.intro @a1Z @w0Y) (.intro @o0m @q0c)))) (.intro (.intro (.intro (.intro @w0P @q0i) (.intro @i0k @g0d)) (.intro (.intro @o0R @p0M) (.intro @m0K @v0S))) (.intro (.intro (.intro @y0v @a1L) (.intro @b1Z @l0y)) (.intro (.intro @u0t @u0U) (.intro @l0q @l0O))))))) (.intro (.intro (.intro (.intro (.intro (.intro @j0w (.intro @j0K @r0M)) (.intro (.intro @p0J @h0q) (.intro @i0G @i0D))) (.intro (.intro (.intro @i0Y @j0t) (.intro @j0O @m0H)) (.intro (.intro @l0g @q0e) (.intro @o0t @m0d)))) (.intro (.intro (.intro (.intro @l0R @l0K) (.intro @l0p @p0k)) (.intro (.intro @r0q @q0k) (.intro @r0e @p0U))) (.intro (.intro (.intro @o0W @r0S) (.intro @o0v @l0i)) (.intro (.intro @l0n @r0F) (.intro @p0Y @m0B))))) (.intro (.intro (.intro (.intro (.intro @m0h @u0V) (.intro @w0K @k0K)) (.intro (.intro @j0G @f0W) (.intro @f0a @r0H))) (.intro (.intro (.intro @p0a @q0Z) (.intro @q0X @q0U)) (.intro (.intro @p0I @m0S) (.intro @l0a @m0A)))) (.intro (.intro (.intro (.intro @m0V @m0n) (.intro @l0H @r0h)) (.intro (.intro @p0j @r0J) (.intro @q0o @g0w))) (.intro (.intro (.intro @h0C @k0t) (.intro @m0m @m0k)) (.intro (.intro @l0r @m0Q) (.intro @k0v @k0o)))))) (.intro (.intro (.intro (.intro (.intro @m0i (.intro @m0J @l0A)) (.intro (.intro @m0E @l0d) (.intro @q0H @o0r))) (.intro (.intro (.intro @w0Q @u0I) (.intro @k0p @l0c)) (.intro (.intro @l0E @l0J) (.intro @l0F @l0M)))) (.intro (.intro (.intro (.intro @l0V @m0y) (.intro @i0b @k0B)) (.intro (.intro @m0D @l0X) (.intro @k0M @j0x))) (.intro (.intro (.intro @q0h @x0w) (.intro @t0z @v0q)) (.intro (.intro @o0c @v0r) (.intro @p0s @r0R))))) (.intro (.intro (.intro (.intro (.intro @l0z @d1J) (.intro @a1v @a1T)) (.intro (.intro @a1j @b1Q) (.intro @r0w @b1K))) (.intro (.intro (.intro @b1P @z0Z) (.intro @a1P @v0m)) (.intro (.intro @i0o @h0A) (.intro @g0e @h0p)))) (.intro (.intro (.intro (.intro @h0M @c1y) (.intro @d1A @a1i)) (.intro (.intro @f0k @d1s) (.intro @d1y @k0l))) (.intro (.intro (.intro @i0S @q0p) (.intro @v0z @l0o)) (.intro (.intro @l0x @l0v) (.intro @m0u @l0G))))))))
theorem LS:(((((type_of% @b1I∧(type_of% @g1J∧type_of% @f1w))∧(type_of% @f1b∧(type_of% @c0h∧type_of% @b0e)))∧((type_of% @g0U∧(type_of% @o0w∧type_of% @w0F))∧((type_of% @List.set_cons_succ.{0}∧type_of% @List.set_cons_zero.{0})∧(type_of% @List.getElem?_cons_succ.{0}∧type_of% @List.getElem?_cons_zero.{0}))))∧(((type_of% @List.length_cons.{0}∧(type_of% @List.length_nil.{0}∧type_of% @List.cons_append.{0}))∧((type_of% @List.nil_append.{0}∧type_of% @List.map_cons.{0,0})∧(type_of% @List.map_nil.{0,0}∧type_of% @List.take_succ_cons.{0})))∧((type_of% @List.take_zero.{0}∧(type_of% @List.drop_succ_cons.{0}∧type_of% @List.drop_zero.{0}))∧((type_of% @Option.map_some.{0,0}∧type_of% @Option.map_none.{0,0})∧(type_of% @Nat.add_zero∧type_of% @Nat.zero_add)))))∧((((type_of% @Nat.mul_one∧(type_of% @Int.toNat_natCast∧type_of% @Nat.mul_zero))∧(type_of% @Nat.zero_mul∧(type_of% @true_and∧type_of% @and_true)))∧((type_of% @s0k∧(type_of% @List.getElem?_drop.{0}∧type_of% @List.getElem?_map.{0,0}))∧((type_of% @List.length_map.{0,0}∧type_of% @Int.natCast_nonneg)∧(type_of% @getElem?_some_of∧type_of% @Bool.false_eq_true))))∧(((type_of% @decide_true∧(type_of% @decide_false∧type_of% @Bool.not_true))∧((type_of% @Bool.not_false∧type_of% @and_self)∧(type_of% @eq_self.{0}∧type_of% @false_implies)))∧((type_of% @or_self∧(type_of% @Bool.and_self∧type_of% @false_or))∧((type_of% @or_false∧type_of% @Bool.false_and)∧(type_of% @Bool.true_beq∧type_of% @Bool.false_beq)))))):=(.intro (.intro (.intro (.intro (.intro @b1I (.intro @g1J @f1w)) (.intro @f1b (.intro @c0h @b0e))) (.intro (.intro @g0U (.intro @o0w @w0F)) (.intro (.intro @List.set_cons_succ.{0} @List.set_cons_zero.{0}) (.intro @List.getElem?_cons_succ.{0} @List.getElem?_cons_zero.{0})))) (.intro (.intro (.intro @List.length_cons.{0} (.intro @List.length_nil.{0} @List.cons_append.{0})) (.intro (.intro @List.nil_append.{0} @List.map_cons.{0,0}) (.intro @List.map_nil.{0,0} @List.take_succ_cons.{0}))) (.intro (.intro @List.take_zero.{0} (.intro @List.drop_succ_cons.{0} @List.drop_zero.{0})) (.intro (.intro @Option.map_some.{0,0} @Option.map_none.{0,0}) (.intro @Nat.add_zero @Nat.zero_add))))) (.intro (.intro (.intro (.intro @Nat.mul_one (.intro @Int.toNat_natCast @Nat.mul_zero)) (.intro @Nat.zero_mul (.intro @true_and @and_true))) (.intro (.intro @s0k (.intro @List.getElem?_drop.{0} @List.getElem?_map.{0,0})) (.intro (.intro @List.length_map.{0,0} @Int.natCast_nonneg) (.intro @getElem?_some_of @Bool.false_eq_true)))) (.intro (.intro (.intro @decide_true (.intro @decide_false @Bool.not_true)) (.intro (.intro @Bool.not_false @and_self) (.intro @eq_self.{0} @false_implies))) (.intro (.intro @or_self (.intro @Bool.and_self @false_or)) (.intro (.intro @or_false @Bool.false_and) (.intro @Bool.true_beq @Bool.false_beq))))))
end Go.Proofs.YthjgmldnegaaiaaGreatDoor.Mir
