/- Lemmas for the proof. No condition. -/
import Derived.Test.YthjgmldnegaaiaaGreatDoorSl06
set_option linter.unusedVariables false
set_option linter.unusedSimpArgs false
namespace Go.Proofs.YthjgmldnegaaiaaGreatDoor.Mir
open Go Go.RowKit
inductive SR where
 | t (n:Nat)
 | c1 (a:Nat)
 | cA (n a:Nat)
def n0V (P:Program):List ResultVar→Option (List SR)
 | []=>some []
 | .tmp t :: rs=>(n0V P rs).map (.t t :: ·)
 | .cell a T :: rs=>match d0v P T,inf P T,n0V P rs with
  | some false,_,some l=>some (.c1 a :: l)
  | some true,some (n,_,_),some l=>some (.cA n a :: l)
  | _,_,_=>none
def resS (H:List Row)(ts:List D):List SR→Option (List D)
 | []=>some []
 | .t n :: rs=>match resS H ts rs with
  | some ds=>some (ts.getD n D.undef :: ds)
  | none=>none
 | .c1 a :: rs=>match load1 H (ts.getD a D.undef),resS H ts rs with
  | some d,some ds=>some (d :: ds)
  | _,_=>none
 | .cA n a :: rs=>match loadA H n (ts.getD a D.undef),resS H ts rs with
  | some d,some ds=>some (d :: ds)
  | _,_=>none
section
variable {P:Program}
theorem o0B {H:List Row}{ts:List D}:∀ {rs:List ResultVar} {l:List SR} {ds:List D},n0V P rs=some l→resS H ts l=some ds→b0m P H ts rs=some ds
 | [],l,ds,h,k=>by simp [n0V] at h;subst h;exact k
 | .tmp t :: rs,l,ds,h,k=>by
  simp only [n0V,Option.map_eq_some_iff] at h
  obtain ⟨l',h1,rfl⟩:=h
  simp only [resS] at k
  split at k
  ·rename_i ds' h2
   injection k with k
   subst k
   simp only [b0m,o0B h1 h2,Option.map_some]
  ·cases k
 | .cell a T :: rs,l,ds,h,k=>by
  simp only [n0V] at h
  split at h
  ·rename_i l' hT hl
   injection h with h
   subst h
   simp only [resS] at k
   split at k
   ·rename_i d ds' h1 h2
    injection k with k
    subst k
    simp only [b0m,u0L hT h1,o0B hl h2]
   ·cases k
  ·rename_i n b z l' hT hi hl
   injection h with h
   subst h
   simp only [resS] at k
   split at k
   ·rename_i d ds' h1 h2
    injection k with k
    subst k
    simp only [b0m,u0u hT hi h1,o0B hl h2]
   ·cases k
  ·cases h
def d0y:Nat→List Row→List Row
 | 0,H=>H
 | _+1,[]=>[]
 | n+1,_ :: H=>.dead :: d0y n H
theorem i0p:∀ (n:Nat) (H:List Row),(d0y n H).length=H.length
 | 0,_=>rfl
 | _+1,[]=>rfl
 | n+1,_ :: H=>by simp [d0y,i0p n H]
theorem f0H:∀ (n:Nat) (H:List Row) (r:Nat),(d0y n H)[r]?=if r<n then (H[r]?).map fun _=>.dead else H[r]?
 | 0,H,r=>by simp [d0y]
 | n+1,[],r=>by simp [d0y]
 | n+1,x :: H,0=>by simp [d0y]
 | n+1,x :: H,r+1=>by simp [d0y,f0H n H r]
def lowB (n:Nat)(H:List Row):Bool:=H.all fun row=>row.refs.all fun r=>Nat.blt r n
inductive RetS (n0:Nat)(rs:List SR)(Q:D→List Row→Prop)(s:St):Prop
 | gather {ds:List D} {e:Eff}:resS s.H s.ts rs=some ds→gather n0 (one ds) (List.range n0) s.H=some e→Q e.res (a0B (s.H.take n0) e.upd++e.news)→RetS n0 rs Q s
 | still {ds:List D} {d0:D}:resS s.H s.ts rs=some ds→lowB n0 (s.H.take n0)=true→Vw (d0y n0 s.H) (one ds) d0→Q d0 (s.H.take n0)→RetS n0 rs Q s
 | all {ds:List D}:resS s.H s.ts rs=some ds→Q (one ds) s.H→RetS n0 rs Q s
def endS (n0:Nat)(rs:List SR)(Q:D→List Row→Prop):Out→St→Prop
 | .exit _,_=>False
 | .normal,s=>RetS n0 rs Q s
 | .ret,s=>RetS n0 rs Q s
def Fn (P:Program)(f:FuncId)(n:Nat)(rs:List SR)(c:SCode):Prop:=∃ fn k,P.funcs[f]?=some fn∧fn.body=some k∧fn.ntmps=n∧n0V P fn.results.toList=some rs∧a0k P k=c
theorem Fn.of {P:Program}{f:FuncId}{fn:Func}{n:Nat}{rs:List SR}{c:SCode}(h:P.funcs[f]?=some fn)(e:(fn.body.map (a0k P),fn.ntmps,n0V P fn.results.toList)=(some c,n,some rs)):Fn P f n rs c:=by
 obtain ⟨e1,e2,e3⟩:=by simpa only [Prod.mk.injEq] using e
 cases hb:fn.body with
 | none=>rw [hb] at e1;cases e1
 | some k=>rw [hb] at e1;exact ⟨fn,k,h,hb,e2,e3,Option.some.inj e1⟩
theorem HR.takeN {w:World}{φ:Nat→Nat × Nat}{X:Nat→Prop}{H:List Row}(h:HR P w φ X H){n:Nat}(hl:lowB n (H.take n)=true)(hn:n≤H.length):HR P w φ X (H.take n)∧∀ b,Av X φ (H.take n) b→Av X φ H b:=by
 have hlen:(H.take n).length=n:=by simp;omega
 have get:∀ (r:Nat) (row:Row),(H.take n)[r]?=some row→r<n∧H[r]?=some row:=by
  intro r row hr
  rw [List.getElem?_take] at hr
  split at hr
  ·exact ⟨‹_›,hr⟩
  ·cases hr
 have ha:∀ b,Av X φ (H.take n) b→Av X φ H b:=by
  rintro b (hb|⟨r,row,hr,hv,rfl⟩)
  ·exact .inl hb
  ·exact .inr ⟨r,row,(get r row hr).2,hv,rfl⟩
 refine ⟨⟨fun r row hr=>?_,fun r s x y hr hs=>h.apart r s x y (get r x hr).2 (get s y hs).2,fun r row hr=>h.off r row (get r row hr).2,h.old,fun p hp=>(h.gl p hp).thin ha⟩,ha⟩
 obtain ⟨h1,h2⟩:=get r row hr
 rw [hlen]
 refine (h.rows r row h2).lower (S:=(· < n)) rfl (fun r hr=>⟨rfl,hr⟩) ha (b0w fun q hq=>?_)
 have h3:=List.all_eq_true.1 hl row (List.mem_of_getElem? hr)
 have h4:=List.all_eq_true.1 h3 q hq
 simpa using h4
theorem d1H {w w':World}{φ φ':Nat→Nat × Nat}{X:Nat→Prop}{H:List Row}{s:St}{a:Act}{fn:Func}{rs:List SR}(hrs:n0V P fn.results.toList=some rs){Q:D→List Row→Prop}(hq:RetS H.length rs Q s)(hr:RunW P X w φ H w' φ' s a) :
  a.defers=[]∧∃ v,(results fn a.tmps).run P w' = .ok v w'∧∃ v' d H',Ending.returned v = .returned v'∧Q d H'∧LeavesW P w φ X H v' w' d H':=by
 refine ⟨hr.sim.defers,?_⟩
 have hone:∀ ds,resS s.H s.ts rs=some ds→∃ v,(results fn a.tmps).run P w' = .ok v w'∧R P w' φ' (Av X φ' s.H) s.H.length (one ds) v:=by
  intro ds hds
  obtain ⟨us,h1,h2⟩:=e0Q hr.sim.heap hr.sim.tmps _ _ (o0B hrs hds)
  refine ⟨if h:us.toArray.size=1 then us.toArray[0] else .tuple us.toArray,?_,?_⟩
  ·unfold results
   rw [Array.mapM_eq_mapM_toList]
   simp at h1
   simp
   exact congrArg (fun r:Result (List Value)=>r.andThen fun a w'=>Result.ok (if h:a.length=1 then a[0] else Value.tuple a.toArray) w') h1
  ·match ds,us,h2 with
   | [],[],_=>exact .tp rfl (fun i d u hd=>by simp at hd)
   | [d],[u],h2=>exact h2.2 0 d u (by simp) (by simp)
   | d :: d2 :: ds,u :: u2 :: us,h2=>exact .tp (by have:=h2.1;simpa using this) (fun i d' u' hd hu=>h2.2 i d' u' hd (by simpa using hu))
   | [],_ :: _,h2=>have:=h2.1;simp at this
   | _ :: _,[],h2=>have:=h2.1;simp at this
   | [_],_ :: _ :: _,h2=>have:=h2.1;simp at this
   | _ :: _ :: _,[_],h2=>have:=h2.1;simp at this
 have hlt:(s.H.take H.length).length=H.length:=by rw [List.length_take];have:=hr.ons.len;omega
 cases hq with
 | gather hds hg hq =>
  obtain ⟨v,h3,h4⟩:=hone _ hds
  obtain ⟨ψ,k1,k2,k3,k4,_⟩:=d0N hr.sim.heap hr.ons.len hlt h4 (fun r row hr hnd hrow=>absurd (List.mem_range.2 hr) hnd) hg
  exact ⟨v,h3,v,_,_,rfl,hq,ψ,⟨by simp [a0H,hlt],fun r hr'=>(k1 r hr').trans (hr.ons.same r hr'),hr.ons.keep,fun b hb=>hr.ons.fresh b (k4 b hb)⟩,k2,k3⟩
 | all hds hq =>
  obtain ⟨v,h3,h4⟩:=hone _ hds
  exact ⟨v,h3,v,_,_,rfl,hq,φ',hr.ons,hr.sim.heap,h4⟩
 | still hds hlow hv hq =>
  rename_i ds d0
  obtain ⟨v,h3,h4⟩:=hone _ hds
  obtain ⟨t1,t2⟩:=hr.sim.heap.takeN hlow hr.ons.len
  refine ⟨v,h3,v,d0,_,rfl,hq,φ',⟨by rw [hlt];exact Nat.le_refl _,hr.ons.same,hr.ons.keep,fun b hb=>hr.ons.fresh b ?_⟩,t1,?_⟩
  ·obtain ⟨r,row,hx,hl,rfl⟩:=hb
   rw [List.getElem?_take] at hx
   split at hx
   ·exact ⟨r,row,hx,hl,rfl⟩
   ·cases hx
  ·
   have hM:HR P w' φ' (Rest X φ' s.H (d0y H.length s.H)) (d0y H.length s.H):=by
    refine hr.sim.heap.part (S:=fun r=>r<s.H.length) (fun r h=>by rw [i0p];exact h) (fun x row hx=>?_)
    rw [f0H] at hx
    split at hx
    ·rw [Option.map_eq_some_iff] at hx
     obtain ⟨_,_,rfl⟩:=hx
     exact .inl rfl
    ·exact .inr ⟨hx,(hr.sim.heap.rows x row hx).isLow⟩
   have hA:∀ b,Av X φ' (s.H.take H.length) b→Rest X φ' s.H (d0y H.length s.H) b:=by
    rintro b (hb|⟨r,row,hx,hl,rfl⟩)
    ·exact .inl hb
    ·rw [List.getElem?_take] at hx
     split at hx
     ·rename_i hlt'
      refine .inr ⟨r,row,hx,hl,?_,rfl⟩
      rw [f0H,if_pos hlt',hx]
      intro e
      simp at e
      subst e
      simp [Row.live] at hl
     ·cases hx
   have h5:R P w' φ' (Av (Rest X φ' s.H (d0y H.length s.H)) φ' (d0y H.length s.H)) (d0y H.length s.H).length (one ds) v:=by
    rw [i0p]
    refine h4.lower (S:=fun r=>r<s.H.length) (fun r h=>⟨rfl,h⟩) (fun b hb=>?_) h4.isLow
    rcases hb with (hb|⟨x,row,hx,hl,_,rfl⟩)|⟨x,row,hx,hl,rfl⟩
    ·exact .inl hb
    ·exact .inr ⟨x,row,hx,hl,rfl⟩
    ·rw [f0H] at hx
     split at hx
     ·rw [Option.map_eq_some_iff] at hx
      obtain ⟨_,_,rfl⟩:=hx
      simp [Row.live] at hl
     ·exact .inr ⟨x,row,hx,hl,rfl⟩
   have h6:=hv.ok (φ':=φ') hM hA v h5
   exact h6.upper (Nat.zero_le _)
theorem Con.fn (hP:Good P){f:FuncId}{n:Nat}{rs:List SR}{c:SCode}(hf:Fn P f n rs c){args:List D}{H:List Row}{Q:D→List Row→Prop}
  (h:HS P H.length c ⟨args++List.replicate (n-args.length) D.undef,H,[]⟩ (endS H.length rs Q)):Con P f args H Q:=by
 obtain ⟨fn,k,h1,h2,h3,h4,h5⟩:=hf
 subst h3
 refine ⟨⟨fn,h1,by rw [h2];rfl⟩,fun w φ X vs hH hargs=>calls_of_wp h1 h2 ?_⟩
 have hlen:vs.size=args.length:=by have:=hargs.1;simpa using this
 refine h k h5 X w φ H w φ _ _ rfl ⟨⟨hH,?_,rfl⟩,Ons.refl _ _ _ _⟩ ?_
 ·rw [Array.toList_append,Array.toList_replicate,hlen]
  refine hargs.append ⟨by simp,fun i d u hd hu=>?_⟩
  rw [List.getElem?_replicate] at hd hu
  split at hd
  ·rename_i hi
   rw [if_pos hi] at hu
   injection hd with hd;injection hu with hu
   subst hd;subst hu
   exact R.undef
  ·cases hd
 ·intro out s' w' φ' a' hq hr'
  cases out with
  | normal=>exact d1H h4 hq hr'
  | exit i=>exact hq.elim
  | ret=>exact d1H h4 hq hr'
def k0d (ι:List Nat)(N:Nat)(H0:List Row)(args0:List D):Bool :=
 Nat.beq ι.length H0.length&&k0E ι&&(args0.all fun d=>d.refs.all fun r=>Nat.blt r H0.length)&&(H0.all fun row=>row.refs.all fun r=>Nat.blt r H0.length)&&ι.all fun r=>Nat.blt r N
theorem p0e:∀ {l:List Nat},k0E l=true→l.Nodup
 | [],_=>List.nodup_nil
 | x :: xs,h=>by
  simp only [k0E,Bool.and_eq_true,Bool.not_eq_true'] at h
  exact List.nodup_cons.2 ⟨by simpa using h.1,p0e h.2⟩
theorem a0F {g:FuncId}{caps args args0:List D}{H H0:List Row}{Q K:D→List Row→Prop}(h:Con P g args0 H0 Q)(ι:List Nat)(hb:k0d ι H.length H0 args0=true)(ha:args++caps=args0.map (renE (ren ι H.length)))
  (hr:(ι.map fun r=>H.getD r .dead)=H0.map (renR (ren ι H.length)))
  (hk:∀ d0 H0',Q d0 H0'→K (renE (ren ι H.length) d0) (b0T (ren ι H.length) ι H0' H++(H0'.drop H0.length).map (renR (ren ι H.length)))):a0R P (.fn g caps) args H K:=by
 unfold k0d at hb
 simp only [Bool.and_eq_true] at hb
 obtain ⟨⟨⟨⟨b1,b2⟩,b3⟩,b4⟩,b5⟩:=hb
 have e1:ι.length=H0.length:=Nat.eq_of_beq_eq_true b1
 refine ⟨g,caps,rfl,(h.embed e1 (p0e b2) ha (fun d hd=>b0L fun r hr=>?_) (fun i row hi=>⟨b0w fun r hr=>?_,?_⟩)).mono ?_⟩
 ·have h1:=List.all_eq_true.1 b3 d hd
  have h2:=List.all_eq_true.1 h1 r hr
  simpa using h2
 ·have h1:=List.all_eq_true.1 b4 row (List.mem_of_getElem? hi)
  have h2:=List.all_eq_true.1 h1 r hr
  simpa using h2
 ·have hlt:i<ι.length:=by rw [e1];exact (List.getElem?_eq_some_iff.1 hi).1
  have h1:(ι.map fun r=>H.getD r .dead)[i]?=some (H.getD ι[i] .dead):=by simp [hlt]
  rw [hr,List.getElem?_map,hi] at h1
  have h2:ι[i]<H.length:=by
   have:=List.all_eq_true.1 b5 ι[i] (List.getElem_mem hlt)
   simpa using this
  refine ⟨ι[i],by simp [hlt],?_⟩
  have h3:H.getD ι[i] .dead=H[ι[i]]:=by simp [List.getD,h2]
  rw [h3] at h1
  rw [List.getElem?_eq_getElem h2]
  exact h1.symm
 ·rintro d H' ⟨d0,H0',hq,_,rfl,rfl⟩
  exact hk d0 H0' hq
theorem a0W {g:FuncId}{caps args args0:List D}{H:List Row}{Q K:D→List Row→Prop}(h:Con P g args0 [] Q)(hv:Vws H (args++caps) args0)(hp:∀ d H',Q d H'→PlainD d∧∀ row∈H',l0G row)
  (hk:∀ d0 H0',Q d0 H0'→K (renE (ren [] H.length) d0) (H++H0'.map (renR (ren [] H.length)))):a0R P (.fn g caps) args H K:=by
 refine ⟨g,caps,rfl,(h.peek hv hp).mono ?_⟩
 rintro d H' ⟨d0,H0',hq,rfl,rfl⟩
 exact hk d0 H0' hq
variable {n0:Nat}{s:St}{Q:Out→St→Prop}
theorem HS.opsK (hP:Good P){l:List SI}(h:∀ K:St→Prop,(∀ s',Q .normal s'→K s')→wpS P l s K):HS P n0 (.ops l) s Q:=HS.ops hP (h _ fun _ h=>h)
theorem HS.condB {c:SV}{x y:SCode}{b:Bool}(hc:c.ev s.ts = .f (.v (.bool b)))(h1:b=true→HS P n0 x s Q)(h0:b=false→HS P n0 y s Q):HS P n0 (.cond c x y) s Q:=HS.cond (by rw [hc];exact ⟨h1,h0⟩)
theorem o0b {next:St→Prop}(h:next s):g0Q next Q .normal s:=h
theorem e1H {next:St→Prop}{i:Nat}(h:Q (.exit i) s):g0Q next Q (.exit i) s:=h
theorem e1w {next:St→Prop}(h:Q .ret s):g0Q next Q .ret s:=h
theorem c1V {id:Nat}(h:Q .normal s):c0x id Q .normal s:=h
theorem e0R {id:Nat}(h:Q .normal s):c0x id Q (.exit id) s:=by rw [e0l,if_pos rfl];exact h
theorem t0d {id i:Nat}(hne:Nat.beq i id=false)(h:Q (.exit i) s):c0x id Q (.exit i) s:=by rw [e0l,if_neg (Nat.ne_of_beq_eq_false hne)];exact h
theorem c1O {id:Nat}(h:Q .ret s):c0x id Q .ret s:=h
theorem g1E {rs:List SR}{Q:D→List Row→Prop}(h:RetS n0 rs Q s):endS n0 rs Q .ret s:=h
theorem f1i {rs:List SR}{Q:D→List Row→Prop}(h:RetS n0 rs Q s):endS n0 rs Q .normal s:=h
theorem Bsel.mk' {b:Bool}{p q:Prop}(h1:b=true→p)(h2:b=false→q):Bsel b p q:=⟨h1,h2⟩
def Next (n0:Nat)(keep:List Nat){α:Type}(st:α→St)(p:α→Prop)(m:α→Nat)(x:α)(s:St):Prop:=∃ y,h0L n0 keep s=some (st y)∧p y∧m y<m x
theorem Next.mk {n0:Nat}{keep:List Nat}{α:Type}{st:α→St}{p:α→Prop}{m:α→Nat}{x:α}{s:St}(y:α)(h:h0L n0 keep s=some (st y))(hp:p y)(hm:m y<m x):Next n0 keep st p m x s:=⟨y,h,hp,hm⟩
theorem HS.loopG {c:SCode}{α:Type}(keep:List Nat)(st:α→St)(p:α→Prop)(m:α→Nat)(x0:α)(hs:h0L n0 keep s=some (st x0))(h0:p x0)
  (hbody:∀ x,p x→HS P n0 c (st x) (g0Q (Next n0 keep st p m x) Q)):HS P n0 (.loop c) s Q:=by
 refine HS.view (View.sweep hs) ?_
 intro k hk
 cases k with
 | loop a =>
  simp only [a0k] at hk
  injection hk with h1
  intro X w0 φ0 H0 w φ a' K hn hr hK
  refine wp_loop_rounds (m x0+1) ?_
  have key:∀ (k:Nat) (x:α) (w:World) (φ:Nat→Nat × Nat) (a':Act),m x≤k→p x→RunW P X w0 φ0 H0 w φ (st x) a'→Code.rounds P a K (k+1) a' w:=by
   intro k
   induction k with
   | zero =>
    intro x w φ a' hm hp hr
    rw [rounds_succ]
    refine hbody x hp a h1 X w0 φ0 H0 w φ a' _ hn hr ?_
    intro out s' w' φ' a' hq hr'
    cases out with
    | normal=>obtain ⟨y,_,_,hlt⟩:=hq;omega
    | exit i=>exact hK _ s' w' φ' a' hq hr'
    | ret=>exact hK _ s' w' φ' a' hq hr'
   | succ k ih =>
    intro x w φ a' hm hp hr
    rw [rounds_succ]
    refine hbody x hp a h1 X w0 φ0 H0 w φ a' _ hn hr ?_
    intro out s' w' φ' a'' hq hr'
    cases out with
    | normal =>
     obtain ⟨y,hsw,hp',hlt⟩:=hq
     obtain ⟨φ2,hr2⟩:=View.sweep hsw X w0 φ0 H0 w' φ' a'' hn hr'
     exact ih y w' φ2 a'' (by omega) hp' hr2
    | exit i=>exact hK _ s' w' φ' a'' hq hr'
    | ret=>exact hK _ s' w' φ' a'' hq hr'
  exact key (m x0) x0 w φ a' (Nat.le_refl _) h0 hr
 | region id ops draw=>cases draw<;>simp only [a0k] at hk<;>first|(split at hk<;>first|cases hk|(split at hk<;>cases hk))|cases hk
 | cond c a b=>simp only [a0k] at hk;split at hk<;>cases hk
 | _=>simp [a0k] at hk
end
theorem t0O {a:Int}(h1 : -9223372036854775808≤a)(h2:a≤9223372036854775807):IntKind.i64.wrap a=a:=by
 have:=IntWalk.i64_in a ⟨h1,h2⟩
 exact this
def gt {α:Type}[Inhabited α](l:List α)(k:Nat):α:=l[k]!
theorem getElem?_some_of {α:Type}[Inhabited α]{l:List α}{i:Nat}(h:i<l.length):l[i]?=some (gt l i):=by rw [gt,List.getElem?_eq_getElem h,getElem!_pos l i h]
theorem b0R {α:Type}[Inhabited α]{l:List α}{i:Nat}(h:i<l.length):gt l i=l[i]:=by rw [gt,getElem!_pos l i h]
theorem a0G {α:Type}[Inhabited α]{l:List α}{k:Nat}(h:k<l.length):l.drop k=gt l k :: l.drop (k+1):=by
 rw [List.drop_eq_getElem_cons h,b0R h]
def look (i:Nat):List (Nat × D)→D
 | []=>.junk
 | (j,d) :: e=>if j=i then d else look i e
def frm (n:Nat)(e:List (Nat × D)):List D:=(List.range n).map fun i=>look i e
theorem d0X (n:Nat)(e:List (Nat × D)):(frm n e).length=n:=by simp [frm]
theorem c0f {n:Nat}{e:List (Nat × D)}{i:Nat}(h:i<n):(frm n e)[i]?=some (look i e):=by
 unfold frm
 rw [List.getElem?_map,List.getElem?_range h];rfl
theorem c0A {n:Nat}{e:List (Nat × D)}{i:Nat}{u:D}(h:i<n):(frm n e).getD i u=look i e:=by
 rw [List.getD_eq_getElem?_getD,c0f h];rfl
theorem f0t {n:Nat}{e:List (Nat × D)}{i:Nat}{d:D}:(frm n e).set i d=frm n ((i,d) :: e):=by
 apply List.ext_getElem?
 intro j
 by_cases hj:j<n
 ·rw [List.getElem?_set,c0f hj,c0f hj,d0X]
  simp only [look]
  split
  ·rename_i e;subst e;rw [if_pos hj]
  ·rfl
 ·rw [List.getElem?_eq_none (by simp [d0X];omega),List.getElem?_eq_none (by simp [d0X];omega)]
theorem s0C {i j:Nat}{d:D}{e:List (Nat × D)}:look i ((j,d) :: e)=if j=i then d else look i e:=id rfl
theorem w0e {i:Nat}:look i [] = .junk:=id rfl
section
variable {P:Program}{n0:Nat}{s:St}{Q:Out→St→Prop}
theorem View.frm {n:Nat}{e:List (Nat × D)}(hl:s.ts.length=n)(h:∀ i,i<n→look i e = .junk∨s.ts[i]?=some (look i e)):View P n0 s ⟨frm n e,s.H,[]⟩:=by
 intro X w0 φ0 H0 w φ a _ hr
 refine ⟨φ,⟨hr.sim.heap,⟨?_,fun i d u hd hu=>?_⟩,hr.sim.defers⟩,hr.ons⟩
 ·rw [d0X,hr.sim.tmps.1,hl]
 ·dsimp only at hd
  have hi:i<n:=by have:=(List.getElem?_eq_some_iff.1 hd).1;rwa [d0X] at this
  rw [c0f hi] at hd
  injection hd with hd
  subst hd
  rcases h i hi with h1|h1
  ·rw [h1];exact .junk
  ·exact hr.sim.tmps.2 i _ u h1 hu
def a0K:Nat→List D→List (Nat × D)
 | _,[]=>[]
 | i,d :: ds=>(i,d) :: a0K (i+1) ds
theorem m0o:∀ (ds:List D) (k i:Nat),look (k+i) (a0K k ds) = .junk∨ds[i]?=some (look (k+i) (a0K k ds))
 | [],_,_=>.inl rfl
 | d :: ds,k,0=>by simp [a0K,look]
 | d :: ds,k,i+1=>by
  simp only [a0K,look]
  rw [if_neg (by omega),show k+(i+1)=k+1+i by omega]
  simpa using m0o ds (k+1) i
theorem Con.walk (hP:Good P){f:FuncId}{n:Nat}{rs:List SR}{c:SCode}(hf:Fn P f n rs c){args:List D}{H:List Row}{Q:D→List Row→Prop}(hn:args.length≤n)
  (h:HS P H.length c ⟨frm n (a0K 0 args),H,[]⟩ (endS H.length rs Q)):Con P f args H Q:=by
 refine Con.fn hP hf (HS.view (View.frm ?_ (fun i hi=>?_)) h)
 ·simp;omega
 ·dsimp only
  have:=m0o args 0 i
  rw [Nat.zero_add] at this
  rcases this with h1|h1
  ·exact .inl h1
  ·have hlt:=(List.getElem?_eq_some_iff.1 h1).1
   rw [List.getElem?_append_left hlt]
   exact .inr h1
end
theorem a0y {P:Program}{g:FuncId}{caps args:List D}{H:List Row}{Q K:D→List Row→Prop}(h:Con P g (args++caps) H Q)(hk:∀ d H',Q d H'→K d H'):a0R P (.fn g caps) args H K:=⟨g,caps,rfl,h.mono hk⟩
theorem u0D {i:Nat}:∀ {e:List (Nat × D)},look i e = .junk∨(i,look i e)∈e
 | []=>.inl rfl
 | (j,d) :: e=>by
  simp only [look]
  split
  ·rename_i h;subst h;exact .inr List.mem_cons_self
  ·rcases u0D (i:=i) (e:=e) with h|h
   ·exact .inl h
   ·exact .inr (List.mem_cons_of_mem _ h)
def NextP (n:Nat){α:Type}(st:α→List (Nat × D))(hs:α→List Row)(p:α→Prop)(m:α→Nat)(x:α)(s:St):Prop:=∃ y,s.H=hs y∧(∃ e,s.ts=frm n e∧(st y).map (fun q=>look q.1 e)=(st y).map (·.2))∧p y∧m y<m x
theorem NextP.mk {α:Type}{st:α→List (Nat × D)}{hs:α→List Row}{p:α→Prop}{m:α→Nat}{x:α}{n:Nat}{e:List (Nat × D)}{H:List Row}{dr:List Nat}(y:α)(hH:H=hs y)(he:(st y).map (fun q=>look q.1 e)=(st y).map (·.2))(hp:p y)(hm:m y<m x):NextP n st hs p m x ⟨frm n e,H,dr⟩:=⟨y,hH,⟨e,rfl,he⟩,hp,hm⟩
section
variable {P:Program}{n0:Nat}{s:St}{Q:Out→St→Prop}
theorem View.told {n:Nat}{e e':List (Nat × D)}{H:List Row}{dr:List Nat}(he:e'.map (fun q=>look q.1 e)=e'.map (·.2)):View P n0 ⟨Mir.frm n e,H,dr⟩ ⟨Mir.frm n e',H,[]⟩:=by
 refine View.frm (s:=⟨Mir.frm n e,H,dr⟩) (d0X _ _) (fun i hi=>?_)
 rcases u0D (i:=i) (e:=e') with h|h
 ·exact .inl h
 ·refine .inr ?_
  dsimp only
  rw [c0f hi]
  have:∀ q∈e',look q.1 e=q.2:=by
   intro q hq
   obtain ⟨k,hk,rfl⟩:=List.getElem_of_mem hq
   have:=congrArg (fun l=>l[k]?) he
   simpa [hk] using this
  exact congrArg some (this _ h)
theorem HS.loopP {c:SCode}{α:Type}{n:Nat}{e:List (Nat × D)}{H:List Row}{dr:List Nat}(st:α→List (Nat × D))(hs:α→List Row)(p:α→Prop)(m:α→Nat)(x0:α)(hH:H=hs x0)(he:(st x0).map (fun q=>look q.1 e)=(st x0).map (·.2))(h0:p x0)
  (hbody:∀ x,p x→HS P n0 c ⟨Mir.frm n (st x),hs x,[]⟩ (g0Q (NextP n st hs p m x) Q)):HS P n0 (.loop c) ⟨Mir.frm n e,H,dr⟩ Q:=by
 subst hH
 refine HS.view (View.told he) ?_
 intro k hk
 cases k with
 | loop a =>
  simp only [a0k] at hk
  injection hk with h1
  intro X w0 φ0 H0 w φ a' K hn0 hr hK
  refine wp_loop_rounds (m x0+1) ?_
  have key:∀ (k:Nat) (x:α) (w:World) (φ:Nat→Nat × Nat) (a':Act),m x≤k→p x→RunW P X w0 φ0 H0 w φ ⟨Mir.frm n (st x),hs x,[]⟩ a'→Code.rounds P a K (k+1) a' w:=by
   have nx:∀ (x y:α) (s':St) (w':World) (φ':Nat→Nat × Nat) (a'':Act),RunW P X w0 φ0 H0 w' φ' s' a''→s'.H=hs y→(∃ e,s'.ts=Mir.frm n e∧(st y).map (fun q=>look q.1 e)=(st y).map (·.2))→∃ φ2,RunW P X w0 φ0 H0 w' φ2 ⟨Mir.frm n (st y),hs y,[]⟩ a'':=by
    rintro x y ⟨ts,H,dr⟩ w' φ' a'' hr' hy ⟨e,he1,he2⟩
    dsimp only at hy he1
    subst hy;subst he1
    exact View.told (dr:=dr) he2 X w0 φ0 H0 w' φ' a'' hn0 hr'
   intro k
   induction k with
   | zero =>
    intro x w φ a' hm hp hr
    rw [rounds_succ]
    refine hbody x hp a h1 X w0 φ0 H0 w φ a' _ hn0 hr ?_
    intro out s' w' φ' a'' hq hr'
    cases out with
    | normal=>obtain ⟨y,_,_,_,hlt⟩:=hq;omega
    | exit i=>exact hK _ s' w' φ' a'' hq hr'
    | ret=>exact hK _ s' w' φ' a'' hq hr'
   | succ k ih =>
    intro x w φ a' hm hp hr
    rw [rounds_succ]
    refine hbody x hp a h1 X w0 φ0 H0 w φ a' _ hn0 hr ?_
    intro out s' w' φ' a'' hq hr'
    cases out with
    | normal =>
     obtain ⟨y,hy,he,hp',hlt⟩:=hq
     obtain ⟨φ2,hr2⟩:=nx x y s' w' φ' a'' hr' hy he
     exact ih y w' φ2 a'' (by omega) hp' hr2
    | exit i=>exact hK _ s' w' φ' a'' hq hr'
    | ret=>exact hK _ s' w' φ' a'' hq hr'
  exact key (m x0) x0 w φ a' (Nat.le_refl _) h0 hr
 | region id ops draw=>cases draw<;>simp only [a0k] at hk<;>first|(split at hk<;>first|cases hk|(split at hk<;>cases hk))|cases hk
 | cond c a b=>simp only [a0k] at hk;split at hk<;>cases hk
 | _=>simp [a0k] at hk
end
section
variable {P:Program}{n0:Nat}{Q:D→List Row→Prop}
theorem end1 {n t:Nat}{e:List (Nat × D)}{H:List Row}{dr:List Nat}{d d0:D}(ht:Nat.blt t n=true)(h:look t e=d)(hl:lowB n0 (H.take n0)=true)(hv:Vw (d0y n0 H) d d0)(q:Q d0 (H.take n0)):RetS n0 [.t t] Q ⟨frm n e,H,dr⟩:=by
 refine .still (ds:=[d]) ?_ hl hv q
 simp only [resS]
 rw [c0A (by simpa using ht),h]
theorem endA {n t:Nat}{e:List (Nat × D)}{H:List Row}{dr:List Nat}{d:D}(ht:Nat.blt t n=true)(h:look t e=d)(q:Q d H):RetS n0 [.t t] Q ⟨frm n e,H,dr⟩:=by
 refine .all (ds:=[d]) ?_ q
 simp only [resS]
 rw [c0A (by simpa using ht),h]
theorem end2 {n t u:Nat}{e:List (Nat × D)}{H:List Row}{dr:List Nat}{d f d0:D}(ht:Nat.blt t n=true)(hu:Nat.blt u n=true)(h:look t e=d)(k:look u e=f)(hl:lowB n0 (H.take n0)=true)(hv:Vw (d0y n0 H) (.tp [d,f]) d0)(q:Q d0 (H.take n0)):RetS n0 [.t t,.t u] Q ⟨frm n e,H,dr⟩:=by
 refine .still (ds:=[d,f]) ?_ hl hv q
 simp only [resS]
 rw [c0A (by simpa using ht),c0A (by simpa using hu),h,k]
theorem endG {n t:Nat}{e:List (Nat × D)}{H:List Row}{dr:List Nat}{d:D}{ef:Eff}(ht:Nat.blt t n=true)(h:look t e=d)(hg:gather n0 d (List.range n0) H=some ef)(q:Q ef.res (a0B (H.take n0) ef.upd++ef.news)):RetS n0 [.t t] Q ⟨frm n e,H,dr⟩:=by
 refine .gather (ds:=[d]) ?_ hg q
 simp only [resS]
 rw [c0A (by simpa using ht),h]
end
end Go.Proofs.YthjgmldnegaaiaaGreatDoor.Mir
namespace Go.Proofs.YthjgmldnegaaiaaGreatDoor.Mir
open Go Go.RowKit
theorem n0A {P:Program}:∀ (l1 l2:List SI) (s:St) (K:St→Prop),wpS P (l1++l2) s K=wpS P l1 s fun s'=>wpS P l2 s' K
 | [],l2,s,K=>rfl
 | i :: l1,l2,s,K=>by
  simp only [List.cons_append,wpS,n0A l1 l2]
theorem f1D {P:Program}{l1 l2:List SI}{s:St}{K:St→Prop}(h:∀ K':St→Prop,(∀ s',wpS P l2 s' K→K' s')→wpS P l1 s K'):wpS P (l1++l2) s K:=by
 rw [n0A]
 exact h _ fun _ h=>h
abbrev kI (n:Int):SV:=.c (.f (.v (.int .i64 n)))
abbrev kT:SV:=.c (.f (.v (.bool true)))
abbrev kF:SV:=.c (.f (.v (.bool false)))
abbrev kN:SV:=.c (.f (.v (.slice none 0 0)))
abbrev kC (f:Nat):SV:=.c (.fn f [])
abbrev jI:D:=.f (.v (.int .i64 0))
abbrev jN:D:=.f (.v (.slice none 0 0))
abbrev jF:D:=.f (.v (.bool false))
abbrev jm (t x:Nat):SI:=.a t (.mv (.t x))
abbrev jl (t x:Nat):SI:=.a t (.load1 (.t x))
abbrev jo (t o x:Nat):SI:=.a t (.off o (.t x))
abbrev jn (t x:Nat):SI:=.a t (.nilc (.t x))
abbrev gM (t x g:Nat) (b:Bool):SI:=.g (some t) (.mv (.t x)) g b
abbrev gL (t x g:Nat) (b:Bool):SI:=.g (some t) (.load1 (.t x)) g b
abbrev gO (t o x g:Nat) (b:Bool):SI:=.g (some t) (.off o (.t x)) g b
abbrev gN (t x g:Nat) (b:Bool):SI:=.g (some t) (.nilc (.t x)) g b
abbrev je (t x:Nat):SI:=.a t (.slen (.t x))
abbrev jx (t n x i:Nat):SI:=.a t (.idx n (.t x) (.t i))
abbrev jL (t n x:Nat):SI:=.a t (.loadA n (.t x))
abbrev jE (t n x:Nat):SI:=.a t (.ext n (.t x))
abbrev jb (t:Nat) (op:BinOp) (x:Nat) (k:Int):SI:=.a t (.bin op (.t x) (kI k))
abbrev jB (t:Nat) (op:BinOp) (x y:Nat):SI:=.a t (.bin op (.t x) (.t y))
abbrev jk (t:Nat) (k:Int):SI:=.a t (.mv (kI k))
abbrev jG (t:Nat) (o:SOp) (g:Nat) (b:Bool):SI:=.g (some t) o g b
abbrev jq (l:List SI) (y:SCode):SCode:=.seq (.ops l) y
abbrev jc (t:Nat) (x y:SCode):SCode:=.cond (.t t) x y
def ap (a b:List SI):List SI:=a++b
theorem W_mv {P:Program}{ts:List D}{H:List Row}{K:D→List Row→Prop}(x:SV):a0T P ts H (.mv x) K=(K (x.ev ts) H):=id rfl
theorem c1y {P:Program}{ts:List D}{H:List Row}{K:D→List Row→Prop}(c a b:SV):a0T P ts H (.pick c a b) K=(k0s (c.ev ts) (K (a.ev ts) H) (K (b.ev ts) H)):=id rfl
theorem y0i {P:Program}{ts:List D}{H:List Row}{K:D→List Row→Prop}(T:TypeId)(z:List D):a0T P ts H (.alloc T z) K=(K (.pt H.length 0) (H++[.box T z])):=id rfl
theorem f1a {P:Program}{ts:List D}{H:List Row}{K:D→List Row→Prop}(T:TypeId)(x:SV):a0T P ts H (.box T x) K=(a0D (boxD (x.ev ts)) fun cs=>K (.pt H.length 0) (H++[.box T cs])):=id rfl
theorem x0v {P:Program}{ts:List D}{H:List Row}{K:D→List Row→Prop}(a:SV):a0T P ts H (.load1 a) K=(a0D (load1 H (a.ev ts)) fun d=>K d H):=id rfl
theorem a1u {P:Program}{ts:List D}{H:List Row}{K:D→List Row→Prop}(n:Nat)(a:SV):a0T P ts H (.loadA n a) K=(a0D (loadA H n (a.ev ts)) fun d=>K d H):=id rfl
theorem x0y {P:Program}{ts:List D}{H:List Row}{K:D→List Row→Prop}(n:Nat)(a x:SV):a0T P ts H (.store n a x) K=(a0D (c0o P H n (a.ev ts) (x.ev ts)) fun H'=>K D.undef H'):=id rfl
theorem d1h {P:Program}{ts:List D}{H:List Row}{K:D→List Row→Prop}(x:SV):a0T P ts H (.nilc x) K=(a0D (s0V (x.ev ts)) fun d=>K d H):=id rfl
theorem f1K {P:Program}{ts:List D}{H:List Row}{K:D→List Row→Prop}(o:Nat)(a:SV):a0T P ts H (.off o a) K=(a0D (offD o (a.ev ts)) fun d=>K d H):=id rfl
theorem d1u {P:Program}{ts:List D}{H:List Row}{K:D→List Row→Prop}(o:Nat)(x:SV):a0T P ts H (.fld1 o x) K=(a0D (fld1 o (x.ev ts)) fun d=>K d H):=id rfl
theorem d1R {P:Program}{ts:List D}{H:List Row}{K:D→List Row→Prop}(o n:Nat)(x:SV):a0T P ts H (.fldA o n x) K=(a0D (fldA o n (x.ev ts)) fun d=>K d H):=id rfl
theorem f1b {P:Program}{ts:List D}{H:List Row}{K:D→List Row→Prop}(sz:Nat)(x i:SV):a0T P ts H (.idx sz x i) K=(idxS sz (x.ev ts) (i.ev ts) fun d=>K d H):=id rfl
theorem f1Q {P:Program}{ts:List D}{H:List Row}{K:D→List Row→Prop}(sz n:Nat)(x i:SV):a0T P ts H (.arr sz n x i) K=(arrS sz n (x.ev ts) (i.ev ts) fun d=>K d H):=id rfl
theorem f1z {P:Program}{ts:List D}{H:List Row}{K:D→List Row→Prop}(i:Nat)(x:SV):a0T P ts H (.ext i x) K=(a0D (extD i (x.ev ts)) fun d=>K d H):=id rfl
theorem f1U {P:Program}{ts:List D}{H:List Row}{K:D→List Row→Prop}(op:BinOp)(x y:SV):a0T P ts H (.bin op x y) K=(binS op (x.ev ts) (y.ev ts) fun d=>K d H):=id rfl
theorem c1z {P:Program}{ts:List D}{H:List Row}{K:D→List Row→Prop}(op:BinOp)(x y:SV):a0T P ts H (.binb op x y) K=(p0l op (x.ev ts) (y.ev ts) fun d=>K d H):=id rfl
theorem g1D {P:Program}{ts:List D}{H:List Row}{K:D→List Row→Prop}(eq:Bool)(ks:List Nat)(x y:SV):a0T P ts H (.aeq eq ks x y) K=(aeqS eq ks (x.ev ts) (y.ev ts) fun d=>K d H):=id rfl
theorem c1t {P:Program}{ts:List D}{H:List Row}{K:D→List Row→Prop}(eq:Bool)(k:Nat)(x y:SV):a0T P ts H (.nilq eq k x y) K=(c0y k (x.ev ts) (y.ev ts) fun b=>K (D.bool (if eq then b else !b)) H):=id rfl
theorem d1f {P:Program}{ts:List D}{H:List Row}{K:D→List Row→Prop}(x:SV):a0T P ts H (.unot x) K=(a0D (notS (x.ev ts)) fun d=>K d H):=id rfl
theorem W_fn {P:Program}{ts:List D}{H:List Row}{K:D→List Row→Prop}(f:FuncId)(caps:List SV):a0T P ts H (.fn f caps) K=(K (.fn f (caps.map (SV.ev ts))) H):=id rfl
theorem y0C {P:Program}{ts:List D}{H:List Row}{K:D→List Row→Prop}  : a0T P ts H (.mkmap) K=(K (.mp H.length) (H++[.map []])):=id rfl
theorem r0E {P:Program}{ts:List D}{H:List Row}{K:D→List Row→Prop}(T:TypeId)(sz b:Nat)(z:List F)(l c:SV):a0T P ts H (.mkslice T sz b z l c) K=(a0D (intOf? (l.ev ts)) fun a=>a0D (intOf? (c.ev ts)) fun c=>((0<a∨c=0)∧0≤a∧a≤c∧b*c≤140737488355328∧c.toNat*sz≤16777216)∧K (.sl H.length 0 a.toNat) (H++[.data T ((List.range (a.toNat*sz)).map fun j=>z.getD (j % sz) (.v Go.undef))])):=id rfl
theorem f1Z {P:Program}{ts:List D}{H:List Row}{K:D→List Row→Prop}(z:List D)(parts:List (Nat × Nat × SV)):a0T P ts H (.bld z parts) K=(a0D (e0b z (parts.map fun p=>(p.1,p.2.1,p.2.2.ev ts))) fun ds=>K (.ag ds) H):=id rfl
theorem g1H {P:Program}{ts:List D}{H:List Row}{K:D→List Row→Prop}(T:TypeId)(sz len:Nat)(z:List D)(parts:List (Nat × SV)):a0T P ts H (.bsl T sz len z parts) K=(a0D (e0b z (parts.map fun p=>(p.1,sz,p.2.ev ts))) fun ds=>a0D (a0U P H ds) fun xu=>K (.sl H.length 0 len) (a0B H xu.2++[.data T xu.1])):=id rfl
theorem f1J {P:Program}{ts:List D}{H:List Row}{K:D→List Row→Prop}(T:TypeId)(sz b:Nat)(s x:SV):a0T P ts H (.app T sz b s x) K=(appS H T sz b (s.ev ts) (x.ev ts) K):=id rfl
theorem d1q {P:Program}{ts:List D}{H:List Row}{K:D→List Row→Prop}(x:SV):a0T P ts H (.slen x) K=(a0D (slcS (x.ev ts)) fun n=>K (D.int n) H):=id rfl
theorem d1D {P:Program}{ts:List D}{H:List Row}{K:D→List Row→Prop}(x:SV):a0T P ts H (.mlen x) K=(a0D (g0C H (x.ev ts)) fun es=>K (D.int es.length) H):=id rfl
theorem d1t {P:Program}{ts:List D}{H:List Row}{K:D→List Row→Prop}(k:IntKind)(x:SV):a0T P ts H (.conv k x) K=(a0D (y0G k (x.ev ts)) fun d=>K d H):=id rfl
theorem f1n {P:Program}{ts:List D}{H:List Row}{K:D→List Row→Prop}(x:SV):a0T P ts H (.s2b x) K=(a0D (strOf? (x.ev ts)) fun s=>s.size≤most∧K (.f (.s (s.data.toList.map fun b=>.v (.int .u8 b.toNat)) s.size)) H):=id rfl
theorem f1Y {P:Program}{ts:List D}{H:List Row}{K:D→List Row→Prop}(x:SV):a0T P ts H (.b2s x) K=(a0D (b0Q H 1 (x.ev ts)) fun p=>a0D (bytesOf? (p.2.map .f)) fun l=>p.2.length=p.1∧K (.f (.v (.string ⟨l.toArray⟩))) H):=id rfl
theorem v0c {P:Program}{ts:List D}{H:List Row}{K:D→List Row→Prop}(x:SV):a0T P ts H (.strlen x) K=(a0D (strOf? (x.ev ts)) fun s=>K (D.int s.size) H):=id rfl
theorem c1u {P:Program}{ts:List D}{H:List Row}{K:D→List Row→Prop}(sz n:Nat)(x i:SV):a0T P ts H (.aidx sz n x i) K=(x0T sz n (x.ev ts) (i.ev ts) fun d=>K d H):=id rfl
theorem d1w {P:Program}{ts:List D}{H:List Row}{K:D→List Row→Prop}(x i:SV):a0T P ts H (.sidx x i) K=(a0D (strOf? (x.ev ts)) fun s=>a0D (intOf? (i.ev ts)) fun i=>a0D (if 0≤i then s.data.toList[i.toNat]? else none) fun b=>K (.f (.v (.int .u8 b.toNat))) H):=id rfl
theorem d1y {P:Program}{ts:List D}{H:List Row}{K:D→List Row→Prop}(x:SV)(lo hi:Option SV):a0T P ts H (.ssub x lo hi) K=(a0D (z0F (x.ev ts) (lo.map (SV.ev ts)) (hi.map (SV.ev ts))) fun d=>K d H):=id rfl
theorem c1n {P:Program}{ts:List D}{H:List Row}{K:D→List Row→Prop}(ok:Bool)(K0:TypeId)(z:D)(m k:SV):a0T P ts H (.look ok K0 z m k) K=(a0D (t0S P H ok K0 z (m.ev ts) (k.ev ts)) fun d=>K d H):=id rfl
theorem d1T {P:Program}{ts:List D}{H:List Row}{K:D→List Row→Prop}(K0:TypeId)(m k x:SV):a0T P ts H (.mput K0 m k x) K=(a0D (p0I P H K0 (m.ev ts) (k.ev ts) (x.ev ts)) fun H'=>K D.undef H'):=id rfl
theorem d1d {P:Program}{ts:List D}{H:List Row}{K:D→List Row→Prop}(K0:TypeId)(m k:SV):a0T P ts H (.mdel K0 m k) K=(a0D (y0P P H K0 (m.ev ts) (k.ev ts)) fun H'=>K (.tp []) H'):=id rfl
theorem f1O {P:Program}{ts:List D}{H:List Row}{K:D→List Row→Prop}(T:TypeId)(x:SV):a0T P ts H (.clr T x) K=(a0D (g0m P H T (x.ev ts)) fun H'=>K (.tp []) H'):=id rfl
theorem W_mm {P:Program}{ts:List D}{H:List Row}{K:D→List Row→Prop}(mx:Bool)(x y:SV):a0T P ts H (.mm mx x y) K=(a0D (intOf? (x.ev ts)) fun a=>a0D (intOf? (y.ev ts)) fun b=>K (D.int (if mx then max a b else min a b)) H):=id rfl
theorem c1w {P:Program}{ts:List D}{H:List Row}{K:D→List Row→Prop}(f:SV)(args:List SV):a0T P ts H (.call f args) K=(a0R P (f.ev ts) (args.map (SV.ev ts)) H K):=id rfl
theorem d1L {P:Program}{ts:List D}{H:List Row}{K:D→List Row→Prop}(sz:Nat)(E:TypeId)(x:SV):a0T P ts H (.sub sz E x none none none) K=(a0D (slcS (x.ev ts)) fun n=>(0≤(0:Int)∧(0:Int)≤n∧(n:Int)≤n)∧a0D (subS H sz E (x.ev ts) (0:Int).toNat (n:Int).toNat) fun d=>K d H):=id rfl
theorem d1x {P:Program}{ts:List D}{H:List Row}{K:D→List Row→Prop}(sz:Nat)(E:TypeId)(x l:SV):a0T P ts H (.sub sz E x (some l) none none) K=(a0D (slcS (x.ev ts)) fun n=>a0D (intOf? (l.ev ts)) fun l=>(0≤l∧l≤n∧(n:Int)≤n)∧a0D (subS H sz E (x.ev ts) l.toNat (n:Int).toNat) fun d=>K d H):=id rfl
theorem d1c {P:Program}{ts:List D}{H:List Row}{K:D→List Row→Prop}(sz:Nat)(E:TypeId)(x h:SV):a0T P ts H (.sub sz E x none (some h) none) K=(a0D (slcS (x.ev ts)) fun n=>a0D (intOf? (h.ev ts)) fun h=>(0≤(0:Int)∧0≤h∧h≤n)∧a0D (subS H sz E (x.ev ts) (0:Int).toNat h.toNat) fun d=>K d H):=id rfl
theorem z0o {P:Program}{ts:List D}{H:List Row}{K:D→List Row→Prop}(sz:Nat)(E:TypeId)(x l h:SV):a0T P ts H (.sub sz E x (some l) (some h) none) K=(a0D (slcS (x.ev ts)) fun n=>a0D (intOf? (l.ev ts)) fun l=>a0D (intOf? (h.ev ts)) fun h=>(0≤l∧l≤h∧h≤n)∧a0D (subS H sz E (x.ev ts) l.toNat h.toNat) fun d=>K d H):=id rfl
theorem d1B {P:Program}{ts:List D}{H:List Row}{K:D→List Row→Prop}(sz:Nat)(E:TypeId)(x l h m:SV):a0T P ts H (.sub sz E x (some l) (some h) (some m)) K=(a0D (slcS (x.ev ts)) fun n=>a0D (intOf? (l.ev ts)) fun l=>a0D (intOf? (h.ev ts)) fun h=>(0≤l∧l≤h∧h≤n)∧(intOf? (m.ev ts)=some l∧l=h∧(some h).isSome=true)∧K (mxS (x.ev ts)) H):=id rfl
theorem b1W {P:Program}{ts:List D}{H:List Row}{K:D→List Row→Prop}(sz:Nat)(E:TypeId)(x h m:SV):a0T P ts H (.sub sz E x none (some h) (some m)) K=(a0D (slcS (x.ev ts)) fun n=>a0D (intOf? (h.ev ts)) fun h=>(0≤(0:Int)∧0≤h∧h≤n)∧(intOf? (m.ev ts)=some 0∧(0:Int)=h∧(some h).isSome=true)∧K (mxS (x.ev ts)) H):=id rfl
theorem ev_t {ts:List D}{n:Nat}:(SV.t n).ev ts=ts.getD n D.undef:=id rfl
theorem ev_c {ts:List D}{d:D}:(SV.c d).ev ts=d:=id rfl
theorem d1O {x:F}:boxD (.f x)=some ([.f x]):=id rfl
theorem v0t {x:F}:b0E (.f x)=true:=id rfl
theorem b1H {x:F}:(D.f x).cells=[.f x]:=id rfl
theorem z0p {r o n:Nat}:boxD (.sl r o n)=some ([.sl r o n]):=id rfl
theorem r0x {r o n:Nat}:b0E (.sl r o n)=true:=id rfl
theorem v0q {r o n:Nat}:(D.sl r o n).cells=[.sl r o n]:=id rfl
theorem b1D {r o:Nat}:boxD (.pt r o)=some ([.pt r o]):=id rfl
theorem o0r {r o:Nat}:b0E (.pt r o)=true:=id rfl
theorem v0g {r o:Nat}:(D.pt r o).cells=[.pt r o]:=id rfl
theorem x0x {r:Nat}:boxD (.mp r)=some ([.mp r]):=id rfl
theorem r0p {r:Nat}:b0E (.mp r)=true:=id rfl
theorem t0h {r:Nat}:(D.mp r).cells=[.mp r]:=id rfl
theorem a1L {xs:List F}:boxD (.rf xs)=some ([.rf xs]):=id rfl
theorem q0w {xs:List F}:b0E (.rf xs)=true:=id rfl
theorem u0i {xs:List F}:(D.rf xs).cells=[.rf xs]:=id rfl
theorem b1b {ds:List D}:boxD (.ag ds)=some (ds):=id rfl
theorem p0L {ds:List D}:b0E (.ag ds)=true:=id rfl
theorem u0A {ds:List D}:(D.ag ds).cells=ds:=id rfl
theorem z0L {f:FuncId}{ds:List D}:boxD (.fn f ds)=some ([.fn f ds]):=id rfl
theorem q0W {f:FuncId}{ds:List D}:b0E (.fn f ds)=true:=id rfl
theorem v0Y {f:FuncId}{ds:List D}:(D.fn f ds).cells=[.fn f ds]:=id rfl
def l0L (o:Option Row)(off:Nat):Option D:=match o with
 | some row=>match row.cells with
  | some xs=>xs[off]?
  | none=>none
 | none=>none
theorem u0t {H:List Row}{r off:Nat}:load1 H (.pt r off)=l0L H[r]? off:=id rfl
theorem w0c {H:List Row}{xs:List F}:load1 H (.rf xs)=(xs[0]?).map .f:=id rfl
theorem l0X {T:TypeId}{ds:List D}{off:Nat}:l0L (some (.box T ds)) off=ds[off]?:=id rfl
theorem j0P {T:TypeId}{xs:List F}{off:Nat}:l0L (some (.data T xs)) off=(xs[off]?).map .f:=by simp [l0L,Row.cells]
theorem k0W {T:TypeId}{xs:List F}{off:Nat}:l0L (some (.froz T xs)) off=(xs[off]?).map .f:=by simp [l0L,Row.cells]
def l0f (n:Nat)(o:Option Row)(off:Nat):Option D:=match o with
 | some row=>match row.cells with
  | some xs=>if off+n≤xs.length then some (.ag ((xs.drop off).take n)) else none
  | none=>none
 | none=>none
theorem u0E {H:List Row}{n r off:Nat}:loadA H n (.pt r off)=l0f n H[r]? off:=id rfl
theorem a0A {H:List Row}{n:Nat}{xs:List F}:loadA H n (.rf xs)=if n≤xs.length then some (.ag ((xs.map .f).take n)) else none:=id rfl
theorem l0x {n:Nat}{T:TypeId}{ds:List D}{off:Nat}:l0f n (some (.box T ds)) off=if off+n≤ds.length then some (.ag ((ds.drop off).take n)) else none:=id rfl
theorem k0S {n:Nat}{T:TypeId}{xs:List F}{off:Nat}:l0f n (some (.data T xs)) off=if off+n≤xs.length then some (.ag (((xs.drop off).take n).map .f)) else none:=by simp [l0f,Row.cells,List.map_take,List.map_drop]
theorem j0j {n:Nat}{T:TypeId}{xs:List F}{off:Nat}:l0f n (some (.froz T xs)) off=if off+n≤xs.length then some (.ag (((xs.drop off).take n).map .f)) else none:=by simp [l0f,Row.cells,List.map_take,List.map_drop]
theorem a1M {o r off:Nat}:offD o (.pt r off)=some (.pt r (off+o)):=id rfl
theorem z0A {o:Nat}{xs:List F}:offD o (.rf xs)=some (.rf (xs.drop o)):=id rfl
theorem y0p {o:Nat}{ds:List D}:fld1 o (.ag ds)=ds[o]?:=id rfl
theorem z0D {o n:Nat}{ds:List D}:fldA o n (.ag ds)=if o+n≤ds.length then some (.ag ((ds.drop o).take n)) else none:=id rfl
theorem u0v {r o:Nat}:s0V (.pt r o)=some (.pt r o):=id rfl
theorem v0L {xs:List F}:s0V (.rf xs)=some (.rf xs):=id rfl
theorem u0B {f:FuncId}{cs:List D}:s0V (.fn f cs)=some (.fn f cs):=id rfl
theorem y0u {i:Nat}{ds:List D}:extD i (.tp ds)=ds[i]?:=id rfl
def c0O (P:Program)(H:List Row)(n r off:Nat)(x:D)(o:Option Row):Option (List Row):=match o with
 | some (.box U xs)=>if b0E x=true∧x.cells.length=n∧off+n≤xs.length then some (H.set r (.box U (putL off x.cells xs))) else none
 | some (.data U xs)=>if b0E x=true∧x.cells.length=n∧off+n≤xs.length∧0<n then
   match a0U P H x.cells with
   | some (ys,us)=>match (a0B H us)[r]? with
    | some (.data U ws)=>some ((a0B H us).set r (.data U (splice ws off ys)))
    | _=>none
   | none=>none
  else none
 | _=>none
theorem w0s {α:Type}{xs:List α}{off:Nat}{x:α}(h:off<xs.length):splice xs off [x]=xs.set off x:=by
 rw [List.set_eq_take_append_cons_drop,if_pos h]
 simp [splice]
theorem c0J {P:Program}{H:List Row}{n r off:Nat}{x:D}:c0o P H n (.pt r off) x=c0O P H n r off x H[r]?:=id rfl
theorem l0Y {P:Program}{H:List Row}{n r off:Nat}{x:D}{U:TypeId}{xs:List D}:c0O P H n r off x (some (.box U xs))=if b0E x=true∧x.cells.length=n∧off+n≤xs.length then some (H.set r (.box U (putL off x.cells xs))) else none:=id rfl
theorem o0A {P:Program}{H:List Row}{r off:Nat}{x:F}{U:TypeId}{xs:List F}(h:H[r]?=some (.data U xs)):c0O P H 1 r off (.f x) (some (.data U xs))=if off+1≤xs.length then some (H.set r (.data U (xs.set off x))) else none:=by
 unfold c0O
 simp only [b0E,D.cells,a0U,b0M,a0B,List.append_nil,List.length_cons,List.length_nil,h,true_and,Nat.reduceAdd,Nat.zero_lt_one,and_true]
 split
 ·rw [w0s (by omega)]
 ·rfl
theorem p0X {α:Type}{cs:List α}:putL 0 [] cs=cs:=by cases cs<;>rfl
theorem k0x {α:Type}{y c:α}{ys cs:List α}:putL 0 (y :: ys) (c :: cs)=y :: putL 0 ys cs:=id rfl
theorem q0k {α:Type}{n:Nat}{c:α}{ys cs:List α}:putL (n+1) ys (c :: cs)=c :: putL n ys cs:=id rfl
theorem u0s {op:BinOp}{k k2:IntKind}{a b:Int}{K:D→Prop}:binS op (.f (.v (.int k a))) (.f (.v (.int k2 b))) K=(shQ op k k2∧intS op k a b K):=id rfl
theorem u0k {op:BinOp}{k:IntKind}:shQ op k k=True:=by cases op<;>simp [shQ]
theorem a1t {k k2:IntKind}:shQ .shl k k2=True:=id rfl
theorem z0g {k k2:IntKind}:shQ .shr k k2=True:=id rfl
theorem t0v {op:BinOp}{a b:ByteArray}{K:D→Prop}:binS op (.f (.v (.string a))) (.f (.v (.string b))) K=strS op a b K:=id rfl
theorem a1O {eq:Bool}{ks:List Nat}{xs ys:List D}{K:D→Prop}:aeqS eq ks (.ag xs) (.ag ys) K=a0D (eqL ks xs ys) fun b=>K (.f (.v (.bool (if eq then b else !b)))):=id rfl
theorem u0T {sz n:Nat}{ds:List D}{k:IntKind}{a:Int}{K:D→Prop}:x0T sz n (.ag ds) (.f (.v (.int k a))) K=((0≤a∧a<n)∧a0D (ds[a.toNat*sz]?) K):=id rfl
theorem z0t {op:BinOp}{a b:Bool}{K:D→Prop}:p0l op (.f (.v (.bool a))) (.f (.v (.bool b))) K=t0V op a b K:=id rfl
theorem w0i {k:IntKind}{a b:Int}{K:D→Prop}:intS .shl k a b K=(0≤b∧K (.f (.v (.int k (k.wrap (a*2 ^ (min b.toNat k.bits))))))):=id rfl
theorem v0y {k:IntKind}{a b:Int}{K:D→Prop}:intS .shr k a b K=(0≤b∧K (.f (.v (.int k (a.fdiv (2 ^ (min b.toNat k.bits))))))):=id rfl
theorem v0P {k:IntKind}{a b:Int}{K:D→Prop}:intS .and k a b K=(K (.f (.v (.int k (k.wrap (BitVec.ofInt k.bits a &&& BitVec.ofInt k.bits b).toNat))))):=id rfl
theorem z0H {k:IntKind}{a b:Int}{K:D→Prop}:intS .or k a b K=(K (.f (.v (.int k (k.wrap (BitVec.ofInt k.bits a ||| BitVec.ofInt k.bits b).toNat))))):=id rfl
theorem w0E {k:IntKind}{a b:Int}{K:D→Prop}:intS .xor k a b K=(K (.f (.v (.int k (k.wrap (BitVec.ofInt k.bits a ^^^ BitVec.ofInt k.bits b).toNat))))):=id rfl
theorem v0s {k:IntKind}{a b:Int}{K:D→Prop}:intS .add k a b K=(K (.f (.v (.int k (k.wrap (a+b)))))):=id rfl
theorem v0w {k:IntKind}{a b:Int}{K:D→Prop}:intS .sub k a b K=(K (.f (.v (.int k (k.wrap (a-b)))))):=id rfl
theorem u0q {k:IntKind}{a b:Int}{K:D→Prop}:intS .mul k a b K=(K (.f (.v (.int k (k.wrap (a*b)))))):=id rfl
theorem w0f {k:IntKind}{a b:Int}{K:D→Prop}:intS .quo k a b K=(b≠0∧K (.f (.v (.int k (k.wrap (a.tdiv b)))))):=id rfl
theorem t0k {k:IntKind}{a b:Int}{K:D→Prop}:intS .rem k a b K=(b≠0∧K (.f (.v (.int k (a.tmod b))))):=id rfl
theorem v0E {k:IntKind}{a b:Int}{K:D→Prop}:intS .eql k a b K=(Two (a=b) (K (.f (.v (.bool true)))) (K (.f (.v (.bool false))))):=id rfl
theorem v0n {k:IntKind}{a b:Int}{K:D→Prop}:intS .neq k a b K=(Two (a=b) (K (.f (.v (.bool false)))) (K (.f (.v (.bool true))))):=id rfl
theorem w0U {k:IntKind}{a b:Int}{K:D→Prop}:intS .lss k a b K=(Two (a<b) (K (.f (.v (.bool true)))) (K (.f (.v (.bool false))))):=id rfl
theorem t0r {k:IntKind}{a b:Int}{K:D→Prop}:intS .leq k a b K=(Two (a≤b) (K (.f (.v (.bool true)))) (K (.f (.v (.bool false))))):=id rfl
theorem w0h {k:IntKind}{a b:Int}{K:D→Prop}:intS .gtr k a b K=(Two (b<a) (K (.f (.v (.bool true)))) (K (.f (.v (.bool false))))):=id rfl
theorem t0o {k:IntKind}{a b:Int}{K:D→Prop}:intS .geq k a b K=(Two (b≤a) (K (.f (.v (.bool true)))) (K (.f (.v (.bool false))))):=id rfl
theorem v0N {a b:ByteArray}{K:D→Prop}:strS .add a b K=(a.size+b.size≤9223372036854775807∧K (.f (.v (.string (a++b))))):=id rfl
theorem u0n {a b:ByteArray}{K:D→Prop}:strS .eql a b K=(Two (a=b) (K (.f (.v (.bool true)))) (K (.f (.v (.bool false))))):=id rfl
theorem v0Z {a b:ByteArray}{K:D→Prop}:strS .neq a b K=(Two (a=b) (K (.f (.v (.bool false)))) (K (.f (.v (.bool true))))):=id rfl
theorem w0F {a b:ByteArray}{K:D→Prop}:strS .lss a b K=(Two (Op.bytesLess a.toList b.toList=true) (K (.f (.v (.bool true)))) (K (.f (.v (.bool false))))):=id rfl
theorem v0D {a b:ByteArray}{K:D→Prop}:strS .gtr a b K=(Two (Op.bytesLess b.toList a.toList=true) (K (.f (.v (.bool true)))) (K (.f (.v (.bool false))))):=id rfl
theorem t0f {a b:ByteArray}{K:D→Prop}:strS .leq a b K=(Two (Op.bytesLess b.toList a.toList=true) (K (.f (.v (.bool false)))) (K (.f (.v (.bool true))))):=id rfl
theorem v0T {a b:ByteArray}{K:D→Prop}:strS .geq a b K=(Two (Op.bytesLess a.toList b.toList=true) (K (.f (.v (.bool false)))) (K (.f (.v (.bool true))))):=id rfl
theorem p0w {a b:Bool}{K:D→Prop}:t0V .eql a b K=K (.f (.v (.bool (a==b)))):=id rfl
theorem r0v {a b:Bool}{K:D→Prop}:t0V .neq a b K=K (.f (.v (.bool (!(a==b))))):=id rfl
theorem a1J {sz r off n:Nat}{k:IntKind}{i:Int}{K:D→Prop}:idxS sz (.sl r off n) (.f (.v (.int k i))) K=((0≤i∧i<n)∧K (.pt r (off+i.toNat*sz))):=id rfl
theorem d1X {sz n:Nat}{xs:List F}{k:IntKind}{i:Int}{K:D→Prop}:idxS sz (.f (.s xs n)) (.f (.v (.int k i))) K=((0≤i∧i<n)∧K (.rf (xs.drop (i.toNat*sz)))):=id rfl
theorem y0n {sz n r off:Nat}{k:IntKind}{i:Int}{K:D→Prop}:arrS sz n (.pt r off) (.f (.v (.int k i))) K=((0≤i∧i<n)∧K (.pt r (off+i.toNat*sz))):=id rfl
theorem y0U {p q:Prop}:k0s (.f (.v (.bool true))) p q=p:=c0e
theorem y0X {p q:Prop}:k0s (.f (.v (.bool false))) p q=q:=b0v
theorem z0b {b:Bool}{p q:Prop}:k0s (.f (.v (.bool b))) p q=Bsel b p q:=id rfl
theorem d1I {b:Bool}:notS (.f (.v (.bool b)))=some (.f (.v (.bool (!b)))):=id rfl
theorem z0a {k k2:IntKind}{n:Int}:y0G k (.f (.v (.int k2 n)))=some (.f (.v (.int k (k.wrap n)))):=id rfl
theorem z0v {n:Int}:intOf? (.f (.v (.int .i64 n)))=some n:=id rfl
theorem a1I {s:ByteArray}:strOf? (.f (.v (.string s)))=some s:=id rfl
theorem a1c {r o n:Nat}:slcS (.sl r o n)=some n:=id rfl
theorem d1b {xs:List F}{n:Nat}:slcS (.f (.s xs n))=some n:=id rfl
theorem d1e:slcS (.f .e)=some 0:=id rfl
theorem w0K:slcS (.f (.v (.slice none 0 0)))=some 0:=id rfl
def nilR (k:Nat)(p q:Option (Nat × Bool)):Option Bool:=match p,q with
 | some (i,a),some (j,b)=>if k=i∧k=j∧(a=true∨b=true) then some (a&&b) else none
 | _,_=>none
theorem d1E {k:Nat}{x y:D}:nilS k x y=nilR k (c0K x) (c0K y):=id rfl
theorem z0Y {k i j:Nat}{a b:Bool}:nilR k (some (i,a)) (some (j,b))=if k=i∧k=j∧(a=true∨b=true) then some (a&&b) else none:=id rfl
theorem r0n:c0K (.f (.v (.slice none 0 0)))=some (0,true):=id rfl
theorem q0g:c0K (.f (.v (.pointer none)))=some (1,true):=id rfl
theorem p0t:c0K (.f (.v (.map none)))=some (2,true):=id rfl
theorem w0Q {k:Nat}{y:D}{K:Bool→Prop}:c0y k (.f (.v (.slice none 0 0))) y K=a0D (nilS k (.f (.v (.slice none 0 0))) y) K:=id rfl
theorem u0g {k:Nat}{y:D}{K:Bool→Prop}:c0y k (.f (.v (.pointer none))) y K=a0D (nilS k (.f (.v (.pointer none))) y) K:=id rfl
theorem w0g {k:Nat}{y:D}{K:Bool→Prop}:c0y k (.f (.v (.map none))) y K=a0D (nilS k (.f (.v (.map none))) y) K:=id rfl
theorem u0V {k:Nat}{y:D}{K:Bool→Prop}:c0y k (.f .e) y K=a0D (nilS k (.f .e) y) K:=id rfl
theorem w0I {r o:Nat}{k:Nat}{y:D}{K:Bool→Prop}:c0y k (.pt r o) y K=a0D (nilS k (.pt r o) y) K:=id rfl
theorem u0z {r:Nat}{k:Nat}{y:D}{K:Bool→Prop}:c0y k (.mp r) y K=a0D (nilS k (.mp r) y) K:=id rfl
theorem t0m {xs:List F}{k:Nat}{y:D}{K:Bool→Prop}:c0y k (.rf xs) y K=a0D (nilS k (.rf xs) y) K:=id rfl
theorem y0w {xs:List F}{n:Nat}:c0K (.f (.s xs (n+1)))=some (0,false):=id rfl
theorem u0C {r o n:Nat}:c0K (.sl r o (n+1))=some (0,false):=id rfl
theorem v0o {r o:Nat}:c0K (.pt r o)=some (1,false):=id rfl
theorem v0G {xs:List F}:c0K (.rf xs)=some (1,false):=id rfl
theorem w0H {r:Nat}:c0K (.mp r)=some (2,false):=id rfl
def subR (sz:Nat)(E:TypeId)(r off l h:Nat)(o:Option Row):Option D:=match o with
 | some (.data U xs)=>if l=h then some (.f (.s [] 0)) else if 0<xs.length∧some U=some E then some (.sl r (off+l*sz) (h-l)) else none
 | some (.froz U _)=>if l=h then some (.f (.s [] 0)) else if some U=some E then some (.sl r (off+l*sz) (h-l)) else none
 | _=>if l=h then some (.f (.s [] 0)) else none
theorem y0b {H:List Row}{sz:Nat}{E:TypeId}{r off n l h:Nat}:subS H sz E (.sl r off n) l h=subR sz E r off l h H[r]?:=by
 unfold subS j0e subR
 dsimp only
 split<;>split<;>simp only [*]
 all_goals first|(split<;>simp_all)|simp_all
theorem o0k {sz:Nat}{E U:TypeId}{r off l h:Nat}{xs:List F}:subR sz E r off l h (some (.data U xs))=if l=h then some (.f (.s [] 0)) else if 0<xs.length∧some U=some E then some (.sl r (off+l*sz) (h-l)) else none:=id rfl
theorem q0B {sz:Nat}{E U:TypeId}{r off l h:Nat}{xs:List F}:subR sz E r off l h (some (.froz U xs))=if l=h then some (.f (.s [] 0)) else if some U=some E then some (.sl r (off+l*sz) (h-l)) else none:=id rfl
theorem i0h {H:List Row}{sz:Nat}{E:TypeId}{xs:List F}{n l h:Nat}:subS H sz E (.f (.s xs n)) l h=some (.f (.s ((xs.drop (l*sz)).take ((h-l)*sz)) (h-l))):=id rfl
theorem c1o {H:List Row}{sz:Nat}{E:TypeId}{l h:Nat}:subS H sz E (.f .e) l h=some (.f .e):=id rfl
theorem t0s {H:List Row}{sz:Nat}{E:TypeId}{l h:Nat}:subS H sz E (.f (.v (.slice none 0 0))) l h=some (.f (.v (.slice none 0 0))):=id rfl
theorem a1l:mxS (.f (.v (.slice none 0 0))) = .f (.v (.slice none 0 0)):=id rfl
theorem f1R {xs:List F}{n:Nat}:mxS (.f (.s xs n)) = .f .e:=id rfl
theorem g1I:mxS (.f .e) = .f .e:=id rfl
theorem d1m {r o n:Nat}:mxS (.sl r o n) = .f .e:=id rfl
theorem q0o {cs:List D}:e0b cs []=some cs:=id rfl
theorem m0E {cs:List D}{off size:Nat}{d:D}{rest:List (Nat × Nat × D)}:e0b cs ((off,size,d) :: rest)=if b0E d=true∧d.cells.length=size∧off+size≤cs.length then e0b (putL off d.cells cs) rest else none:=id rfl
theorem m0C {P:Program}{H:List Row}:a0U P H []=some ([],[]):=id rfl
def y0a (x:F)(o:Option (List F × List (Nat × Row))):Option (List F × List (Nat × Row)):=match o with
 | some (xs,us)=>some (x :: xs,us)
 | none=>none
theorem u0P {P:Program}{H:List Row}{x:F}{ds:List D}:a0U P H (.f x :: ds)=y0a x (a0U P H ds):=by
 simp only [a0U,b0M,a0B,List.nil_append]
 cases a0U P H ds<;>rfl
theorem q0I {x:F}{xs:List F}{us:List (Nat × Row)}:y0a x (some (xs,us))=some (x :: xs,us):=id rfl
theorem h0Q {H:List Row}:a0B H []=H:=id rfl
theorem c1r:fs? []=some []:=id rfl
theorem z0I {x:F}{ds:List D}:fs? (.f x :: ds)=(fs? ds).map (x :: ·):=id rfl
theorem l0C {H:List Row}{sz:Nat}:b0Q H sz (.f (.v (.slice none 0 0)))=some (0,[]):=id rfl
theorem w0b {H:List Row}{sz:Nat}:b0Q H sz (.f .e)=some (0,[]):=id rfl
theorem v0j {H:List Row}{sz n:Nat}{xs:List F}:b0Q H sz (.f (.s xs n))=some (n,xs):=id rfl
def b1O (sz off n:Nat)(o:Option Row):Option (Nat × List F):=match o with
 | some (.data _ xs)=>if off+n*sz≤xs.length then some (n,(xs.drop off).take (n*sz)) else none
 | some (.froz _ xs)=>if off+n*sz≤xs.length then some (n,(xs.drop off).take (n*sz)) else none
 | some (.box _ ds)=>match fs? ds with
  | some xs=>if off+n*sz≤xs.length then some (n,(xs.drop off).take (n*sz)) else none
  | none=>none
 | _=>none
theorem p0c {H:List Row}{sz r off n:Nat}:b0Q H sz (.sl r off n)=b1O sz off n H[r]?:=id rfl
theorem j0c {sz off n:Nat}{T:TypeId}{xs:List F}:b1O sz off n (some (.data T xs))=if off+n*sz≤xs.length then some (n,(xs.drop off).take (n*sz)) else none:=id rfl
theorem j0U {sz off n:Nat}{T:TypeId}{xs:List F}:b1O sz off n (some (.froz T xs))=if off+n*sz≤xs.length then some (n,(xs.drop off).take (n*sz)) else none:=id rfl
theorem w0W {H:List Row}{T:TypeId}{sz b:Nat}{x:D}{K:D→List Row→Prop}:appS H T sz b (.f (.v (.slice none 0 0))) x K=a0D (b0Q H sz x) fun p=>Two (p.1=0) (K (.f (.v (.slice none 0 0))) H) (p.2.length=p.1*sz∧p.1*b≤most∧p.1≤most∧K (.sl H.length 0 p.1) (H++[.data T p.2])):=id rfl
theorem c1p {H:List Row}{T:TypeId}{sz b:Nat}{x:D}{K:D→List Row→Prop}:appS H T sz b (.f .e) x K=a0D (b0Q H sz x) fun p=>Two (p.1=0) (K (.f .e) H) (p.2.length=p.1*sz∧p.1*b≤most∧p.1≤most∧K (.sl H.length 0 p.1) (H++[.data T p.2])):=id rfl
def appR (H:List Row)(T:TypeId)(sz b r off n m:Nat)(ys:List F)(K:D→List Row→Prop)(o:Option Row):Prop:=match o with
 | some (.data U xs)=>U=T∧ys.length=m*sz∧xs.length=off+n*sz∧(n+m)*b≤most∧n+m≤most∧K (.sl H.length 0 (n+m)) (H.set r .dead++[.data T (xs.drop off++ys)])
 | _=>False
theorem a1v {H:List Row}{T:TypeId}{sz b:Nat}{x:D}{K:D→List Row→Prop}{r off n:Nat}:appS H T sz b (.sl r off n) x K=a0D (b0Q H sz x) fun p=>Two (p.1=0) (K (.sl r off n) H) (appR H T sz b r off n p.1 p.2 K H[r]?):=id rfl
theorem p0B {H:List Row}{T U:TypeId}{sz b r off n m:Nat}{ys xs:List F}{K:D→List Row→Prop}:appR H T sz b r off n m ys K (some (.data U xs))=(U=T∧ys.length=m*sz∧xs.length=off+n*sz∧(n+m)*b≤most∧n+m≤most∧K (.sl H.length 0 (n+m)) (H.set r .dead++[.data T (xs.drop off++ys)])):=id rfl
theorem r0t {H:List Row}:g0C H (.f (.v (.map none)))=some []:=id rfl
def f1y (o:Option Row):Option (List (Value × D)):=match o with
 | some (.map es)=>some es
 | _=>none
theorem o0M {H:List Row}{r:Nat}:g0C H (.mp r)=f1y H[r]?:=id rfl
theorem p0u {es:List (Value × D)}:f1y (some (.map es))=some es:=id rfl
theorem a1q {w:Bool}{p q:Prop}{b:Bool}:q0f (some (.f (.v (.bool b)))) w p q=if w then Bsel b p q else Bsel b q p:=id rfl
theorem z0d {w:Bool}{p q:Prop}{ds:List D}:q0f (some (.tp ds)) w p q=q:=id rfl
theorem Dint {n:Int}:D.int n = .f (.v (.int .i64 n)):=id rfl
theorem f1X {b:Bool}:D.bool b = .f (.v (.bool b)):=id rfl
theorem Dv {x:Value}:D.v x = .f (.v x):=id rfl
theorem d1Z:D.undef = .tp []:=id rfl
theorem y0R {N r:Nat}:ren [] N r=N+r:=by simp [ren]
theorem d1l {ρ:Nat→Nat}{x:F}:renE ρ (.f x) = .f x:=id rfl
theorem y0x {ρ:Nat→Nat}{r o n:Nat}:renE ρ (.sl r o n) = .sl (ρ r) o n:=id rfl
theorem a1N {ρ:Nat→Nat}{r o:Nat}:renE ρ (.pt r o) = .pt (ρ r) o:=id rfl
theorem b1B {ρ:Nat→Nat}{r:Nat}:renE ρ (.mp r) = .mp (ρ r):=id rfl
theorem y0N {ρ:Nat→Nat}{xs:List F}:renE ρ (.rf xs) = .rf xs:=id rfl
theorem y0V {ρ:Nat→Nat}{ds:List D}:renE ρ (.ag ds) = .ag (ds.map (renE ρ)):=by simp [renE,c0N]
theorem a1h {ρ:Nat→Nat}{ds:List D}:renE ρ (.tp ds) = .tp (ds.map (renE ρ)):=by simp [renE,c0N]
theorem z0P {ρ:Nat→Nat}{f:FuncId}{ds:List D}:renE ρ (.fn f ds) = .fn f (ds.map (renE ρ)):=by simp [renE,c0N]
theorem w0G {ρ:Nat→Nat}{T:TypeId}{ds:List D}:renR ρ (.box T ds) = .box T (ds.map (renE ρ)):=id rfl
theorem q0z {ρ:Nat→Nat}{T:TypeId}{xs:List F}:renR ρ (.data T xs) = .data T xs:=id rfl
theorem r0e {ρ:Nat→Nat}{T:TypeId}{xs:List F}:renR ρ (.froz T xs) = .froz T xs:=id rfl
theorem u0Q {ρ:Nat→Nat}{es:List (Value × D)}:renR ρ (.map es) = .map es:=id rfl
theorem o0p {ρ:Nat→Nat}:renR ρ .dead = .dead:=id rfl
theorem i0W {ρ:Nat→Nat}{rows H:List Row}:b0T ρ [] rows H=H:=by cases rows<;>rfl
theorem h0J {ρ:Nat→Nat}{r:Nat}{ι:List Nat}{row:Row}{rows H:List Row}:b0T ρ (r :: ι) (row :: rows) H=b0T ρ ι rows (H.set r (renR ρ row)):=id rfl
theorem r0Z {ts:List D}{t:Nat}{d:D}:putD! ts (some t) d=ts.set t d:=id rfl
theorem o0n {ts:List D}{d:D}:putD! ts none d=ts:=id rfl
theorem m0S:List.range 0=[]:=id rfl
theorem v0B {P:Program}{b own:List Nat}{n0 i:Nat}{log:List (List Nat × List Nat)}{ts:List D}{H:List Row}{dr:List Nat}{K:St→Prop}:wpDr P b n0 [] i own log ⟨ts,H,dr⟩ K=K ⟨ts,H,[]⟩:=id rfl
def d0f (P:Program)(b own:List Nat)(n0 i:Nat)(log:List (List Nat × List Nat))(o:SOp)(V:List Nat)(ts:List D)(H:List Row)(next:List Nat→List (List Nat × List Nat)→D→List Row→Prop):Prop :=
 a0S P ts (b0Z V H) o fun w d H'=>H'=(effS w V H.length d H').heap (b0Z V H) ∧
  Chk (chkS n0 own (b.getD i 0) V (o.vs.map (SV.ev ts)) (b0Z V H) (effS w V H.length d H') log) ∧
  next (own++(effS w V H.length d H').news.map fun _=>i) (log++[(V,(effS w V H.length d H').upd.map (·.1))]) d ((effS w V H.length d H').heap H)
@[congr] theorem drStep_congr {P:Program} {b own own':List Nat} {n0 i i':Nat} {log log':List (List Nat × List Nat)} {o:SOp} {V V':List Nat} {ts ts':List D} {H H':List Row} {next:List Nat→List (List Nat × List Nat)→D→List Row→Prop} (h1:own=own') (h5:log=log') (h2:V=V') (h3:ts=ts') (h4:H=H') (h6:i=i'):d0f P b own n0 i log o V ts H next=d0f P b own' n0 i' log' o V' ts' H' next:=by rw [h1,h2,h3,h4,h5,h6]
theorem a1D {P:Program}{b own:List Nat}{n0 i:Nat}{log:List (List Nat × List Nat)}{l:List SI}{ts:List D}{H:List Row}{dr:List Nat}{K:St→Prop}{t:Nat}{o:SOp}:wpDr P b n0 (.a t o :: l) i own log ⟨ts,H,dr⟩ K=d0f P b own n0 i log o (a0X ts H o) ts H fun own1 log1 d H1=>wpDr P b n0 l (i+1) own1 log1 ⟨ts.set t d,H1,[]⟩ K:=id rfl
theorem z0J {P:Program}{b own:List Nat}{n0 i:Nat}{log:List (List Nat × List Nat)}{l:List SI}{ts:List D}{H:List Row}{dr:List Nat}{K:St→Prop}{o:SOp}:wpDr P b n0 (.n o :: l) i own log ⟨ts,H,dr⟩ K=d0f P b own n0 i log o (a0X ts H o) ts H fun own1 log1 d H1=>wpDr P b n0 l (i+1) own1 log1 ⟨ts,H1,[]⟩ K:=id rfl
theorem y0j {P:Program}{b own:List Nat}{n0 i:Nat}{log:List (List Nat × List Nat)}{l:List SI}{ts:List D}{H:List Row}{dr:List Nat}{K:St→Prop}{d:Option Nat}{t:Nat}{w:Bool}{o:SOp}:wpDr P b n0 (.g d o t w :: l) i own log ⟨ts,H,dr⟩ K=q0f ts[t]? w (d0f P b own n0 i log o (a0X ts H o) ts H fun own1 log1 r H1=>wpDr P b n0 l (i+1) own1 log1 ⟨putD! ts d r,H1,[]⟩ K) (wpDr P b n0 l (i+1) own (log++[([],[])]) ⟨putD! ts d D.undef,H,[]⟩ K):=id rfl
theorem n0D {P:Program}{b own:List Nat}{n0 i:Nat}{log:List (List Nat × List Nat)}{o:SOp}{V:List Nat}{ts:List D}{H:List Row}{next:List Nat→List (List Nat × List Nat)→D→List Row→Prop}:d0f P b own n0 i log o V ts H next=a0S P ts (b0Z V H) o fun w d H1=>H1=(effS w V H.length d H1).heap (b0Z V H)∧Chk (chkS n0 own (b.getD i 0) V (o.vs.map (SV.ev ts)) (b0Z V H) (effS w V H.length d H1) log)∧next (own++(effS w V H.length d H1).news.map fun _=>i) (log++[(V,(effS w V H.length d H1).upd.map (·.1))]) d ((effS w V H.length d H1).heap H):=id rfl
theorem p0H {P:Program}{ts:List D}{H:List Row}{K:Bool→D→List Row→Prop}(x:SV):a0S P ts H (.mv x) K=((K false) (x.ev ts) H):=id rfl
theorem v0W {ts:List D}{H:List Row}(x:SV):a0X ts H (.mv x)=[]:=id rfl
theorem w0O (x:SV):SOp.turns (.mv x)=false:=id rfl
theorem i0t {P:Program}{ts:List D}{H:List Row}{K:Bool→D→List Row→Prop}(c a b:SV):a0S P ts H (.pick c a b) K=(k0s (c.ev ts) ((K false) (a.ev ts) H) ((K false) (b.ev ts) H)):=id rfl
theorem k0w {ts:List D}{H:List Row}(c a b:SV):a0X ts H (.pick c a b)=[]:=id rfl
theorem l0u (c a b:SV):SOp.turns (.pick c a b)=false:=id rfl
theorem g0z {P:Program}{ts:List D}{H:List Row}{K:Bool→D→List Row→Prop}(T:TypeId)(z:List D):a0S P ts H (.alloc T z) K=((K false) (.pt H.length 0) (H++[.box T z])):=id rfl
theorem k0J {ts:List D}{H:List Row}(T:TypeId)(z:List D):a0X ts H (.alloc T z)=[]:=id rfl
theorem i0D (T:TypeId)(z:List D):SOp.turns (.alloc T z)=false:=id rfl
theorem n0J {P:Program}{ts:List D}{H:List Row}{K:Bool→D→List Row→Prop}(T:TypeId)(x:SV):a0S P ts H (.box T x) K=(a0D (boxD (x.ev ts)) fun cs=>(K false) (.pt H.length 0) (H++[.box T cs])):=id rfl
theorem q0P {ts:List D}{H:List Row}(T:TypeId)(x:SV):a0X ts H (.box T x)=[]:=id rfl
theorem q0h (T:TypeId)(x:SV):SOp.turns (.box T x)=false:=id rfl
theorem g0k {P:Program}{ts:List D}{H:List Row}{K:Bool→D→List Row→Prop}(a:SV):a0S P ts H (.load1 a) K=(a0D (load1 H (a.ev ts)) fun d=>(K false) d H):=id rfl
theorem j0b {ts:List D}{H:List Row}(a:SV):a0X ts H (.load1 a)=dedN (b0a ([a.ev ts])):=id rfl
theorem j0z (a:SV):SOp.turns (.load1 a)=false:=id rfl
theorem g0i {P:Program}{ts:List D}{H:List Row}{K:Bool→D→List Row→Prop}(n:Nat)(a:SV):a0S P ts H (.loadA n a) K=(a0D (loadA H n (a.ev ts)) fun d=>(K false) d H):=id rfl
theorem j0y {ts:List D}{H:List Row}(n:Nat)(a:SV):a0X ts H (.loadA n a)=dedN (b0a ([a.ev ts])):=id rfl
theorem i0f (n:Nat)(a:SV):SOp.turns (.loadA n a)=false:=id rfl
theorem g0g {P:Program}{ts:List D}{H:List Row}{K:Bool→D→List Row→Prop}(n:Nat)(a x:SV):a0S P ts H (.store n a x) K=(a0D (c0o P H n (a.ev ts) (x.ev ts)) fun H'=>(K true) D.undef H'):=id rfl
theorem i0K {ts:List D}{H:List Row}(n:Nat)(a x:SV):a0X ts H (.store n a x)=dedN (b0a ([a.ev ts,x.ev ts])):=id rfl
theorem k0R (n:Nat)(a x:SV):SOp.turns (.store n a x)=true:=id rfl
theorem k0C {P:Program}{ts:List D}{H:List Row}{K:Bool→D→List Row→Prop}(x:SV):a0S P ts H (.nilc x) K=(a0D (s0V (x.ev ts)) fun d=>(K false) d H):=id rfl
theorem m0Y {ts:List D}{H:List Row}(x:SV):a0X ts H (.nilc x)=[]:=id rfl
theorem m0I (x:SV):SOp.turns (.nilc x)=false:=id rfl
theorem m0N {P:Program}{ts:List D}{H:List Row}{K:Bool→D→List Row→Prop}(o:Nat)(a:SV):a0S P ts H (.off o a) K=(a0D (offD o (a.ev ts)) fun d=>(K false) d H):=id rfl
theorem q0y {ts:List D}{H:List Row}(o:Nat)(a:SV):a0X ts H (.off o a)=[]:=id rfl
theorem o0s (o:Nat)(a:SV):SOp.turns (.off o a)=false:=id rfl
theorem i0z {P:Program}{ts:List D}{H:List Row}{K:Bool→D→List Row→Prop}(o:Nat)(x:SV):a0S P ts H (.fld1 o x) K=(a0D (fld1 o (x.ev ts)) fun d=>(K false) d H):=id rfl
theorem m0P {ts:List D}{H:List Row}(o:Nat)(x:SV):a0X ts H (.fld1 o x)=[]:=id rfl
theorem m0b (o:Nat)(x:SV):SOp.turns (.fld1 o x)=false:=id rfl
theorem j0D {P:Program}{ts:List D}{H:List Row}{K:Bool→D→List Row→Prop}(o n:Nat)(x:SV):a0S P ts H (.fldA o n x) K=(a0D (fldA o n (x.ev ts)) fun d=>(K false) d H):=id rfl
theorem n0I {ts:List D}{H:List Row}(o n:Nat)(x:SV):a0X ts H (.fldA o n x)=[]:=id rfl
theorem m0a (o n:Nat)(x:SV):SOp.turns (.fldA o n x)=false:=id rfl
theorem m0U {P:Program}{ts:List D}{H:List Row}{K:Bool→D→List Row→Prop}(sz:Nat)(x i:SV):a0S P ts H (.idx sz x i) K=(idxS sz (x.ev ts) (i.ev ts) fun d=>(K false) d H):=id rfl
theorem q0T {ts:List D}{H:List Row}(sz:Nat)(x i:SV):a0X ts H (.idx sz x i)=[]:=id rfl
theorem r0z (sz:Nat)(x i:SV):SOp.turns (.idx sz x i)=false:=id rfl
theorem l0N {P:Program}{ts:List D}{H:List Row}{K:Bool→D→List Row→Prop}(sz n:Nat)(x i:SV):a0S P ts H (.arr sz n x i) K=(arrS sz n (x.ev ts) (i.ev ts) fun d=>(K false) d H):=id rfl
theorem r0R {ts:List D}{H:List Row}(sz n:Nat)(x i:SV):a0X ts H (.arr sz n x i)=[]:=id rfl
theorem p0q (sz n:Nat)(x i:SV):SOp.turns (.arr sz n x i)=false:=id rfl
theorem l0J {P:Program}{ts:List D}{H:List Row}{K:Bool→D→List Row→Prop}(i:Nat)(x:SV):a0S P ts H (.ext i x) K=(a0D (extD i (x.ev ts)) fun d=>(K false) d H):=id rfl
theorem r0H {ts:List D}{H:List Row}(i:Nat)(x:SV):a0X ts H (.ext i x)=[]:=id rfl
theorem o0g (i:Nat)(x:SV):SOp.turns (.ext i x)=false:=id rfl
theorem l0I {P:Program}{ts:List D}{H:List Row}{K:Bool→D→List Row→Prop}(op:BinOp)(x y:SV):a0S P ts H (.bin op x y) K=(binS op (x.ev ts) (y.ev ts) fun d=>(K false) d H):=id rfl
theorem r0V {ts:List D}{H:List Row}(op:BinOp)(x y:SV):a0X ts H (.bin op x y)=[]:=id rfl
theorem q0C (op:BinOp)(x y:SV):SOp.turns (.bin op x y)=false:=id rfl
theorem i0R {P:Program}{ts:List D}{H:List Row}{K:Bool→D→List Row→Prop}(op:BinOp)(x y:SV):a0S P ts H (.binb op x y) K=(p0l op (x.ev ts) (y.ev ts) fun d=>(K false) d H):=id rfl
theorem l0c {ts:List D}{H:List Row}(op:BinOp)(x y:SV):a0X ts H (.binb op x y)=[]:=id rfl
theorem l0i (op:BinOp)(x y:SV):SOp.turns (.binb op x y)=false:=id rfl
theorem m0v {P:Program}{ts:List D}{H:List Row}{K:Bool→D→List Row→Prop}(eq:Bool)(ks:List Nat)(x y:SV):a0S P ts H (.aeq eq ks x y) K=(aeqS eq ks (x.ev ts) (y.ev ts) fun d=>(K false) d H):=id rfl
theorem o0f {ts:List D}{H:List Row}(eq:Bool)(ks:List Nat)(x y:SV):a0X ts H (.aeq eq ks x y)=[]:=id rfl
theorem p0T (eq:Bool)(ks:List Nat)(x y:SV):SOp.turns (.aeq eq ks x y)=false:=id rfl
theorem i0j {P:Program}{ts:List D}{H:List Row}{K:Bool→D→List Row→Prop}(x:SV):a0S P ts H (.unot x) K=(a0D (notS (x.ev ts)) fun d=>(K false) d H):=id rfl
theorem n0K {ts:List D}{H:List Row}(x:SV):a0X ts H (.unot x)=[]:=id rfl
theorem m0d (x:SV):SOp.turns (.unot x)=false:=id rfl
theorem o0j {P:Program}{ts:List D}{H:List Row}{K:Bool→D→List Row→Prop}(f:FuncId)(caps:List SV):a0S P ts H (.fn f caps) K=((K false) (.fn f (caps.map (SV.ev ts))) H):=id rfl
theorem w0Z {ts:List D}{H:List Row}(f:FuncId)(caps:List SV):a0X ts H (.fn f caps)=[]:=id rfl
theorem u0S (f:FuncId)(caps:List SV):SOp.turns (.fn f caps)=false:=id rfl
theorem h0B {P:Program}{ts:List D}{H:List Row}{K:Bool→D→List Row→Prop}  : a0S P ts H (.mkmap) K=((K false) (.mp H.length) (H++[.map []])):=id rfl
theorem i0H {ts:List D}{H:List Row}  : a0X ts H (.mkmap)=[]:=id rfl
theorem j0Q  : SOp.turns (.mkmap)=false:=id rfl
theorem e0g {P:Program}{ts:List D}{H:List Row}{K:Bool→D→List Row→Prop}(T:TypeId)(sz b:Nat)(z:List F)(l c:SV):a0S P ts H (.mkslice T sz b z l c) K=(a0D (intOf? (l.ev ts)) fun a=>a0D (intOf? (c.ev ts)) fun c=>((0<a∨c=0)∧0≤a∧a≤c∧b*c≤140737488355328∧c.toNat*sz≤16777216)∧(K false) (.sl H.length 0 a.toNat) (H++[.data T ((List.range (a.toNat*sz)).map fun j=>z.getD (j % sz) (.v Go.undef))])):=id rfl
theorem f0Q {ts:List D}{H:List Row}(T:TypeId)(sz b:Nat)(z:List F)(l c:SV):a0X ts H (.mkslice T sz b z l c)=[]:=id rfl
theorem f0I (T:TypeId)(sz b:Nat)(z:List F)(l c:SV):SOp.turns (.mkslice T sz b z l c)=false:=id rfl
theorem l0Q {P:Program}{ts:List D}{H:List Row}{K:Bool→D→List Row→Prop}(z:List D)(parts:List (Nat × Nat × SV)):a0S P ts H (.bld z parts) K=(a0D (e0b z (parts.map fun p=>(p.1,p.2.1,p.2.2.ev ts))) fun ds=>(K false) (.ag ds) H):=id rfl
theorem r0Y {ts:List D}{H:List Row}(z:List D)(parts:List (Nat × Nat × SV)):a0X ts H (.bld z parts)=[]:=id rfl
theorem r0b (z:List D)(parts:List (Nat × Nat × SV)):SOp.turns (.bld z parts)=false:=id rfl
theorem n0F {P:Program}{ts:List D}{H:List Row}{K:Bool→D→List Row→Prop}(T:TypeId)(sz len:Nat)(z:List D)(parts:List (Nat × SV)):a0S P ts H (.bsl T sz len z parts) K=(a0D (e0b z (parts.map fun p=>(p.1,sz,p.2.ev ts))) fun ds=>a0D (a0U P H ds) fun xu=>(K true) (.sl H.length 0 len) (a0B H xu.2++[.data T xu.1])):=id rfl
theorem r0J {ts:List D}{H:List Row}(T:TypeId)(sz len:Nat)(z:List D)(parts:List (Nat × SV)):a0X ts H (.bsl T sz len z parts)=dedN (b0a ((parts.map fun p=>p.2).map (SV.ev ts))):=id rfl
theorem q0c (T:TypeId)(sz len:Nat)(z:List D)(parts:List (Nat × SV)):SOp.turns (.bsl T sz len z parts)=true:=id rfl
theorem l0Z {P:Program}{ts:List D}{H:List Row}{K:Bool→D→List Row→Prop}(T:TypeId)(sz b:Nat)(s x:SV):a0S P ts H (.app T sz b s x) K=(appS H T sz b (s.ev ts) (x.ev ts) (K true)):=id rfl
theorem p0R {ts:List D}{H:List Row}(T:TypeId)(sz b:Nat)(s x:SV):a0X ts H (.app T sz b s x)=dedN (b0a ([s.ev ts,x.ev ts])):=id rfl
theorem p0n (T:TypeId)(sz b:Nat)(s x:SV):SOp.turns (.app T sz b s x)=true:=id rfl
theorem k0N {P:Program}{ts:List D}{H:List Row}{K:Bool→D→List Row→Prop}(x:SV):a0S P ts H (.slen x) K=(a0D (slcS (x.ev ts)) fun n=>(K false) (D.int n) H):=id rfl
theorem m0k {ts:List D}{H:List Row}(x:SV):a0X ts H (.slen x)=[]:=id rfl
theorem l0W (x:SV):SOp.turns (.slen x)=false:=id rfl
theorem i0r {P:Program}{ts:List D}{H:List Row}{K:Bool→D→List Row→Prop}(x:SV):a0S P ts H (.mlen x) K=(a0D (g0C H (x.ev ts)) fun es=>(K false) (D.int es.length) H):=id rfl
theorem m0g {ts:List D}{H:List Row}(x:SV):a0X ts H (.mlen x)=dedN (b0a ([x.ev ts])):=id rfl
theorem l0M (x:SV):SOp.turns (.mlen x)=false:=id rfl
theorem i0b {P:Program}{ts:List D}{H:List Row}{K:Bool→D→List Row→Prop}(k:IntKind)(x:SV):a0S P ts H (.conv k x) K=(a0D (y0G k (x.ev ts)) fun d=>(K false) d H):=id rfl
theorem l0E {ts:List D}{H:List Row}(k:IntKind)(x:SV):a0X ts H (.conv k x)=[]:=id rfl
theorem m0n (k:IntKind)(x:SV):SOp.turns (.conv k x)=false:=id rfl
theorem l0r {P:Program}{ts:List D}{H:List Row}{K:Bool→D→List Row→Prop}(x:SV):a0S P ts H (.s2b x) K=(a0D (strOf? (x.ev ts)) fun s=>s.size≤most∧(K false) (.f (.s (s.data.toList.map fun b=>.v (.int .u8 b.toNat)) s.size)) H):=id rfl
theorem r0c {ts:List D}{H:List Row}(x:SV):a0X ts H (.s2b x)=[]:=id rfl
theorem q0R (x:SV):SOp.turns (.s2b x)=false:=id rfl
theorem m0Z {P:Program}{ts:List D}{H:List Row}{K:Bool→D→List Row→Prop}(x:SV):a0S P ts H (.b2s x) K=(a0D (b0Q H 1 (x.ev ts)) fun p=>a0D (bytesOf? (p.2.map .f)) fun l=>p.2.length=p.1∧(K false) (.f (.v (.string ⟨l.toArray⟩))) H):=id rfl
theorem q0O {ts:List D}{H:List Row}(x:SV):a0X ts H (.b2s x)=dedN (b0a ([x.ev ts])):=id rfl
theorem r0i (x:SV):SOp.turns (.b2s x)=false:=id rfl
theorem f0P {P:Program}{ts:List D}{H:List Row}{K:Bool→D→List Row→Prop}(x:SV):a0S P ts H (.strlen x) K=(a0D (strOf? (x.ev ts)) fun s=>(K false) (D.int s.size) H):=id rfl
theorem g0h {ts:List D}{H:List Row}(x:SV):a0X ts H (.strlen x)=[]:=id rfl
theorem g0r (x:SV):SOp.turns (.strlen x)=false:=id rfl
theorem k0V {P:Program}{ts:List D}{H:List Row}{K:Bool→D→List Row→Prop}(sz n:Nat)(x i:SV):a0S P ts H (.aidx sz n x i) K=(x0T sz n (x.ev ts) (i.ev ts) fun d=>(K false) d H):=id rfl
theorem l0S {ts:List D}{H:List Row}(sz n:Nat)(x i:SV):a0X ts H (.aidx sz n x i)=[]:=id rfl
theorem n0M (sz n:Nat)(x i:SV):SOp.turns (.aidx sz n x i)=false:=id rfl
theorem i0G {P:Program}{ts:List D}{H:List Row}{K:Bool→D→List Row→Prop}(x i:SV):a0S P ts H (.sidx x i) K=(a0D (strOf? (x.ev ts)) fun s=>a0D (intOf? (i.ev ts)) fun i=>a0D (if 0≤i then s.data.toList[i.toNat]? else none) fun b=>(K false) (.f (.v (.int .u8 b.toNat))) H):=id rfl
theorem l0n {ts:List D}{H:List Row}(x i:SV):a0X ts H (.sidx x i)=[]:=id rfl
theorem k0y (x i:SV):SOp.turns (.sidx x i)=false:=id rfl
theorem j0p {P:Program}{ts:List D}{H:List Row}{K:Bool→D→List Row→Prop}(x:SV)(lo hi:Option SV):a0S P ts H (.ssub x lo hi) K=(a0D (z0F (x.ev ts) (lo.map (SV.ev ts)) (hi.map (SV.ev ts))) fun d=>(K false) d H):=id rfl
theorem m0O {ts:List D}{H:List Row}(x:SV)(lo hi:Option SV):a0X ts H (.ssub x lo hi)=[]:=id rfl
theorem l0b (x:SV)(lo hi:Option SV):SOp.turns (.ssub x lo hi)=false:=id rfl
theorem i0s {P:Program}{ts:List D}{H:List Row}{K:Bool→D→List Row→Prop}(ok:Bool)(K0:TypeId)(z:D)(m k:SV):a0S P ts H (.look ok K0 z m k) K=(a0D (t0S P H ok K0 z (m.ev ts) (k.ev ts)) fun d=>(K false) d H):=id rfl
theorem k0u {ts:List D}{H:List Row}(ok:Bool)(K0:TypeId)(z:D)(m k:SV):a0X ts H (.look ok K0 z m k)=dedN (b0a ([m.ev ts,k.ev ts])):=id rfl
theorem l0q (ok:Bool)(K0:TypeId)(z:D)(m k:SV):SOp.turns (.look ok K0 z m k)=false:=id rfl
theorem j0G {P:Program}{ts:List D}{H:List Row}{K:Bool→D→List Row→Prop}(K0:TypeId)(m k x:SV):a0S P ts H (.mput K0 m k x) K=(a0D (p0I P H K0 (m.ev ts) (k.ev ts) (x.ev ts)) fun H'=>(K true) D.undef H'):=id rfl
theorem m0A {ts:List D}{H:List Row}(K0:TypeId)(m k x:SV):a0X ts H (.mput K0 m k x)=dedN (b0a ([m.ev ts,k.ev ts,x.ev ts])):=id rfl
theorem m0m (K0:TypeId)(m k x:SV):SOp.turns (.mput K0 m k x)=true:=id rfl
theorem i0c {P:Program}{ts:List D}{H:List Row}{K:Bool→D→List Row→Prop}(K0:TypeId)(m k:SV):a0S P ts H (.mdel K0 m k) K=(a0D (y0P P H K0 (m.ev ts) (k.ev ts)) fun H'=>(K true) (.tp []) H'):=id rfl
theorem m0y {ts:List D}{H:List Row}(K0:TypeId)(m k:SV):a0X ts H (.mdel K0 m k)=dedN (b0a ([m.ev ts,k.ev ts])):=id rfl
theorem m0X (K0:TypeId)(m k:SV):SOp.turns (.mdel K0 m k)=true:=id rfl
theorem n0G {P:Program}{ts:List D}{H:List Row}{K:Bool→D→List Row→Prop}(T:TypeId)(x:SV):a0S P ts H (.clr T x) K=(a0D (g0m P H T (x.ev ts)) fun H'=>(K true) (.tp []) H'):=id rfl
theorem o0i {ts:List D}{H:List Row}(T:TypeId)(x:SV):a0X ts H (.clr T x)=dedN (b0a ([x.ev ts])):=id rfl
theorem p0S (T:TypeId)(x:SV):SOp.turns (.clr T x)=true:=id rfl
theorem p0m {P:Program}{ts:List D}{H:List Row}{K:Bool→D→List Row→Prop}(mx:Bool)(x y:SV):a0S P ts H (.mm mx x y) K=(a0D (intOf? (x.ev ts)) fun a=>a0D (intOf? (y.ev ts)) fun b=>(K false) (D.int (if mx then max a b else min a b)) H):=id rfl
theorem v0X {ts:List D}{H:List Row}(mx:Bool)(x y:SV):a0X ts H (.mm mx x y)=[]:=id rfl
theorem v0R (mx:Bool)(x y:SV):SOp.turns (.mm mx x y)=false:=id rfl
theorem i0w {P:Program}{ts:List D}{H:List Row}{K:Bool→D→List Row→Prop}(f:SV)(args:List SV):a0S P ts H (.call f args) K=a0e P (f.ev ts) (args.map (SV.ev ts)) H K:=id rfl
theorem m0R {ts:List D}{H:List Row}(f:SV)(args:List SV):a0X ts H (.call f args)=dedN (lvl H (lvl H (lvl H (b0a (args.map (SV.ev ts))++(f.ev ts).refs)))):=id rfl
theorem l0F (f:SV)(args:List SV):SOp.turns (.call f args)=true:=id rfl
theorem h0x {P:Program}{ts:List D}{H:List Row}{K:Bool→D→List Row→Prop}(sz:Nat)(E:TypeId)(x:SV):a0S P ts H (.sub sz E x none none none) K=(a0D (slcS (x.ev ts)) fun n=>(0≤(0:Int)∧(0:Int)≤n∧(n:Int)≤n)∧a0D (subS H sz E (x.ev ts) (0:Int).toNat (n:Int).toNat) fun d=>(K false) d H):=id rfl
theorem l0k {ts:List D}{H:List Row}(sz:Nat)(E:TypeId)(x:SV):a0X ts H (.sub sz E x none none none)=dedN (b0a ([x.ev ts])):=id rfl
theorem l0v (sz:Nat)(E:TypeId)(x:SV):SOp.turns (.sub sz E x none none none)=false:=id rfl
theorem i0a {P:Program}{ts:List D}{H:List Row}{K:Bool→D→List Row→Prop}(sz:Nat)(E:TypeId)(x l:SV):a0S P ts H (.sub sz E x (some l) none none) K=(a0D (slcS (x.ev ts)) fun n=>a0D (intOf? (l.ev ts)) fun l=>(0≤l∧l≤n∧(n:Int)≤n)∧a0D (subS H sz E (x.ev ts) l.toNat (n:Int).toNat) fun d=>(K false) d H):=id rfl
theorem l0O {ts:List D}{H:List Row}(sz:Nat)(E:TypeId)(x l:SV):a0X ts H (.sub sz E x (some l) none none)=dedN (b0a ([x.ev ts,l.ev ts])):=id rfl
theorem n0B (sz:Nat)(E:TypeId)(x l:SV):SOp.turns (.sub sz E x (some l) none none)=false:=id rfl
theorem h0r {P:Program}{ts:List D}{H:List Row}{K:Bool→D→List Row→Prop}(sz:Nat)(E:TypeId)(x h:SV):a0S P ts H (.sub sz E x none (some h) none) K=(a0D (slcS (x.ev ts)) fun n=>a0D (intOf? (h.ev ts)) fun h=>(0≤(0:Int)∧0≤h∧h≤n)∧a0D (subS H sz E (x.ev ts) (0:Int).toNat h.toNat) fun d=>(K false) d H):=id rfl
theorem m0s {ts:List D}{H:List Row}(sz:Nat)(E:TypeId)(x h:SV):a0X ts H (.sub sz E x none (some h) none)=dedN (b0a ([x.ev ts,h.ev ts])):=id rfl
theorem l0g (sz:Nat)(E:TypeId)(x h:SV):SOp.turns (.sub sz E x none (some h) none)=false:=id rfl
theorem h0K {P:Program}{ts:List D}{H:List Row}{K:Bool→D→List Row→Prop}(sz:Nat)(E:TypeId)(x l h:SV):a0S P ts H (.sub sz E x (some l) (some h) none) K=(a0D (slcS (x.ev ts)) fun n=>a0D (intOf? (l.ev ts)) fun l=>a0D (intOf? (h.ev ts)) fun h=>(0≤l∧l≤h∧h≤n)∧a0D (subS H sz E (x.ev ts) l.toNat h.toNat) fun d=>(K false) d H):=id rfl
theorem i0N {ts:List D}{H:List Row}(sz:Nat)(E:TypeId)(x l h:SV):a0X ts H (.sub sz E x (some l) (some h) none)=dedN (b0a ([x.ev ts,l.ev ts,h.ev ts])):=id rfl
theorem k0F (sz:Nat)(E:TypeId)(x l h:SV):SOp.turns (.sub sz E x (some l) (some h) none)=false:=id rfl
theorem j0C {P:Program}{ts:List D}{H:List Row}{K:Bool→D→List Row→Prop}(sz:Nat)(E:TypeId)(x l h m:SV):a0S P ts H (.sub sz E x (some l) (some h) (some m)) K=(a0D (slcS (x.ev ts)) fun n=>a0D (intOf? (l.ev ts)) fun l=>a0D (intOf? (h.ev ts)) fun h=>(0≤l∧l≤h∧h≤n)∧(intOf? (m.ev ts)=some l∧l=h∧(some h).isSome=true)∧(K false) (mxS (x.ev ts)) H):=id rfl
theorem m0L {ts:List D}{H:List Row}(sz:Nat)(E:TypeId)(x l h m:SV):a0X ts H (.sub sz E x (some l) (some h) (some m))=dedN (b0a ([x.ev ts,l.ev ts,h.ev ts,m.ev ts])):=id rfl
theorem m0r (sz:Nat)(E:TypeId)(x l h m:SV):SOp.turns (.sub sz E x (some l) (some h) (some m))=false:=id rfl
theorem h0O {P:Program}{ts:List D}{H:List Row}{K:Bool→D→List Row→Prop}(sz:Nat)(E:TypeId)(x h m:SV):a0S P ts H (.sub sz E x none (some h) (some m)) K=(a0D (slcS (x.ev ts)) fun n=>a0D (intOf? (h.ev ts)) fun h=>(0≤(0:Int)∧0≤h∧h≤n)∧(intOf? (m.ev ts)=some 0∧(0:Int)=h∧(some h).isSome=true)∧(K false) (mxS (x.ev ts)) H):=id rfl
theorem i0S {ts:List D}{H:List Row}(sz:Nat)(E:TypeId)(x h m:SV):a0X ts H (.sub sz E x none (some h) (some m))=dedN (b0a ([x.ev ts,h.ev ts,m.ev ts])):=id rfl
theorem j0i (sz:Nat)(E:TypeId)(x h m:SV):SOp.turns (.sub sz E x none (some h) (some m))=false:=id rfl
def hasB:List Nat→Nat→Bool
 | [],_=>false
 | x :: xs,i=>if x=i then true else hasB xs i
theorem s0f:∀ (V:List Nat) (i:Nat),hasB V i=V.contains i
 | [],_=>rfl
 | x :: xs,i=>by
  simp only [hasB,List.contains_cons,s0f xs i]
  by_cases h:x=i
  ·simp [h]
  ·simp [h,Ne.symm h]
def msk (V:List Nat):Nat→List Row→List Row
 | _,[]=>[]
 | i,r :: H=>(if hasB V i=true then r else .dead) :: msk V (i+1) H
theorem c1s (V:List Nat):∀ (H:List Row) (k:Nat),((H.zipIdx k).map fun p=>if V.contains p.2 then p.1 else .dead)=msk V k H
 | [],_=>rfl
 | r :: H,k=>by
  simp only [List.zipIdx_cons,List.map_cons,msk,s0f]
  rw [c1s V H (k+1)]
theorem q0V {V:List Nat}{H:List Row}:b0Z V H=msk V 0 H:=c1s V H 0
theorem b1N {V:List Nat}{i:Nat}:msk V i []=[]:=id rfl
theorem w0d {V:List Nat}{i:Nat}{r:Row}{H:List Row}:msk V i (r :: H)=(if hasB V i=true then r else .dead) :: msk V (i+1) H:=id rfl
theorem w0S {i:Nat}:hasB [] i=false:=id rfl
theorem p0Z {x i:Nat}{xs:List Nat}:hasB (x :: xs) i=if x=i then true else hasB xs i:=id rfl
theorem w0B:dedN []=[]:=id rfl
theorem q0H {x:Nat}{xs:List Nat}:dedN (x :: xs)=if hasB xs x=true then dedN xs else x :: dedN xs:=by rw [s0f];rfl
theorem r0r:b0a []=[]:=id rfl
theorem m0D {d:D}{ds:List D}:b0a (d :: ds)=d.refs++b0a ds:=id rfl
theorem d1r {x:F}:D.refs (.f x)=[]:=id rfl
theorem y0W {r o n:Nat}:D.refs (.sl r o n)=[r]:=id rfl
theorem a1e {r o:Nat}:D.refs (.pt r o)=[r]:=id rfl
theorem x0t {r:Nat}:D.refs (.mp r)=[r]:=id rfl
theorem y0c {xs:List F}:D.refs (.rf xs)=[]:=id rfl
theorem r0a:D.refs .junk=[]:=id rfl
theorem n0a (ds:List D):D.refs.go ds=b0a ds:=by
 induction ds with
 | nil=>rfl
 | cons d ds ih=>simp only [D.refs.go,b0a,ih]
theorem b1S {ds:List D}:D.refs (.ag ds)=b0a ds:=by rw [D.refs,n0a]
theorem z0w {ds:List D}:D.refs (.tp ds)=b0a ds:=by rw [D.refs,n0a]
theorem z0c {f:FuncId}{ds:List D}:D.refs (.fn f ds)=b0a ds:=by rw [D.refs,n0a]
theorem y0L {H:List Row}:lvl H []=[]:=id rfl
theorem u0o {H:List Row}{r:Nat}{rs:List Nat}:lvl H (r :: rs)=r :: (d0j H[r]?++lvl H rs):=id rfl
theorem i0Q {T:TypeId}{ds:List D}:d0j (some (.box T ds))=b0a ds:=by
 simp only [d0j,Row.refs]
 induction ds with
 | nil=>rfl
 | cons d ds ih=>simp only [List.flatMap_cons,b0a,ih]
theorem g0t {T:TypeId}{xs:List F}:d0j (some (.data T xs))=[]:=id rfl
theorem g0u {T:TypeId}{xs:List F}:d0j (some (.froz T xs))=[]:=id rfl
theorem k0A {es:List (Value × D)}:d0j (some (.map es))=[]:=id rfl
theorem h0V  : d0j (some (.dead))=[]:=id rfl
theorem d1k {V:List Nat}{n:Nat}{d:D}{H1:List Row}:effS false V n d H1=⟨d,[],H1.drop n⟩:=id rfl
theorem d1W {V:List Nat}{n:Nat}{d:D}{H1:List Row}:effS true V n d H1=⟨d,V.map fun r=>(r,H1.getD r .dead),H1.drop n⟩:=id rfl
theorem b1F {d:D}{u:List (Nat × Row)}{n H:List Row}:(⟨d,u,n⟩:Eff).heap H=a0B H u++n:=id rfl
theorem f0A {H:List Row}{i:Nat}{r:Row}{us:List (Nat × Row)}:a0B H ((i,r) :: us)=a0B (H.set i r) us:=id rfl
theorem c1q {α:Type}{a d:α}{l:List α}:(a :: l).getD 0 d=a:=id rfl
theorem d1a {α:Type}{a d:α}{l:List α}{n:Nat}:(a :: l).getD (n+1) d=l.getD n d:=id rfl
section
variable {P:Program}
theorem e0X {g:FuncId}{caps args args0:List D}{H H0 H1:List Row}{d0:D}{K:Bool→D→List Row→Prop}(h:Con P g args0 H0 fun d H'=>d=d0∧H'=H1)(ι:List Nat)(hb:k0d ι H.length H0 args0=true)(ha:args++caps=args0.map (renE (ren ι H.length)))
  (hr:(ι.map fun r=>H.getD r .dead)=H0.map (renR (ren ι H.length)))
  (hk:K true (renE (ren ι H.length) d0) (b0T (ren ι H.length) ι H1 H++(H1.drop H0.length).map (renR (ren ι H.length)))):a0e P (.fn g caps) args H K:=by
 obtain ⟨g',caps',e,hc⟩:=a0F (K:=fun d H'=>d=renE (ren ι H.length) d0∧H'=b0T (ren ι H.length) ι H1 H++(H1.drop H0.length).map (renR (ren ι H.length))) h ι hb ha hr (fun d H' ⟨h1,h2⟩=>by rw [h1,h2];exact ⟨rfl,rfl⟩)
 injection e with e1 e2
 subst e1;subst e2
 exact ⟨true,g,caps,_,_,rfl,hc,hk⟩
theorem d0V {g:FuncId}{caps args args0:List D}{H H1:List Row}{d0:D}{K:Bool→D→List Row→Prop}(h:Con P g args0 [] fun d H'=>d=d0∧H'=H1)(hv:Vws H (args++caps) args0)(hp:PlainD d0∧∀ row∈H1,l0G row)
  (hk:K false (renE (ren [] H.length) d0) (H++H1.map (renR (ren [] H.length)))):a0e P (.fn g caps) args H K:=by
 obtain ⟨g',caps',e,hc⟩:=a0W (K:=fun d H'=>d=renE (ren [] H.length) d0∧H'=H++H1.map (renR (ren [] H.length))) h hv (fun d H' ⟨h1,h2⟩=>by rw [h1,h2];exact hp) (fun d H' ⟨h1,h2⟩=>by rw [h1,h2];exact ⟨rfl,rfl⟩)
 injection e with e1 e2
 subst e1;subst e2
 exact ⟨false,g,caps,_,_,rfl,hc,hk⟩
end
def w0Y (H:List Row)(r off:Nat)(x:F)(o:Option Row):Option (List Row):=match o with
 | some (.box U xs)=>if off+1≤xs.length then some (H.set r (.box U (putL off [.f x] xs))) else none
 | some (.data U xs)=>if off+1≤xs.length then some (H.set r (.data U (xs.set off x))) else none
 | _=>none
theorem m0w {H:List Row}{r off:Nat}{x:F}{U:TypeId}{xs:List D}:w0Y H r off x (some (.box U xs))=if off+1≤xs.length then some (H.set r (.box U (putL off [.f x] xs))) else none:=id rfl
theorem j0l {H:List Row}{r off:Nat}{x:F}{U:TypeId}{xs:List F}:w0Y H r off x (some (.data U xs))=if off+1≤xs.length then some (H.set r (.data U (xs.set off x))) else none:=id rfl
theorem r0O {P:Program}{H:List Row}{r off:Nat}{x:F}:c0o P H 1 (.pt r off) (.f x)=w0Y H r off x H[r]?:=by
 rw [c0J]
 generalize hr:H[r]?=o
 cases o with
 | none=>rfl
 | some row =>
  cases row with
  | data U xs=>rw [o0A hr];rfl
  | box U xs=>simp [c0O,w0Y,b0E,D.cells]
  | _=>rfl
theorem u0H {P:Program}{H:List Row}{n r off:Nat}{x:D}:c0o P H (n+2) (.pt r off) x=c0O P H (n+2) r off x H[r]?:=c0J
theorem l0U {P:Program}{H:List Row}{r off a b c:Nat}:c0o P H 1 (.pt r off) (.sl a b c)=c0O P H 1 r off (.sl a b c) H[r]?:=c0J
theorem n0C {P:Program}{H:List Row}{r off a b:Nat}:c0o P H 1 (.pt r off) (.pt a b)=c0O P H 1 r off (.pt a b) H[r]?:=c0J
theorem l0j {P:Program}{H:List Row}{r off a:Nat}:c0o P H 1 (.pt r off) (.mp a)=c0O P H 1 r off (.mp a) H[r]?:=c0J
theorem m0V {P:Program}{H:List Row}{r off:Nat}{a:List F}:c0o P H 1 (.pt r off) (.rf a)=c0O P H 1 r off (.rf a) H[r]?:=c0J
theorem m0t {P:Program}{H:List Row}{r off:Nat}{f:FuncId}{a:List D}:c0o P H 1 (.pt r off) (.fn f a)=c0O P H 1 r off (.fn f a) H[r]?:=c0J
end Go.Proofs.YthjgmldnegaaiaaGreatDoor.Mir
namespace Go.Proofs.YthjgmldnegaaiaaGreatDoor.Mir
open Go Go.RowKit
theorem LD:(((((((type_of% @W_mv∧type_of% @c1y)∧(type_of% @y0i∧type_of% @f1a))∧((type_of% @x0v∧type_of% @a1u)∧(type_of% @x0y∧(type_of% @d1h∧type_of% @f1K))))∧(((type_of% @d1u∧type_of% @d1R)∧(type_of% @f1b∧type_of% @f1Q))∧((type_of% @f1z∧type_of% @f1U)∧(type_of% @c1z∧(type_of% @g1D∧type_of% @c1t)))))∧((((type_of% @d1f∧type_of% @W_fn)∧(type_of% @y0C∧type_of% @r0E))∧((type_of% @f1Z∧type_of% @g1H)∧(type_of% @f1J∧(type_of% @d1q∧type_of% @d1D))))∧(((type_of% @d1t∧type_of% @f1n)∧(type_of% @f1Y∧type_of% @v0c))∧((type_of% @c1u∧type_of% @d1w)∧(type_of% @d1y∧(type_of% @c1n∧type_of% @d1T))))))∧(((((type_of% @d1d∧type_of% @f1O)∧(type_of% @W_mm∧type_of% @c1w))∧((type_of% @d1L∧type_of% @d1x)∧(type_of% @d1c∧(type_of% @z0o∧type_of% @d1B))))∧(((type_of% @b1W∧type_of% @u0s)∧(type_of% @t0v∧type_of% @a1O))∧((type_of% @u0T∧type_of% @z0t)∧(type_of% @w0i∧(type_of% @v0y∧type_of% @v0P)))))∧((((type_of% @z0H∧type_of% @w0E)∧(type_of% @v0s∧type_of% @v0w))∧((type_of% @u0q∧type_of% @w0f)∧(type_of% @t0k∧(type_of% @v0E∧type_of% @v0n))))∧(((type_of% @w0U∧type_of% @t0r)∧(type_of% @w0h∧type_of% @t0o))∧((type_of% @v0N∧type_of% @u0n)∧(type_of% @v0Z∧(type_of% @w0F∧type_of% @v0D)))))))∧((((((type_of% @t0f∧type_of% @v0T)∧(type_of% @p0w∧type_of% @r0v))∧((type_of% @a1J∧type_of% @d1X)∧(type_of% @y0n∧(type_of% @y0U∧type_of% @y0X))))∧(((type_of% @z0b∧type_of% @w0Q)∧(type_of% @u0g∧type_of% @w0g))∧((type_of% @u0V∧type_of% @w0I)∧(type_of% @u0z∧(type_of% @t0m∧type_of% @w0W)))))∧((((type_of% @c1p∧type_of% @a1v)∧(type_of% @p0B∧type_of% @a1q))∧((type_of% @z0d∧type_of% @p0H)∧(type_of% @i0t∧(type_of% @g0z∧type_of% @n0J))))∧(((type_of% @g0k∧type_of% @g0i)∧(type_of% @g0g∧type_of% @k0C))∧((type_of% @m0N∧type_of% @i0z)∧(type_of% @j0D∧(type_of% @m0U∧type_of% @l0N))))))∧(((((type_of% @l0J∧type_of% @l0I)∧(type_of% @i0R∧type_of% @m0v))∧((type_of% @i0j∧type_of% @o0j)∧(type_of% @h0B∧(type_of% @e0g∧type_of% @l0Q))))∧(((type_of% @n0F∧type_of% @l0Z)∧(type_of% @k0N∧type_of% @i0r))∧((type_of% @i0b∧type_of% @l0r)∧(type_of% @m0Z∧(type_of% @f0P∧type_of% @k0V)))))∧((((type_of% @i0G∧type_of% @j0p)∧(type_of% @i0s∧type_of% @j0G))∧((type_of% @i0c∧type_of% @n0G)∧(type_of% @p0m∧(type_of% @i0w∧type_of% @h0x))))∧(((type_of% @i0a∧type_of% @h0r)∧(type_of% @h0K∧(type_of% @j0C∧type_of% @h0O)))∧((type_of% @c0e∧type_of% @b0v)∧(type_of% @c0Z∧(type_of% @t0w∧type_of% @p0G)))))))):=(.intro (.intro (.intro (.intro (.intro (.intro (.intro @W_mv @c1y) (.intro @y0i @f1a)) (.intro (.intro @x0v @a1u) (.intro @x0y (.intro @d1h @f1K)))) (.intro (.intro (.intro @d1u @d1R) (.intro @f1b @f1Q)) (.intro (.intro @f1z @f1U) (.intro @c1z (.intro @g1D @c1t))))) (.intro (.intro (.intro (.intro @d1f @W_fn) (.intro @y0C @r0E)) (.intro (.intro @f1Z @g1H) (.intro @f1J (.intro @d1q @d1D)))) (.intro (.intro (.intro @d1t @f1n) (.intro @f1Y @v0c)) (.intro (.intro @c1u @d1w) (.intro @d1y (.intro @c1n @d1T)))))) (.intro (.intro (.intro (.intro (.intro @d1d @f1O) (.intro @W_mm @c1w)) (.intro (.intro @d1L @d1x) (.intro @d1c (.intro @z0o @d1B)))) (.intro (.intro (.intro @b1W @u0s) (.intro @t0v @a1O)) (.intro (.intro @u0T @z0t) (.intro @w0i (.intro @v0y @v0P))))) (.intro (.intro (.intro (.intro @z0H @w0E) (.intro @v0s @v0w)) (.intro (.intro @u0q @w0f) (.intro @t0k (.intro @v0E @v0n)))) (.intro (.intro (.intro @w0U @t0r) (.intro @w0h @t0o)) (.intro (.intro @v0N @u0n) (.intro @v0Z (.intro @w0F @v0D))))))) (.intro (.intro (.intro (.intro (.intro (.intro @t0f @v0T) (.intro @p0w @r0v)) (.intro (.intro @a1J @d1X) (.intro @y0n (.intro @y0U @y0X)))) (.intro (.intro (.intro @z0b @w0Q) (.intro @u0g @w0g)) (.intro (.intro @u0V @w0I) (.intro @u0z (.intro @t0m @w0W))))) (.intro (.intro (.intro (.intro @c1p @a1v) (.intro @p0B @a1q)) (.intro (.intro @z0d @p0H) (.intro @i0t (.intro @g0z @n0J)))) (.intro (.intro (.intro @g0k @g0i) (.intro @g0g @k0C)) (.intro (.intro @m0N @i0z) (.intro @j0D (.intro @m0U @l0N)))))) (.intro (.intro (.intro (.intro (.intro @l0J @l0I) (.intro @i0R @m0v)) (.intro (.intro @i0j @o0j) (.intro @h0B (.intro @e0g @l0Q)))) (.intro (.intro (.intro @n0F @l0Z) (.intro @k0N @i0r)) (.intro (.intro @i0b @l0r) (.intro @m0Z (.intro @f0P @k0V))))) (.intro (.intro (.intro (.intro @i0G @j0p) (.intro @i0s @j0G)) (.intro (.intro @i0c @n0G) (.intro @p0m (.intro @i0w @h0x)))) (.intro (.intro (.intro @i0a @h0r) (.intro @h0K (.intro @j0C @h0O))) (.intro (.intro @c0e @b0v) (.intro @c0Z (.intro @t0w @p0G))))))))
theorem LU:(((((((type_of% @ev_t∧(type_of% @ev_c∧type_of% @d1O))∧((type_of% @v0t∧type_of% @b1H)∧(type_of% @z0p∧type_of% @r0x)))∧(((type_of% @v0q∧type_of% @b1D)∧(type_of% @o0r∧type_of% @v0g))∧((type_of% @x0x∧type_of% @r0p)∧(type_of% @t0h∧type_of% @a1L))))∧((((type_of% @q0w∧type_of% @u0i)∧(type_of% @b1b∧type_of% @p0L))∧((type_of% @u0A∧type_of% @z0L)∧(type_of% @q0W∧type_of% @v0Y)))∧(((type_of% @u0t∧type_of% @w0c)∧(type_of% @l0X∧type_of% @j0P))∧((type_of% @k0W∧type_of% @u0E)∧(type_of% @l0x∧type_of% @k0S)))))∧((((type_of% @j0j∧(type_of% @a1M∧type_of% @z0A))∧((type_of% @y0p∧type_of% @z0D)∧(type_of% @u0v∧type_of% @v0L)))∧(((type_of% @u0B∧type_of% @y0u)∧(type_of% @l0Y∧type_of% @o0A))∧((type_of% @p0X∧type_of% @k0x)∧(type_of% @q0k∧type_of% @u0k))))∧((((type_of% @a1t∧type_of% @z0g)∧(type_of% @d1I∧type_of% @z0a))∧((type_of% @z0v∧type_of% @a1I)∧(type_of% @a1c∧type_of% @d1b)))∧(((type_of% @d1e∧type_of% @w0K)∧(type_of% @d1E∧type_of% @z0Y))∧((type_of% @r0n∧type_of% @q0g)∧(type_of% @p0t∧type_of% @y0w))))))∧(((((type_of% @u0C∧(type_of% @v0o∧type_of% @v0G))∧((type_of% @w0H∧type_of% @y0b)∧(type_of% @o0k∧type_of% @q0B)))∧(((type_of% @i0h∧type_of% @c1o)∧(type_of% @t0s∧type_of% @a1l))∧((type_of% @f1R∧type_of% @g1I)∧(type_of% @d1m∧type_of% @q0o))))∧((((type_of% @m0E∧type_of% @m0C)∧(type_of% @u0P∧type_of% @q0I))∧((type_of% @h0Q∧type_of% @c1r)∧(type_of% @z0I∧type_of% @l0C)))∧(((type_of% @w0b∧type_of% @v0j)∧(type_of% @p0c∧type_of% @j0c))∧((type_of% @j0U∧type_of% @r0t)∧(type_of% @o0M∧type_of% @p0u)))))∧(((((type_of% @Dint∧type_of% @f1X)∧(type_of% @Dv∧type_of% @d1Z))∧((type_of% @y0R∧type_of% @d1l)∧(type_of% @y0x∧type_of% @a1N)))∧(((type_of% @b1B∧type_of% @y0N)∧(type_of% @y0V∧type_of% @a1h))∧((type_of% @z0P∧type_of% @w0G)∧(type_of% @q0z∧type_of% @r0e))))∧((((type_of% @u0Q∧type_of% @o0p)∧(type_of% @i0W∧type_of% @h0J))∧((type_of% @r0Z∧type_of% @o0n)∧(type_of% @m0S∧type_of% @v0B)))∧(((type_of% @a1D∧type_of% @z0J)∧(type_of% @y0j∧type_of% @n0D))∧((type_of% @v0W∧type_of% @w0O)∧(type_of% @k0w∧type_of% @l0u)))))))∧((((((type_of% @k0J∧(type_of% @i0D∧type_of% @q0P))∧((type_of% @q0h∧type_of% @j0b)∧(type_of% @j0z∧type_of% @j0y)))∧(((type_of% @i0f∧type_of% @i0K)∧(type_of% @k0R∧type_of% @m0Y))∧((type_of% @m0I∧type_of% @q0y)∧(type_of% @o0s∧type_of% @m0P))))∧((((type_of% @m0b∧type_of% @n0I)∧(type_of% @m0a∧type_of% @q0T))∧((type_of% @r0z∧type_of% @r0R)∧(type_of% @p0q∧type_of% @r0H)))∧(((type_of% @o0g∧type_of% @r0V)∧(type_of% @q0C∧type_of% @l0c))∧((type_of% @l0i∧type_of% @o0f)∧(type_of% @p0T∧type_of% @n0K)))))∧(((((type_of% @m0d∧type_of% @w0Z)∧(type_of% @u0S∧type_of% @i0H))∧((type_of% @j0Q∧type_of% @f0Q)∧(type_of% @f0I∧type_of% @r0Y)))∧(((type_of% @r0b∧type_of% @r0J)∧(type_of% @q0c∧type_of% @p0R))∧((type_of% @p0n∧type_of% @m0k)∧(type_of% @l0W∧type_of% @m0g))))∧((((type_of% @l0M∧type_of% @l0E)∧(type_of% @m0n∧type_of% @r0c))∧((type_of% @q0R∧type_of% @q0O)∧(type_of% @r0i∧type_of% @g0h)))∧(((type_of% @g0r∧type_of% @l0S)∧(type_of% @n0M∧type_of% @l0n))∧((type_of% @k0y∧type_of% @m0O)∧(type_of% @l0b∧type_of% @k0u))))))∧(((((type_of% @l0q∧(type_of% @m0A∧type_of% @m0m))∧((type_of% @m0y∧type_of% @m0X)∧(type_of% @o0i∧type_of% @p0S)))∧(((type_of% @v0X∧type_of% @v0R)∧(type_of% @m0R∧type_of% @l0F))∧((type_of% @l0k∧type_of% @l0v)∧(type_of% @l0O∧type_of% @n0B))))∧((((type_of% @m0s∧type_of% @l0g)∧(type_of% @i0N∧type_of% @k0F))∧((type_of% @m0L∧type_of% @m0r)∧(type_of% @i0S∧type_of% @j0i)))∧(((type_of% @q0V∧type_of% @b1N)∧(type_of% @w0d∧type_of% @w0S))∧((type_of% @p0Z∧type_of% @w0B)∧(type_of% @q0H∧type_of% @r0r)))))∧(((((type_of% @m0D∧type_of% @d1r)∧(type_of% @y0W∧type_of% @a1e))∧((type_of% @x0t∧type_of% @y0c)∧(type_of% @r0a∧type_of% @b1S)))∧(((type_of% @z0w∧type_of% @z0c)∧(type_of% @y0L∧type_of% @u0o))∧((type_of% @i0Q∧type_of% @g0t)∧(type_of% @g0u∧type_of% @k0A))))∧((((type_of% @h0V∧type_of% @d1k)∧(type_of% @d1W∧type_of% @b1F))∧((type_of% @f0A∧type_of% @c1q)∧(type_of% @d1a∧type_of% @m0w)))∧(((type_of% @j0l∧type_of% @r0O)∧(type_of% @u0H∧type_of% @l0U))∧((type_of% @n0C∧type_of% @l0j)∧(type_of% @m0V∧type_of% @m0t)))))))):=(.intro (.intro (.intro (.intro (.intro (.intro (.intro @ev_t (.intro @ev_c @d1O)) (.intro (.intro @v0t @b1H) (.intro @z0p @r0x))) (.intro (.intro (.intro @v0q @b1D) (.intro @o0r @v0g)) (.intro (.intro @x0x @r0p) (.intro @t0h @a1L)))) (.intro (.intro (.intro (.intro @q0w @u0i) (.intro @b1b @p0L)) (.intro (.intro @u0A @z0L) (.intro @q0W @v0Y))) (.intro (.intro (.intro @u0t @w0c) (.intro @l0X @j0P)) (.intro (.intro @k0W @u0E) (.intro @l0x @k0S))))) (.intro (.intro (.intro (.intro @j0j (.intro @a1M @z0A)) (.intro (.intro @y0p @z0D) (.intro @u0v @v0L))) (.intro (.intro (.intro @u0B @y0u) (.intro @l0Y @o0A)) (.intro (.intro @p0X @k0x) (.intro @q0k @u0k)))) (.intro (.intro (.intro (.intro @a1t @z0g) (.intro @d1I @z0a)) (.intro (.intro @z0v @a1I) (.intro @a1c @d1b))) (.intro (.intro (.intro @d1e @w0K) (.intro @d1E @z0Y)) (.intro (.intro @r0n @q0g) (.intro @p0t @y0w)))))) (.intro (.intro (.intro (.intro (.intro @u0C (.intro @v0o @v0G)) (.intro (.intro @w0H @y0b) (.intro @o0k @q0B))) (.intro (.intro (.intro @i0h @c1o) (.intro @t0s @a1l)) (.intro (.intro @f1R @g1I) (.intro @d1m @q0o)))) (.intro (.intro (.intro (.intro @m0E @m0C) (.intro @u0P @q0I)) (.intro (.intro @h0Q @c1r) (.intro @z0I @l0C))) (.intro (.intro (.intro @w0b @v0j) (.intro @p0c @j0c)) (.intro (.intro @j0U @r0t) (.intro @o0M @p0u))))) (.intro (.intro (.intro (.intro (.intro @Dint @f1X) (.intro @Dv @d1Z)) (.intro (.intro @y0R @d1l) (.intro @y0x @a1N))) (.intro (.intro (.intro @b1B @y0N) (.intro @y0V @a1h)) (.intro (.intro @z0P @w0G) (.intro @q0z @r0e)))) (.intro (.intro (.intro (.intro @u0Q @o0p) (.intro @i0W @h0J)) (.intro (.intro @r0Z @o0n) (.intro @m0S @v0B))) (.intro (.intro (.intro @a1D @z0J) (.intro @y0j @n0D)) (.intro (.intro @v0W @w0O) (.intro @k0w @l0u))))))) (.intro (.intro (.intro (.intro (.intro (.intro @k0J (.intro @i0D @q0P)) (.intro (.intro @q0h @j0b) (.intro @j0z @j0y))) (.intro (.intro (.intro @i0f @i0K) (.intro @k0R @m0Y)) (.intro (.intro @m0I @q0y) (.intro @o0s @m0P)))) (.intro (.intro (.intro (.intro @m0b @n0I) (.intro @m0a @q0T)) (.intro (.intro @r0z @r0R) (.intro @p0q @r0H))) (.intro (.intro (.intro @o0g @r0V) (.intro @q0C @l0c)) (.intro (.intro @l0i @o0f) (.intro @p0T @n0K))))) (.intro (.intro (.intro (.intro (.intro @m0d @w0Z) (.intro @u0S @i0H)) (.intro (.intro @j0Q @f0Q) (.intro @f0I @r0Y))) (.intro (.intro (.intro @r0b @r0J) (.intro @q0c @p0R)) (.intro (.intro @p0n @m0k) (.intro @l0W @m0g)))) (.intro (.intro (.intro (.intro @l0M @l0E) (.intro @m0n @r0c)) (.intro (.intro @q0R @q0O) (.intro @r0i @g0h))) (.intro (.intro (.intro @g0r @l0S) (.intro @n0M @l0n)) (.intro (.intro @k0y @m0O) (.intro @l0b @k0u)))))) (.intro (.intro (.intro (.intro (.intro @l0q (.intro @m0A @m0m)) (.intro (.intro @m0y @m0X) (.intro @o0i @p0S))) (.intro (.intro (.intro @v0X @v0R) (.intro @m0R @l0F)) (.intro (.intro @l0k @l0v) (.intro @l0O @n0B)))) (.intro (.intro (.intro (.intro @m0s @l0g) (.intro @i0N @k0F)) (.intro (.intro @m0L @m0r) (.intro @i0S @j0i))) (.intro (.intro (.intro @q0V @b1N) (.intro @w0d @w0S)) (.intro (.intro @p0Z @w0B) (.intro @q0H @r0r))))) (.intro (.intro (.intro (.intro (.intro @m0D @d1r) (.intro @y0W @a1e)) (.intro (.intro @x0t @y0c) (.intro @r0a @b1S))) (.intro (.intro (.intro @z0w @z0c) (.intro @y0L @u0o)) (.intro (.intro @i0Q @g0t) (.intro @g0u @k0A)))) (.intro (.intro (.intro (.intro @h0V @d1k) (.intro @d1W @b1F)) (.intro (.intro @f0A @c1q) (.intro @d1a @m0w))) (.intro (.intro (.intro @j0l @r0O) (.intro @u0H @l0U)) (.intro (.intro @n0C @l0j) (.intro @m0V @m0t))))))))
theorem LS:(((((type_of% @y0k∧(type_of% @f1o∧type_of% @f1N))∧(type_of% @f1x∧(type_of% @c0f∧type_of% @c0A)))∧((type_of% @f0t∧(type_of% @s0C∧type_of% @w0e))∧((type_of% @List.set_cons_succ.{0}∧type_of% @List.set_cons_zero.{0})∧(type_of% @List.getElem?_cons_succ.{0}∧type_of% @List.getElem?_cons_zero.{0}))))∧(((type_of% @List.length_cons.{0}∧(type_of% @List.length_nil.{0}∧type_of% @List.cons_append.{0}))∧((type_of% @List.nil_append.{0}∧type_of% @List.map_cons.{0,0})∧(type_of% @List.map_nil.{0,0}∧type_of% @List.take_succ_cons.{0})))∧((type_of% @List.take_zero.{0}∧(type_of% @List.drop_succ_cons.{0}∧type_of% @List.drop_zero.{0}))∧((type_of% @Option.map_some.{0,0}∧type_of% @Option.map_none.{0,0})∧(type_of% @Nat.add_zero∧type_of% @Nat.zero_add)))))∧((((type_of% @Nat.mul_one∧(type_of% @Int.toNat_natCast∧type_of% @Nat.mul_zero))∧(type_of% @Nat.zero_mul∧(type_of% @true_and∧type_of% @and_true)))∧((type_of% @t0O∧(type_of% @List.getElem?_drop.{0}∧type_of% @List.getElem?_map.{0,0}))∧((type_of% @List.length_map.{0,0}∧type_of% @Int.natCast_nonneg)∧(type_of% @getElem?_some_of∧type_of% @Bool.false_eq_true))))∧(((type_of% @decide_true∧(type_of% @decide_false∧type_of% @Bool.not_true))∧((type_of% @Bool.not_false∧type_of% @and_self)∧(type_of% @eq_self.{0}∧type_of% @false_implies)))∧((type_of% @or_self∧(type_of% @Bool.and_self∧type_of% @false_or))∧((type_of% @or_false∧type_of% @Bool.false_and)∧(type_of% @Bool.true_beq∧type_of% @Bool.false_beq)))))):=(.intro (.intro (.intro (.intro (.intro @y0k (.intro @f1o @f1N)) (.intro @f1x (.intro @c0f @c0A))) (.intro (.intro @f0t (.intro @s0C @w0e)) (.intro (.intro @List.set_cons_succ.{0} @List.set_cons_zero.{0}) (.intro @List.getElem?_cons_succ.{0} @List.getElem?_cons_zero.{0})))) (.intro (.intro (.intro @List.length_cons.{0} (.intro @List.length_nil.{0} @List.cons_append.{0})) (.intro (.intro @List.nil_append.{0} @List.map_cons.{0,0}) (.intro @List.map_nil.{0,0} @List.take_succ_cons.{0}))) (.intro (.intro @List.take_zero.{0} (.intro @List.drop_succ_cons.{0} @List.drop_zero.{0})) (.intro (.intro @Option.map_some.{0,0} @Option.map_none.{0,0}) (.intro @Nat.add_zero @Nat.zero_add))))) (.intro (.intro (.intro (.intro @Nat.mul_one (.intro @Int.toNat_natCast @Nat.mul_zero)) (.intro @Nat.zero_mul (.intro @true_and @and_true))) (.intro (.intro @t0O (.intro @List.getElem?_drop.{0} @List.getElem?_map.{0,0})) (.intro (.intro @List.length_map.{0,0} @Int.natCast_nonneg) (.intro @getElem?_some_of @Bool.false_eq_true)))) (.intro (.intro (.intro @decide_true (.intro @decide_false @Bool.not_true)) (.intro (.intro @Bool.not_false @and_self) (.intro @eq_self.{0} @false_implies))) (.intro (.intro @or_self (.intro @Bool.and_self @false_or)) (.intro (.intro @or_false @Bool.false_and) (.intro @Bool.true_beq @Bool.false_beq))))))
end Go.Proofs.YthjgmldnegaaiaaGreatDoor.Mir
