/- Lemmas for the proof. No condition. -/
import Derived.Test.YthjgmldnegaaiaaGreatDoorQp06
set_option linter.unusedVariables false
set_option linter.unusedSimpArgs false
namespace Go.Proofs.YthjgmldnegaaiaaGreatDoor.Mir
open Go Go.RowKit
inductive SR where
 | t (n:Nat)
 | c1 (a:Nat)
 | cA (n a:Nat)
def n0n (P:Program):List ResultVar→Option (List SR)
 | []=>some []
 | .tmp t :: rs=>(n0n P rs).map (.t t :: ·)
 | .cell a T :: rs=>match d0o P T,inf P T,n0n P rs with
  | some false,_,some l=>some (.c1 a :: l)
  | some true,some (n,_,_),some l=>some (.cA n a :: l)
  | _,_,_=>none
def resS (H:List Row)(ts:List D):List SR→Option (List D)
 | []=>some []
 | .t n :: rs=>match resS H ts rs with
  | some ds=>some (ts.getD n D.undef :: ds)
  | none=>none
 | .c1 a :: rs=>match load1 H (ts.getD a D.undef),resS H ts rs with
  | some d,some ds=>some (d :: ds)
  | _,_=>none
 | .cA n a :: rs=>match loadA H n (ts.getD a D.undef),resS H ts rs with
  | some d,some ds=>some (d :: ds)
  | _,_=>none
section
variable {P:Program}
theorem n0F {H:List Row}{ts:List D}:∀ {rs:List ResultVar} {l:List SR} {ds:List D},n0n P rs=some l→resS H ts l=some ds→b0w P H ts rs=some ds
 | [],l,ds,h,k=>by simp [n0n] at h;subst h;exact k
 | .tmp t :: rs,l,ds,h,k=>by
  simp only [n0n,Option.map_eq_some_iff] at h
  obtain ⟨l',h1,rfl⟩:=h
  simp only [resS] at k
  split at k
  ·rename_i ds' h2
   injection k with k
   subst k
   simp only [b0w,n0F h1 h2,Option.map_some]
  ·cases k
 | .cell a T :: rs,l,ds,h,k=>by
  simp only [n0n] at h
  split at h
  ·rename_i l' hT hl
   injection h with h
   subst h
   simp only [resS] at k
   split at k
   ·rename_i d ds' h1 h2
    injection k with k
    subst k
    simp only [b0w,u0K hT h1,n0F hl h2]
   ·cases k
  ·rename_i n b z l' hT hi hl
   injection h with h
   subst h
   simp only [resS] at k
   split at k
   ·rename_i d ds' h1 h2
    injection k with k
    subst k
    simp only [b0w,v0v hT hi h1,n0F hl h2]
   ·cases k
  ·cases h
def d0r:Nat→List Row→List Row
 | 0,H=>H
 | _+1,[]=>[]
 | n+1,_ :: H=>.dead :: d0r n H
theorem j0J:∀ (n:Nat) (H:List Row),(d0r n H).length=H.length
 | 0,_=>rfl
 | _+1,[]=>rfl
 | n+1,_ :: H=>by simp [d0r,j0J n H]
theorem f0K:∀ (n:Nat) (H:List Row) (r:Nat),(d0r n H)[r]?=if r<n then (H[r]?).map fun _=>.dead else H[r]?
 | 0,H,r=>by simp [d0r]
 | n+1,[],r=>by simp [d0r]
 | n+1,x :: H,0=>by simp [d0r]
 | n+1,x :: H,r+1=>by simp [d0r,f0K n H r]
def lowB (n:Nat)(H:List Row):Bool:=H.all fun row=>row.refs.all fun r=>Nat.blt r n
inductive RetS (n0:Nat)(rs:List SR)(Q:D→List Row→Prop)(s:St):Prop
 | gather {ds:List D} {e:Eff}:resS s.H s.ts rs=some ds→gather n0 (one ds) (List.range n0) s.H=some e→Q e.res (a0B (s.H.take n0) e.upd++e.news)→RetS n0 rs Q s
 | still {ds:List D} {d0:D}:resS s.H s.ts rs=some ds→lowB n0 (s.H.take n0)=true→Vw (d0r n0 s.H) (one ds) d0→Q d0 (s.H.take n0)→RetS n0 rs Q s
 | all {ds:List D}:resS s.H s.ts rs=some ds→Q (one ds) s.H→RetS n0 rs Q s
def endS (n0:Nat)(rs:List SR)(Q:D→List Row→Prop):Out→St→Prop
 | .exit _,_=>False
 | .normal,s=>RetS n0 rs Q s
 | .ret,s=>RetS n0 rs Q s
def Fn (P:Program)(f:FuncId)(n:Nat)(rs:List SR)(c:SCode):Prop:=∃ fn k,P.funcs[f]?=some fn∧fn.body=some k∧fn.ntmps=n∧n0n P fn.results.toList=some rs∧a0p P k=c
theorem Fn.of {P:Program}{f:FuncId}{fn:Func}{n:Nat}{rs:List SR}{c:SCode}(h:P.funcs[f]?=some fn)(e:(fn.body.map (a0p P),fn.ntmps,n0n P fn.results.toList)=(some c,n,some rs)):Fn P f n rs c:=by
 obtain ⟨e1,e2,e3⟩:=by simpa only [Prod.mk.injEq] using e
 cases hb:fn.body with
 | none=>rw [hb] at e1;cases e1
 | some k=>rw [hb] at e1;exact ⟨fn,k,h,hb,e2,e3,Option.some.inj e1⟩
theorem HR.takeN {w:World}{φ:Nat→Nat × Nat}{X:Nat→Prop}{H:List Row}(h:HR P w φ X H){n:Nat}(hl:lowB n (H.take n)=true)(hn:n≤H.length):HR P w φ X (H.take n)∧∀ b,Av X φ (H.take n) b→Av X φ H b:=by
 have hlen:(H.take n).length=n:=by simp;omega
 have get:∀ (r:Nat) (row:Row),(H.take n)[r]?=some row→r<n∧H[r]?=some row:=by
  intro r row hr
  rw [List.getElem?_take] at hr
  split at hr
  ·exact ⟨‹_›,hr⟩
  ·cases hr
 have ha:∀ b,Av X φ (H.take n) b→Av X φ H b:=by
  rintro b (hb|⟨r,row,hr,hv,rfl⟩)
  ·exact .inl hb
  ·exact .inr ⟨r,row,(get r row hr).2,hv,rfl⟩
 refine ⟨⟨fun r row hr=>?_,fun r s x y hr hs=>h.apart r s x y (get r x hr).2 (get s y hs).2,fun r row hr=>h.off r row (get r row hr).2,h.old,fun p hp=>(h.gl p hp).thin ha⟩,ha⟩
 obtain ⟨h1,h2⟩:=get r row hr
 rw [hlen]
 refine (h.rows r row h2).lower (S:=(· < n)) rfl (fun r hr=>⟨rfl,hr⟩) ha (b0y fun q hq=>?_)
 have h3:=List.all_eq_true.1 hl row (List.mem_of_getElem? hr)
 have h4:=List.all_eq_true.1 h3 q hq
 simpa using h4
theorem d1r {w w':World}{φ φ':Nat→Nat × Nat}{X:Nat→Prop}{H:List Row}{s:St}{a:Act}{fn:Func}{rs:List SR}(hrs:n0n P fn.results.toList=some rs){Q:D→List Row→Prop}(hq:RetS H.length rs Q s)(hr:RunW P X w φ H w' φ' s a) :
  a.defers=[]∧∃ v,(results fn a.tmps).run P w' = .ok v w'∧∃ v' d H',Ending.returned v = .returned v'∧Q d H'∧LeavesW P w φ X H v' w' d H':=by
 refine ⟨hr.sim.defers,?_⟩
 have hone:∀ ds,resS s.H s.ts rs=some ds→∃ v,(results fn a.tmps).run P w' = .ok v w'∧R P w' φ' (Av X φ' s.H) s.H.length (one ds) v:=by
  intro ds hds
  obtain ⟨us,h1,h2⟩:=e0M hr.sim.heap hr.sim.tmps _ _ (n0F hrs hds)
  refine ⟨if h:us.toArray.size=1 then us.toArray[0] else .tuple us.toArray,?_,?_⟩
  ·unfold results
   rw [Array.mapM_eq_mapM_toList]
   simp at h1
   simp
   exact congrArg (fun r:Result (List Value)=>r.andThen fun a w'=>Result.ok (if h:a.length=1 then a[0] else Value.tuple a.toArray) w') h1
  ·match ds,us,h2 with
   | [],[],_=>exact .tp rfl (fun i d u hd=>by simp at hd)
   | [d],[u],h2=>exact h2.2 0 d u (by simp) (by simp)
   | d :: d2 :: ds,u :: u2 :: us,h2=>exact .tp (by have:=h2.1;simpa using this) (fun i d' u' hd hu=>h2.2 i d' u' hd (by simpa using hu))
   | [],_ :: _,h2=>have:=h2.1;simp at this
   | _ :: _,[],h2=>have:=h2.1;simp at this
   | [_],_ :: _ :: _,h2=>have:=h2.1;simp at this
   | _ :: _ :: _,[_],h2=>have:=h2.1;simp at this
 have hlt:(s.H.take H.length).length=H.length:=by rw [List.length_take];have:=hr.ons.len;omega
 cases hq with
 | gather hds hg hq =>
  obtain ⟨v,h3,h4⟩:=hone _ hds
  obtain ⟨ψ,k1,k2,k3,k4,_⟩:=d0M hr.sim.heap hr.ons.len hlt h4 (fun r row hr hnd hrow=>absurd (List.mem_range.2 hr) hnd) hg
  exact ⟨v,h3,v,_,_,rfl,hq,ψ,⟨by simp [a0F,hlt],fun r hr'=>(k1 r hr').trans (hr.ons.same r hr'),hr.ons.keep,fun b hb=>hr.ons.fresh b (k4 b hb)⟩,k2,k3⟩
 | all hds hq =>
  obtain ⟨v,h3,h4⟩:=hone _ hds
  exact ⟨v,h3,v,_,_,rfl,hq,φ',hr.ons,hr.sim.heap,h4⟩
 | still hds hlow hv hq =>
  rename_i ds d0
  obtain ⟨v,h3,h4⟩:=hone _ hds
  obtain ⟨t1,t2⟩:=hr.sim.heap.takeN hlow hr.ons.len
  refine ⟨v,h3,v,d0,_,rfl,hq,φ',⟨by rw [hlt];exact Nat.le_refl _,hr.ons.same,hr.ons.keep,fun b hb=>hr.ons.fresh b ?_⟩,t1,?_⟩
  ·obtain ⟨r,row,hx,hl,rfl⟩:=hb
   rw [List.getElem?_take] at hx
   split at hx
   ·exact ⟨r,row,hx,hl,rfl⟩
   ·cases hx
  ·
   have hM:HR P w' φ' (Rest X φ' s.H (d0r H.length s.H)) (d0r H.length s.H):=by
    refine hr.sim.heap.part (S:=fun r=>r<s.H.length) (fun r h=>by rw [j0J];exact h) (fun x row hx=>?_)
    rw [f0K] at hx
    split at hx
    ·rw [Option.map_eq_some_iff] at hx
     obtain ⟨_,_,rfl⟩:=hx
     exact .inl rfl
    ·exact .inr ⟨hx,(hr.sim.heap.rows x row hx).isLow⟩
   have hA:∀ b,Av X φ' (s.H.take H.length) b→Rest X φ' s.H (d0r H.length s.H) b:=by
    rintro b (hb|⟨r,row,hx,hl,rfl⟩)
    ·exact .inl hb
    ·rw [List.getElem?_take] at hx
     split at hx
     ·rename_i hlt'
      refine .inr ⟨r,row,hx,hl,?_,rfl⟩
      rw [f0K,if_pos hlt',hx]
      intro e
      simp at e
      subst e
      simp [Row.live] at hl
     ·cases hx
   have h5:R P w' φ' (Av (Rest X φ' s.H (d0r H.length s.H)) φ' (d0r H.length s.H)) (d0r H.length s.H).length (one ds) v:=by
    rw [j0J]
    refine h4.lower (S:=fun r=>r<s.H.length) (fun r h=>⟨rfl,h⟩) (fun b hb=>?_) h4.isLow
    rcases hb with (hb|⟨x,row,hx,hl,_,rfl⟩)|⟨x,row,hx,hl,rfl⟩
    ·exact .inl hb
    ·exact .inr ⟨x,row,hx,hl,rfl⟩
    ·rw [f0K] at hx
     split at hx
     ·rw [Option.map_eq_some_iff] at hx
      obtain ⟨_,_,rfl⟩:=hx
      simp [Row.live] at hl
     ·exact .inr ⟨x,row,hx,hl,rfl⟩
   have h6:=hv.ok (φ':=φ') hM hA v h5
   exact h6.upper (Nat.zero_le _)
theorem Con.fn (hP:Good P){f:FuncId}{n:Nat}{rs:List SR}{c:SCode}(hf:Fn P f n rs c){args:List D}{H:List Row}{Q:D→List Row→Prop}
  (h:HS P H.length c ⟨args++List.replicate (n-args.length) D.undef,H,[]⟩ (endS H.length rs Q)):Con P f args H Q:=by
 obtain ⟨fn,k,h1,h2,h3,h4,h5⟩:=hf
 subst h3
 refine ⟨⟨fn,h1,by rw [h2];rfl⟩,fun w φ X vs hH hargs=>calls_of_wp h1 h2 ?_⟩
 have hlen:vs.size=args.length:=by have:=hargs.1;simpa using this
 refine h k h5 X w φ H w φ _ _ rfl ⟨⟨hH,?_,rfl⟩,Ons.refl _ _ _ _⟩ ?_
 ·rw [Array.toList_append,Array.toList_replicate,hlen]
  refine hargs.append ⟨by simp,fun i d u hd hu=>?_⟩
  rw [List.getElem?_replicate] at hd hu
  split at hd
  ·rename_i hi
   rw [if_pos hi] at hu
   injection hd with hd;injection hu with hu
   subst hd;subst hu
   exact R.undef
  ·cases hd
 ·intro out s' w' φ' a' hq hr'
  cases out with
  | normal=>exact d1r h4 hq hr'
  | exit i=>exact hq.elim
  | ret=>exact d1r h4 hq hr'
def k0Y (ι:List Nat)(N:Nat)(H0:List Row)(args0:List D):Bool :=
 Nat.beq ι.length H0.length&&i0t ι&&(args0.all fun d=>d.refs.all fun r=>Nat.blt r H0.length)&&(H0.all fun row=>row.refs.all fun r=>Nat.blt r H0.length)&&ι.all fun r=>Nat.blt r N
theorem q0H:∀ {l:List Nat},i0t l=true→l.Nodup
 | [],_=>List.nodup_nil
 | x :: xs,h=>by
  simp only [i0t,Bool.and_eq_true,Bool.not_eq_true'] at h
  exact List.nodup_cons.2 ⟨by simpa using h.1,q0H h.2⟩
theorem a0J {g:FuncId}{caps args args0:List D}{H H0:List Row}{Q K:D→List Row→Prop}(h:Con P g args0 H0 Q)(ι:List Nat)(hb:k0Y ι H.length H0 args0=true)(ha:args++caps=args0.map (renE (ren ι H.length)))
  (hr:(ι.map fun r=>H.getD r .dead)=H0.map (renR (ren ι H.length)))
  (hk:∀ d0 H0',Q d0 H0'→K (renE (ren ι H.length) d0) (b0U (ren ι H.length) ι H0' H++(H0'.drop H0.length).map (renR (ren ι H.length)))):a0S P (.fn g caps) args H K:=by
 unfold k0Y at hb
 simp only [Bool.and_eq_true] at hb
 obtain ⟨⟨⟨⟨b1,b2⟩,b3⟩,b4⟩,b5⟩:=hb
 have e1:ι.length=H0.length:=Nat.eq_of_beq_eq_true b1
 refine ⟨g,caps,rfl,(h.embed e1 (q0H b2) ha (fun d hd=>b0L fun r hr=>?_) (fun i row hi=>⟨b0y fun r hr=>?_,?_⟩)).mono ?_⟩
 ·have h1:=List.all_eq_true.1 b3 d hd
  have h2:=List.all_eq_true.1 h1 r hr
  simpa using h2
 ·have h1:=List.all_eq_true.1 b4 row (List.mem_of_getElem? hi)
  have h2:=List.all_eq_true.1 h1 r hr
  simpa using h2
 ·have hlt:i<ι.length:=by rw [e1];exact (List.getElem?_eq_some_iff.1 hi).1
  have h1:(ι.map fun r=>H.getD r .dead)[i]?=some (H.getD ι[i] .dead):=by simp [hlt]
  rw [hr,List.getElem?_map,hi] at h1
  have h2:ι[i]<H.length:=by
   have:=List.all_eq_true.1 b5 ι[i] (List.getElem_mem hlt)
   simpa using this
  refine ⟨ι[i],by simp [hlt],?_⟩
  have h3:H.getD ι[i] .dead=H[ι[i]]:=by simp [List.getD,h2]
  rw [h3] at h1
  rw [List.getElem?_eq_getElem h2]
  exact h1.symm
 ·rintro d H' ⟨d0,H0',hq,_,rfl,rfl⟩
  exact hk d0 H0' hq
theorem a0X {g:FuncId}{caps args args0:List D}{H:List Row}{Q K:D→List Row→Prop}(h:Con P g args0 [] Q)(hv:Vws H (args++caps) args0)(hp:∀ d H',Q d H'→PlainD d∧∀ row∈H',m0B row)
  (hk:∀ d0 H0',Q d0 H0'→K (renE (ren [] H.length) d0) (H++H0'.map (renR (ren [] H.length)))):a0S P (.fn g caps) args H K:=by
 refine ⟨g,caps,rfl,(h.peek hv hp).mono ?_⟩
 rintro d H' ⟨d0,H0',hq,rfl,rfl⟩
 exact hk d0 H0' hq
variable {n0:Nat}{s:St}{Q:Out→St→Prop}
theorem HS.opsK (hP:Good P){l:List SI}(h:∀ K:St→Prop,(∀ s',Q .normal s'→K s')→wpS P l s K):HS P n0 (.ops l) s Q:=HS.ops hP (h _ fun _ h=>h)
theorem HS.condB {c:SV}{x y:SCode}{b:Bool}(hc:c.ev s.ts = .f (.v (.bool b)))(h1:b=true→HS P n0 x s Q)(h0:b=false→HS P n0 y s Q):HS P n0 (.cond c x y) s Q:=HS.cond (by rw [hc];exact ⟨h1,h0⟩)
theorem n0d {next:St→Prop}(h:next s):h0P next Q .normal s:=h
theorem e1Q {next:St→Prop}{i:Nat}(h:Q (.exit i) s):h0P next Q (.exit i) s:=h
theorem e1w {next:St→Prop}(h:Q .ret s):h0P next Q .ret s:=h
theorem c1n {id:Nat}(h:Q .normal s):d0H id Q .normal s:=h
theorem e0G {id:Nat}(h:Q .normal s):d0H id Q (.exit id) s:=by rw [e0g,if_pos rfl];exact h
theorem s0i {id i:Nat}(hne:Nat.beq i id=false)(h:Q (.exit i) s):d0H id Q (.exit i) s:=by rw [e0g,if_neg (Nat.ne_of_beq_eq_false hne)];exact h
theorem c1t {id:Nat}(h:Q .ret s):d0H id Q .ret s:=h
theorem g1F {rs:List SR}{Q:D→List Row→Prop}(h:RetS n0 rs Q s):endS n0 rs Q .ret s:=h
theorem f1h {rs:List SR}{Q:D→List Row→Prop}(h:RetS n0 rs Q s):endS n0 rs Q .normal s:=h
theorem Bsel.mk' {b:Bool}{p q:Prop}(h1:b=true→p)(h2:b=false→q):Bsel b p q:=⟨h1,h2⟩
def Next (n0:Nat)(keep:List Nat){α:Type}(st:α→St)(p:α→Prop)(m:α→Nat)(x:α)(s:St):Prop:=∃ y,j0u n0 keep s=some (st y)∧p y∧m y<m x
theorem Next.mk {n0:Nat}{keep:List Nat}{α:Type}{st:α→St}{p:α→Prop}{m:α→Nat}{x:α}{s:St}(y:α)(h:j0u n0 keep s=some (st y))(hp:p y)(hm:m y<m x):Next n0 keep st p m x s:=⟨y,h,hp,hm⟩
theorem HS.loopG {c:SCode}{α:Type}(keep:List Nat)(st:α→St)(p:α→Prop)(m:α→Nat)(x0:α)(hs:j0u n0 keep s=some (st x0))(h0:p x0)
  (hbody:∀ x,p x→HS P n0 c (st x) (h0P (Next n0 keep st p m x) Q)):HS P n0 (.loop c) s Q:=by
 refine HS.view (View.sweep hs) ?_
 intro k hk
 cases k with
 | loop a =>
  simp only [a0p] at hk
  injection hk with h1
  intro X w0 φ0 H0 w φ a' K hn hr hK
  refine wp_loop_rounds (m x0+1) ?_
  have key:∀ (k:Nat) (x:α) (w:World) (φ:Nat→Nat × Nat) (a':Act),m x≤k→p x→RunW P X w0 φ0 H0 w φ (st x) a'→Code.rounds P a K (k+1) a' w:=by
   intro k
   induction k with
   | zero =>
    intro x w φ a' hm hp hr
    rw [rounds_succ]
    refine hbody x hp a h1 X w0 φ0 H0 w φ a' _ hn hr ?_
    intro out s' w' φ' a' hq hr'
    cases out with
    | normal=>obtain ⟨y,_,_,hlt⟩:=hq;omega
    | exit i=>exact hK _ s' w' φ' a' hq hr'
    | ret=>exact hK _ s' w' φ' a' hq hr'
   | succ k ih =>
    intro x w φ a' hm hp hr
    rw [rounds_succ]
    refine hbody x hp a h1 X w0 φ0 H0 w φ a' _ hn hr ?_
    intro out s' w' φ' a'' hq hr'
    cases out with
    | normal =>
     obtain ⟨y,hsw,hp',hlt⟩:=hq
     obtain ⟨φ2,hr2⟩:=View.sweep hsw X w0 φ0 H0 w' φ' a'' hn hr'
     exact ih y w' φ2 a'' (by omega) hp' hr2
    | exit i=>exact hK _ s' w' φ' a'' hq hr'
    | ret=>exact hK _ s' w' φ' a'' hq hr'
  exact key (m x0) x0 w φ a' (Nat.le_refl _) h0 hr
 | region id ops draw=>cases draw<;>simp only [a0p] at hk<;>first|(split at hk<;>first|cases hk|(split at hk<;>cases hk))|cases hk
 | cond c a b=>simp only [a0p] at hk;split at hk<;>cases hk
 | _=>simp [a0p] at hk
end
theorem a1r {a:Int}(h1 : -9223372036854775808≤a)(h2:a≤9223372036854775807):IntKind.i64.wrap a=a:=by
 have:=IntWalk.i64_in a ⟨h1,h2⟩
 exact this
def gt {α:Type}[Inhabited α](l:List α)(k:Nat):α:=l[k]!
theorem getElem?_some_of {α:Type}[Inhabited α]{l:List α}{i:Nat}(h:i<l.length):l[i]?=some (gt l i):=by rw [gt,List.getElem?_eq_getElem h,getElem!_pos l i h]
theorem b0F {α:Type}[Inhabited α]{l:List α}{i:Nat}(h:i<l.length):gt l i=l[i]:=by rw [gt,getElem!_pos l i h]
theorem a0H {α:Type}[Inhabited α]{l:List α}{k:Nat}(h:k<l.length):l.drop k=gt l k :: l.drop (k+1):=by
 rw [List.drop_eq_getElem_cons h,b0F h]
def look (i:Nat):List (Nat × D)→D
 | []=>.junk
 | (j,d) :: e=>if j=i then d else look i e
def frm (n:Nat)(e:List (Nat × D)):List D:=(List.range n).map fun i=>look i e
theorem d0a (n:Nat)(e:List (Nat × D)):(frm n e).length=n:=by simp [frm]
theorem c0a {n:Nat}{e:List (Nat × D)}{i:Nat}(h:i<n):(frm n e)[i]?=some (look i e):=by
 unfold frm
 rw [List.getElem?_map,List.getElem?_range h];rfl
theorem b0b {n:Nat}{e:List (Nat × D)}{i:Nat}{u:D}(h:i<n):(frm n e).getD i u=look i e:=by
 rw [List.getD_eq_getElem?_getD,c0a h];rfl
theorem f0m {n:Nat}{e:List (Nat × D)}{i:Nat}{d:D}:(frm n e).set i d=frm n ((i,d) :: e):=by
 apply List.ext_getElem?
 intro j
 by_cases hj:j<n
 ·rw [List.getElem?_set,c0a hj,c0a hj,d0a]
  simp only [look]
  split
  ·rename_i e;subst e;rw [if_pos hj]
  ·rfl
 ·rw [List.getElem?_eq_none (by simp [d0a];omega),List.getElem?_eq_none (by simp [d0a];omega)]
theorem o0b {i j:Nat}{d:D}{e:List (Nat × D)}:look i ((j,d) :: e)=if j=i then d else look i e:=id rfl
theorem v0U {i:Nat}:look i [] = .junk:=id rfl
section
variable {P:Program}{n0:Nat}{s:St}{Q:Out→St→Prop}
theorem View.frm {n:Nat}{e:List (Nat × D)}(hl:s.ts.length=n)(h:∀ i,i<n→look i e = .junk∨s.ts[i]?=some (look i e)):View P n0 s ⟨frm n e,s.H,[]⟩:=by
 intro X w0 φ0 H0 w φ a _ hr
 refine ⟨φ,⟨hr.sim.heap,⟨?_,fun i d u hd hu=>?_⟩,hr.sim.defers⟩,hr.ons⟩
 ·rw [d0a,hr.sim.tmps.1,hl]
 ·dsimp only at hd
  have hi:i<n:=by have:=(List.getElem?_eq_some_iff.1 hd).1;rwa [d0a] at this
  rw [c0a hi] at hd
  injection hd with hd
  subst hd
  rcases h i hi with h1|h1
  ·rw [h1];exact .junk
  ·exact hr.sim.tmps.2 i _ u h1 hu
def a0I:Nat→List D→List (Nat × D)
 | _,[]=>[]
 | i,d :: ds=>(i,d) :: a0I (i+1) ds
theorem m0W:∀ (ds:List D) (k i:Nat),look (k+i) (a0I k ds) = .junk∨ds[i]?=some (look (k+i) (a0I k ds))
 | [],_,_=>.inl rfl
 | d :: ds,k,0=>by simp [a0I,look]
 | d :: ds,k,i+1=>by
  simp only [a0I,look]
  rw [if_neg (by omega),show k+(i+1)=k+1+i by omega]
  simpa using m0W ds (k+1) i
theorem Con.walk (hP:Good P){f:FuncId}{n:Nat}{rs:List SR}{c:SCode}(hf:Fn P f n rs c){args:List D}{H:List Row}{Q:D→List Row→Prop}(hn:args.length≤n)
  (h:HS P H.length c ⟨frm n (a0I 0 args),H,[]⟩ (endS H.length rs Q)):Con P f args H Q:=by
 refine Con.fn hP hf (HS.view (View.frm ?_ (fun i hi=>?_)) h)
 ·simp;omega
 ·dsimp only
  have:=m0W args 0 i
  rw [Nat.zero_add] at this
  rcases this with h1|h1
  ·exact .inl h1
  ·have hlt:=(List.getElem?_eq_some_iff.1 h1).1
   rw [List.getElem?_append_left hlt]
   exact .inr h1
end
theorem a0o {P:Program}{g:FuncId}{caps args:List D}{H:List Row}{Q K:D→List Row→Prop}(h:Con P g (args++caps) H Q)(hk:∀ d H',Q d H'→K d H'):a0S P (.fn g caps) args H K:=⟨g,caps,rfl,h.mono hk⟩
theorem u0c {i:Nat}:∀ {e:List (Nat × D)},look i e = .junk∨(i,look i e)∈e
 | []=>.inl rfl
 | (j,d) :: e=>by
  simp only [look]
  split
  ·rename_i h;subst h;exact .inr List.mem_cons_self
  ·rcases u0c (i:=i) (e:=e) with h|h
   ·exact .inl h
   ·exact .inr (List.mem_cons_of_mem _ h)
def NextP (n:Nat){α:Type}(st:α→List (Nat × D))(hs:α→List Row)(p:α→Prop)(m:α→Nat)(x:α)(s:St):Prop:=∃ y,s.H=hs y∧(∃ e,s.ts=frm n e∧(st y).map (fun q=>look q.1 e)=(st y).map (·.2))∧p y∧m y<m x
theorem NextP.mk {α:Type}{st:α→List (Nat × D)}{hs:α→List Row}{p:α→Prop}{m:α→Nat}{x:α}{n:Nat}{e:List (Nat × D)}{H:List Row}{dr:List Nat}(y:α)(hH:H=hs y)(he:(st y).map (fun q=>look q.1 e)=(st y).map (·.2))(hp:p y)(hm:m y<m x):NextP n st hs p m x ⟨frm n e,H,dr⟩:=⟨y,hH,⟨e,rfl,he⟩,hp,hm⟩
section
variable {P:Program}{n0:Nat}{s:St}{Q:Out→St→Prop}
theorem View.told {n:Nat}{e e':List (Nat × D)}{H:List Row}{dr:List Nat}(he:e'.map (fun q=>look q.1 e)=e'.map (·.2)):View P n0 ⟨Mir.frm n e,H,dr⟩ ⟨Mir.frm n e',H,[]⟩:=by
 refine View.frm (s:=⟨Mir.frm n e,H,dr⟩) (d0a _ _) (fun i hi=>?_)
 rcases u0c (i:=i) (e:=e') with h|h
 ·exact .inl h
 ·refine .inr ?_
  dsimp only
  rw [c0a hi]
  have:∀ q∈e',look q.1 e=q.2:=by
   intro q hq
   obtain ⟨k,hk,rfl⟩:=List.getElem_of_mem hq
   have:=congrArg (fun l=>l[k]?) he
   simpa [hk] using this
  exact congrArg some (this _ h)
theorem HS.loopP {c:SCode}{α:Type}{n:Nat}{e:List (Nat × D)}{H:List Row}{dr:List Nat}(st:α→List (Nat × D))(hs:α→List Row)(p:α→Prop)(m:α→Nat)(x0:α)(hH:H=hs x0)(he:(st x0).map (fun q=>look q.1 e)=(st x0).map (·.2))(h0:p x0)
  (hbody:∀ x,p x→HS P n0 c ⟨Mir.frm n (st x),hs x,[]⟩ (h0P (NextP n st hs p m x) Q)):HS P n0 (.loop c) ⟨Mir.frm n e,H,dr⟩ Q:=by
 subst hH
 refine HS.view (View.told he) ?_
 intro k hk
 cases k with
 | loop a =>
  simp only [a0p] at hk
  injection hk with h1
  intro X w0 φ0 H0 w φ a' K hn0 hr hK
  refine wp_loop_rounds (m x0+1) ?_
  have key:∀ (k:Nat) (x:α) (w:World) (φ:Nat→Nat × Nat) (a':Act),m x≤k→p x→RunW P X w0 φ0 H0 w φ ⟨Mir.frm n (st x),hs x,[]⟩ a'→Code.rounds P a K (k+1) a' w:=by
   have nx:∀ (x y:α) (s':St) (w':World) (φ':Nat→Nat × Nat) (a'':Act),RunW P X w0 φ0 H0 w' φ' s' a''→s'.H=hs y→(∃ e,s'.ts=Mir.frm n e∧(st y).map (fun q=>look q.1 e)=(st y).map (·.2))→∃ φ2,RunW P X w0 φ0 H0 w' φ2 ⟨Mir.frm n (st y),hs y,[]⟩ a'':=by
    rintro x y ⟨ts,H,dr⟩ w' φ' a'' hr' hy ⟨e,he1,he2⟩
    dsimp only at hy he1
    subst hy;subst he1
    exact View.told (dr:=dr) he2 X w0 φ0 H0 w' φ' a'' hn0 hr'
   intro k
   induction k with
   | zero =>
    intro x w φ a' hm hp hr
    rw [rounds_succ]
    refine hbody x hp a h1 X w0 φ0 H0 w φ a' _ hn0 hr ?_
    intro out s' w' φ' a'' hq hr'
    cases out with
    | normal=>obtain ⟨y,_,_,_,hlt⟩:=hq;omega
    | exit i=>exact hK _ s' w' φ' a'' hq hr'
    | ret=>exact hK _ s' w' φ' a'' hq hr'
   | succ k ih =>
    intro x w φ a' hm hp hr
    rw [rounds_succ]
    refine hbody x hp a h1 X w0 φ0 H0 w φ a' _ hn0 hr ?_
    intro out s' w' φ' a'' hq hr'
    cases out with
    | normal =>
     obtain ⟨y,hy,he,hp',hlt⟩:=hq
     obtain ⟨φ2,hr2⟩:=nx x y s' w' φ' a'' hr' hy he
     exact ih y w' φ2 a'' (by omega) hp' hr2
    | exit i=>exact hK _ s' w' φ' a'' hq hr'
    | ret=>exact hK _ s' w' φ' a'' hq hr'
  exact key (m x0) x0 w φ a' (Nat.le_refl _) h0 hr
 | region id ops draw=>cases draw<;>simp only [a0p] at hk<;>first|(split at hk<;>first|cases hk|(split at hk<;>cases hk))|cases hk
 | cond c a b=>simp only [a0p] at hk;split at hk<;>cases hk
 | _=>simp [a0p] at hk
end
section
variable {P:Program}{n0:Nat}{Q:D→List Row→Prop}
theorem end1 {n t:Nat}{e:List (Nat × D)}{H:List Row}{dr:List Nat}{d d0:D}(ht:Nat.blt t n=true)(h:look t e=d)(hl:lowB n0 (H.take n0)=true)(hv:Vw (d0r n0 H) d d0)(q:Q d0 (H.take n0)):RetS n0 [.t t] Q ⟨frm n e,H,dr⟩:=by
 refine .still (ds:=[d]) ?_ hl hv q
 simp only [resS]
 rw [b0b (by simpa using ht),h]
theorem endA {n t:Nat}{e:List (Nat × D)}{H:List Row}{dr:List Nat}{d:D}(ht:Nat.blt t n=true)(h:look t e=d)(q:Q d H):RetS n0 [.t t] Q ⟨frm n e,H,dr⟩:=by
 refine .all (ds:=[d]) ?_ q
 simp only [resS]
 rw [b0b (by simpa using ht),h]
theorem end2 {n t u:Nat}{e:List (Nat × D)}{H:List Row}{dr:List Nat}{d f d0:D}(ht:Nat.blt t n=true)(hu:Nat.blt u n=true)(h:look t e=d)(k:look u e=f)(hl:lowB n0 (H.take n0)=true)(hv:Vw (d0r n0 H) (.tp [d,f]) d0)(q:Q d0 (H.take n0)):RetS n0 [.t t,.t u] Q ⟨frm n e,H,dr⟩:=by
 refine .still (ds:=[d,f]) ?_ hl hv q
 simp only [resS]
 rw [b0b (by simpa using ht),b0b (by simpa using hu),h,k]
theorem g1M {n t u:Nat}{e:List (Nat × D)}{H:List Row}{dr:List Nat}{d f:D}{ef:Eff}(ht:Nat.blt t n=true)(hu:Nat.blt u n=true)(h:look t e=d)(k:look u e=f)(hg:gather n0 (.tp [d,f]) (List.range n0) H=some ef)(q:Q ef.res (a0B (H.take n0) ef.upd++ef.news)):RetS n0 [.t t,.t u] Q ⟨frm n e,H,dr⟩:=by
 refine .gather (ds:=[d,f]) ?_ hg q
 simp only [resS]
 rw [b0b (by simpa using ht),b0b (by simpa using hu),h,k]
theorem endG {n t:Nat}{e:List (Nat × D)}{H:List Row}{dr:List Nat}{d:D}{ef:Eff}(ht:Nat.blt t n=true)(h:look t e=d)(hg:gather n0 d (List.range n0) H=some ef)(q:Q ef.res (a0B (H.take n0) ef.upd++ef.news)):RetS n0 [.t t] Q ⟨frm n e,H,dr⟩:=by
 refine .gather (ds:=[d]) ?_ hg q
 simp only [resS]
 rw [b0b (by simpa using ht),h]
end
end Go.Proofs.YthjgmldnegaaiaaGreatDoor.Mir
namespace Go.Proofs.YthjgmldnegaaiaaGreatDoor.Mir
open Go Go.RowKit
theorem m0G {P:Program}:∀ (l1 l2:List SI) (s:St) (K:St→Prop),wpS P (l1++l2) s K=wpS P l1 s fun s'=>wpS P l2 s' K
 | [],l2,s,K=>rfl
 | i :: l1,l2,s,K=>by
  simp only [List.cons_append,wpS,m0G l1 l2]
theorem e1p {P:Program}{l1 l2:List SI}{s:St}{K:St→Prop}(h:∀ K':St→Prop,(∀ s',wpS P l2 s' K→K' s')→wpS P l1 s K'):wpS P (l1++l2) s K:=by
 rw [m0G]
 exact h _ fun _ h=>h
abbrev kI (n:Int):SV:=.c (.f (.v (.int .i64 n)))
abbrev kT:SV:=.c (.f (.v (.bool true)))
abbrev kF:SV:=.c (.f (.v (.bool false)))
abbrev kN:SV:=.c (.f (.v (.slice none 0 0)))
abbrev kC (f:Nat):SV:=.c (.fn f [])
abbrev jI:D:=.f (.v (.int .i64 0))
abbrev jN:D:=.f (.v (.slice none 0 0))
abbrev jF:D:=.f (.v (.bool false))
abbrev jm (t x:Nat):SI:=.a t (.mv (.t x))
abbrev jl (t x:Nat):SI:=.a t (.load1 (.t x))
abbrev jo (t o x:Nat):SI:=.a t (.off o (.t x))
abbrev jn (t x:Nat):SI:=.a t (.nilc (.t x))
abbrev gM (t x g:Nat) (b:Bool):SI:=.g (some t) (.mv (.t x)) g b
abbrev gL (t x g:Nat) (b:Bool):SI:=.g (some t) (.load1 (.t x)) g b
abbrev gO (t o x g:Nat) (b:Bool):SI:=.g (some t) (.off o (.t x)) g b
abbrev gN (t x g:Nat) (b:Bool):SI:=.g (some t) (.nilc (.t x)) g b
abbrev je (t x:Nat):SI:=.a t (.slen (.t x))
abbrev jx (t n x i:Nat):SI:=.a t (.idx n (.t x) (.t i))
abbrev jL (t n x:Nat):SI:=.a t (.loadA n (.t x))
abbrev jE (t n x:Nat):SI:=.a t (.ext n (.t x))
abbrev jb (t:Nat) (op:BinOp) (x:Nat) (k:Int):SI:=.a t (.bin op (.t x) (kI k))
abbrev jB (t:Nat) (op:BinOp) (x y:Nat):SI:=.a t (.bin op (.t x) (.t y))
abbrev jk (t:Nat) (k:Int):SI:=.a t (.mv (kI k))
abbrev jG (t:Nat) (o:SOp) (g:Nat) (b:Bool):SI:=.g (some t) o g b
abbrev jq (l:List SI) (y:SCode):SCode:=.seq (.ops l) y
abbrev jc (t:Nat) (x y:SCode):SCode:=.cond (.t t) x y
def ap (a b:List SI):List SI:=a++b
theorem W_mv {P:Program}{ts:List D}{H:List Row}{K:D→List Row→Prop}(x:SV):a0T P ts H (.mv x) K=(K (x.ev ts) H):=id rfl
theorem d1R {P:Program}{ts:List D}{H:List Row}{K:D→List Row→Prop}(c a b:SV):a0T P ts H (.pick c a b) K=(k0b (c.ev ts) (K (a.ev ts) H) (K (b.ev ts) H)):=id rfl
theorem y0L {P:Program}{ts:List D}{H:List Row}{K:D→List Row→Prop}(T:TypeId)(z:List D):a0T P ts H (.alloc T z) K=(K (.pt H.length 0) (H++[.box T z])):=id rfl
theorem f1e {P:Program}{ts:List D}{H:List Row}{K:D→List Row→Prop}(T:TypeId)(x:SV):a0T P ts H (.box T x) K=(a0D (boxD (x.ev ts)) fun cs=>K (.pt H.length 0) (H++[.box T cs])):=id rfl
theorem z0z {P:Program}{ts:List D}{H:List Row}{K:D→List Row→Prop}(a:SV):a0T P ts H (.load1 a) K=(a0D (load1 H (a.ev ts)) fun d=>K d H):=id rfl
theorem z0R {P:Program}{ts:List D}{H:List Row}{K:D→List Row→Prop}(n:Nat)(a:SV):a0T P ts H (.loadA n a) K=(a0D (loadA H n (a.ev ts)) fun d=>K d H):=id rfl
theorem y0v {P:Program}{ts:List D}{H:List Row}{K:D→List Row→Prop}(n:Nat)(a x:SV):a0T P ts H (.store n a x) K=(a0D (c0o P H n (a.ev ts) (x.ev ts)) fun H'=>K D.undef H'):=id rfl
theorem d1t {P:Program}{ts:List D}{H:List Row}{K:D→List Row→Prop}(x:SV):a0T P ts H (.nilc x) K=(a0D (t0C (x.ev ts)) fun d=>K d H):=id rfl
theorem g1K {P:Program}{ts:List D}{H:List Row}{K:D→List Row→Prop}(o:Nat)(a:SV):a0T P ts H (.off o a) K=(a0D (offD o (a.ev ts)) fun d=>K d H):=id rfl
theorem d1G {P:Program}{ts:List D}{H:List Row}{K:D→List Row→Prop}(o:Nat)(x:SV):a0T P ts H (.fld1 o x) K=(a0D (fld1 o (x.ev ts)) fun d=>K d H):=id rfl
theorem c1z {P:Program}{ts:List D}{H:List Row}{K:D→List Row→Prop}(o n:Nat)(x:SV):a0T P ts H (.fldA o n x) K=(a0D (fldA o n (x.ev ts)) fun d=>K d H):=id rfl
theorem g1H {P:Program}{ts:List D}{H:List Row}{K:D→List Row→Prop}(sz:Nat)(x i:SV):a0T P ts H (.idx sz x i) K=(idxS sz (x.ev ts) (i.ev ts) fun d=>K d H):=id rfl
theorem g1A {P:Program}{ts:List D}{H:List Row}{K:D→List Row→Prop}(sz n:Nat)(x i:SV):a0T P ts H (.arr sz n x i) K=(arrS sz n (x.ev ts) (i.ev ts) fun d=>K d H):=id rfl
theorem f1m {P:Program}{ts:List D}{H:List Row}{K:D→List Row→Prop}(i:Nat)(x:SV):a0T P ts H (.ext i x) K=(a0D (extD i (x.ev ts)) fun d=>K d H):=id rfl
theorem f1p {P:Program}{ts:List D}{H:List Row}{K:D→List Row→Prop}(op:BinOp)(x y:SV):a0T P ts H (.bin op x y) K=(binS op (x.ev ts) (y.ev ts) fun d=>K d H):=id rfl
theorem d1L {P:Program}{ts:List D}{H:List Row}{K:D→List Row→Prop}(op:BinOp)(x y:SV):a0T P ts H (.binb op x y) K=(r0Q op (x.ev ts) (y.ev ts) fun d=>K d H):=id rfl
theorem f1u {P:Program}{ts:List D}{H:List Row}{K:D→List Row→Prop}(eq:Bool)(ks:List Nat)(x y:SV):a0T P ts H (.aeq eq ks x y) K=(aeqS eq ks (x.ev ts) (y.ev ts) fun d=>K d H):=id rfl
theorem d1K {P:Program}{ts:List D}{H:List Row}{K:D→List Row→Prop}(eq:Bool)(k:Nat)(x y:SV):a0T P ts H (.nilq eq k x y) K=(c0z k (x.ev ts) (y.ev ts) fun b=>K (D.bool (if eq then b else !b)) H):=id rfl
theorem d1P {P:Program}{ts:List D}{H:List Row}{K:D→List Row→Prop}(x:SV):a0T P ts H (.unot x) K=(a0D (notS (x.ev ts)) fun d=>K d H):=id rfl
theorem W_fn {P:Program}{ts:List D}{H:List Row}{K:D→List Row→Prop}(f:FuncId)(caps:List SV):a0T P ts H (.fn f caps) K=(K (.fn f (caps.map (SV.ev ts))) H):=id rfl
theorem b1H {P:Program}{ts:List D}{H:List Row}{K:D→List Row→Prop}  : a0T P ts H (.mkmap) K=(K (.mp H.length) (H++[.map []])):=id rfl
theorem o0M {P:Program}{ts:List D}{H:List Row}{K:D→List Row→Prop}(T:TypeId)(sz b:Nat)(z:List F)(l c:SV):a0T P ts H (.mkslice T sz b z l c) K=(a0D (intOf? (l.ev ts)) fun a=>a0D (intOf? (c.ev ts)) fun c=>((0<a∨c=0)∧0≤a∧a≤c∧b*c≤140737488355328∧c.toNat*sz≤16777216)∧K (.sl H.length 0 a.toNat) (H++[.data T ((List.range (a.toNat*sz)).map fun j=>z.getD (j % sz) (.v Go.undef))])):=id rfl
theorem g1I {P:Program}{ts:List D}{H:List Row}{K:D→List Row→Prop}(z:List D)(parts:List (Nat × Nat × SV)):a0T P ts H (.bld z parts) K=(a0D (e0Q z (parts.map fun p=>(p.1,p.2.1,p.2.2.ev ts))) fun ds=>K (.ag ds) H):=id rfl
theorem f1f {P:Program}{ts:List D}{H:List Row}{K:D→List Row→Prop}(T:TypeId)(sz len:Nat)(z:List D)(parts:List (Nat × SV)):a0T P ts H (.bsl T sz len z parts) K=(a0D (e0Q z (parts.map fun p=>(p.1,sz,p.2.ev ts))) fun ds=>a0D (a0U P H ds) fun xu=>K (.sl H.length 0 len) (a0B H xu.2++[.data T xu.1])):=id rfl
theorem g1O {P:Program}{ts:List D}{H:List Row}{K:D→List Row→Prop}(T:TypeId)(sz b:Nat)(s x:SV):a0T P ts H (.app T sz b s x) K=(appS H T sz b (s.ev ts) (x.ev ts) K):=id rfl
theorem d1q {P:Program}{ts:List D}{H:List Row}{K:D→List Row→Prop}(x:SV):a0T P ts H (.slen x) K=(a0D (slcS (x.ev ts)) fun n=>K (D.int n) H):=id rfl
theorem d1c {P:Program}{ts:List D}{H:List Row}{K:D→List Row→Prop}(x:SV):a0T P ts H (.mlen x) K=(a0D (g0Q H (x.ev ts)) fun es=>K (D.int es.length) H):=id rfl
theorem d1p {P:Program}{ts:List D}{H:List Row}{K:D→List Row→Prop}(k:IntKind)(x:SV):a0T P ts H (.conv k x) K=(a0D (y0u k (x.ev ts)) fun d=>K d H):=id rfl
theorem f1s {P:Program}{ts:List D}{H:List Row}{K:D→List Row→Prop}(x:SV):a0T P ts H (.s2b x) K=(a0D (strOf? (x.ev ts)) fun s=>s.size≤most∧K (.f (.s (s.data.toList.map fun b=>.v (.int .u8 b.toNat)) s.size)) H):=id rfl
theorem f1V {P:Program}{ts:List D}{H:List Row}{K:D→List Row→Prop}(x:SV):a0T P ts H (.b2s x) K=(a0D (b0Z H 1 (x.ev ts)) fun p=>a0D (bytesOf? (p.2.map .f)) fun l=>p.2.length=p.1∧K (.f (.v (.string ⟨l.toArray⟩))) H):=id rfl
theorem u0I {P:Program}{ts:List D}{H:List Row}{K:D→List Row→Prop}(x:SV):a0T P ts H (.strlen x) K=(a0D (strOf? (x.ev ts)) fun s=>K (D.int s.size) H):=id rfl
theorem c1y {P:Program}{ts:List D}{H:List Row}{K:D→List Row→Prop}(sz n:Nat)(x i:SV):a0T P ts H (.aidx sz n x i) K=(x0W sz n (x.ev ts) (i.ev ts) fun d=>K d H):=id rfl
theorem d1l {P:Program}{ts:List D}{H:List Row}{K:D→List Row→Prop}(x i:SV):a0T P ts H (.sidx x i) K=(a0D (strOf? (x.ev ts)) fun s=>a0D (intOf? (i.ev ts)) fun i=>a0D (if 0≤i then s.data.toList[i.toNat]? else none) fun b=>K (.f (.v (.int .u8 b.toNat))) H):=id rfl
theorem d1I {P:Program}{ts:List D}{H:List Row}{K:D→List Row→Prop}(x:SV)(lo hi:Option SV):a0T P ts H (.ssub x lo hi) K=(a0D (y0S (x.ev ts) (lo.map (SV.ev ts)) (hi.map (SV.ev ts))) fun d=>K d H):=id rfl
theorem d1o {P:Program}{ts:List D}{H:List Row}{K:D→List Row→Prop}(ok:Bool)(K0:TypeId)(z:D)(m k:SV):a0T P ts H (.look ok K0 z m k) K=(a0D (y0j P H ok K0 z (m.ev ts) (k.ev ts)) fun d=>K d H):=id rfl
theorem d1i {P:Program}{ts:List D}{H:List Row}{K:D→List Row→Prop}(K0:TypeId)(m k x:SV):a0T P ts H (.mput K0 m k x) K=(a0D (y0g P H K0 (m.ev ts) (k.ev ts) (x.ev ts)) fun H'=>K D.undef H'):=id rfl
theorem e1F {P:Program}{ts:List D}{H:List Row}{K:D→List Row→Prop}(K0:TypeId)(m k:SV):a0T P ts H (.mdel K0 m k) K=(a0D (z0d P H K0 (m.ev ts) (k.ev ts)) fun H'=>K (.tp []) H'):=id rfl
theorem f1R {P:Program}{ts:List D}{H:List Row}{K:D→List Row→Prop}(T:TypeId)(x:SV):a0T P ts H (.clr T x) K=(a0D (q0f P H T (x.ev ts)) fun H'=>K (.tp []) H'):=id rfl
theorem W_mm {P:Program}{ts:List D}{H:List Row}{K:D→List Row→Prop}(mx:Bool)(x y:SV):a0T P ts H (.mm mx x y) K=(a0D (intOf? (x.ev ts)) fun a=>a0D (intOf? (y.ev ts)) fun b=>K (D.int (if mx then max a b else min a b)) H):=id rfl
theorem d1C {P:Program}{ts:List D}{H:List Row}{K:D→List Row→Prop}(f:SV)(args:List SV):a0T P ts H (.call f args) K=(a0S P (f.ev ts) (args.map (SV.ev ts)) H K):=id rfl
theorem d1B {P:Program}{ts:List D}{H:List Row}{K:D→List Row→Prop}(sz:Nat)(E:TypeId)(x:SV):a0T P ts H (.sub sz E x none none none) K=(a0D (slcS (x.ev ts)) fun n=>(0≤(0:Int)∧(0:Int)≤n∧(n:Int)≤n)∧a0D (subS H sz E (x.ev ts) (0:Int).toNat (n:Int).toNat) fun d=>K d H):=id rfl
theorem e1E {P:Program}{ts:List D}{H:List Row}{K:D→List Row→Prop}(sz:Nat)(E:TypeId)(x l:SV):a0T P ts H (.sub sz E x (some l) none none) K=(a0D (slcS (x.ev ts)) fun n=>a0D (intOf? (l.ev ts)) fun l=>(0≤l∧l≤n∧(n:Int)≤n)∧a0D (subS H sz E (x.ev ts) l.toNat (n:Int).toNat) fun d=>K d H):=id rfl
theorem d1T {P:Program}{ts:List D}{H:List Row}{K:D→List Row→Prop}(sz:Nat)(E:TypeId)(x h:SV):a0T P ts H (.sub sz E x none (some h) none) K=(a0D (slcS (x.ev ts)) fun n=>a0D (intOf? (h.ev ts)) fun h=>(0≤(0:Int)∧0≤h∧h≤n)∧a0D (subS H sz E (x.ev ts) (0:Int).toNat h.toNat) fun d=>K d H):=id rfl
theorem z0H {P:Program}{ts:List D}{H:List Row}{K:D→List Row→Prop}(sz:Nat)(E:TypeId)(x l h:SV):a0T P ts H (.sub sz E x (some l) (some h) none) K=(a0D (slcS (x.ev ts)) fun n=>a0D (intOf? (l.ev ts)) fun l=>a0D (intOf? (h.ev ts)) fun h=>(0≤l∧l≤h∧h≤n)∧a0D (subS H sz E (x.ev ts) l.toNat h.toNat) fun d=>K d H):=id rfl
theorem d1V {P:Program}{ts:List D}{H:List Row}{K:D→List Row→Prop}(sz:Nat)(E:TypeId)(x l h m:SV):a0T P ts H (.sub sz E x (some l) (some h) (some m)) K=(a0D (slcS (x.ev ts)) fun n=>a0D (intOf? (l.ev ts)) fun l=>a0D (intOf? (h.ev ts)) fun h=>(0≤l∧l≤h∧h≤n)∧(intOf? (m.ev ts)=some l∧l=h∧(some h).isSome=true)∧K (mxS (x.ev ts)) H):=id rfl
theorem a1C {P:Program}{ts:List D}{H:List Row}{K:D→List Row→Prop}(sz:Nat)(E:TypeId)(x h m:SV):a0T P ts H (.sub sz E x none (some h) (some m)) K=(a0D (slcS (x.ev ts)) fun n=>a0D (intOf? (h.ev ts)) fun h=>(0≤(0:Int)∧0≤h∧h≤n)∧(intOf? (m.ev ts)=some 0∧(0:Int)=h∧(some h).isSome=true)∧K (mxS (x.ev ts)) H):=id rfl
theorem ev_t {ts:List D}{n:Nat}:(SV.t n).ev ts=ts.getD n D.undef:=id rfl
theorem ev_c {ts:List D}{d:D}:(SV.c d).ev ts=d:=id rfl
theorem d1s {x:F}:boxD (.f x)=some ([.f x]):=id rfl
theorem u0m {x:F}:b0G (.f x)=true:=id rfl
theorem b1J {x:F}:(D.f x).cells=[.f x]:=id rfl
theorem z0g {r o n:Nat}:boxD (.sl r o n)=some ([.sl r o n]):=id rfl
theorem p0L {r o n:Nat}:b0G (.sl r o n)=true:=id rfl
theorem u0O {r o n:Nat}:(D.sl r o n).cells=[.sl r o n]:=id rfl
theorem y0C {r o:Nat}:boxD (.pt r o)=some ([.pt r o]):=id rfl
theorem q0V {r o:Nat}:b0G (.pt r o)=true:=id rfl
theorem t0f {r o:Nat}:(D.pt r o).cells=[.pt r o]:=id rfl
theorem a1O {r:Nat}:boxD (.mp r)=some ([.mp r]):=id rfl
theorem p0a {r:Nat}:b0G (.mp r)=true:=id rfl
theorem v0L {r:Nat}:(D.mp r).cells=[.mp r]:=id rfl
theorem b1V {xs:List F}:boxD (.rf xs)=some ([.rf xs]):=id rfl
theorem o0X {xs:List F}:b0G (.rf xs)=true:=id rfl
theorem v0V {xs:List F}:(D.rf xs).cells=[.rf xs]:=id rfl
theorem y0P {ds:List D}:boxD (.ag ds)=some (ds):=id rfl
theorem q0r {ds:List D}:b0G (.ag ds)=true:=id rfl
theorem t0j {ds:List D}:(D.ag ds).cells=ds:=id rfl
theorem y0z {f:FuncId}{ds:List D}:boxD (.fn f ds)=some ([.fn f ds]):=id rfl
theorem p0i {f:FuncId}{ds:List D}:b0G (.fn f ds)=true:=id rfl
theorem w0B {f:FuncId}{ds:List D}:(D.fn f ds).cells=[.fn f ds]:=id rfl
def l0J (o:Option Row)(off:Nat):Option D:=match o with
 | some row=>match row.cells with
  | some xs=>xs[off]?
  | none=>none
 | none=>none
theorem u0e {H:List Row}{r off:Nat}:load1 H (.pt r off)=l0J H[r]? off:=id rfl
theorem u0Z {H:List Row}{xs:List F}:load1 H (.rf xs)=(xs[0]?).map .f:=id rfl
theorem n0B {T:TypeId}{ds:List D}{off:Nat}:l0J (some (.box T ds)) off=ds[off]?:=id rfl
theorem j0G {T:TypeId}{xs:List F}{off:Nat}:l0J (some (.data T xs)) off=(xs[off]?).map .f:=by simp [l0J,Row.cells]
theorem j0x {T:TypeId}{xs:List F}{off:Nat}:l0J (some (.froz T xs)) off=(xs[off]?).map .f:=by simp [l0J,Row.cells]
def m0H (n:Nat)(o:Option Row)(off:Nat):Option D:=match o with
 | some row=>match row.cells with
  | some xs=>if off+n≤xs.length then some (.ag ((xs.drop off).take n)) else none
  | none=>none
 | none=>none
theorem v0E {H:List Row}{n r off:Nat}:loadA H n (.pt r off)=m0H n H[r]? off:=id rfl
theorem a0A {H:List Row}{n:Nat}{xs:List F}:loadA H n (.rf xs)=if n≤xs.length then some (.ag ((xs.map .f).take n)) else none:=id rfl
theorem l0F {n:Nat}{T:TypeId}{ds:List D}{off:Nat}:m0H n (some (.box T ds)) off=if off+n≤ds.length then some (.ag ((ds.drop off).take n)) else none:=id rfl
theorem i0O {n:Nat}{T:TypeId}{xs:List F}{off:Nat}:m0H n (some (.data T xs)) off=if off+n≤xs.length then some (.ag (((xs.drop off).take n).map .f)) else none:=by simp [m0H,Row.cells,List.map_take,List.map_drop]
theorem j0O {n:Nat}{T:TypeId}{xs:List F}{off:Nat}:m0H n (some (.froz T xs)) off=if off+n≤xs.length then some (.ag (((xs.drop off).take n).map .f)) else none:=by simp [m0H,Row.cells,List.map_take,List.map_drop]
theorem z0m {o r off:Nat}:offD o (.pt r off)=some (.pt r (off+o)):=id rfl
theorem z0e {o:Nat}{xs:List F}:offD o (.rf xs)=some (.rf (xs.drop o)):=id rfl
theorem y0a {o:Nat}{ds:List D}:fld1 o (.ag ds)=ds[o]?:=id rfl
theorem y0f {o n:Nat}{ds:List D}:fldA o n (.ag ds)=if o+n≤ds.length then some (.ag ((ds.drop o).take n)) else none:=id rfl
theorem w0N {r o:Nat}:t0C (.pt r o)=some (.pt r o):=id rfl
theorem u0t {xs:List F}:t0C (.rf xs)=some (.rf xs):=id rfl
theorem u0f {f:FuncId}{cs:List D}:t0C (.fn f cs)=some (.fn f cs):=id rfl
theorem y0n {i:Nat}{ds:List D}:extD i (.tp ds)=ds[i]?:=id rfl
def c0c (P:Program)(H:List Row)(n r off:Nat)(x:D)(o:Option Row):Option (List Row):=match o with
 | some (.box U xs)=>if b0G x=true∧x.cells.length=n∧off+n≤xs.length then some (H.set r (.box U (putL off x.cells xs))) else none
 | some (.data U xs)=>if b0G x=true∧x.cells.length=n∧off+n≤xs.length∧0<n then
   match a0U P H x.cells with
   | some (ys,us)=>match (a0B H us)[r]? with
    | some (.data U ws)=>some ((a0B H us).set r (.data U (splice ws off ys)))
    | _=>none
   | none=>none
  else none
 | _=>none
theorem w0t {α:Type}{xs:List α}{off:Nat}{x:α}(h:off<xs.length):splice xs off [x]=xs.set off x:=by
 rw [List.set_eq_take_append_cons_drop,if_pos h]
 simp [splice]
theorem c0F {P:Program}{H:List Row}{n r off:Nat}{x:D}:c0o P H n (.pt r off) x=c0c P H n r off x H[r]?:=id rfl
theorem m0P {P:Program}{H:List Row}{n r off:Nat}{x:D}{U:TypeId}{xs:List D}:c0c P H n r off x (some (.box U xs))=if b0G x=true∧x.cells.length=n∧off+n≤xs.length then some (H.set r (.box U (putL off x.cells xs))) else none:=id rfl
theorem n0u {P:Program}{H:List Row}{r off:Nat}{x:F}{U:TypeId}{xs:List F}(h:H[r]?=some (.data U xs)):c0c P H 1 r off (.f x) (some (.data U xs))=if off+1≤xs.length then some (H.set r (.data U (xs.set off x))) else none:=by
 unfold c0c
 simp only [b0G,D.cells,a0U,b0N,a0B,List.append_nil,List.length_cons,List.length_nil,h,true_and,Nat.reduceAdd,Nat.zero_lt_one,and_true]
 split
 ·rw [w0t (by omega)]
 ·rfl
theorem o0Y {α:Type}{cs:List α}:putL 0 [] cs=cs:=by cases cs<;>rfl
theorem m0Z {α:Type}{y c:α}{ys cs:List α}:putL 0 (y :: ys) (c :: cs)=y :: putL 0 ys cs:=id rfl
theorem r0o {α:Type}{n:Nat}{c:α}{ys cs:List α}:putL (n+1) ys (c :: cs)=c :: putL n ys cs:=id rfl
theorem u0M {op:BinOp}{k k2:IntKind}{a b:Int}{K:D→Prop}:binS op (.f (.v (.int k a))) (.f (.v (.int k2 b))) K=(shQ op k k2∧intS op k a b K):=id rfl
theorem v0J {op:BinOp}{k:IntKind}:shQ op k k=True:=by cases op<;>simp [shQ]
theorem a1W {k k2:IntKind}:shQ .shl k k2=True:=id rfl
theorem z0G {k k2:IntKind}:shQ .shr k k2=True:=id rfl
theorem w0Y {op:BinOp}{a b:ByteArray}{K:D→Prop}:binS op (.f (.v (.string a))) (.f (.v (.string b))) K=strS op a b K:=id rfl
theorem y0r {eq:Bool}{ks:List Nat}{xs ys:List D}{K:D→Prop}:aeqS eq ks (.ag xs) (.ag ys) K=a0D (eqL ks xs ys) fun b=>K (.f (.v (.bool (if eq then b else !b)))):=id rfl
theorem t0t {sz n:Nat}{ds:List D}{k:IntKind}{a:Int}{K:D→Prop}:x0W sz n (.ag ds) (.f (.v (.int k a))) K=((0≤a∧a<n)∧a0D (ds[a.toNat*sz]?) K):=id rfl
theorem a1p {op:BinOp}{a b:Bool}{K:D→Prop}:r0Q op (.f (.v (.bool a))) (.f (.v (.bool b))) K=s0z op a b K:=id rfl
theorem v0Y {k:IntKind}{a b:Int}{K:D→Prop}:intS .shl k a b K=(0≤b∧K (.f (.v (.int k (k.wrap (a*2 ^ (min b.toNat k.bits))))))):=id rfl
theorem w0M {k:IntKind}{a b:Int}{K:D→Prop}:intS .shr k a b K=(0≤b∧K (.f (.v (.int k (a.fdiv (2 ^ (min b.toNat k.bits))))))):=id rfl
theorem u0l {k:IntKind}{a b:Int}{K:D→Prop}:intS .and k a b K=(K (.f (.v (.int k (k.wrap (BitVec.ofInt k.bits a &&& BitVec.ofInt k.bits b).toNat))))):=id rfl
theorem y0k {k:IntKind}{a b:Int}{K:D→Prop}:intS .or k a b K=(K (.f (.v (.int k (k.wrap (BitVec.ofInt k.bits a ||| BitVec.ofInt k.bits b).toNat))))):=id rfl
theorem w0X {k:IntKind}{a b:Int}{K:D→Prop}:intS .xor k a b K=(K (.f (.v (.int k (k.wrap (BitVec.ofInt k.bits a ^^^ BitVec.ofInt k.bits b).toNat))))):=id rfl
theorem v0Z {k:IntKind}{a b:Int}{K:D→Prop}:intS .add k a b K=(K (.f (.v (.int k (k.wrap (a+b)))))):=id rfl
theorem u0y {k:IntKind}{a b:Int}{K:D→Prop}:intS .sub k a b K=(K (.f (.v (.int k (k.wrap (a-b)))))):=id rfl
theorem u0B {k:IntKind}{a b:Int}{K:D→Prop}:intS .mul k a b K=(K (.f (.v (.int k (k.wrap (a*b)))))):=id rfl
theorem u0V {k:IntKind}{a b:Int}{K:D→Prop}:intS .quo k a b K=(b≠0∧K (.f (.v (.int k (k.wrap (a.tdiv b)))))):=id rfl
theorem v0F {k:IntKind}{a b:Int}{K:D→Prop}:intS .rem k a b K=(b≠0∧K (.f (.v (.int k (a.tmod b))))):=id rfl
theorem v0H {k:IntKind}{a b:Int}{K:D→Prop}:intS .eql k a b K=(Two (a=b) (K (.f (.v (.bool true)))) (K (.f (.v (.bool false))))):=id rfl
theorem t0c {k:IntKind}{a b:Int}{K:D→Prop}:intS .neq k a b K=(Two (a=b) (K (.f (.v (.bool false)))) (K (.f (.v (.bool true))))):=id rfl
theorem t0w {k:IntKind}{a b:Int}{K:D→Prop}:intS .lss k a b K=(Two (a<b) (K (.f (.v (.bool true)))) (K (.f (.v (.bool false))))):=id rfl
theorem t0u {k:IntKind}{a b:Int}{K:D→Prop}:intS .leq k a b K=(Two (a≤b) (K (.f (.v (.bool true)))) (K (.f (.v (.bool false))))):=id rfl
theorem u0k {k:IntKind}{a b:Int}{K:D→Prop}:intS .gtr k a b K=(Two (b<a) (K (.f (.v (.bool true)))) (K (.f (.v (.bool false))))):=id rfl
theorem w0D {k:IntKind}{a b:Int}{K:D→Prop}:intS .geq k a b K=(Two (b≤a) (K (.f (.v (.bool true)))) (K (.f (.v (.bool false))))):=id rfl
theorem u0Q {a b:ByteArray}{K:D→Prop}:strS .add a b K=(a.size+b.size≤9223372036854775807∧K (.f (.v (.string (a++b))))):=id rfl
theorem t0e {a b:ByteArray}{K:D→Prop}:strS .eql a b K=(Two (a=b) (K (.f (.v (.bool true)))) (K (.f (.v (.bool false))))):=id rfl
theorem v0X {a b:ByteArray}{K:D→Prop}:strS .neq a b K=(Two (a=b) (K (.f (.v (.bool false)))) (K (.f (.v (.bool true))))):=id rfl
theorem t0v {a b:ByteArray}{K:D→Prop}:strS .lss a b K=(Two (Op.bytesLess a.toList b.toList=true) (K (.f (.v (.bool true)))) (K (.f (.v (.bool false))))):=id rfl
theorem u0b {a b:ByteArray}{K:D→Prop}:strS .gtr a b K=(Two (Op.bytesLess b.toList a.toList=true) (K (.f (.v (.bool true)))) (K (.f (.v (.bool false))))):=id rfl
theorem v0c {a b:ByteArray}{K:D→Prop}:strS .leq a b K=(Two (Op.bytesLess b.toList a.toList=true) (K (.f (.v (.bool false)))) (K (.f (.v (.bool true))))):=id rfl
theorem w0S {a b:ByteArray}{K:D→Prop}:strS .geq a b K=(Two (Op.bytesLess a.toList b.toList=true) (K (.f (.v (.bool false)))) (K (.f (.v (.bool true))))):=id rfl
theorem o0F {a b:Bool}{K:D→Prop}:s0z .eql a b K=K (.f (.v (.bool (a==b)))):=id rfl
theorem o0u {a b:Bool}{K:D→Prop}:s0z .neq a b K=K (.f (.v (.bool (!(a==b))))):=id rfl
theorem z0n {sz r off n:Nat}{k:IntKind}{i:Int}{K:D→Prop}:idxS sz (.sl r off n) (.f (.v (.int k i))) K=((0≤i∧i<n)∧K (.pt r (off+i.toNat*sz))):=id rfl
theorem d1M {sz n:Nat}{xs:List F}{k:IntKind}{i:Int}{K:D→Prop}:idxS sz (.f (.s xs n)) (.f (.v (.int k i))) K=((0≤i∧i<n)∧K (.rf (xs.drop (i.toNat*sz)))):=id rfl
theorem z0M {sz n r off:Nat}{k:IntKind}{i:Int}{K:D→Prop}:arrS sz n (.pt r off) (.f (.v (.int k i))) K=((0≤i∧i<n)∧K (.pt r (off+i.toNat*sz))):=id rfl
theorem a1P {p q:Prop}:k0b (.f (.v (.bool true))) p q=p:=c0b
theorem x0y {p q:Prop}:k0b (.f (.v (.bool false))) p q=q:=b0s
theorem y0i {b:Bool}{p q:Prop}:k0b (.f (.v (.bool b))) p q=Bsel b p q:=id rfl
theorem d1b {b:Bool}:notS (.f (.v (.bool b)))=some (.f (.v (.bool (!b)))):=id rfl
theorem y0q {k k2:IntKind}{n:Int}:y0u k (.f (.v (.int k2 n)))=some (.f (.v (.int k (k.wrap n)))):=id rfl
theorem a1u {n:Int}:intOf? (.f (.v (.int .i64 n)))=some n:=id rfl
theorem z0Z {s:ByteArray}:strOf? (.f (.v (.string s)))=some s:=id rfl
theorem b1O {r o n:Nat}:slcS (.sl r o n)=some n:=id rfl
theorem d1x {xs:List F}{n:Nat}:slcS (.f (.s xs n))=some n:=id rfl
theorem d1v:slcS (.f .e)=some 0:=id rfl
theorem u0D:slcS (.f (.v (.slice none 0 0)))=some 0:=id rfl
def nilR (k:Nat)(p q:Option (Nat × Bool)):Option Bool:=match p,q with
 | some (i,a),some (j,b)=>if k=i∧k=j∧(a=true∨b=true) then some (a&&b) else none
 | _,_=>none
theorem d1w {k:Nat}{x y:D}:nilS k x y=nilR k (c0K x) (c0K y):=id rfl
theorem y0O {k i j:Nat}{a b:Bool}:nilR k (some (i,a)) (some (j,b))=if k=i∧k=j∧(a=true∨b=true) then some (a&&b) else none:=id rfl
theorem r0W:c0K (.f (.v (.slice none 0 0)))=some (0,true):=id rfl
theorem r0S:c0K (.f (.v (.pointer none)))=some (1,true):=id rfl
theorem r0R:c0K (.f (.v (.map none)))=some (2,true):=id rfl
theorem v0Q {k:Nat}{y:D}{K:Bool→Prop}:c0z k (.f (.v (.slice none 0 0))) y K=a0D (nilS k (.f (.v (.slice none 0 0))) y) K:=id rfl
theorem v0n {k:Nat}{y:D}{K:Bool→Prop}:c0z k (.f (.v (.pointer none))) y K=a0D (nilS k (.f (.v (.pointer none))) y) K:=id rfl
theorem v0R {k:Nat}{y:D}{K:Bool→Prop}:c0z k (.f (.v (.map none))) y K=a0D (nilS k (.f (.v (.map none))) y) K:=id rfl
theorem v0r {k:Nat}{y:D}{K:Bool→Prop}:c0z k (.f .e) y K=a0D (nilS k (.f .e) y) K:=id rfl
theorem t0Z {r o:Nat}{k:Nat}{y:D}{K:Bool→Prop}:c0z k (.pt r o) y K=a0D (nilS k (.pt r o) y) K:=id rfl
theorem v0b {r:Nat}{k:Nat}{y:D}{K:Bool→Prop}:c0z k (.mp r) y K=a0D (nilS k (.mp r) y) K:=id rfl
theorem v0G {xs:List F}{k:Nat}{y:D}{K:Bool→Prop}:c0z k (.rf xs) y K=a0D (nilS k (.rf xs) y) K:=id rfl
theorem b1Z {xs:List F}{n:Nat}:c0K (.f (.s xs (n+1)))=some (0,false):=id rfl
theorem w0G {r o n:Nat}:c0K (.sl r o (n+1))=some (0,false):=id rfl
theorem u0N {r o:Nat}:c0K (.pt r o)=some (1,false):=id rfl
theorem u0p {xs:List F}:c0K (.rf xs)=some (1,false):=id rfl
theorem v0B {r:Nat}:c0K (.mp r)=some (2,false):=id rfl
def subR (sz:Nat)(E:TypeId)(r off l h:Nat)(o:Option Row):Option D:=match o with
 | some (.data U xs)=>if l=h then some (.f (.s [] 0)) else if 0<xs.length∧some U=some E then some (.sl r (off+l*sz) (h-l)) else none
 | some (.froz U _)=>if l=h then some (.f (.s [] 0)) else if some U=some E then some (.sl r (off+l*sz) (h-l)) else none
 | _=>if l=h then some (.f (.s [] 0)) else none
theorem z0h {H:List Row}{sz:Nat}{E:TypeId}{r off n l h:Nat}:subS H sz E (.sl r off n) l h=subR sz E r off l h H[r]?:=by
 unfold subS h0m subR
 dsimp only
 split<;>split<;>simp only [*]
 all_goals first|(split<;>simp_all)|simp_all
theorem o0P {sz:Nat}{E U:TypeId}{r off l h:Nat}{xs:List F}:subR sz E r off l h (some (.data U xs))=if l=h then some (.f (.s [] 0)) else if 0<xs.length∧some U=some E then some (.sl r (off+l*sz) (h-l)) else none:=id rfl
theorem p0E {sz:Nat}{E U:TypeId}{r off l h:Nat}{xs:List F}:subR sz E r off l h (some (.froz U xs))=if l=h then some (.f (.s [] 0)) else if some U=some E then some (.sl r (off+l*sz) (h-l)) else none:=id rfl
theorem m0Q {H:List Row}{sz:Nat}{E:TypeId}{xs:List F}{n l h:Nat}:subS H sz E (.f (.s xs n)) l h=some (.f (.s ((xs.drop (l*sz)).take ((h-l)*sz)) (h-l))):=id rfl
theorem d1u {H:List Row}{sz:Nat}{E:TypeId}{l h:Nat}:subS H sz E (.f .e) l h=some (.f .e):=id rfl
theorem w0T {H:List Row}{sz:Nat}{E:TypeId}{l h:Nat}:subS H sz E (.f (.v (.slice none 0 0))) l h=some (.f (.v (.slice none 0 0))):=id rfl
theorem a1B:mxS (.f (.v (.slice none 0 0))) = .f (.v (.slice none 0 0)):=id rfl
theorem f1W {xs:List F}{n:Nat}:mxS (.f (.s xs n)) = .f .e:=id rfl
theorem f1U:mxS (.f .e) = .f .e:=id rfl
theorem e1C {r o n:Nat}:mxS (.sl r o n) = .f .e:=id rfl
theorem r0f {cs:List D}:e0Q cs []=some cs:=id rfl
theorem m0X {cs:List D}{off size:Nat}{d:D}{rest:List (Nat × Nat × D)}:e0Q cs ((off,size,d) :: rest)=if b0G d=true∧d.cells.length=size∧off+size≤cs.length then e0Q (putL off d.cells cs) rest else none:=id rfl
theorem k0f {P:Program}{H:List Row}:a0U P H []=some ([],[]):=id rfl
def a1Z (x:F)(o:Option (List F × List (Nat × Row))):Option (List F × List (Nat × Row)):=match o with
 | some (xs,us)=>some (x :: xs,us)
 | none=>none
theorem u0T {P:Program}{H:List Row}{x:F}{ds:List D}:a0U P H (.f x :: ds)=a1Z x (a0U P H ds):=by
 simp only [a0U,b0N,a0B,List.nil_append]
 cases a0U P H ds<;>rfl
theorem r0d {x:F}{xs:List F}{us:List (Nat × Row)}:a1Z x (some (xs,us))=some (x :: xs,us):=id rfl
theorem h0C {H:List Row}:a0B H []=H:=id rfl
theorem d1D:fs? []=some []:=id rfl
theorem b1E {x:F}{ds:List D}:fs? (.f x :: ds)=(fs? ds).map (x :: ·):=id rfl
theorem m0i {H:List Row}{sz:Nat}:b0Z H sz (.f (.v (.slice none 0 0)))=some (0,[]):=id rfl
theorem w0Q {H:List Row}{sz:Nat}:b0Z H sz (.f .e)=some (0,[]):=id rfl
theorem t0x {H:List Row}{sz n:Nat}{xs:List F}:b0Z H sz (.f (.s xs n))=some (n,xs):=id rfl
def b1F (sz off n:Nat)(o:Option Row):Option (Nat × List F):=match o with
 | some (.data _ xs)=>if off+n*sz≤xs.length then some (n,(xs.drop off).take (n*sz)) else none
 | some (.froz _ xs)=>if off+n*sz≤xs.length then some (n,(xs.drop off).take (n*sz)) else none
 | some (.box _ ds)=>match fs? ds with
  | some xs=>if off+n*sz≤xs.length then some (n,(xs.drop off).take (n*sz)) else none
  | none=>none
 | _=>none
theorem p0b {H:List Row}{sz r off n:Nat}:b0Z H sz (.sl r off n)=b1F sz off n H[r]?:=id rfl
theorem i0J {sz off n:Nat}{T:TypeId}{xs:List F}:b1F sz off n (some (.data T xs))=if off+n*sz≤xs.length then some (n,(xs.drop off).take (n*sz)) else none:=id rfl
theorem i0s {sz off n:Nat}{T:TypeId}{xs:List F}:b1F sz off n (some (.froz T xs))=if off+n*sz≤xs.length then some (n,(xs.drop off).take (n*sz)) else none:=id rfl
theorem t0l {H:List Row}{T:TypeId}{sz b:Nat}{x:D}{K:D→List Row→Prop}:appS H T sz b (.f (.v (.slice none 0 0))) x K=a0D (b0Z H sz x) fun p=>Two (p.1=0) (K (.f (.v (.slice none 0 0))) H) (p.2.length=p.1*sz∧p.1*b≤most∧p.1≤most∧K (.sl H.length 0 p.1) (H++[.data T p.2])):=id rfl
theorem d1A {H:List Row}{T:TypeId}{sz b:Nat}{x:D}{K:D→List Row→Prop}:appS H T sz b (.f .e) x K=a0D (b0Z H sz x) fun p=>Two (p.1=0) (K (.f .e) H) (p.2.length=p.1*sz∧p.1*b≤most∧p.1≤most∧K (.sl H.length 0 p.1) (H++[.data T p.2])):=id rfl
def appR (H:List Row)(T:TypeId)(sz b r off n m:Nat)(ys:List F)(K:D→List Row→Prop)(o:Option Row):Prop:=match o with
 | some (.data U xs)=>U=T∧ys.length=m*sz∧xs.length=off+n*sz∧(n+m)*b≤most∧n+m≤most∧K (.sl H.length 0 (n+m)) (H.set r .dead++[.data T (xs.drop off++ys)])
 | _=>False
theorem z0t {H:List Row}{T:TypeId}{sz b:Nat}{x:D}{K:D→List Row→Prop}{r off n:Nat}:appS H T sz b (.sl r off n) x K=a0D (b0Z H sz x) fun p=>Two (p.1=0) (K (.sl r off n) H) (appR H T sz b r off n p.1 p.2 K H[r]?):=id rfl
theorem r0O {H:List Row}{T U:TypeId}{sz b r off n m:Nat}{ys xs:List F}{K:D→List Row→Prop}:appR H T sz b r off n m ys K (some (.data U xs))=(U=T∧ys.length=m*sz∧xs.length=off+n*sz∧(n+m)*b≤most∧n+m≤most∧K (.sl H.length 0 (n+m)) (H.set r .dead++[.data T (xs.drop off++ys)])):=id rfl
theorem p0r {H:List Row}:g0Q H (.f (.v (.map none)))=some []:=id rfl
def g1P (o:Option Row):Option (List (Value × D)):=match o with
 | some (.map es)=>some es
 | _=>none
theorem w0E {H:List Row}{r:Nat}:g0Q H (.mp r)=g1P H[r]?:=id rfl
theorem p0U {es:List (Value × D)}:g1P (some (.map es))=some es:=id rfl
theorem y0Z {w:Bool}{p q:Prop}{b:Bool}:q0o (some (.f (.v (.bool b)))) w p q=if w then Bsel b p q else Bsel b q p:=id rfl
theorem b1d {w:Bool}{p q:Prop}{ds:List D}:q0o (some (.tp ds)) w p q=q:=id rfl
theorem Dint {n:Int}:D.int n = .f (.v (.int .i64 n)):=id rfl
theorem f1r {b:Bool}:D.bool b = .f (.v (.bool b)):=id rfl
theorem Dv {x:Value}:D.v x = .f (.v x):=id rfl
theorem d1N:D.undef = .tp []:=id rfl
theorem x0x {N r:Nat}:ren [] N r=N+r:=by simp [ren]
theorem d1e {ρ:Nat→Nat}{x:F}:renE ρ (.f x) = .f x:=id rfl
theorem y0X {ρ:Nat→Nat}{r o n:Nat}:renE ρ (.sl r o n) = .sl (ρ r) o n:=id rfl
theorem z0A {ρ:Nat→Nat}{r o:Nat}:renE ρ (.pt r o) = .pt (ρ r) o:=id rfl
theorem z0W {ρ:Nat→Nat}{r:Nat}:renE ρ (.mp r) = .mp (ρ r):=id rfl
theorem z0I {ρ:Nat→Nat}{xs:List F}:renE ρ (.rf xs) = .rf xs:=id rfl
theorem y0H {ρ:Nat→Nat}{ds:List D}:renE ρ (.ag ds) = .ag (ds.map (renE ρ)):=by simp [renE,c0M]
theorem y0b {ρ:Nat→Nat}{ds:List D}:renE ρ (.tp ds) = .tp (ds.map (renE ρ)):=by simp [renE,c0M]
theorem z0U {ρ:Nat→Nat}{f:FuncId}{ds:List D}:renE ρ (.fn f ds) = .fn f (ds.map (renE ρ)):=by simp [renE,c0M]
theorem v0m {ρ:Nat→Nat}{T:TypeId}{ds:List D}:renR ρ (.box T ds) = .box T (ds.map (renE ρ)):=id rfl
theorem o0r {ρ:Nat→Nat}{T:TypeId}{xs:List F}:renR ρ (.data T xs) = .data T xs:=id rfl
theorem p0c {ρ:Nat→Nat}{T:TypeId}{xs:List F}:renR ρ (.froz T xs) = .froz T xs:=id rfl
theorem w0R {ρ:Nat→Nat}{es:List (Value × D)}:renR ρ (.map es) = .map es:=id rfl
theorem p0y {ρ:Nat→Nat}:renR ρ .dead = .dead:=id rfl
theorem j0j {ρ:Nat→Nat}{rows H:List Row}:b0U ρ [] rows H=H:=by cases rows<;>rfl
theorem g0h {ρ:Nat→Nat}{r:Nat}{ι:List Nat}{row:Row}{rows H:List Row}:b0U ρ (r :: ι) (row :: rows) H=b0U ρ ι rows (H.set r (renR ρ row)):=id rfl
theorem q0J {ts:List D}{t:Nat}{d:D}:putD! ts (some t) d=ts.set t d:=id rfl
theorem q0m {ts:List D}{d:D}:putD! ts none d=ts:=id rfl
theorem m0l:List.range 0=[]:=id rfl
theorem t0o {P:Program}{b own:List Nat}{n0 i:Nat}{log:List (List Nat × List Nat)}{ts:List D}{H:List Row}{dr:List Nat}{K:St→Prop}:wpDr P b n0 [] i own log ⟨ts,H,dr⟩ K=K ⟨ts,H,[]⟩:=id rfl
def d0c (P:Program)(b own:List Nat)(n0 i:Nat)(log:List (List Nat × List Nat))(o:SOp)(V:List Nat)(ts:List D)(H:List Row)(next:List Nat→List (List Nat × List Nat)→D→List Row→Prop):Prop :=
 a0R P ts (b0g V H) o fun w d H'=>H'=(effS w V H.length d H').heap (b0g V H) ∧
  Chk (chkS n0 own (b.getD i 0) V (o.vs.map (SV.ev ts)) (b0g V H) (effS w V H.length d H') log) ∧
  next (own++(effS w V H.length d H').news.map fun _=>i) (log++[(V,(effS w V H.length d H').upd.map (·.1))]) d ((effS w V H.length d H').heap H)
@[congr] theorem drStep_congr {P:Program} {b own own':List Nat} {n0 i i':Nat} {log log':List (List Nat × List Nat)} {o:SOp} {V V':List Nat} {ts ts':List D} {H H':List Row} {next:List Nat→List (List Nat × List Nat)→D→List Row→Prop} (h1:own=own') (h5:log=log') (h2:V=V') (h3:ts=ts') (h4:H=H') (h6:i=i'):d0c P b own n0 i log o V ts H next=d0c P b own' n0 i' log' o V' ts' H' next:=by rw [h1,h2,h3,h4,h5,h6]
theorem y0m {P:Program}{b own:List Nat}{n0 i:Nat}{log:List (List Nat × List Nat)}{l:List SI}{ts:List D}{H:List Row}{dr:List Nat}{K:St→Prop}{t:Nat}{o:SOp}:wpDr P b n0 (.a t o :: l) i own log ⟨ts,H,dr⟩ K=d0c P b own n0 i log o (a0Y ts H o) ts H fun own1 log1 d H1=>wpDr P b n0 l (i+1) own1 log1 ⟨ts.set t d,H1,[]⟩ K:=id rfl
theorem z0J {P:Program}{b own:List Nat}{n0 i:Nat}{log:List (List Nat × List Nat)}{l:List SI}{ts:List D}{H:List Row}{dr:List Nat}{K:St→Prop}{o:SOp}:wpDr P b n0 (.n o :: l) i own log ⟨ts,H,dr⟩ K=d0c P b own n0 i log o (a0Y ts H o) ts H fun own1 log1 d H1=>wpDr P b n0 l (i+1) own1 log1 ⟨ts,H1,[]⟩ K:=id rfl
theorem y0c {P:Program}{b own:List Nat}{n0 i:Nat}{log:List (List Nat × List Nat)}{l:List SI}{ts:List D}{H:List Row}{dr:List Nat}{K:St→Prop}{d:Option Nat}{t:Nat}{w:Bool}{o:SOp}:wpDr P b n0 (.g d o t w :: l) i own log ⟨ts,H,dr⟩ K=q0o ts[t]? w (d0c P b own n0 i log o (a0Y ts H o) ts H fun own1 log1 r H1=>wpDr P b n0 l (i+1) own1 log1 ⟨putD! ts d r,H1,[]⟩ K) (wpDr P b n0 l (i+1) own (log++[([],[])]) ⟨putD! ts d D.undef,H,[]⟩ K):=id rfl
theorem m0e {P:Program}{b own:List Nat}{n0 i:Nat}{log:List (List Nat × List Nat)}{o:SOp}{V:List Nat}{ts:List D}{H:List Row}{next:List Nat→List (List Nat × List Nat)→D→List Row→Prop}:d0c P b own n0 i log o V ts H next=a0R P ts (b0g V H) o fun w d H1=>H1=(effS w V H.length d H1).heap (b0g V H)∧Chk (chkS n0 own (b.getD i 0) V (o.vs.map (SV.ev ts)) (b0g V H) (effS w V H.length d H1) log)∧next (own++(effS w V H.length d H1).news.map fun _=>i) (log++[(V,(effS w V H.length d H1).upd.map (·.1))]) d ((effS w V H.length d H1).heap H):=id rfl
theorem o0a {P:Program}{ts:List D}{H:List Row}{K:Bool→D→List Row→Prop}(x:SV):a0R P ts H (.mv x) K=((K false) (x.ev ts) H):=id rfl
theorem v0u {ts:List D}{H:List Row}(x:SV):a0Y ts H (.mv x)=[]:=id rfl
theorem v0k (x:SV):SOp.turns (.mv x)=false:=id rfl
theorem j0s {P:Program}{ts:List D}{H:List Row}{K:Bool→D→List Row→Prop}(c a b:SV):a0R P ts H (.pick c a b) K=(k0b (c.ev ts) ((K false) (a.ev ts) H) ((K false) (b.ev ts) H)):=id rfl
theorem l0i {ts:List D}{H:List Row}(c a b:SV):a0Y ts H (.pick c a b)=[]:=id rfl
theorem l0d (c a b:SV):SOp.turns (.pick c a b)=false:=id rfl
theorem g0x {P:Program}{ts:List D}{H:List Row}{K:Bool→D→List Row→Prop}(T:TypeId)(z:List D):a0R P ts H (.alloc T z) K=((K false) (.pt H.length 0) (H++[.box T z])):=id rfl
theorem h0Y {ts:List D}{H:List Row}(T:TypeId)(z:List D):a0Y ts H (.alloc T z)=[]:=id rfl
theorem h0s (T:TypeId)(z:List D):SOp.turns (.alloc T z)=false:=id rfl
theorem l0M {P:Program}{ts:List D}{H:List Row}{K:Bool→D→List Row→Prop}(T:TypeId)(x:SV):a0R P ts H (.box T x) K=(a0D (boxD (x.ev ts)) fun cs=>(K false) (.pt H.length 0) (H++[.box T cs])):=id rfl
theorem p0G {ts:List D}{H:List Row}(T:TypeId)(x:SV):a0Y ts H (.box T x)=[]:=id rfl
theorem o0K (T:TypeId)(x:SV):SOp.turns (.box T x)=false:=id rfl
theorem g0i {P:Program}{ts:List D}{H:List Row}{K:Bool→D→List Row→Prop}(a:SV):a0R P ts H (.load1 a) K=(a0D (load1 H (a.ev ts)) fun d=>(K false) d H):=id rfl
theorem i0K {ts:List D}{H:List Row}(a:SV):a0Y ts H (.load1 a)=dedN (b0i ([a.ev ts])):=id rfl
theorem h0o (a:SV):SOp.turns (.load1 a)=false:=id rfl
theorem g0z {P:Program}{ts:List D}{H:List Row}{K:Bool→D→List Row→Prop}(n:Nat)(a:SV):a0R P ts H (.loadA n a) K=(a0D (loadA H n (a.ev ts)) fun d=>(K false) d H):=id rfl
theorem i0B {ts:List D}{H:List Row}(n:Nat)(a:SV):a0Y ts H (.loadA n a)=dedN (b0i ([a.ev ts])):=id rfl
theorem i0H (n:Nat)(a:SV):SOp.turns (.loadA n a)=false:=id rfl
theorem g0v {P:Program}{ts:List D}{H:List Row}{K:Bool→D→List Row→Prop}(n:Nat)(a x:SV):a0R P ts H (.store n a x) K=(a0D (c0o P H n (a.ev ts) (x.ev ts)) fun H'=>(K true) D.undef H'):=id rfl
theorem i0a {ts:List D}{H:List Row}(n:Nat)(a x:SV):a0Y ts H (.store n a x)=dedN (b0i ([a.ev ts,x.ev ts])):=id rfl
theorem i0N (n:Nat)(a x:SV):SOp.turns (.store n a x)=true:=id rfl
theorem j0z {P:Program}{ts:List D}{H:List Row}{K:Bool→D→List Row→Prop}(x:SV):a0R P ts H (.nilc x) K=(a0D (t0C (x.ev ts)) fun d=>(K false) d H):=id rfl
theorem l0r {ts:List D}{H:List Row}(x:SV):a0Y ts H (.nilc x)=[]:=id rfl
theorem l0T (x:SV):SOp.turns (.nilc x)=false:=id rfl
theorem k0r {P:Program}{ts:List D}{H:List Row}{K:Bool→D→List Row→Prop}(o:Nat)(a:SV):a0R P ts H (.off o a) K=(a0D (offD o (a.ev ts)) fun d=>(K false) d H):=id rfl
theorem p0H {ts:List D}{H:List Row}(o:Nat)(a:SV):a0Y ts H (.off o a)=[]:=id rfl
theorem o0f (o:Nat)(a:SV):SOp.turns (.off o a)=false:=id rfl
theorem i0z {P:Program}{ts:List D}{H:List Row}{K:Bool→D→List Row→Prop}(o:Nat)(x:SV):a0R P ts H (.fld1 o x) K=(a0D (fld1 o (x.ev ts)) fun d=>(K false) d H):=id rfl
theorem m0q {ts:List D}{H:List Row}(o:Nat)(x:SV):a0Y ts H (.fld1 o x)=[]:=id rfl
theorem m0v (o:Nat)(x:SV):SOp.turns (.fld1 o x)=false:=id rfl
theorem j0f {P:Program}{ts:List D}{H:List Row}{K:Bool→D→List Row→Prop}(o n:Nat)(x:SV):a0R P ts H (.fldA o n x) K=(a0D (fldA o n (x.ev ts)) fun d=>(K false) d H):=id rfl
theorem l0P {ts:List D}{H:List Row}(o n:Nat)(x:SV):a0Y ts H (.fldA o n x)=[]:=id rfl
theorem k0z (o n:Nat)(x:SV):SOp.turns (.fldA o n x)=false:=id rfl
theorem l0n {P:Program}{ts:List D}{H:List Row}{K:Bool→D→List Row→Prop}(sz:Nat)(x i:SV):a0R P ts H (.idx sz x i) K=(idxS sz (x.ev ts) (i.ev ts) fun d=>(K false) d H):=id rfl
theorem q0j {ts:List D}{H:List Row}(sz:Nat)(x i:SV):a0Y ts H (.idx sz x i)=[]:=id rfl
theorem p0z (sz:Nat)(x i:SV):SOp.turns (.idx sz x i)=false:=id rfl
theorem m0k {P:Program}{ts:List D}{H:List Row}{K:Bool→D→List Row→Prop}(sz n:Nat)(x i:SV):a0R P ts H (.arr sz n x i) K=(arrS sz n (x.ev ts) (i.ev ts) fun d=>(K false) d H):=id rfl
theorem r0T {ts:List D}{H:List Row}(sz n:Nat)(x i:SV):a0Y ts H (.arr sz n x i)=[]:=id rfl
theorem q0D (sz n:Nat)(x i:SV):SOp.turns (.arr sz n x i)=false:=id rfl
theorem k0m {P:Program}{ts:List D}{H:List Row}{K:Bool→D→List Row→Prop}(i:Nat)(x:SV):a0R P ts H (.ext i x) K=(a0D (extD i (x.ev ts)) fun d=>(K false) d H):=id rfl
theorem p0F {ts:List D}{H:List Row}(i:Nat)(x:SV):a0Y ts H (.ext i x)=[]:=id rfl
theorem q0T (i:Nat)(x:SV):SOp.turns (.ext i x)=false:=id rfl
theorem l0G {P:Program}{ts:List D}{H:List Row}{K:Bool→D→List Row→Prop}(op:BinOp)(x y:SV):a0R P ts H (.bin op x y) K=(binS op (x.ev ts) (y.ev ts) fun d=>(K false) d H):=id rfl
theorem p0B {ts:List D}{H:List Row}(op:BinOp)(x y:SV):a0Y ts H (.bin op x y)=[]:=id rfl
theorem p0Y (op:BinOp)(x y:SV):SOp.turns (.bin op x y)=false:=id rfl
theorem j0a {P:Program}{ts:List D}{H:List Row}{K:Bool→D→List Row→Prop}(op:BinOp)(x y:SV):a0R P ts H (.binb op x y) K=(r0Q op (x.ev ts) (y.ev ts) fun d=>(K false) d H):=id rfl
theorem m0m {ts:List D}{H:List Row}(op:BinOp)(x y:SV):a0Y ts H (.binb op x y)=[]:=id rfl
theorem l0b (op:BinOp)(x y:SV):SOp.turns (.binb op x y)=false:=id rfl
theorem m0N {P:Program}{ts:List D}{H:List Row}{K:Bool→D→List Row→Prop}(eq:Bool)(ks:List Nat)(x y:SV):a0R P ts H (.aeq eq ks x y) K=(aeqS eq ks (x.ev ts) (y.ev ts) fun d=>(K false) d H):=id rfl
theorem o0o {ts:List D}{H:List Row}(eq:Bool)(ks:List Nat)(x y:SV):a0Y ts H (.aeq eq ks x y)=[]:=id rfl
theorem p0n (eq:Bool)(ks:List Nat)(x y:SV):SOp.turns (.aeq eq ks x y)=false:=id rfl
theorem h0e {P:Program}{ts:List D}{H:List Row}{K:Bool→D→List Row→Prop}(x:SV):a0R P ts H (.unot x) K=(a0D (notS (x.ev ts)) fun d=>(K false) d H):=id rfl
theorem m0a {ts:List D}{H:List Row}(x:SV):a0Y ts H (.unot x)=[]:=id rfl
theorem k0l (x:SV):SOp.turns (.unot x)=false:=id rfl
theorem o0e {P:Program}{ts:List D}{H:List Row}{K:Bool→D→List Row→Prop}(f:FuncId)(caps:List SV):a0R P ts H (.fn f caps) K=((K false) (.fn f (caps.map (SV.ev ts))) H):=id rfl
theorem u0H {ts:List D}{H:List Row}(f:FuncId)(caps:List SV):a0Y ts H (.fn f caps)=[]:=id rfl
theorem t0i (f:FuncId)(caps:List SV):SOp.turns (.fn f caps)=false:=id rfl
theorem g0r {P:Program}{ts:List D}{H:List Row}{K:Bool→D→List Row→Prop}  : a0R P ts H (.mkmap) K=((K false) (.mp H.length) (H++[.map []])):=id rfl
theorem j0S {ts:List D}{H:List Row}  : a0Y ts H (.mkmap)=[]:=id rfl
theorem h0t  : SOp.turns (.mkmap)=false:=id rfl
theorem e0S {P:Program}{ts:List D}{H:List Row}{K:Bool→D→List Row→Prop}(T:TypeId)(sz b:Nat)(z:List F)(l c:SV):a0R P ts H (.mkslice T sz b z l c) K=(a0D (intOf? (l.ev ts)) fun a=>a0D (intOf? (c.ev ts)) fun c=>((0<a∨c=0)∧0≤a∧a≤c∧b*c≤140737488355328∧c.toNat*sz≤16777216)∧(K false) (.sl H.length 0 a.toNat) (H++[.data T ((List.range (a.toNat*sz)).map fun j=>z.getD (j % sz) (.v Go.undef))])):=id rfl
theorem f0Z {ts:List D}{H:List Row}(T:TypeId)(sz b:Nat)(z:List F)(l c:SV):a0Y ts H (.mkslice T sz b z l c)=[]:=id rfl
theorem f0V (T:TypeId)(sz b:Nat)(z:List F)(l c:SV):SOp.turns (.mkslice T sz b z l c)=false:=id rfl
theorem k0t {P:Program}{ts:List D}{H:List Row}{K:Bool→D→List Row→Prop}(z:List D)(parts:List (Nat × Nat × SV)):a0R P ts H (.bld z parts) K=(a0D (e0Q z (parts.map fun p=>(p.1,p.2.1,p.2.2.ev ts))) fun ds=>(K false) (.ag ds) H):=id rfl
theorem o0G {ts:List D}{H:List Row}(z:List D)(parts:List (Nat × Nat × SV)):a0Y ts H (.bld z parts)=[]:=id rfl
theorem q0v (z:List D)(parts:List (Nat × Nat × SV)):SOp.turns (.bld z parts)=false:=id rfl
theorem m0O {P:Program}{ts:List D}{H:List Row}{K:Bool→D→List Row→Prop}(T:TypeId)(sz len:Nat)(z:List D)(parts:List (Nat × SV)):a0R P ts H (.bsl T sz len z parts) K=(a0D (e0Q z (parts.map fun p=>(p.1,sz,p.2.ev ts))) fun ds=>a0D (a0U P H ds) fun xu=>(K true) (.sl H.length 0 len) (a0B H xu.2++[.data T xu.1])):=id rfl
theorem o0t {ts:List D}{H:List Row}(T:TypeId)(sz len:Nat)(z:List D)(parts:List (Nat × SV)):a0Y ts H (.bsl T sz len z parts)=dedN (b0i ((parts.map fun p=>p.2).map (SV.ev ts))):=id rfl
theorem o0k (T:TypeId)(sz len:Nat)(z:List D)(parts:List (Nat × SV)):SOp.turns (.bsl T sz len z parts)=true:=id rfl
theorem k0w {P:Program}{ts:List D}{H:List Row}{K:Bool→D→List Row→Prop}(T:TypeId)(sz b:Nat)(s x:SV):a0R P ts H (.app T sz b s x) K=(appS H T sz b (s.ev ts) (x.ev ts) (K true)):=id rfl
theorem q0y {ts:List D}{H:List Row}(T:TypeId)(sz b:Nat)(s x:SV):a0Y ts H (.app T sz b s x)=dedN (b0i ([s.ev ts,x.ev ts])):=id rfl
theorem o0W (T:TypeId)(sz b:Nat)(s x:SV):SOp.turns (.app T sz b s x)=true:=id rfl
theorem h0r {P:Program}{ts:List D}{H:List Row}{K:Bool→D→List Row→Prop}(x:SV):a0R P ts H (.slen x) K=(a0D (slcS (x.ev ts)) fun n=>(K false) (D.int n) H):=id rfl
theorem k0s {ts:List D}{H:List Row}(x:SV):a0Y ts H (.slen x)=[]:=id rfl
theorem m0n (x:SV):SOp.turns (.slen x)=false:=id rfl
theorem j0h {P:Program}{ts:List D}{H:List Row}{K:Bool→D→List Row→Prop}(x:SV):a0R P ts H (.mlen x) K=(a0D (g0Q H (x.ev ts)) fun es=>(K false) (D.int es.length) H):=id rfl
theorem l0c {ts:List D}{H:List Row}(x:SV):a0Y ts H (.mlen x)=dedN (b0i ([x.ev ts])):=id rfl
theorem l0o (x:SV):SOp.turns (.mlen x)=false:=id rfl
theorem k0K {P:Program}{ts:List D}{H:List Row}{K:Bool→D→List Row→Prop}(k:IntKind)(x:SV):a0R P ts H (.conv k x) K=(a0D (y0u k (x.ev ts)) fun d=>(K false) d H):=id rfl
theorem m0g {ts:List D}{H:List Row}(k:IntKind)(x:SV):a0Y ts H (.conv k x)=[]:=id rfl
theorem m0d (k:IntKind)(x:SV):SOp.turns (.conv k x)=false:=id rfl
theorem m0t {P:Program}{ts:List D}{H:List Row}{K:Bool→D→List Row→Prop}(x:SV):a0R P ts H (.s2b x) K=(a0D (strOf? (x.ev ts)) fun s=>s.size≤most∧(K false) (.f (.s (s.data.toList.map fun b=>.v (.int .u8 b.toNat)) s.size)) H):=id rfl
theorem o0q {ts:List D}{H:List Row}(x:SV):a0Y ts H (.s2b x)=[]:=id rfl
theorem p0P (x:SV):SOp.turns (.s2b x)=false:=id rfl
theorem m0p {P:Program}{ts:List D}{H:List Row}{K:Bool→D→List Row→Prop}(x:SV):a0R P ts H (.b2s x) K=(a0D (b0Z H 1 (x.ev ts)) fun p=>a0D (bytesOf? (p.2.map .f)) fun l=>p.2.length=p.1∧(K false) (.f (.v (.string ⟨l.toArray⟩))) H):=id rfl
theorem p0h {ts:List D}{H:List Row}(x:SV):a0Y ts H (.b2s x)=dedN (b0i ([x.ev ts])):=id rfl
theorem p0j (x:SV):SOp.turns (.b2s x)=false:=id rfl
theorem e0n {P:Program}{ts:List D}{H:List Row}{K:Bool→D→List Row→Prop}(x:SV):a0R P ts H (.strlen x) K=(a0D (strOf? (x.ev ts)) fun s=>(K false) (D.int s.size) H):=id rfl
theorem g0g {ts:List D}{H:List Row}(x:SV):a0Y ts H (.strlen x)=[]:=id rfl
theorem g0S (x:SV):SOp.turns (.strlen x)=false:=id rfl
theorem i0r {P:Program}{ts:List D}{H:List Row}{K:Bool→D→List Row→Prop}(sz n:Nat)(x i:SV):a0R P ts H (.aidx sz n x i) K=(x0W sz n (x.ev ts) (i.ev ts) fun d=>(K false) d H):=id rfl
theorem m0w {ts:List D}{H:List Row}(sz n:Nat)(x i:SV):a0Y ts H (.aidx sz n x i)=[]:=id rfl
theorem l0m (sz n:Nat)(x i:SV):SOp.turns (.aidx sz n x i)=false:=id rfl
theorem h0d {P:Program}{ts:List D}{H:List Row}{K:Bool→D→List Row→Prop}(x i:SV):a0R P ts H (.sidx x i) K=(a0D (strOf? (x.ev ts)) fun s=>a0D (intOf? (i.ev ts)) fun i=>a0D (if 0≤i then s.data.toList[i.toNat]? else none) fun b=>(K false) (.f (.v (.int .u8 b.toNat))) H):=id rfl
theorem l0X {ts:List D}{H:List Row}(x i:SV):a0Y ts H (.sidx x i)=[]:=id rfl
theorem m0E (x i:SV):SOp.turns (.sidx x i)=false:=id rfl
theorem j0P {P:Program}{ts:List D}{H:List Row}{K:Bool→D→List Row→Prop}(x:SV)(lo hi:Option SV):a0R P ts H (.ssub x lo hi) K=(a0D (y0S (x.ev ts) (lo.map (SV.ev ts)) (hi.map (SV.ev ts))) fun d=>(K false) d H):=id rfl
theorem l0I {ts:List D}{H:List Row}(x:SV)(lo hi:Option SV):a0Y ts H (.ssub x lo hi)=[]:=id rfl
theorem l0N (x:SV)(lo hi:Option SV):SOp.turns (.ssub x lo hi)=false:=id rfl
theorem i0V {P:Program}{ts:List D}{H:List Row}{K:Bool→D→List Row→Prop}(ok:Bool)(K0:TypeId)(z:D)(m k:SV):a0R P ts H (.look ok K0 z m k) K=(a0D (y0j P H ok K0 z (m.ev ts) (k.ev ts)) fun d=>(K false) d H):=id rfl
theorem m0Y {ts:List D}{H:List Row}(ok:Bool)(K0:TypeId)(z:D)(m k:SV):a0Y ts H (.look ok K0 z m k)=dedN (b0i ([m.ev ts,k.ev ts])):=id rfl
theorem l0W (ok:Bool)(K0:TypeId)(z:D)(m k:SV):SOp.turns (.look ok K0 z m k)=false:=id rfl
theorem j0L {P:Program}{ts:List D}{H:List Row}{K:Bool→D→List Row→Prop}(K0:TypeId)(m k x:SV):a0R P ts H (.mput K0 m k x) K=(a0D (y0g P H K0 (m.ev ts) (k.ev ts) (x.ev ts)) fun H'=>(K true) D.undef H'):=id rfl
theorem m0b {ts:List D}{H:List Row}(K0:TypeId)(m k x:SV):a0Y ts H (.mput K0 m k x)=dedN (b0i ([m.ev ts,k.ev ts,x.ev ts])):=id rfl
theorem k0y (K0:TypeId)(m k x:SV):SOp.turns (.mput K0 m k x)=true:=id rfl
theorem i0L {P:Program}{ts:List D}{H:List Row}{K:Bool→D→List Row→Prop}(K0:TypeId)(m k:SV):a0R P ts H (.mdel K0 m k) K=(a0D (z0d P H K0 (m.ev ts) (k.ev ts)) fun H'=>(K true) (.tp []) H'):=id rfl
theorem n0C {ts:List D}{H:List Row}(K0:TypeId)(m k:SV):a0Y ts H (.mdel K0 m k)=dedN (b0i ([m.ev ts,k.ev ts])):=id rfl
theorem m0x (K0:TypeId)(m k:SV):SOp.turns (.mdel K0 m k)=true:=id rfl
theorem m0h {P:Program}{ts:List D}{H:List Row}{K:Bool→D→List Row→Prop}(T:TypeId)(x:SV):a0R P ts H (.clr T x) K=(a0D (q0f P H T (x.ev ts)) fun H'=>(K true) (.tp []) H'):=id rfl
theorem q0u {ts:List D}{H:List Row}(T:TypeId)(x:SV):a0Y ts H (.clr T x)=dedN (b0i ([x.ev ts])):=id rfl
theorem r0c (T:TypeId)(x:SV):SOp.turns (.clr T x)=true:=id rfl
theorem q0g {P:Program}{ts:List D}{H:List Row}{K:Bool→D→List Row→Prop}(mx:Bool)(x y:SV):a0R P ts H (.mm mx x y) K=(a0D (intOf? (x.ev ts)) fun a=>a0D (intOf? (y.ev ts)) fun b=>(K false) (D.int (if mx then max a b else min a b)) H):=id rfl
theorem v0l {ts:List D}{H:List Row}(mx:Bool)(x y:SV):a0Y ts H (.mm mx x y)=[]:=id rfl
theorem u0J (mx:Bool)(x y:SV):SOp.turns (.mm mx x y)=false:=id rfl
theorem h0p {P:Program}{ts:List D}{H:List Row}{K:Bool→D→List Row→Prop}(f:SV)(args:List SV):a0R P ts H (.call f args) K=a0j P (f.ev ts) (args.map (SV.ev ts)) H K:=id rfl
theorem k0q {ts:List D}{H:List Row}(f:SV)(args:List SV):a0Y ts H (.call f args)=dedN (lvl H (lvl H (lvl H (b0i (args.map (SV.ev ts))++(f.ev ts).refs)))):=id rfl
theorem m0I (f:SV)(args:List SV):SOp.turns (.call f args)=true:=id rfl
theorem i0j {P:Program}{ts:List D}{H:List Row}{K:Bool→D→List Row→Prop}(sz:Nat)(E:TypeId)(x:SV):a0R P ts H (.sub sz E x none none none) K=(a0D (slcS (x.ev ts)) fun n=>(0≤(0:Int)∧(0:Int)≤n∧(n:Int)≤n)∧a0D (subS H sz E (x.ev ts) (0:Int).toNat (n:Int).toNat) fun d=>(K false) d H):=id rfl
theorem m0C {ts:List D}{H:List Row}(sz:Nat)(E:TypeId)(x:SV):a0Y ts H (.sub sz E x none none none)=dedN (b0i ([x.ev ts])):=id rfl
theorem l0l (sz:Nat)(E:TypeId)(x:SV):SOp.turns (.sub sz E x none none none)=false:=id rfl
theorem i0i {P:Program}{ts:List D}{H:List Row}{K:Bool→D→List Row→Prop}(sz:Nat)(E:TypeId)(x l:SV):a0R P ts H (.sub sz E x (some l) none none) K=(a0D (slcS (x.ev ts)) fun n=>a0D (intOf? (l.ev ts)) fun l=>(0≤l∧l≤n∧(n:Int)≤n)∧a0D (subS H sz E (x.ev ts) l.toNat (n:Int).toNat) fun d=>(K false) d H):=id rfl
theorem m0A {ts:List D}{H:List Row}(sz:Nat)(E:TypeId)(x l:SV):a0Y ts H (.sub sz E x (some l) none none)=dedN (b0i ([x.ev ts,l.ev ts])):=id rfl
theorem n0A (sz:Nat)(E:TypeId)(x l:SV):SOp.turns (.sub sz E x (some l) none none)=false:=id rfl
theorem i0l {P:Program}{ts:List D}{H:List Row}{K:Bool→D→List Row→Prop}(sz:Nat)(E:TypeId)(x h:SV):a0R P ts H (.sub sz E x none (some h) none) K=(a0D (slcS (x.ev ts)) fun n=>a0D (intOf? (h.ev ts)) fun h=>(0≤(0:Int)∧0≤h∧h≤n)∧a0D (subS H sz E (x.ev ts) (0:Int).toNat h.toNat) fun d=>(K false) d H):=id rfl
theorem k0g {ts:List D}{H:List Row}(sz:Nat)(E:TypeId)(x h:SV):a0Y ts H (.sub sz E x none (some h) none)=dedN (b0i ([x.ev ts,h.ev ts])):=id rfl
theorem k0v (sz:Nat)(E:TypeId)(x h:SV):SOp.turns (.sub sz E x none (some h) none)=false:=id rfl
theorem g0w {P:Program}{ts:List D}{H:List Row}{K:Bool→D→List Row→Prop}(sz:Nat)(E:TypeId)(x l h:SV):a0R P ts H (.sub sz E x (some l) (some h) none) K=(a0D (slcS (x.ev ts)) fun n=>a0D (intOf? (l.ev ts)) fun l=>a0D (intOf? (h.ev ts)) fun h=>(0≤l∧l≤h∧h≤n)∧a0D (subS H sz E (x.ev ts) l.toNat h.toNat) fun d=>(K false) d H):=id rfl
theorem i0h {ts:List D}{H:List Row}(sz:Nat)(E:TypeId)(x l h:SV):a0Y ts H (.sub sz E x (some l) (some h) none)=dedN (b0i ([x.ev ts,l.ev ts,h.ev ts])):=id rfl
theorem h0c (sz:Nat)(E:TypeId)(x l h:SV):SOp.turns (.sub sz E x (some l) (some h) none)=false:=id rfl
theorem i0X {P:Program}{ts:List D}{H:List Row}{K:Bool→D→List Row→Prop}(sz:Nat)(E:TypeId)(x l h m:SV):a0R P ts H (.sub sz E x (some l) (some h) (some m)) K=(a0D (slcS (x.ev ts)) fun n=>a0D (intOf? (l.ev ts)) fun l=>a0D (intOf? (h.ev ts)) fun h=>(0≤l∧l≤h∧h≤n)∧(intOf? (m.ev ts)=some l∧l=h∧(some h).isSome=true)∧(K false) (mxS (x.ev ts)) H):=id rfl
theorem l0j {ts:List D}{H:List Row}(sz:Nat)(E:TypeId)(x l h m:SV):a0Y ts H (.sub sz E x (some l) (some h) (some m))=dedN (b0i ([x.ev ts,l.ev ts,h.ev ts,m.ev ts])):=id rfl
theorem l0g (sz:Nat)(E:TypeId)(x l h m:SV):SOp.turns (.sub sz E x (some l) (some h) (some m))=false:=id rfl
theorem g0u {P:Program}{ts:List D}{H:List Row}{K:Bool→D→List Row→Prop}(sz:Nat)(E:TypeId)(x h m:SV):a0R P ts H (.sub sz E x none (some h) (some m)) K=(a0D (slcS (x.ev ts)) fun n=>a0D (intOf? (h.ev ts)) fun h=>(0≤(0:Int)∧0≤h∧h≤n)∧(intOf? (m.ev ts)=some 0∧(0:Int)=h∧(some h).isSome=true)∧(K false) (mxS (x.ev ts)) H):=id rfl
theorem j0v {ts:List D}{H:List Row}(sz:Nat)(E:TypeId)(x h m:SV):a0Y ts H (.sub sz E x none (some h) (some m))=dedN (b0i ([x.ev ts,h.ev ts,m.ev ts])):=id rfl
theorem i0c (sz:Nat)(E:TypeId)(x h m:SV):SOp.turns (.sub sz E x none (some h) (some m))=false:=id rfl
def hasB:List Nat→Nat→Bool
 | [],_=>false
 | x :: xs,i=>if x=i then true else hasB xs i
theorem s0G:∀ (V:List Nat) (i:Nat),hasB V i=V.contains i
 | [],_=>rfl
 | x :: xs,i=>by
  simp only [hasB,List.contains_cons,s0G xs i]
  by_cases h:x=i
  ·simp [h]
  ·simp [h,Ne.symm h]
def msk (V:List Nat):Nat→List Row→List Row
 | _,[]=>[]
 | i,r :: H=>(if hasB V i=true then r else .dead) :: msk V (i+1) H
theorem d1a (V:List Nat):∀ (H:List Row) (k:Nat),((H.zipIdx k).map fun p=>if V.contains p.2 then p.1 else .dead)=msk V k H
 | [],_=>rfl
 | r :: H,k=>by
  simp only [List.zipIdx_cons,List.map_cons,msk,s0G]
  rw [d1a V H (k+1)]
theorem o0p {V:List Nat}{H:List Row}:b0g V H=msk V 0 H:=d1a V H 0
theorem a1R {V:List Nat}{i:Nat}:msk V i []=[]:=id rfl
theorem w0J {V:List Nat}{i:Nat}{r:Row}{H:List Row}:msk V i (r :: H)=(if hasB V i=true then r else .dead) :: msk V (i+1) H:=id rfl
theorem u0i {i:Nat}:hasB [] i=false:=id rfl
theorem q0Y {x i:Nat}{xs:List Nat}:hasB (x :: xs) i=if x=i then true else hasB xs i:=id rfl
theorem w0F:dedN []=[]:=id rfl
theorem o0O {x:Nat}{xs:List Nat}:dedN (x :: xs)=if hasB xs x=true then dedN xs else x :: dedN xs:=by rw [s0G];rfl
theorem o0h:b0i []=[]:=id rfl
theorem l0V {d:D}{ds:List D}:b0i (d :: ds)=d.refs++b0i ds:=id rfl
theorem d1g {x:F}:D.refs (.f x)=[]:=id rfl
theorem b1D {r o n:Nat}:D.refs (.sl r o n)=[r]:=id rfl
theorem z0Y {r o:Nat}:D.refs (.pt r o)=[r]:=id rfl
theorem a1c {r:Nat}:D.refs (.mp r)=[r]:=id rfl
theorem y0w {xs:List F}:D.refs (.rf xs)=[]:=id rfl
theorem r0j:D.refs .junk=[]:=id rfl
theorem n0L (ds:List D):D.refs.go ds=b0i ds:=by
 induction ds with
 | nil=>rfl
 | cons d ds ih=>simp only [D.refs.go,b0i,ih]
theorem a1s {ds:List D}:D.refs (.ag ds)=b0i ds:=by rw [D.refs,n0L]
theorem b1a {ds:List D}:D.refs (.tp ds)=b0i ds:=by rw [D.refs,n0L]
theorem b1e {f:FuncId}{ds:List D}:D.refs (.fn f ds)=b0i ds:=by rw [D.refs,n0L]
theorem a1a {H:List Row}:lvl H []=[]:=id rfl
theorem w0V {H:List Row}{r:Nat}{rs:List Nat}:lvl H (r :: rs)=r :: (d0w H[r]?++lvl H rs):=id rfl
theorem i0S {T:TypeId}{ds:List D}:d0w (some (.box T ds))=b0i ds:=by
 simp only [d0w,Row.refs]
 induction ds with
 | nil=>rfl
 | cons d ds ih=>simp only [List.flatMap_cons,b0i,ih]
theorem g0a {T:TypeId}{xs:List F}:d0w (some (.data T xs))=[]:=id rfl
theorem g0y {T:TypeId}{xs:List F}:d0w (some (.froz T xs))=[]:=id rfl
theorem j0p {es:List (Value × D)}:d0w (some (.map es))=[]:=id rfl
theorem h0E  : d0w (some (.dead))=[]:=id rfl
theorem d1J {V:List Nat}{n:Nat}{d:D}{H1:List Row}:effS false V n d H1=⟨d,[],H1.drop n⟩:=id rfl
theorem d1F {V:List Nat}{n:Nat}{d:D}{H1:List Row}:effS true V n d H1=⟨d,V.map fun r=>(r,H1.getD r .dead),H1.drop n⟩:=id rfl
theorem y0N {d:D}{u:List (Nat × Row)}{n H:List Row}:(⟨d,u,n⟩:Eff).heap H=a0B H u++n:=id rfl
theorem f0J {H:List Row}{i:Nat}{r:Row}{us:List (Nat × Row)}:a0B H ((i,r) :: us)=a0B (H.set i r) us:=id rfl
theorem e1A {α:Type}{a d:α}{l:List α}:(a :: l).getD 0 d=a:=id rfl
theorem d1O {α:Type}{a d:α}{l:List α}{n:Nat}:(a :: l).getD (n+1) d=l.getD n d:=id rfl
section
variable {P:Program}
theorem c0Y {g:FuncId}{caps args args0:List D}{H H0 H1:List Row}{d0:D}{K:Bool→D→List Row→Prop}(h:Con P g args0 H0 fun d H'=>d=d0∧H'=H1)(ι:List Nat)(hb:k0Y ι H.length H0 args0=true)(ha:args++caps=args0.map (renE (ren ι H.length)))
  (hr:(ι.map fun r=>H.getD r .dead)=H0.map (renR (ren ι H.length)))
  (hk:K true (renE (ren ι H.length) d0) (b0U (ren ι H.length) ι H1 H++(H1.drop H0.length).map (renR (ren ι H.length)))):a0j P (.fn g caps) args H K:=by
 obtain ⟨g',caps',e,hc⟩:=a0J (K:=fun d H'=>d=renE (ren ι H.length) d0∧H'=b0U (ren ι H.length) ι H1 H++(H1.drop H0.length).map (renR (ren ι H.length))) h ι hb ha hr (fun d H' ⟨h1,h2⟩=>by rw [h1,h2];exact ⟨rfl,rfl⟩)
 injection e with e1 e2
 subst e1;subst e2
 exact ⟨true,g,caps,_,_,rfl,hc,hk⟩
theorem c0i {g:FuncId}{caps args args0:List D}{H H1:List Row}{d0:D}{K:Bool→D→List Row→Prop}(h:Con P g args0 [] fun d H'=>d=d0∧H'=H1)(hv:Vws H (args++caps) args0)(hp:PlainD d0∧∀ row∈H1,m0B row)
  (hk:K false (renE (ren [] H.length) d0) (H++H1.map (renR (ren [] H.length)))):a0j P (.fn g caps) args H K:=by
 obtain ⟨g',caps',e,hc⟩:=a0X (K:=fun d H'=>d=renE (ren [] H.length) d0∧H'=H++H1.map (renR (ren [] H.length))) h hv (fun d H' ⟨h1,h2⟩=>by rw [h1,h2];exact hp) (fun d H' ⟨h1,h2⟩=>by rw [h1,h2];exact ⟨rfl,rfl⟩)
 injection e with e1 e2
 subst e1;subst e2
 exact ⟨false,g,caps,_,_,rfl,hc,hk⟩
end
def w0W (H:List Row)(r off:Nat)(x:F)(o:Option Row):Option (List Row):=match o with
 | some (.box U xs)=>if off+1≤xs.length then some (H.set r (.box U (putL off [.f x] xs))) else none
 | some (.data U xs)=>if off+1≤xs.length then some (H.set r (.data U (xs.set off x))) else none
 | _=>none
theorem l0h {H:List Row}{r off:Nat}{x:F}{U:TypeId}{xs:List D}:w0W H r off x (some (.box U xs))=if off+1≤xs.length then some (H.set r (.box U (putL off [.f x] xs))) else none:=id rfl
theorem j0T {H:List Row}{r off:Nat}{x:F}{U:TypeId}{xs:List F}:w0W H r off x (some (.data U xs))=if off+1≤xs.length then some (H.set r (.data U (xs.set off x))) else none:=id rfl
theorem r0G {P:Program}{H:List Row}{r off:Nat}{x:F}:c0o P H 1 (.pt r off) (.f x)=w0W H r off x H[r]?:=by
 rw [c0F]
 generalize hr:H[r]?=o
 cases o with
 | none=>rfl
 | some row =>
  cases row with
  | data U xs=>rw [n0u hr];rfl
  | box U xs=>simp [c0c,w0W,b0G,D.cells]
  | _=>rfl
theorem v0j {P:Program}{H:List Row}{n r off:Nat}{x:D}:c0o P H (n+2) (.pt r off) x=c0c P H (n+2) r off x H[r]?:=c0F
theorem l0B {P:Program}{H:List Row}{r off a b c:Nat}:c0o P H 1 (.pt r off) (.sl a b c)=c0c P H 1 r off (.sl a b c) H[r]?:=c0F
theorem l0v {P:Program}{H:List Row}{r off a b:Nat}:c0o P H 1 (.pt r off) (.pt a b)=c0c P H 1 r off (.pt a b) H[r]?:=c0F
theorem l0O {P:Program}{H:List Row}{r off a:Nat}:c0o P H 1 (.pt r off) (.mp a)=c0c P H 1 r off (.mp a) H[r]?:=c0F
theorem k0p {P:Program}{H:List Row}{r off:Nat}{a:List F}:c0o P H 1 (.pt r off) (.rf a)=c0c P H 1 r off (.rf a) H[r]?:=c0F
theorem l0f {P:Program}{H:List Row}{r off:Nat}{f:FuncId}{a:List D}:c0o P H 1 (.pt r off) (.fn f a)=c0c P H 1 r off (.fn f a) H[r]?:=c0F
end Go.Proofs.YthjgmldnegaaiaaGreatDoor.Mir
namespace Go.Proofs.YthjgmldnegaaiaaGreatDoor.Mir
open Go Go.RowKit
theorem LD:(((((((type_of% @W_mv∧type_of% @d1R)∧(type_of% @y0L∧type_of% @f1e))∧((type_of% @z0z∧type_of% @z0R)∧(type_of% @y0v∧(type_of% @d1t∧type_of% @g1K))))∧(((type_of% @d1G∧type_of% @c1z)∧(type_of% @g1H∧type_of% @g1A))∧((type_of% @f1m∧type_of% @f1p)∧(type_of% @d1L∧(type_of% @f1u∧type_of% @d1K)))))∧((((type_of% @d1P∧type_of% @W_fn)∧(type_of% @b1H∧type_of% @o0M))∧((type_of% @g1I∧type_of% @f1f)∧(type_of% @g1O∧(type_of% @d1q∧type_of% @d1c))))∧(((type_of% @d1p∧type_of% @f1s)∧(type_of% @f1V∧type_of% @u0I))∧((type_of% @c1y∧type_of% @d1l)∧(type_of% @d1I∧(type_of% @d1o∧type_of% @d1i))))))∧(((((type_of% @e1F∧type_of% @f1R)∧(type_of% @W_mm∧type_of% @d1C))∧((type_of% @d1B∧type_of% @e1E)∧(type_of% @d1T∧(type_of% @z0H∧type_of% @d1V))))∧(((type_of% @a1C∧type_of% @u0M)∧(type_of% @w0Y∧type_of% @y0r))∧((type_of% @t0t∧type_of% @a1p)∧(type_of% @v0Y∧(type_of% @w0M∧type_of% @u0l)))))∧((((type_of% @y0k∧type_of% @w0X)∧(type_of% @v0Z∧type_of% @u0y))∧((type_of% @u0B∧type_of% @u0V)∧(type_of% @v0F∧(type_of% @v0H∧type_of% @t0c))))∧(((type_of% @t0w∧type_of% @t0u)∧(type_of% @u0k∧type_of% @w0D))∧((type_of% @u0Q∧type_of% @t0e)∧(type_of% @v0X∧(type_of% @t0v∧type_of% @u0b)))))))∧((((((type_of% @v0c∧type_of% @w0S)∧(type_of% @o0F∧type_of% @o0u))∧((type_of% @z0n∧type_of% @d1M)∧(type_of% @z0M∧(type_of% @a1P∧type_of% @x0y))))∧(((type_of% @y0i∧type_of% @v0Q)∧(type_of% @v0n∧type_of% @v0R))∧((type_of% @v0r∧type_of% @t0Z)∧(type_of% @v0b∧(type_of% @v0G∧type_of% @t0l)))))∧((((type_of% @d1A∧type_of% @z0t)∧(type_of% @r0O∧type_of% @y0Z))∧((type_of% @b1d∧type_of% @o0a)∧(type_of% @j0s∧(type_of% @g0x∧type_of% @l0M))))∧(((type_of% @g0i∧type_of% @g0z)∧(type_of% @g0v∧type_of% @j0z))∧((type_of% @k0r∧type_of% @i0z)∧(type_of% @j0f∧(type_of% @l0n∧type_of% @m0k))))))∧(((((type_of% @k0m∧type_of% @l0G)∧(type_of% @j0a∧type_of% @m0N))∧((type_of% @h0e∧type_of% @o0e)∧(type_of% @g0r∧(type_of% @e0S∧type_of% @k0t))))∧(((type_of% @m0O∧type_of% @k0w)∧(type_of% @h0r∧type_of% @j0h))∧((type_of% @k0K∧type_of% @m0t)∧(type_of% @m0p∧(type_of% @e0n∧type_of% @i0r)))))∧((((type_of% @h0d∧type_of% @j0P)∧(type_of% @i0V∧type_of% @j0L))∧((type_of% @i0L∧type_of% @m0h)∧(type_of% @q0g∧(type_of% @h0p∧type_of% @i0j))))∧(((type_of% @i0i∧type_of% @i0l)∧(type_of% @g0w∧(type_of% @i0X∧type_of% @g0u)))∧((type_of% @c0b∧type_of% @b0s)∧(type_of% @c0U∧(type_of% @u0E∧type_of% @q0n)))))))):=(.intro (.intro (.intro (.intro (.intro (.intro (.intro @W_mv @d1R) (.intro @y0L @f1e)) (.intro (.intro @z0z @z0R) (.intro @y0v (.intro @d1t @g1K)))) (.intro (.intro (.intro @d1G @c1z) (.intro @g1H @g1A)) (.intro (.intro @f1m @f1p) (.intro @d1L (.intro @f1u @d1K))))) (.intro (.intro (.intro (.intro @d1P @W_fn) (.intro @b1H @o0M)) (.intro (.intro @g1I @f1f) (.intro @g1O (.intro @d1q @d1c)))) (.intro (.intro (.intro @d1p @f1s) (.intro @f1V @u0I)) (.intro (.intro @c1y @d1l) (.intro @d1I (.intro @d1o @d1i)))))) (.intro (.intro (.intro (.intro (.intro @e1F @f1R) (.intro @W_mm @d1C)) (.intro (.intro @d1B @e1E) (.intro @d1T (.intro @z0H @d1V)))) (.intro (.intro (.intro @a1C @u0M) (.intro @w0Y @y0r)) (.intro (.intro @t0t @a1p) (.intro @v0Y (.intro @w0M @u0l))))) (.intro (.intro (.intro (.intro @y0k @w0X) (.intro @v0Z @u0y)) (.intro (.intro @u0B @u0V) (.intro @v0F (.intro @v0H @t0c)))) (.intro (.intro (.intro @t0w @t0u) (.intro @u0k @w0D)) (.intro (.intro @u0Q @t0e) (.intro @v0X (.intro @t0v @u0b))))))) (.intro (.intro (.intro (.intro (.intro (.intro @v0c @w0S) (.intro @o0F @o0u)) (.intro (.intro @z0n @d1M) (.intro @z0M (.intro @a1P @x0y)))) (.intro (.intro (.intro @y0i @v0Q) (.intro @v0n @v0R)) (.intro (.intro @v0r @t0Z) (.intro @v0b (.intro @v0G @t0l))))) (.intro (.intro (.intro (.intro @d1A @z0t) (.intro @r0O @y0Z)) (.intro (.intro @b1d @o0a) (.intro @j0s (.intro @g0x @l0M)))) (.intro (.intro (.intro @g0i @g0z) (.intro @g0v @j0z)) (.intro (.intro @k0r @i0z) (.intro @j0f (.intro @l0n @m0k)))))) (.intro (.intro (.intro (.intro (.intro @k0m @l0G) (.intro @j0a @m0N)) (.intro (.intro @h0e @o0e) (.intro @g0r (.intro @e0S @k0t)))) (.intro (.intro (.intro @m0O @k0w) (.intro @h0r @j0h)) (.intro (.intro @k0K @m0t) (.intro @m0p (.intro @e0n @i0r))))) (.intro (.intro (.intro (.intro @h0d @j0P) (.intro @i0V @j0L)) (.intro (.intro @i0L @m0h) (.intro @q0g (.intro @h0p @i0j)))) (.intro (.intro (.intro @i0i @i0l) (.intro @g0w (.intro @i0X @g0u))) (.intro (.intro @c0b @b0s) (.intro @c0U (.intro @u0E @q0n))))))))
theorem LU:(((((((type_of% @ev_t∧(type_of% @ev_c∧type_of% @d1s))∧((type_of% @u0m∧type_of% @b1J)∧(type_of% @z0g∧type_of% @p0L)))∧(((type_of% @u0O∧type_of% @y0C)∧(type_of% @q0V∧type_of% @t0f))∧((type_of% @a1O∧type_of% @p0a)∧(type_of% @v0L∧type_of% @b1V))))∧((((type_of% @o0X∧type_of% @v0V)∧(type_of% @y0P∧type_of% @q0r))∧((type_of% @t0j∧type_of% @y0z)∧(type_of% @p0i∧type_of% @w0B)))∧(((type_of% @u0e∧type_of% @u0Z)∧(type_of% @n0B∧type_of% @j0G))∧((type_of% @j0x∧type_of% @v0E)∧(type_of% @l0F∧type_of% @i0O)))))∧((((type_of% @j0O∧(type_of% @z0m∧type_of% @z0e))∧((type_of% @y0a∧type_of% @y0f)∧(type_of% @w0N∧type_of% @u0t)))∧(((type_of% @u0f∧type_of% @y0n)∧(type_of% @m0P∧type_of% @n0u))∧((type_of% @o0Y∧type_of% @m0Z)∧(type_of% @r0o∧type_of% @v0J))))∧((((type_of% @a1W∧type_of% @z0G)∧(type_of% @d1b∧type_of% @y0q))∧((type_of% @a1u∧type_of% @z0Z)∧(type_of% @b1O∧type_of% @d1x)))∧(((type_of% @d1v∧type_of% @u0D)∧(type_of% @d1w∧type_of% @y0O))∧((type_of% @r0W∧type_of% @r0S)∧(type_of% @r0R∧type_of% @b1Z))))))∧(((((type_of% @w0G∧(type_of% @u0N∧type_of% @u0p))∧((type_of% @v0B∧type_of% @z0h)∧(type_of% @o0P∧type_of% @p0E)))∧(((type_of% @m0Q∧type_of% @d1u)∧(type_of% @w0T∧type_of% @a1B))∧((type_of% @f1W∧type_of% @f1U)∧(type_of% @e1C∧type_of% @r0f))))∧((((type_of% @m0X∧type_of% @k0f)∧(type_of% @u0T∧type_of% @r0d))∧((type_of% @h0C∧type_of% @d1D)∧(type_of% @b1E∧type_of% @m0i)))∧(((type_of% @w0Q∧type_of% @t0x)∧(type_of% @p0b∧type_of% @i0J))∧((type_of% @i0s∧type_of% @p0r)∧(type_of% @w0E∧type_of% @p0U)))))∧(((((type_of% @Dint∧type_of% @f1r)∧(type_of% @Dv∧type_of% @d1N))∧((type_of% @x0x∧type_of% @d1e)∧(type_of% @y0X∧type_of% @z0A)))∧(((type_of% @z0W∧type_of% @z0I)∧(type_of% @y0H∧type_of% @y0b))∧((type_of% @z0U∧type_of% @v0m)∧(type_of% @o0r∧type_of% @p0c))))∧((((type_of% @w0R∧type_of% @p0y)∧(type_of% @j0j∧type_of% @g0h))∧((type_of% @q0J∧type_of% @q0m)∧(type_of% @m0l∧type_of% @t0o)))∧(((type_of% @y0m∧type_of% @z0J)∧(type_of% @y0c∧type_of% @m0e))∧((type_of% @v0u∧type_of% @v0k)∧(type_of% @l0i∧type_of% @l0d)))))))∧((((((type_of% @h0Y∧(type_of% @h0s∧type_of% @p0G))∧((type_of% @o0K∧type_of% @i0K)∧(type_of% @h0o∧type_of% @i0B)))∧(((type_of% @i0H∧type_of% @i0a)∧(type_of% @i0N∧type_of% @l0r))∧((type_of% @l0T∧type_of% @p0H)∧(type_of% @o0f∧type_of% @m0q))))∧((((type_of% @m0v∧type_of% @l0P)∧(type_of% @k0z∧type_of% @q0j))∧((type_of% @p0z∧type_of% @r0T)∧(type_of% @q0D∧type_of% @p0F)))∧(((type_of% @q0T∧type_of% @p0B)∧(type_of% @p0Y∧type_of% @m0m))∧((type_of% @l0b∧type_of% @o0o)∧(type_of% @p0n∧type_of% @m0a)))))∧(((((type_of% @k0l∧type_of% @u0H)∧(type_of% @t0i∧type_of% @j0S))∧((type_of% @h0t∧type_of% @f0Z)∧(type_of% @f0V∧type_of% @o0G)))∧(((type_of% @q0v∧type_of% @o0t)∧(type_of% @o0k∧type_of% @q0y))∧((type_of% @o0W∧type_of% @k0s)∧(type_of% @m0n∧type_of% @l0c))))∧((((type_of% @l0o∧type_of% @m0g)∧(type_of% @m0d∧type_of% @o0q))∧((type_of% @p0P∧type_of% @p0h)∧(type_of% @p0j∧type_of% @g0g)))∧(((type_of% @g0S∧type_of% @m0w)∧(type_of% @l0m∧type_of% @l0X))∧((type_of% @m0E∧type_of% @l0I)∧(type_of% @l0N∧type_of% @m0Y))))))∧(((((type_of% @l0W∧(type_of% @m0b∧type_of% @k0y))∧((type_of% @n0C∧type_of% @m0x)∧(type_of% @q0u∧type_of% @r0c)))∧(((type_of% @v0l∧type_of% @u0J)∧(type_of% @k0q∧type_of% @m0I))∧((type_of% @m0C∧type_of% @l0l)∧(type_of% @m0A∧type_of% @n0A))))∧((((type_of% @k0g∧type_of% @k0v)∧(type_of% @i0h∧type_of% @h0c))∧((type_of% @l0j∧type_of% @l0g)∧(type_of% @j0v∧type_of% @i0c)))∧(((type_of% @o0p∧type_of% @a1R)∧(type_of% @w0J∧type_of% @u0i))∧((type_of% @q0Y∧type_of% @w0F)∧(type_of% @o0O∧type_of% @o0h)))))∧(((((type_of% @l0V∧type_of% @d1g)∧(type_of% @b1D∧type_of% @z0Y))∧((type_of% @a1c∧type_of% @y0w)∧(type_of% @r0j∧type_of% @a1s)))∧(((type_of% @b1a∧type_of% @b1e)∧(type_of% @a1a∧type_of% @w0V))∧((type_of% @i0S∧type_of% @g0a)∧(type_of% @g0y∧type_of% @j0p))))∧((((type_of% @h0E∧type_of% @d1J)∧(type_of% @d1F∧type_of% @y0N))∧((type_of% @f0J∧type_of% @e1A)∧(type_of% @d1O∧type_of% @l0h)))∧(((type_of% @j0T∧type_of% @r0G)∧(type_of% @v0j∧type_of% @l0B))∧((type_of% @l0v∧type_of% @l0O)∧(type_of% @k0p∧type_of% @l0f)))))))):=(.intro (.intro (.intro (.intro (.intro (.intro (.intro @ev_t (.intro @ev_c @d1s)) (.intro (.intro @u0m @b1J) (.intro @z0g @p0L))) (.intro (.intro (.intro @u0O @y0C) (.intro @q0V @t0f)) (.intro (.intro @a1O @p0a) (.intro @v0L @b1V)))) (.intro (.intro (.intro (.intro @o0X @v0V) (.intro @y0P @q0r)) (.intro (.intro @t0j @y0z) (.intro @p0i @w0B))) (.intro (.intro (.intro @u0e @u0Z) (.intro @n0B @j0G)) (.intro (.intro @j0x @v0E) (.intro @l0F @i0O))))) (.intro (.intro (.intro (.intro @j0O (.intro @z0m @z0e)) (.intro (.intro @y0a @y0f) (.intro @w0N @u0t))) (.intro (.intro (.intro @u0f @y0n) (.intro @m0P @n0u)) (.intro (.intro @o0Y @m0Z) (.intro @r0o @v0J)))) (.intro (.intro (.intro (.intro @a1W @z0G) (.intro @d1b @y0q)) (.intro (.intro @a1u @z0Z) (.intro @b1O @d1x))) (.intro (.intro (.intro @d1v @u0D) (.intro @d1w @y0O)) (.intro (.intro @r0W @r0S) (.intro @r0R @b1Z)))))) (.intro (.intro (.intro (.intro (.intro @w0G (.intro @u0N @u0p)) (.intro (.intro @v0B @z0h) (.intro @o0P @p0E))) (.intro (.intro (.intro @m0Q @d1u) (.intro @w0T @a1B)) (.intro (.intro @f1W @f1U) (.intro @e1C @r0f)))) (.intro (.intro (.intro (.intro @m0X @k0f) (.intro @u0T @r0d)) (.intro (.intro @h0C @d1D) (.intro @b1E @m0i))) (.intro (.intro (.intro @w0Q @t0x) (.intro @p0b @i0J)) (.intro (.intro @i0s @p0r) (.intro @w0E @p0U))))) (.intro (.intro (.intro (.intro (.intro @Dint @f1r) (.intro @Dv @d1N)) (.intro (.intro @x0x @d1e) (.intro @y0X @z0A))) (.intro (.intro (.intro @z0W @z0I) (.intro @y0H @y0b)) (.intro (.intro @z0U @v0m) (.intro @o0r @p0c)))) (.intro (.intro (.intro (.intro @w0R @p0y) (.intro @j0j @g0h)) (.intro (.intro @q0J @q0m) (.intro @m0l @t0o))) (.intro (.intro (.intro @y0m @z0J) (.intro @y0c @m0e)) (.intro (.intro @v0u @v0k) (.intro @l0i @l0d))))))) (.intro (.intro (.intro (.intro (.intro (.intro @h0Y (.intro @h0s @p0G)) (.intro (.intro @o0K @i0K) (.intro @h0o @i0B))) (.intro (.intro (.intro @i0H @i0a) (.intro @i0N @l0r)) (.intro (.intro @l0T @p0H) (.intro @o0f @m0q)))) (.intro (.intro (.intro (.intro @m0v @l0P) (.intro @k0z @q0j)) (.intro (.intro @p0z @r0T) (.intro @q0D @p0F))) (.intro (.intro (.intro @q0T @p0B) (.intro @p0Y @m0m)) (.intro (.intro @l0b @o0o) (.intro @p0n @m0a))))) (.intro (.intro (.intro (.intro (.intro @k0l @u0H) (.intro @t0i @j0S)) (.intro (.intro @h0t @f0Z) (.intro @f0V @o0G))) (.intro (.intro (.intro @q0v @o0t) (.intro @o0k @q0y)) (.intro (.intro @o0W @k0s) (.intro @m0n @l0c)))) (.intro (.intro (.intro (.intro @l0o @m0g) (.intro @m0d @o0q)) (.intro (.intro @p0P @p0h) (.intro @p0j @g0g))) (.intro (.intro (.intro @g0S @m0w) (.intro @l0m @l0X)) (.intro (.intro @m0E @l0I) (.intro @l0N @m0Y)))))) (.intro (.intro (.intro (.intro (.intro @l0W (.intro @m0b @k0y)) (.intro (.intro @n0C @m0x) (.intro @q0u @r0c))) (.intro (.intro (.intro @v0l @u0J) (.intro @k0q @m0I)) (.intro (.intro @m0C @l0l) (.intro @m0A @n0A)))) (.intro (.intro (.intro (.intro @k0g @k0v) (.intro @i0h @h0c)) (.intro (.intro @l0j @l0g) (.intro @j0v @i0c))) (.intro (.intro (.intro @o0p @a1R) (.intro @w0J @u0i)) (.intro (.intro @q0Y @w0F) (.intro @o0O @o0h))))) (.intro (.intro (.intro (.intro (.intro @l0V @d1g) (.intro @b1D @z0Y)) (.intro (.intro @a1c @y0w) (.intro @r0j @a1s))) (.intro (.intro (.intro @b1a @b1e) (.intro @a1a @w0V)) (.intro (.intro @i0S @g0a) (.intro @g0y @j0p)))) (.intro (.intro (.intro (.intro @h0E @d1J) (.intro @d1F @y0N)) (.intro (.intro @f0J @e1A) (.intro @d1O @l0h))) (.intro (.intro (.intro @j0T @r0G) (.intro @v0j @l0B)) (.intro (.intro @l0v @l0O) (.intro @k0p @l0f))))))))
theorem LS:(((((type_of% @a1i∧(type_of% @g1D∧type_of% @f1X))∧(type_of% @f1b∧(type_of% @c0a∧type_of% @b0b)))∧((type_of% @f0m∧(type_of% @o0b∧type_of% @v0U))∧((type_of% @List.set_cons_succ.{0}∧type_of% @List.set_cons_zero.{0})∧(type_of% @List.getElem?_cons_succ.{0}∧type_of% @List.getElem?_cons_zero.{0}))))∧(((type_of% @List.length_cons.{0}∧(type_of% @List.length_nil.{0}∧type_of% @List.cons_append.{0}))∧((type_of% @List.nil_append.{0}∧type_of% @List.map_cons.{0,0})∧(type_of% @List.map_nil.{0,0}∧type_of% @List.take_succ_cons.{0})))∧((type_of% @List.take_zero.{0}∧(type_of% @List.drop_succ_cons.{0}∧type_of% @List.drop_zero.{0}))∧((type_of% @Option.map_some.{0,0}∧type_of% @Option.map_none.{0,0})∧(type_of% @Nat.add_zero∧type_of% @Nat.zero_add)))))∧((((type_of% @Nat.mul_one∧(type_of% @Int.toNat_natCast∧type_of% @Nat.mul_zero))∧(type_of% @Nat.zero_mul∧(type_of% @true_and∧type_of% @and_true)))∧((type_of% @a1r∧(type_of% @List.getElem?_drop.{0}∧type_of% @List.getElem?_map.{0,0}))∧((type_of% @List.length_map.{0,0}∧type_of% @Int.natCast_nonneg)∧(type_of% @getElem?_some_of∧type_of% @Bool.false_eq_true))))∧(((type_of% @decide_true∧(type_of% @decide_false∧type_of% @Bool.not_true))∧((type_of% @Bool.not_false∧type_of% @and_self)∧(type_of% @eq_self.{0}∧type_of% @false_implies)))∧((type_of% @or_self∧(type_of% @Bool.and_self∧type_of% @false_or))∧((type_of% @or_false∧type_of% @Bool.false_and)∧(type_of% @Bool.true_beq∧type_of% @Bool.false_beq)))))):=(.intro (.intro (.intro (.intro (.intro @a1i (.intro @g1D @f1X)) (.intro @f1b (.intro @c0a @b0b))) (.intro (.intro @f0m (.intro @o0b @v0U)) (.intro (.intro @List.set_cons_succ.{0} @List.set_cons_zero.{0}) (.intro @List.getElem?_cons_succ.{0} @List.getElem?_cons_zero.{0})))) (.intro (.intro (.intro @List.length_cons.{0} (.intro @List.length_nil.{0} @List.cons_append.{0})) (.intro (.intro @List.nil_append.{0} @List.map_cons.{0,0}) (.intro @List.map_nil.{0,0} @List.take_succ_cons.{0}))) (.intro (.intro @List.take_zero.{0} (.intro @List.drop_succ_cons.{0} @List.drop_zero.{0})) (.intro (.intro @Option.map_some.{0,0} @Option.map_none.{0,0}) (.intro @Nat.add_zero @Nat.zero_add))))) (.intro (.intro (.intro (.intro @Nat.mul_one (.intro @Int.toNat_natCast @Nat.mul_zero)) (.intro @Nat.zero_mul (.intro @true_and @and_true))) (.intro (.intro @a1r (.intro @List.getElem?_drop.{0} @List.getElem?_map.{0,0})) (.intro (.intro @List.length_map.{0,0} @Int.natCast_nonneg) (.intro @getElem?_some_of @Bool.false_eq_true)))) (.intro (.intro (.intro @decide_true (.intro @decide_false @Bool.not_true)) (.intro (.intro @Bool.not_false @and_self) (.intro @eq_self.{0} @false_implies))) (.intro (.intro @or_self (.intro @Bool.and_self @false_or)) (.intro (.intro @or_false @Bool.false_and) (.intro @Bool.true_beq @Bool.false_beq))))))
end Go.Proofs.YthjgmldnegaaiaaGreatDoor.Mir
