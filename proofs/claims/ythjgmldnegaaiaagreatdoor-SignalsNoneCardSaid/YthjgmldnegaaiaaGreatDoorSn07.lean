/- Lemmas for the proof. No condition. -/
import Derived.Test.YthjgmldnegaaiaaGreatDoorSn06
set_option linter.unusedVariables false
set_option linter.unusedSimpArgs false
namespace Go.Proofs.YthjgmldnegaaiaaGreatDoor.Mir
open Go Go.RowKit
inductive SR where
 | t (n:Nat)
 | c1 (a:Nat)
 | cA (n a:Nat)
def n0t (P:Program):List ResultVar→Option (List SR)
 | []=>some []
 | .tmp t :: rs=>(n0t P rs).map (.t t :: ·)
 | .cell a T :: rs=>match d0s P T,inf P T,n0t P rs with
  | some false,_,some l=>some (.c1 a :: l)
  | some true,some (n,_,_),some l=>some (.cA n a :: l)
  | _,_,_=>none
def resS (H:List Row)(ts:List D):List SR→Option (List D)
 | []=>some []
 | .t n :: rs=>match resS H ts rs with
  | some ds=>some (ts.getD n D.undef :: ds)
  | none=>none
 | .c1 a :: rs=>match load1 H (ts.getD a D.undef),resS H ts rs with
  | some d,some ds=>some (d :: ds)
  | _,_=>none
 | .cA n a :: rs=>match loadA H n (ts.getD a D.undef),resS H ts rs with
  | some d,some ds=>some (d :: ds)
  | _,_=>none
section
variable {P:Program}
theorem n0m {H:List Row}{ts:List D}:∀ {rs:List ResultVar} {l:List SR} {ds:List D},n0t P rs=some l→resS H ts l=some ds→b0r P H ts rs=some ds
 | [],l,ds,h,k=>by simp [n0t] at h;subst h;exact k
 | .tmp t :: rs,l,ds,h,k=>by
  simp only [n0t,Option.map_eq_some_iff] at h
  obtain ⟨l',h1,rfl⟩:=h
  simp only [resS] at k
  split at k
  ·rename_i ds' h2
   injection k with k
   subst k
   simp only [b0r,n0m h1 h2,Option.map_some]
  ·cases k
 | .cell a T :: rs,l,ds,h,k=>by
  simp only [n0t] at h
  split at h
  ·rename_i l' hT hl
   injection h with h
   subst h
   simp only [resS] at k
   split at k
   ·rename_i d ds' h1 h2
    injection k with k
    subst k
    simp only [b0r,v0X hT h1,n0m hl h2]
   ·cases k
  ·rename_i n b z l' hT hi hl
   injection h with h
   subst h
   simp only [resS] at k
   split at k
   ·rename_i d ds' h1 h2
    injection k with k
    subst k
    simp only [b0r,u0P hT hi h1,n0m hl h2]
   ·cases k
  ·cases h
def e0E:Nat→List Row→List Row
 | 0,H=>H
 | _+1,[]=>[]
 | n+1,_ :: H=>.dead :: e0E n H
theorem i0V:∀ (n:Nat) (H:List Row),(e0E n H).length=H.length
 | 0,_=>rfl
 | _+1,[]=>rfl
 | n+1,_ :: H=>by simp [e0E,i0V n H]
theorem f0T:∀ (n:Nat) (H:List Row) (r:Nat),(e0E n H)[r]?=if r<n then (H[r]?).map fun _=>.dead else H[r]?
 | 0,H,r=>by simp [e0E]
 | n+1,[],r=>by simp [e0E]
 | n+1,x :: H,0=>by simp [e0E]
 | n+1,x :: H,r+1=>by simp [e0E,f0T n H r]
def lowB (n:Nat)(H:List Row):Bool:=H.all fun row=>row.refs.all fun r=>Nat.blt r n
inductive RetS (n0:Nat)(rs:List SR)(Q:D→List Row→Prop)(s:St):Prop
 | gather {ds:List D} {e:Eff}:resS s.H s.ts rs=some ds→gather n0 (one ds) (List.range n0) s.H=some e→Q e.res (a0B (s.H.take n0) e.upd++e.news)→RetS n0 rs Q s
 | still {ds:List D} {d0:D}:resS s.H s.ts rs=some ds→lowB n0 (s.H.take n0)=true→Vw (e0E n0 s.H) (one ds) d0→Q d0 (s.H.take n0)→RetS n0 rs Q s
 | all {ds:List D}:resS s.H s.ts rs=some ds→Q (one ds) s.H→RetS n0 rs Q s
def endS (n0:Nat)(rs:List SR)(Q:D→List Row→Prop):Out→St→Prop
 | .exit _,_=>False
 | .normal,s=>RetS n0 rs Q s
 | .ret,s=>RetS n0 rs Q s
def Fn (P:Program)(f:FuncId)(n:Nat)(rs:List SR)(c:SCode):Prop:=∃ fn k,P.funcs[f]?=some fn∧fn.body=some k∧fn.ntmps=n∧n0t P fn.results.toList=some rs∧a0q P k=c
theorem Fn.of {P:Program}{f:FuncId}{fn:Func}{n:Nat}{rs:List SR}{c:SCode}(h:P.funcs[f]?=some fn)(e:(fn.body.map (a0q P),fn.ntmps,n0t P fn.results.toList)=(some c,n,some rs)):Fn P f n rs c:=by
 obtain ⟨e1,e2,e3⟩:=by simpa only [Prod.mk.injEq] using e
 cases hb:fn.body with
 | none=>rw [hb] at e1;cases e1
 | some k=>rw [hb] at e1;exact ⟨fn,k,h,hb,e2,e3,Option.some.inj e1⟩
theorem HR.takeN {w:World}{φ:Nat→Nat × Nat}{X:Nat→Prop}{H:List Row}(h:HR P w φ X H){n:Nat}(hl:lowB n (H.take n)=true)(hn:n≤H.length):HR P w φ X (H.take n)∧∀ b,Av X φ (H.take n) b→Av X φ H b:=by
 have hlen:(H.take n).length=n:=by simp;omega
 have get:∀ (r:Nat) (row:Row),(H.take n)[r]?=some row→r<n∧H[r]?=some row:=by
  intro r row hr
  rw [List.getElem?_take] at hr
  split at hr
  ·exact ⟨‹_›,hr⟩
  ·cases hr
 have ha:∀ b,Av X φ (H.take n) b→Av X φ H b:=by
  rintro b (hb|⟨r,row,hr,hv,rfl⟩)
  ·exact .inl hb
  ·exact .inr ⟨r,row,(get r row hr).2,hv,rfl⟩
 refine ⟨⟨fun r row hr=>?_,fun r s x y hr hs=>h.apart r s x y (get r x hr).2 (get s y hs).2,fun r row hr=>h.off r row (get r row hr).2,h.old,fun p hp=>(h.gl p hp).thin ha⟩,ha⟩
 obtain ⟨h1,h2⟩:=get r row hr
 rw [hlen]
 refine (h.rows r row h2).lower (S:=(· < n)) rfl (fun r hr=>⟨rfl,hr⟩) ha (b0v fun q hq=>?_)
 have h3:=List.all_eq_true.1 hl row (List.mem_of_getElem? hr)
 have h4:=List.all_eq_true.1 h3 q hq
 simpa using h4
theorem c1u {w w':World}{φ φ':Nat→Nat × Nat}{X:Nat→Prop}{H:List Row}{s:St}{a:Act}{fn:Func}{rs:List SR}(hrs:n0t P fn.results.toList=some rs){Q:D→List Row→Prop}(hq:RetS H.length rs Q s)(hr:RunW P X w φ H w' φ' s a) :
  a.defers=[]∧∃ v,(results fn a.tmps).run P w' = .ok v w'∧∃ v' d H',Ending.returned v = .returned v'∧Q d H'∧LeavesW P w φ X H v' w' d H':=by
 refine ⟨hr.sim.defers,?_⟩
 have hone:∀ ds,resS s.H s.ts rs=some ds→∃ v,(results fn a.tmps).run P w' = .ok v w'∧R P w' φ' (Av X φ' s.H) s.H.length (one ds) v:=by
  intro ds hds
  obtain ⟨us,h1,h2⟩:=e0J hr.sim.heap hr.sim.tmps _ _ (n0m hrs hds)
  refine ⟨if h:us.toArray.size=1 then us.toArray[0] else .tuple us.toArray,?_,?_⟩
  ·unfold results
   rw [Array.mapM_eq_mapM_toList]
   simp at h1
   simp
   exact congrArg (fun r:Result (List Value)=>r.andThen fun a w'=>Result.ok (if h:a.length=1 then a[0] else Value.tuple a.toArray) w') h1
  ·match ds,us,h2 with
   | [],[],_=>exact .tp rfl (fun i d u hd=>by simp at hd)
   | [d],[u],h2=>exact h2.2 0 d u (by simp) (by simp)
   | d :: d2 :: ds,u :: u2 :: us,h2=>exact .tp (by have:=h2.1;simpa using this) (fun i d' u' hd hu=>h2.2 i d' u' hd (by simpa using hu))
   | [],_ :: _,h2=>have:=h2.1;simp at this
   | _ :: _,[],h2=>have:=h2.1;simp at this
   | [_],_ :: _ :: _,h2=>have:=h2.1;simp at this
   | _ :: _ :: _,[_],h2=>have:=h2.1;simp at this
 have hlt:(s.H.take H.length).length=H.length:=by rw [List.length_take];have:=hr.ons.len;omega
 cases hq with
 | gather hds hg hq =>
  obtain ⟨v,h3,h4⟩:=hone _ hds
  obtain ⟨ψ,k1,k2,k3,k4,_⟩:=d0N hr.sim.heap hr.ons.len hlt h4 (fun r row hr hnd hrow=>absurd (List.mem_range.2 hr) hnd) hg
  exact ⟨v,h3,v,_,_,rfl,hq,ψ,⟨by simp [a0G,hlt],fun r hr'=>(k1 r hr').trans (hr.ons.same r hr'),hr.ons.keep,fun b hb=>hr.ons.fresh b (k4 b hb)⟩,k2,k3⟩
 | all hds hq =>
  obtain ⟨v,h3,h4⟩:=hone _ hds
  exact ⟨v,h3,v,_,_,rfl,hq,φ',hr.ons,hr.sim.heap,h4⟩
 | still hds hlow hv hq =>
  rename_i ds d0
  obtain ⟨v,h3,h4⟩:=hone _ hds
  obtain ⟨t1,t2⟩:=hr.sim.heap.takeN hlow hr.ons.len
  refine ⟨v,h3,v,d0,_,rfl,hq,φ',⟨by rw [hlt];exact Nat.le_refl _,hr.ons.same,hr.ons.keep,fun b hb=>hr.ons.fresh b ?_⟩,t1,?_⟩
  ·obtain ⟨r,row,hx,hl,rfl⟩:=hb
   rw [List.getElem?_take] at hx
   split at hx
   ·exact ⟨r,row,hx,hl,rfl⟩
   ·cases hx
  ·
   have hM:HR P w' φ' (Rest X φ' s.H (e0E H.length s.H)) (e0E H.length s.H):=by
    refine hr.sim.heap.part (S:=fun r=>r<s.H.length) (fun r h=>by rw [i0V];exact h) (fun x row hx=>?_)
    rw [f0T] at hx
    split at hx
    ·rw [Option.map_eq_some_iff] at hx
     obtain ⟨_,_,rfl⟩:=hx
     exact .inl rfl
    ·exact .inr ⟨hx,(hr.sim.heap.rows x row hx).isLow⟩
   have hA:∀ b,Av X φ' (s.H.take H.length) b→Rest X φ' s.H (e0E H.length s.H) b:=by
    rintro b (hb|⟨r,row,hx,hl,rfl⟩)
    ·exact .inl hb
    ·rw [List.getElem?_take] at hx
     split at hx
     ·rename_i hlt'
      refine .inr ⟨r,row,hx,hl,?_,rfl⟩
      rw [f0T,if_pos hlt',hx]
      intro e
      simp at e
      subst e
      simp [Row.live] at hl
     ·cases hx
   have h5:R P w' φ' (Av (Rest X φ' s.H (e0E H.length s.H)) φ' (e0E H.length s.H)) (e0E H.length s.H).length (one ds) v:=by
    rw [i0V]
    refine h4.lower (S:=fun r=>r<s.H.length) (fun r h=>⟨rfl,h⟩) (fun b hb=>?_) h4.isLow
    rcases hb with (hb|⟨x,row,hx,hl,_,rfl⟩)|⟨x,row,hx,hl,rfl⟩
    ·exact .inl hb
    ·exact .inr ⟨x,row,hx,hl,rfl⟩
    ·rw [f0T] at hx
     split at hx
     ·rw [Option.map_eq_some_iff] at hx
      obtain ⟨_,_,rfl⟩:=hx
      simp [Row.live] at hl
     ·exact .inr ⟨x,row,hx,hl,rfl⟩
   have h6:=hv.ok (φ':=φ') hM hA v h5
   exact h6.upper (Nat.zero_le _)
theorem Con.fn (hP:Good P){f:FuncId}{n:Nat}{rs:List SR}{c:SCode}(hf:Fn P f n rs c){args:List D}{H:List Row}{Q:D→List Row→Prop}
  (h:HS P H.length c ⟨args++List.replicate (n-args.length) D.undef,H,[]⟩ (endS H.length rs Q)):Con P f args H Q:=by
 obtain ⟨fn,k,h1,h2,h3,h4,h5⟩:=hf
 subst h3
 refine ⟨⟨fn,h1,by rw [h2];rfl⟩,fun w φ X vs hH hargs=>calls_of_wp h1 h2 ?_⟩
 have hlen:vs.size=args.length:=by have:=hargs.1;simpa using this
 refine h k h5 X w φ H w φ _ _ rfl ⟨⟨hH,?_,rfl⟩,Ons.refl _ _ _ _⟩ ?_
 ·rw [Array.toList_append,Array.toList_replicate,hlen]
  refine hargs.append ⟨by simp,fun i d u hd hu=>?_⟩
  rw [List.getElem?_replicate] at hd hu
  split at hd
  ·rename_i hi
   rw [if_pos hi] at hu
   injection hd with hd;injection hu with hu
   subst hd;subst hu
   exact R.undef
  ·cases hd
 ·intro out s' w' φ' a' hq hr'
  cases out with
  | normal=>exact c1u h4 hq hr'
  | exit i=>exact hq.elim
  | ret=>exact c1u h4 hq hr'
def k0S (ι:List Nat)(N:Nat)(H0:List Row)(args0:List D):Bool :=
 Nat.beq ι.length H0.length&&i0a ι&&(args0.all fun d=>d.refs.all fun r=>Nat.blt r H0.length)&&(H0.all fun row=>row.refs.all fun r=>Nat.blt r H0.length)&&ι.all fun r=>Nat.blt r N
theorem p0g:∀ {l:List Nat},i0a l=true→l.Nodup
 | [],_=>List.nodup_nil
 | x :: xs,h=>by
  simp only [i0a,Bool.and_eq_true,Bool.not_eq_true'] at h
  exact List.nodup_cons.2 ⟨by simpa using h.1,p0g h.2⟩
theorem a0D {g:FuncId}{caps args args0:List D}{H H0:List Row}{Q K:D→List Row→Prop}(h:Con P g args0 H0 Q)(ι:List Nat)(hb:k0S ι H.length H0 args0=true)(ha:args++caps=args0.map (renE (ren ι H.length)))
  (hr:(ι.map fun r=>H.getD r .dead)=H0.map (renR (ren ι H.length)))
  (hk:∀ d0 H0',Q d0 H0'→K (renE (ren ι H.length) d0) (b0U (ren ι H.length) ι H0' H++(H0'.drop H0.length).map (renR (ren ι H.length)))):a0S P (.fn g caps) args H K:=by
 unfold k0S at hb
 simp only [Bool.and_eq_true] at hb
 obtain ⟨⟨⟨⟨b1,b2⟩,b3⟩,b4⟩,b5⟩:=hb
 have e1:ι.length=H0.length:=Nat.eq_of_beq_eq_true b1
 refine ⟨g,caps,rfl,(h.embed e1 (p0g b2) ha (fun d hd=>b0N fun r hr=>?_) (fun i row hi=>⟨b0v fun r hr=>?_,?_⟩)).mono ?_⟩
 ·have h1:=List.all_eq_true.1 b3 d hd
  have h2:=List.all_eq_true.1 h1 r hr
  simpa using h2
 ·have h1:=List.all_eq_true.1 b4 row (List.mem_of_getElem? hi)
  have h2:=List.all_eq_true.1 h1 r hr
  simpa using h2
 ·have hlt:i<ι.length:=by rw [e1];exact (List.getElem?_eq_some_iff.1 hi).1
  have h1:(ι.map fun r=>H.getD r .dead)[i]?=some (H.getD ι[i] .dead):=by simp [hlt]
  rw [hr,List.getElem?_map,hi] at h1
  have h2:ι[i]<H.length:=by
   have:=List.all_eq_true.1 b5 ι[i] (List.getElem_mem hlt)
   simpa using this
  refine ⟨ι[i],by simp [hlt],?_⟩
  have h3:H.getD ι[i] .dead=H[ι[i]]:=by simp [List.getD,h2]
  rw [h3] at h1
  rw [List.getElem?_eq_getElem h2]
  exact h1.symm
 ·rintro d H' ⟨d0,H0',hq,_,rfl,rfl⟩
  exact hk d0 H0' hq
theorem a0W {g:FuncId}{caps args args0:List D}{H:List Row}{Q K:D→List Row→Prop}(h:Con P g args0 [] Q)(hv:Vws H (args++caps) args0)(hp:∀ d H',Q d H'→PlainD d∧∀ row∈H',m0Q row)
  (hk:∀ d0 H0',Q d0 H0'→K (renE (ren [] H.length) d0) (H++H0'.map (renR (ren [] H.length)))):a0S P (.fn g caps) args H K:=by
 refine ⟨g,caps,rfl,(h.peek hv hp).mono ?_⟩
 rintro d H' ⟨d0,H0',hq,rfl,rfl⟩
 exact hk d0 H0' hq
variable {n0:Nat}{s:St}{Q:Out→St→Prop}
theorem HS.opsK (hP:Good P){l:List SI}(h:∀ K:St→Prop,(∀ s',Q .normal s'→K s')→wpS P l s K):HS P n0 (.ops l) s Q:=HS.ops hP (h _ fun _ h=>h)
theorem HS.condB {c:SV}{x y:SCode}{b:Bool}(hc:c.ev s.ts = .f (.v (.bool b)))(h1:b=true→HS P n0 x s Q)(h0:b=false→HS P n0 y s Q):HS P n0 (.cond c x y) s Q:=HS.cond (by rw [hc];exact ⟨h1,h0⟩)
theorem n0w {next:St→Prop}(h:next s):h0R next Q .normal s:=h
theorem e1G {next:St→Prop}{i:Nat}(h:Q (.exit i) s):h0R next Q (.exit i) s:=h
theorem e1T {next:St→Prop}(h:Q .ret s):h0R next Q .ret s:=h
theorem b1K {id:Nat}(h:Q .normal s):c0u id Q .normal s:=h
theorem e0M {id:Nat}(h:Q .normal s):c0u id Q (.exit id) s:=by rw [e0i,if_pos rfl];exact h
theorem s0I {id i:Nat}(hne:Nat.beq i id=false)(h:Q (.exit i) s):c0u id Q (.exit i) s:=by rw [e0i,if_neg (Nat.ne_of_beq_eq_false hne)];exact h
theorem b1G {id:Nat}(h:Q .ret s):c0u id Q .ret s:=h
theorem e1o {rs:List SR}{Q:D→List Row→Prop}(h:RetS n0 rs Q s):endS n0 rs Q .ret s:=h
theorem f1Y {rs:List SR}{Q:D→List Row→Prop}(h:RetS n0 rs Q s):endS n0 rs Q .normal s:=h
theorem Bsel.mk' {b:Bool}{p q:Prop}(h1:b=true→p)(h2:b=false→q):Bsel b p q:=⟨h1,h2⟩
def Next (n0:Nat)(keep:List Nat){α:Type}(st:α→St)(p:α→Prop)(m:α→Nat)(x:α)(s:St):Prop:=∃ y,j0B n0 keep s=some (st y)∧p y∧m y<m x
theorem Next.mk {n0:Nat}{keep:List Nat}{α:Type}{st:α→St}{p:α→Prop}{m:α→Nat}{x:α}{s:St}(y:α)(h:j0B n0 keep s=some (st y))(hp:p y)(hm:m y<m x):Next n0 keep st p m x s:=⟨y,h,hp,hm⟩
theorem HS.loopG {c:SCode}{α:Type}(keep:List Nat)(st:α→St)(p:α→Prop)(m:α→Nat)(x0:α)(hs:j0B n0 keep s=some (st x0))(h0:p x0)
  (hbody:∀ x,p x→HS P n0 c (st x) (h0R (Next n0 keep st p m x) Q)):HS P n0 (.loop c) s Q:=by
 refine HS.view (View.sweep hs) ?_
 intro k hk
 cases k with
 | loop a =>
  simp only [a0q] at hk
  injection hk with h1
  intro X w0 φ0 H0 w φ a' K hn hr hK
  refine wp_loop_rounds (m x0+1) ?_
  have key:∀ (k:Nat) (x:α) (w:World) (φ:Nat→Nat × Nat) (a':Act),m x≤k→p x→RunW P X w0 φ0 H0 w φ (st x) a'→Code.rounds P a K (k+1) a' w:=by
   intro k
   induction k with
   | zero =>
    intro x w φ a' hm hp hr
    rw [rounds_succ]
    refine hbody x hp a h1 X w0 φ0 H0 w φ a' _ hn hr ?_
    intro out s' w' φ' a' hq hr'
    cases out with
    | normal=>obtain ⟨y,_,_,hlt⟩:=hq;omega
    | exit i=>exact hK _ s' w' φ' a' hq hr'
    | ret=>exact hK _ s' w' φ' a' hq hr'
   | succ k ih =>
    intro x w φ a' hm hp hr
    rw [rounds_succ]
    refine hbody x hp a h1 X w0 φ0 H0 w φ a' _ hn hr ?_
    intro out s' w' φ' a'' hq hr'
    cases out with
    | normal =>
     obtain ⟨y,hsw,hp',hlt⟩:=hq
     obtain ⟨φ2,hr2⟩:=View.sweep hsw X w0 φ0 H0 w' φ' a'' hn hr'
     exact ih y w' φ2 a'' (by omega) hp' hr2
    | exit i=>exact hK _ s' w' φ' a'' hq hr'
    | ret=>exact hK _ s' w' φ' a'' hq hr'
  exact key (m x0) x0 w φ a' (Nat.le_refl _) h0 hr
 | region id ops draw=>cases draw<;>simp only [a0q] at hk<;>first|(split at hk<;>first|cases hk|(split at hk<;>cases hk))|cases hk
 | cond c a b=>simp only [a0q] at hk;split at hk<;>cases hk
 | _=>simp [a0q] at hk
end
theorem s0z {a:Int}(h1 : -9223372036854775808≤a)(h2:a≤9223372036854775807):IntKind.i64.wrap a=a:=by
 have:=IntWalk.i64_in a ⟨h1,h2⟩
 exact this
def gt {α:Type}[Inhabited α](l:List α)(k:Nat):α:=l[k]!
theorem getElem?_some_of {α:Type}[Inhabited α]{l:List α}{i:Nat}(h:i<l.length):l[i]?=some (gt l i):=by rw [gt,List.getElem?_eq_getElem h,getElem!_pos l i h]
theorem b0f {α:Type}[Inhabited α]{l:List α}{i:Nat}(h:i<l.length):gt l i=l[i]:=by rw [gt,getElem!_pos l i h]
theorem a0I {α:Type}[Inhabited α]{l:List α}{k:Nat}(h:k<l.length):l.drop k=gt l k :: l.drop (k+1):=by
 rw [List.drop_eq_getElem_cons h,b0f h]
def look (i:Nat):List (Nat × D)→D
 | []=>.junk
 | (j,d) :: e=>if j=i then d else look i e
def frm (n:Nat)(e:List (Nat × D)):List D:=(List.range n).map fun i=>look i e
theorem d0L (n:Nat)(e:List (Nat × D)):(frm n e).length=n:=by simp [frm]
theorem c0g {n:Nat}{e:List (Nat × D)}{i:Nat}(h:i<n):(frm n e)[i]?=some (look i e):=by
 unfold frm
 rw [List.getElem?_map,List.getElem?_range h];rfl
theorem b0u {n:Nat}{e:List (Nat × D)}{i:Nat}{u:D}(h:i<n):(frm n e).getD i u=look i e:=by
 rw [List.getD_eq_getElem?_getD,c0g h];rfl
theorem g0Q {n:Nat}{e:List (Nat × D)}{i:Nat}{d:D}:(frm n e).set i d=frm n ((i,d) :: e):=by
 apply List.ext_getElem?
 intro j
 by_cases hj:j<n
 ·rw [List.getElem?_set,c0g hj,c0g hj,d0L]
  simp only [look]
  split
  ·rename_i e;subst e;rw [if_pos hj]
  ·rfl
 ·rw [List.getElem?_eq_none (by simp [d0L];omega),List.getElem?_eq_none (by simp [d0L];omega)]
theorem p0F {i j:Nat}{d:D}{e:List (Nat × D)}:look i ((j,d) :: e)=if j=i then d else look i e:=id rfl
theorem w0D {i:Nat}:look i [] = .junk:=id rfl
section
variable {P:Program}{n0:Nat}{s:St}{Q:Out→St→Prop}
theorem View.frm {n:Nat}{e:List (Nat × D)}(hl:s.ts.length=n)(h:∀ i,i<n→look i e = .junk∨s.ts[i]?=some (look i e)):View P n0 s ⟨frm n e,s.H,[]⟩:=by
 intro X w0 φ0 H0 w φ a _ hr
 refine ⟨φ,⟨hr.sim.heap,⟨?_,fun i d u hd hu=>?_⟩,hr.sim.defers⟩,hr.ons⟩
 ·rw [d0L,hr.sim.tmps.1,hl]
 ·dsimp only at hd
  have hi:i<n:=by have:=(List.getElem?_eq_some_iff.1 hd).1;rwa [d0L] at this
  rw [c0g hi] at hd
  injection hd with hd
  subst hd
  rcases h i hi with h1|h1
  ·rw [h1];exact .junk
  ·exact hr.sim.tmps.2 i _ u h1 hu
def a0J:Nat→List D→List (Nat × D)
 | _,[]=>[]
 | i,d :: ds=>(i,d) :: a0J (i+1) ds
theorem m0f:∀ (ds:List D) (k i:Nat),look (k+i) (a0J k ds) = .junk∨ds[i]?=some (look (k+i) (a0J k ds))
 | [],_,_=>.inl rfl
 | d :: ds,k,0=>by simp [a0J,look]
 | d :: ds,k,i+1=>by
  simp only [a0J,look]
  rw [if_neg (by omega),show k+(i+1)=k+1+i by omega]
  simpa using m0f ds (k+1) i
theorem Con.walk (hP:Good P){f:FuncId}{n:Nat}{rs:List SR}{c:SCode}(hf:Fn P f n rs c){args:List D}{H:List Row}{Q:D→List Row→Prop}(hn:args.length≤n)
  (h:HS P H.length c ⟨frm n (a0J 0 args),H,[]⟩ (endS H.length rs Q)):Con P f args H Q:=by
 refine Con.fn hP hf (HS.view (View.frm ?_ (fun i hi=>?_)) h)
 ·simp;omega
 ·dsimp only
  have:=m0f args 0 i
  rw [Nat.zero_add] at this
  rcases this with h1|h1
  ·exact .inl h1
  ·have hlt:=(List.getElem?_eq_some_iff.1 h1).1
   rw [List.getElem?_append_left hlt]
   exact .inr h1
end
theorem b0B {P:Program}{g:FuncId}{caps args:List D}{H:List Row}{Q K:D→List Row→Prop}(h:Con P g (args++caps) H Q)(hk:∀ d H',Q d H'→K d H'):a0S P (.fn g caps) args H K:=⟨g,caps,rfl,h.mono hk⟩
theorem t0Z {i:Nat}:∀ {e:List (Nat × D)},look i e = .junk∨(i,look i e)∈e
 | []=>.inl rfl
 | (j,d) :: e=>by
  simp only [look]
  split
  ·rename_i h;subst h;exact .inr List.mem_cons_self
  ·rcases t0Z (i:=i) (e:=e) with h|h
   ·exact .inl h
   ·exact .inr (List.mem_cons_of_mem _ h)
def NextP (n:Nat){α:Type}(st:α→List (Nat × D))(hs:α→List Row)(p:α→Prop)(m:α→Nat)(x:α)(s:St):Prop:=∃ y,s.H=hs y∧(∃ e,s.ts=frm n e∧(st y).map (fun q=>look q.1 e)=(st y).map (·.2))∧p y∧m y<m x
theorem NextP.mk {α:Type}{st:α→List (Nat × D)}{hs:α→List Row}{p:α→Prop}{m:α→Nat}{x:α}{n:Nat}{e:List (Nat × D)}{H:List Row}{dr:List Nat}(y:α)(hH:H=hs y)(he:(st y).map (fun q=>look q.1 e)=(st y).map (·.2))(hp:p y)(hm:m y<m x):NextP n st hs p m x ⟨frm n e,H,dr⟩:=⟨y,hH,⟨e,rfl,he⟩,hp,hm⟩
section
variable {P:Program}{n0:Nat}{s:St}{Q:Out→St→Prop}
theorem View.told {n:Nat}{e e':List (Nat × D)}{H:List Row}{dr:List Nat}(he:e'.map (fun q=>look q.1 e)=e'.map (·.2)):View P n0 ⟨Mir.frm n e,H,dr⟩ ⟨Mir.frm n e',H,[]⟩:=by
 refine View.frm (s:=⟨Mir.frm n e,H,dr⟩) (d0L _ _) (fun i hi=>?_)
 rcases t0Z (i:=i) (e:=e') with h|h
 ·exact .inl h
 ·refine .inr ?_
  dsimp only
  rw [c0g hi]
  have:∀ q∈e',look q.1 e=q.2:=by
   intro q hq
   obtain ⟨k,hk,rfl⟩:=List.getElem_of_mem hq
   have:=congrArg (fun l=>l[k]?) he
   simpa [hk] using this
  exact congrArg some (this _ h)
theorem HS.loopP {c:SCode}{α:Type}{n:Nat}{e:List (Nat × D)}{H:List Row}{dr:List Nat}(st:α→List (Nat × D))(hs:α→List Row)(p:α→Prop)(m:α→Nat)(x0:α)(hH:H=hs x0)(he:(st x0).map (fun q=>look q.1 e)=(st x0).map (·.2))(h0:p x0)
  (hbody:∀ x,p x→HS P n0 c ⟨Mir.frm n (st x),hs x,[]⟩ (h0R (NextP n st hs p m x) Q)):HS P n0 (.loop c) ⟨Mir.frm n e,H,dr⟩ Q:=by
 subst hH
 refine HS.view (View.told he) ?_
 intro k hk
 cases k with
 | loop a =>
  simp only [a0q] at hk
  injection hk with h1
  intro X w0 φ0 H0 w φ a' K hn0 hr hK
  refine wp_loop_rounds (m x0+1) ?_
  have key:∀ (k:Nat) (x:α) (w:World) (φ:Nat→Nat × Nat) (a':Act),m x≤k→p x→RunW P X w0 φ0 H0 w φ ⟨Mir.frm n (st x),hs x,[]⟩ a'→Code.rounds P a K (k+1) a' w:=by
   have nx:∀ (x y:α) (s':St) (w':World) (φ':Nat→Nat × Nat) (a'':Act),RunW P X w0 φ0 H0 w' φ' s' a''→s'.H=hs y→(∃ e,s'.ts=Mir.frm n e∧(st y).map (fun q=>look q.1 e)=(st y).map (·.2))→∃ φ2,RunW P X w0 φ0 H0 w' φ2 ⟨Mir.frm n (st y),hs y,[]⟩ a'':=by
    rintro x y ⟨ts,H,dr⟩ w' φ' a'' hr' hy ⟨e,he1,he2⟩
    dsimp only at hy he1
    subst hy;subst he1
    exact View.told (dr:=dr) he2 X w0 φ0 H0 w' φ' a'' hn0 hr'
   intro k
   induction k with
   | zero =>
    intro x w φ a' hm hp hr
    rw [rounds_succ]
    refine hbody x hp a h1 X w0 φ0 H0 w φ a' _ hn0 hr ?_
    intro out s' w' φ' a'' hq hr'
    cases out with
    | normal=>obtain ⟨y,_,_,_,hlt⟩:=hq;omega
    | exit i=>exact hK _ s' w' φ' a'' hq hr'
    | ret=>exact hK _ s' w' φ' a'' hq hr'
   | succ k ih =>
    intro x w φ a' hm hp hr
    rw [rounds_succ]
    refine hbody x hp a h1 X w0 φ0 H0 w φ a' _ hn0 hr ?_
    intro out s' w' φ' a'' hq hr'
    cases out with
    | normal =>
     obtain ⟨y,hy,he,hp',hlt⟩:=hq
     obtain ⟨φ2,hr2⟩:=nx x y s' w' φ' a'' hr' hy he
     exact ih y w' φ2 a'' (by omega) hp' hr2
    | exit i=>exact hK _ s' w' φ' a'' hq hr'
    | ret=>exact hK _ s' w' φ' a'' hq hr'
  exact key (m x0) x0 w φ a' (Nat.le_refl _) h0 hr
 | region id ops draw=>cases draw<;>simp only [a0q] at hk<;>first|(split at hk<;>first|cases hk|(split at hk<;>cases hk))|cases hk
 | cond c a b=>simp only [a0q] at hk;split at hk<;>cases hk
 | _=>simp [a0q] at hk
end
section
variable {P:Program}{n0:Nat}{Q:D→List Row→Prop}
theorem end1 {n t:Nat}{e:List (Nat × D)}{H:List Row}{dr:List Nat}{d d0:D}(ht:Nat.blt t n=true)(h:look t e=d)(hl:lowB n0 (H.take n0)=true)(hv:Vw (e0E n0 H) d d0)(q:Q d0 (H.take n0)):RetS n0 [.t t] Q ⟨frm n e,H,dr⟩:=by
 refine .still (ds:=[d]) ?_ hl hv q
 simp only [resS]
 rw [b0u (by simpa using ht),h]
theorem endA {n t:Nat}{e:List (Nat × D)}{H:List Row}{dr:List Nat}{d:D}(ht:Nat.blt t n=true)(h:look t e=d)(q:Q d H):RetS n0 [.t t] Q ⟨frm n e,H,dr⟩:=by
 refine .all (ds:=[d]) ?_ q
 simp only [resS]
 rw [b0u (by simpa using ht),h]
theorem end2 {n t u:Nat}{e:List (Nat × D)}{H:List Row}{dr:List Nat}{d f d0:D}(ht:Nat.blt t n=true)(hu:Nat.blt u n=true)(h:look t e=d)(k:look u e=f)(hl:lowB n0 (H.take n0)=true)(hv:Vw (e0E n0 H) (.tp [d,f]) d0)(q:Q d0 (H.take n0)):RetS n0 [.t t,.t u] Q ⟨frm n e,H,dr⟩:=by
 refine .still (ds:=[d,f]) ?_ hl hv q
 simp only [resS]
 rw [b0u (by simpa using ht),b0u (by simpa using hu),h,k]
theorem endG {n t:Nat}{e:List (Nat × D)}{H:List Row}{dr:List Nat}{d:D}{ef:Eff}(ht:Nat.blt t n=true)(h:look t e=d)(hg:gather n0 d (List.range n0) H=some ef)(q:Q ef.res (a0B (H.take n0) ef.upd++ef.news)):RetS n0 [.t t] Q ⟨frm n e,H,dr⟩:=by
 refine .gather (ds:=[d]) ?_ hg q
 simp only [resS]
 rw [b0u (by simpa using ht),h]
end
end Go.Proofs.YthjgmldnegaaiaaGreatDoor.Mir
namespace Go.Proofs.YthjgmldnegaaiaaGreatDoor.Mir
open Go Go.RowKit
theorem m0y {P:Program}:∀ (l1 l2:List SI) (s:St) (K:St→Prop),wpS P (l1++l2) s K=wpS P l1 s fun s'=>wpS P l2 s' K
 | [],l2,s,K=>rfl
 | i :: l1,l2,s,K=>by
  simp only [List.cons_append,wpS,m0y l1 l2]
theorem e1M {P:Program}{l1 l2:List SI}{s:St}{K:St→Prop}(h:∀ K':St→Prop,(∀ s',wpS P l2 s' K→K' s')→wpS P l1 s K'):wpS P (l1++l2) s K:=by
 rw [m0y]
 exact h _ fun _ h=>h
abbrev kI (n:Int):SV:=.c (.f (.v (.int .i64 n)))
abbrev kT:SV:=.c (.f (.v (.bool true)))
abbrev kF:SV:=.c (.f (.v (.bool false)))
abbrev kN:SV:=.c (.f (.v (.slice none 0 0)))
abbrev kC (f:Nat):SV:=.c (.fn f [])
abbrev jI:D:=.f (.v (.int .i64 0))
abbrev jN:D:=.f (.v (.slice none 0 0))
abbrev jF:D:=.f (.v (.bool false))
abbrev jm (t x:Nat):SI:=.a t (.mv (.t x))
abbrev jl (t x:Nat):SI:=.a t (.load1 (.t x))
abbrev jo (t o x:Nat):SI:=.a t (.off o (.t x))
abbrev jn (t x:Nat):SI:=.a t (.nilc (.t x))
abbrev gM (t x g:Nat) (b:Bool):SI:=.g (some t) (.mv (.t x)) g b
abbrev gL (t x g:Nat) (b:Bool):SI:=.g (some t) (.load1 (.t x)) g b
abbrev gO (t o x g:Nat) (b:Bool):SI:=.g (some t) (.off o (.t x)) g b
abbrev gN (t x g:Nat) (b:Bool):SI:=.g (some t) (.nilc (.t x)) g b
abbrev je (t x:Nat):SI:=.a t (.slen (.t x))
abbrev jx (t n x i:Nat):SI:=.a t (.idx n (.t x) (.t i))
abbrev jL (t n x:Nat):SI:=.a t (.loadA n (.t x))
abbrev jE (t n x:Nat):SI:=.a t (.ext n (.t x))
abbrev jb (t:Nat) (op:BinOp) (x:Nat) (k:Int):SI:=.a t (.bin op (.t x) (kI k))
abbrev jB (t:Nat) (op:BinOp) (x y:Nat):SI:=.a t (.bin op (.t x) (.t y))
abbrev jk (t:Nat) (k:Int):SI:=.a t (.mv (kI k))
abbrev jG (t:Nat) (o:SOp) (g:Nat) (b:Bool):SI:=.g (some t) o g b
abbrev jq (l:List SI) (y:SCode):SCode:=.seq (.ops l) y
abbrev jc (t:Nat) (x y:SCode):SCode:=.cond (.t t) x y
def ap (a b:List SI):List SI:=a++b
theorem W_mv {P:Program}{ts:List D}{H:List Row}{K:D→List Row→Prop}(x:SV):a0T P ts H (.mv x) K=(K (x.ev ts) H):=id rfl
theorem d1I {P:Program}{ts:List D}{H:List Row}{K:D→List Row→Prop}(c a b:SV):a0T P ts H (.pick c a b) K=(k0N (c.ev ts) (K (a.ev ts) H) (K (b.ev ts) H)):=id rfl
theorem y0l {P:Program}{ts:List D}{H:List Row}{K:D→List Row→Prop}(T:TypeId)(z:List D):a0T P ts H (.alloc T z) K=(K (.pt H.length 0) (H++[.box T z])):=id rfl
theorem e1t {P:Program}{ts:List D}{H:List Row}{K:D→List Row→Prop}(T:TypeId)(x:SV):a0T P ts H (.box T x) K=(a0E (boxD (x.ev ts)) fun cs=>K (.pt H.length 0) (H++[.box T cs])):=id rfl
theorem z0D {P:Program}{ts:List D}{H:List Row}{K:D→List Row→Prop}(a:SV):a0T P ts H (.load1 a) K=(a0E (load1 H (a.ev ts)) fun d=>K d H):=id rfl
theorem z0w {P:Program}{ts:List D}{H:List Row}{K:D→List Row→Prop}(n:Nat)(a:SV):a0T P ts H (.loadA n a) K=(a0E (loadA H n (a.ev ts)) fun d=>K d H):=id rfl
theorem z0X {P:Program}{ts:List D}{H:List Row}{K:D→List Row→Prop}(n:Nat)(a x:SV):a0T P ts H (.store n a x) K=(a0E (c0o P H n (a.ev ts) (x.ev ts)) fun H'=>K D.undef H'):=id rfl
theorem c1i {P:Program}{ts:List D}{H:List Row}{K:D→List Row→Prop}(x:SV):a0T P ts H (.nilc x) K=(a0E (r0e (x.ev ts)) fun d=>K d H):=id rfl
theorem e1k {P:Program}{ts:List D}{H:List Row}{K:D→List Row→Prop}(o:Nat)(a:SV):a0T P ts H (.off o a) K=(a0E (offD o (a.ev ts)) fun d=>K d H):=id rfl
theorem d1E {P:Program}{ts:List D}{H:List Row}{K:D→List Row→Prop}(o:Nat)(x:SV):a0T P ts H (.fld1 o x) K=(a0E (fld1 o (x.ev ts)) fun d=>K d H):=id rfl
theorem c1g {P:Program}{ts:List D}{H:List Row}{K:D→List Row→Prop}(o n:Nat)(x:SV):a0T P ts H (.fldA o n x) K=(a0E (fldA o n (x.ev ts)) fun d=>K d H):=id rfl
theorem e1p {P:Program}{ts:List D}{H:List Row}{K:D→List Row→Prop}(sz:Nat)(x i:SV):a0T P ts H (.idx sz x i) K=(idxS sz (x.ev ts) (i.ev ts) fun d=>K d H):=id rfl
theorem f1D {P:Program}{ts:List D}{H:List Row}{K:D→List Row→Prop}(sz n:Nat)(x i:SV):a0T P ts H (.arr sz n x i) K=(arrS sz n (x.ev ts) (i.ev ts) fun d=>K d H):=id rfl
theorem e1j {P:Program}{ts:List D}{H:List Row}{K:D→List Row→Prop}(i:Nat)(x:SV):a0T P ts H (.ext i x) K=(a0E (extD i (x.ev ts)) fun d=>K d H):=id rfl
theorem f1a {P:Program}{ts:List D}{H:List Row}{K:D→List Row→Prop}(op:BinOp)(x y:SV):a0T P ts H (.bin op x y) K=(binS op (x.ev ts) (y.ev ts) fun d=>K d H):=id rfl
theorem d1H {P:Program}{ts:List D}{H:List Row}{K:D→List Row→Prop}(op:BinOp)(x y:SV):a0T P ts H (.binb op x y) K=(o0Q op (x.ev ts) (y.ev ts) fun d=>K d H):=id rfl
theorem f1B {P:Program}{ts:List D}{H:List Row}{K:D→List Row→Prop}(eq:Bool)(ks:List Nat)(x y:SV):a0T P ts H (.aeq eq ks x y) K=(aeqS eq ks (x.ev ts) (y.ev ts) fun d=>K d H):=id rfl
theorem c1I {P:Program}{ts:List D}{H:List Row}{K:D→List Row→Prop}(eq:Bool)(k:Nat)(x y:SV):a0T P ts H (.nilq eq k x y) K=(d0G k (x.ev ts) (y.ev ts) fun b=>K (D.bool (if eq then b else !b)) H):=id rfl
theorem c1c {P:Program}{ts:List D}{H:List Row}{K:D→List Row→Prop}(x:SV):a0T P ts H (.unot x) K=(a0E (notS (x.ev ts)) fun d=>K d H):=id rfl
theorem W_fn {P:Program}{ts:List D}{H:List Row}{K:D→List Row→Prop}(f:FuncId)(caps:List SV):a0T P ts H (.fn f caps) K=(K (.fn f (caps.map (SV.ev ts))) H):=id rfl
theorem y0I {P:Program}{ts:List D}{H:List Row}{K:D→List Row→Prop}  : a0T P ts H (.mkmap) K=(K (.mp H.length) (H++[.map []])):=id rfl
theorem q0I {P:Program}{ts:List D}{H:List Row}{K:D→List Row→Prop}(T:TypeId)(sz b:Nat)(z:List F)(l c:SV):a0T P ts H (.mkslice T sz b z l c) K=(a0E (intOf? (l.ev ts)) fun a=>a0E (intOf? (c.ev ts)) fun c=>((0<a∨c=0)∧0≤a∧a≤c∧b*c≤140737488355328∧c.toNat*sz≤16777216)∧K (.sl H.length 0 a.toNat) (H++[.data T ((List.range (a.toNat*sz)).map fun j=>z.getD (j % sz) (.v Go.undef))])):=id rfl
theorem f1d {P:Program}{ts:List D}{H:List Row}{K:D→List Row→Prop}(z:List D)(parts:List (Nat × Nat × SV)):a0T P ts H (.bld z parts) K=(a0E (e0X z (parts.map fun p=>(p.1,p.2.1,p.2.2.ev ts))) fun ds=>K (.ag ds) H):=id rfl
theorem e1y {P:Program}{ts:List D}{H:List Row}{K:D→List Row→Prop}(T:TypeId)(sz len:Nat)(z:List D)(parts:List (Nat × SV)):a0T P ts H (.bsl T sz len z parts) K=(a0E (e0X z (parts.map fun p=>(p.1,sz,p.2.ev ts))) fun ds=>a0E (a0U P H ds) fun xu=>K (.sl H.length 0 len) (a0B H xu.2++[.data T xu.1])):=id rfl
theorem f1O {P:Program}{ts:List D}{H:List Row}{K:D→List Row→Prop}(T:TypeId)(sz b:Nat)(s x:SV):a0T P ts H (.app T sz b s x) K=(appS H T sz b (s.ev ts) (x.ev ts) K):=id rfl
theorem c1V {P:Program}{ts:List D}{H:List Row}{K:D→List Row→Prop}(x:SV):a0T P ts H (.slen x) K=(a0E (slcS (x.ev ts)) fun n=>K (D.int n) H):=id rfl
theorem c1h {P:Program}{ts:List D}{H:List Row}{K:D→List Row→Prop}(x:SV):a0T P ts H (.mlen x) K=(a0E (g0M H (x.ev ts)) fun es=>K (D.int es.length) H):=id rfl
theorem c1O {P:Program}{ts:List D}{H:List Row}{K:D→List Row→Prop}(k:IntKind)(x:SV):a0T P ts H (.conv k x) K=(a0E (x0c k (x.ev ts)) fun d=>K d H):=id rfl
theorem f1X {P:Program}{ts:List D}{H:List Row}{K:D→List Row→Prop}(x:SV):a0T P ts H (.s2b x) K=(a0E (strOf? (x.ev ts)) fun s=>s.size≤most∧K (.f (.s (s.data.toList.map fun b=>.v (.int .u8 b.toNat)) s.size)) H):=id rfl
theorem f1M {P:Program}{ts:List D}{H:List Row}{K:D→List Row→Prop}(x:SV):a0T P ts H (.b2s x) K=(a0E (b0P H 1 (x.ev ts)) fun p=>a0E (bytesOf? (p.2.map .f)) fun l=>p.2.length=p.1∧K (.f (.v (.string ⟨l.toArray⟩))) H):=id rfl
theorem t0N {P:Program}{ts:List D}{H:List Row}{K:D→List Row→Prop}(x:SV):a0T P ts H (.strlen x) K=(a0E (strOf? (x.ev ts)) fun s=>K (D.int s.size) H):=id rfl
theorem c1L {P:Program}{ts:List D}{H:List Row}{K:D→List Row→Prop}(sz n:Nat)(x i:SV):a0T P ts H (.aidx sz n x i) K=(w0N sz n (x.ev ts) (i.ev ts) fun d=>K d H):=id rfl
theorem c1v {P:Program}{ts:List D}{H:List Row}{K:D→List Row→Prop}(x i:SV):a0T P ts H (.sidx x i) K=(a0E (strOf? (x.ev ts)) fun s=>a0E (intOf? (i.ev ts)) fun i=>a0E (if 0≤i then s.data.toList[i.toNat]? else none) fun b=>K (.f (.v (.int .u8 b.toNat))) H):=id rfl
theorem c1W {P:Program}{ts:List D}{H:List Row}{K:D→List Row→Prop}(x:SV)(lo hi:Option SV):a0T P ts H (.ssub x lo hi) K=(a0E (z0s (x.ev ts) (lo.map (SV.ev ts)) (hi.map (SV.ev ts))) fun d=>K d H):=id rfl
theorem c1X {P:Program}{ts:List D}{H:List Row}{K:D→List Row→Prop}(ok:Bool)(K0:TypeId)(z:D)(m k:SV):a0T P ts H (.look ok K0 z m k) K=(a0E (s0q P H ok K0 z (m.ev ts) (k.ev ts)) fun d=>K d H):=id rfl
theorem d1A {P:Program}{ts:List D}{H:List Row}{K:D→List Row→Prop}(K0:TypeId)(m k x:SV):a0T P ts H (.mput K0 m k x) K=(a0E (p0N P H K0 (m.ev ts) (k.ev ts) (x.ev ts)) fun H'=>K D.undef H'):=id rfl
theorem c1S {P:Program}{ts:List D}{H:List Row}{K:D→List Row→Prop}(K0:TypeId)(m k:SV):a0T P ts H (.mdel K0 m k) K=(a0E (a1j P H K0 (m.ev ts) (k.ev ts)) fun H'=>K (.tp []) H'):=id rfl
theorem e1r {P:Program}{ts:List D}{H:List Row}{K:D→List Row→Prop}(T:TypeId)(x:SV):a0T P ts H (.clr T x) K=(a0E (g0u P H T (x.ev ts)) fun H'=>K (.tp []) H'):=id rfl
theorem W_mm {P:Program}{ts:List D}{H:List Row}{K:D→List Row→Prop}(mx:Bool)(x y:SV):a0T P ts H (.mm mx x y) K=(a0E (intOf? (x.ev ts)) fun a=>a0E (intOf? (y.ev ts)) fun b=>K (D.int (if mx then max a b else min a b)) H):=id rfl
theorem d1J {P:Program}{ts:List D}{H:List Row}{K:D→List Row→Prop}(f:SV)(args:List SV):a0T P ts H (.call f args) K=(a0S P (f.ev ts) (args.map (SV.ev ts)) H K):=id rfl
theorem c1Q {P:Program}{ts:List D}{H:List Row}{K:D→List Row→Prop}(sz:Nat)(E:TypeId)(x:SV):a0T P ts H (.sub sz E x none none none) K=(a0E (slcS (x.ev ts)) fun n=>(0≤(0:Int)∧(0:Int)≤n∧(n:Int)≤n)∧a0E (subS H sz E (x.ev ts) (0:Int).toNat (n:Int).toNat) fun d=>K d H):=id rfl
theorem d1O {P:Program}{ts:List D}{H:List Row}{K:D→List Row→Prop}(sz:Nat)(E:TypeId)(x l:SV):a0T P ts H (.sub sz E x (some l) none none) K=(a0E (slcS (x.ev ts)) fun n=>a0E (intOf? (l.ev ts)) fun l=>(0≤l∧l≤n∧(n:Int)≤n)∧a0E (subS H sz E (x.ev ts) l.toNat (n:Int).toNat) fun d=>K d H):=id rfl
theorem d1S {P:Program}{ts:List D}{H:List Row}{K:D→List Row→Prop}(sz:Nat)(E:TypeId)(x h:SV):a0T P ts H (.sub sz E x none (some h) none) K=(a0E (slcS (x.ev ts)) fun n=>a0E (intOf? (h.ev ts)) fun h=>(0≤(0:Int)∧0≤h∧h≤n)∧a0E (subS H sz E (x.ev ts) (0:Int).toNat h.toNat) fun d=>K d H):=id rfl
theorem a1M {P:Program}{ts:List D}{H:List Row}{K:D→List Row→Prop}(sz:Nat)(E:TypeId)(x l h:SV):a0T P ts H (.sub sz E x (some l) (some h) none) K=(a0E (slcS (x.ev ts)) fun n=>a0E (intOf? (l.ev ts)) fun l=>a0E (intOf? (h.ev ts)) fun h=>(0≤l∧l≤h∧h≤n)∧a0E (subS H sz E (x.ev ts) l.toNat h.toNat) fun d=>K d H):=id rfl
theorem c1Z {P:Program}{ts:List D}{H:List Row}{K:D→List Row→Prop}(sz:Nat)(E:TypeId)(x l h m:SV):a0T P ts H (.sub sz E x (some l) (some h) (some m)) K=(a0E (slcS (x.ev ts)) fun n=>a0E (intOf? (l.ev ts)) fun l=>a0E (intOf? (h.ev ts)) fun h=>(0≤l∧l≤h∧h≤n)∧(intOf? (m.ev ts)=some l∧l=h∧(some h).isSome=true)∧K (mxS (x.ev ts)) H):=id rfl
theorem y0a {P:Program}{ts:List D}{H:List Row}{K:D→List Row→Prop}(sz:Nat)(E:TypeId)(x h m:SV):a0T P ts H (.sub sz E x none (some h) (some m)) K=(a0E (slcS (x.ev ts)) fun n=>a0E (intOf? (h.ev ts)) fun h=>(0≤(0:Int)∧0≤h∧h≤n)∧(intOf? (m.ev ts)=some 0∧(0:Int)=h∧(some h).isSome=true)∧K (mxS (x.ev ts)) H):=id rfl
theorem ev_t {ts:List D}{n:Nat}:(SV.t n).ev ts=ts.getD n D.undef:=id rfl
theorem ev_c {ts:List D}{d:D}:(SV.c d).ev ts=d:=id rfl
theorem c1x {x:F}:boxD (.f x)=some ([.f x]):=id rfl
theorem t0g {x:F}:b0E (.f x)=true:=id rfl
theorem x0u {x:F}:(D.f x).cells=[.f x]:=id rfl
theorem y0c {r o n:Nat}:boxD (.sl r o n)=some ([.sl r o n]):=id rfl
theorem q0p {r o n:Nat}:b0E (.sl r o n)=true:=id rfl
theorem t0f {r o n:Nat}:(D.sl r o n).cells=[.sl r o n]:=id rfl
theorem a1Y {r o:Nat}:boxD (.pt r o)=some ([.pt r o]):=id rfl
theorem p0P {r o:Nat}:b0E (.pt r o)=true:=id rfl
theorem u0H {r o:Nat}:(D.pt r o).cells=[.pt r o]:=id rfl
theorem x0Q {r:Nat}:boxD (.mp r)=some ([.mp r]):=id rfl
theorem o0T {r:Nat}:b0E (.mp r)=true:=id rfl
theorem v0f {r:Nat}:(D.mp r).cells=[.mp r]:=id rfl
theorem z0O {xs:List F}:boxD (.rf xs)=some ([.rf xs]):=id rfl
theorem p0p {xs:List F}:b0E (.rf xs)=true:=id rfl
theorem u0v {xs:List F}:(D.rf xs).cells=[.rf xs]:=id rfl
theorem z0N {ds:List D}:boxD (.ag ds)=some (ds):=id rfl
theorem q0J {ds:List D}:b0E (.ag ds)=true:=id rfl
theorem w0A {ds:List D}:(D.ag ds).cells=ds:=id rfl
theorem z0b {f:FuncId}{ds:List D}:boxD (.fn f ds)=some ([.fn f ds]):=id rfl
theorem o0K {f:FuncId}{ds:List D}:b0E (.fn f ds)=true:=id rfl
theorem u0i {f:FuncId}{ds:List D}:(D.fn f ds).cells=[.fn f ds]:=id rfl
def l0k (o:Option Row)(off:Nat):Option D:=match o with
 | some row=>match row.cells with
  | some xs=>xs[off]?
  | none=>none
 | none=>none
theorem w0E {H:List Row}{r off:Nat}:load1 H (.pt r off)=l0k H[r]? off:=id rfl
theorem v0v {H:List Row}{xs:List F}:load1 H (.rf xs)=(xs[0]?).map .f:=id rfl
theorem l0H {T:TypeId}{ds:List D}{off:Nat}:l0k (some (.box T ds)) off=ds[off]?:=id rfl
theorem j0z {T:TypeId}{xs:List F}{off:Nat}:l0k (some (.data T xs)) off=(xs[off]?).map .f:=by simp [l0k,Row.cells]
theorem i0k {T:TypeId}{xs:List F}{off:Nat}:l0k (some (.froz T xs)) off=(xs[off]?).map .f:=by simp [l0k,Row.cells]
def l0e (n:Nat)(o:Option Row)(off:Nat):Option D:=match o with
 | some row=>match row.cells with
  | some xs=>if off+n≤xs.length then some (.ag ((xs.drop off).take n)) else none
  | none=>none
 | none=>none
theorem v0S {H:List Row}{n r off:Nat}:loadA H n (.pt r off)=l0e n H[r]? off:=id rfl
theorem a0A {H:List Row}{n:Nat}{xs:List F}:loadA H n (.rf xs)=if n≤xs.length then some (.ag ((xs.map .f).take n)) else none:=id rfl
theorem m0U {n:Nat}{T:TypeId}{ds:List D}{off:Nat}:l0e n (some (.box T ds)) off=if off+n≤ds.length then some (.ag ((ds.drop off).take n)) else none:=id rfl
theorem j0q {n:Nat}{T:TypeId}{xs:List F}{off:Nat}:l0e n (some (.data T xs)) off=if off+n≤xs.length then some (.ag (((xs.drop off).take n).map .f)) else none:=by simp [l0e,Row.cells,List.map_take,List.map_drop]
theorem j0K {n:Nat}{T:TypeId}{xs:List F}{off:Nat}:l0e n (some (.froz T xs)) off=if off+n≤xs.length then some (.ag (((xs.drop off).take n).map .f)) else none:=by simp [l0e,Row.cells,List.map_take,List.map_drop]
theorem a1x {o r off:Nat}:offD o (.pt r off)=some (.pt r (off+o)):=id rfl
theorem a1w {o:Nat}{xs:List F}:offD o (.rf xs)=some (.rf (xs.drop o)):=id rfl
theorem a1J {o:Nat}{ds:List D}:fld1 o (.ag ds)=ds[o]?:=id rfl
theorem y0t {o n:Nat}{ds:List D}:fldA o n (.ag ds)=if o+n≤ds.length then some (.ag ((ds.drop o).take n)) else none:=id rfl
theorem t0L {r o:Nat}:r0e (.pt r o)=some (.pt r o):=id rfl
theorem u0e {xs:List F}:r0e (.rf xs)=some (.rf xs):=id rfl
theorem t0y {f:FuncId}{cs:List D}:r0e (.fn f cs)=some (.fn f cs):=id rfl
theorem a1K {i:Nat}{ds:List D}:extD i (.tp ds)=ds[i]?:=id rfl
def c0N (P:Program)(H:List Row)(n r off:Nat)(x:D)(o:Option Row):Option (List Row):=match o with
 | some (.box U xs)=>if b0E x=true∧x.cells.length=n∧off+n≤xs.length then some (H.set r (.box U (putL off x.cells xs))) else none
 | some (.data U xs)=>if b0E x=true∧x.cells.length=n∧off+n≤xs.length∧0<n then
   match a0U P H x.cells with
   | some (ys,us)=>match (a0B H us)[r]? with
    | some (.data U ws)=>some ((a0B H us).set r (.data U (splice ws off ys)))
    | _=>none
   | none=>none
  else none
 | _=>none
theorem w0o {α:Type}{xs:List α}{off:Nat}{x:α}(h:off<xs.length):splice xs off [x]=xs.set off x:=by
 rw [List.set_eq_take_append_cons_drop,if_pos h]
 simp [splice]
theorem c0G {P:Program}{H:List Row}{n r off:Nat}{x:D}:c0o P H n (.pt r off) x=c0N P H n r off x H[r]?:=id rfl
theorem m0q {P:Program}{H:List Row}{n r off:Nat}{x:D}{U:TypeId}{xs:List D}:c0N P H n r off x (some (.box U xs))=if b0E x=true∧x.cells.length=n∧off+n≤xs.length then some (H.set r (.box U (putL off x.cells xs))) else none:=id rfl
theorem n0v {P:Program}{H:List Row}{r off:Nat}{x:F}{U:TypeId}{xs:List F}(h:H[r]?=some (.data U xs)):c0N P H 1 r off (.f x) (some (.data U xs))=if off+1≤xs.length then some (H.set r (.data U (xs.set off x))) else none:=by
 unfold c0N
 simp only [b0E,D.cells,a0U,b0M,a0B,List.append_nil,List.length_cons,List.length_nil,h,true_and,Nat.reduceAdd,Nat.zero_lt_one,and_true]
 split
 ·rw [w0o (by omega)]
 ·rfl
theorem p0q {α:Type}{cs:List α}:putL 0 [] cs=cs:=by cases cs<;>rfl
theorem k0x {α:Type}{y c:α}{ys cs:List α}:putL 0 (y :: ys) (c :: cs)=y :: putL 0 ys cs:=id rfl
theorem o0J {α:Type}{n:Nat}{c:α}{ys cs:List α}:putL (n+1) ys (c :: cs)=c :: putL n ys cs:=id rfl
theorem v0N {op:BinOp}{k k2:IntKind}{a b:Int}{K:D→Prop}:binS op (.f (.v (.int k a))) (.f (.v (.int k2 b))) K=(shQ op k k2∧intS op k a b K):=id rfl
theorem t0R {op:BinOp}{k:IntKind}:shQ op k k=True:=by cases op<;>simp [shQ]
theorem z0B {k k2:IntKind}:shQ .shl k k2=True:=id rfl
theorem z0z {k k2:IntKind}:shQ .shr k k2=True:=id rfl
theorem v0O {op:BinOp}{a b:ByteArray}{K:D→Prop}:binS op (.f (.v (.string a))) (.f (.v (.string b))) K=strS op a b K:=id rfl
theorem z0U {eq:Bool}{ks:List Nat}{xs ys:List D}{K:D→Prop}:aeqS eq ks (.ag xs) (.ag ys) K=a0E (eqL ks xs ys) fun b=>K (.f (.v (.bool (if eq then b else !b)))):=id rfl
theorem v0q {sz n:Nat}{ds:List D}{k:IntKind}{a:Int}{K:D→Prop}:w0N sz n (.ag ds) (.f (.v (.int k a))) K=((0≤a∧a<n)∧a0E (ds[a.toNat*sz]?) K):=id rfl
theorem x0T {op:BinOp}{a b:Bool}{K:D→Prop}:o0Q op (.f (.v (.bool a))) (.f (.v (.bool b))) K=s0N op a b K:=id rfl
theorem t0D {k:IntKind}{a b:Int}{K:D→Prop}:intS .shl k a b K=(0≤b∧K (.f (.v (.int k (k.wrap (a*2 ^ (min b.toNat k.bits))))))):=id rfl
theorem v0z {k:IntKind}{a b:Int}{K:D→Prop}:intS .shr k a b K=(0≤b∧K (.f (.v (.int k (a.fdiv (2 ^ (min b.toNat k.bits))))))):=id rfl
theorem v0y {k:IntKind}{a b:Int}{K:D→Prop}:intS .and k a b K=(K (.f (.v (.int k (k.wrap (BitVec.ofInt k.bits a &&& BitVec.ofInt k.bits b).toNat))))):=id rfl
theorem z0k {k:IntKind}{a b:Int}{K:D→Prop}:intS .or k a b K=(K (.f (.v (.int k (k.wrap (BitVec.ofInt k.bits a ||| BitVec.ofInt k.bits b).toNat))))):=id rfl
theorem v0E {k:IntKind}{a b:Int}{K:D→Prop}:intS .xor k a b K=(K (.f (.v (.int k (k.wrap (BitVec.ofInt k.bits a ^^^ BitVec.ofInt k.bits b).toNat))))):=id rfl
theorem v0L {k:IntKind}{a b:Int}{K:D→Prop}:intS .add k a b K=(K (.f (.v (.int k (k.wrap (a+b)))))):=id rfl
theorem u0Z {k:IntKind}{a b:Int}{K:D→Prop}:intS .sub k a b K=(K (.f (.v (.int k (k.wrap (a-b)))))):=id rfl
theorem t0C {k:IntKind}{a b:Int}{K:D→Prop}:intS .mul k a b K=(K (.f (.v (.int k (k.wrap (a*b)))))):=id rfl
theorem u0u {k:IntKind}{a b:Int}{K:D→Prop}:intS .quo k a b K=(b≠0∧K (.f (.v (.int k (k.wrap (a.tdiv b)))))):=id rfl
theorem v0W {k:IntKind}{a b:Int}{K:D→Prop}:intS .rem k a b K=(b≠0∧K (.f (.v (.int k (a.tmod b))))):=id rfl
theorem v0b {k:IntKind}{a b:Int}{K:D→Prop}:intS .eql k a b K=(Two (a=b) (K (.f (.v (.bool true)))) (K (.f (.v (.bool false))))):=id rfl
theorem v0m {k:IntKind}{a b:Int}{K:D→Prop}:intS .neq k a b K=(Two (a=b) (K (.f (.v (.bool false)))) (K (.f (.v (.bool true))))):=id rfl
theorem v0u {k:IntKind}{a b:Int}{K:D→Prop}:intS .lss k a b K=(Two (a<b) (K (.f (.v (.bool true)))) (K (.f (.v (.bool false))))):=id rfl
theorem t0G {k:IntKind}{a b:Int}{K:D→Prop}:intS .leq k a b K=(Two (a≤b) (K (.f (.v (.bool true)))) (K (.f (.v (.bool false))))):=id rfl
theorem v0A {k:IntKind}{a b:Int}{K:D→Prop}:intS .gtr k a b K=(Two (b<a) (K (.f (.v (.bool true)))) (K (.f (.v (.bool false))))):=id rfl
theorem u0k {k:IntKind}{a b:Int}{K:D→Prop}:intS .geq k a b K=(Two (b≤a) (K (.f (.v (.bool true)))) (K (.f (.v (.bool false))))):=id rfl
theorem v0R {a b:ByteArray}{K:D→Prop}:strS .add a b K=(a.size+b.size≤9223372036854775807∧K (.f (.v (.string (a++b))))):=id rfl
theorem u0B {a b:ByteArray}{K:D→Prop}:strS .eql a b K=(Two (a=b) (K (.f (.v (.bool true)))) (K (.f (.v (.bool false))))):=id rfl
theorem v0l {a b:ByteArray}{K:D→Prop}:strS .neq a b K=(Two (a=b) (K (.f (.v (.bool false)))) (K (.f (.v (.bool true))))):=id rfl
theorem t0k {a b:ByteArray}{K:D→Prop}:strS .lss a b K=(Two (Op.bytesLess a.toList b.toList=true) (K (.f (.v (.bool true)))) (K (.f (.v (.bool false))))):=id rfl
theorem t0v {a b:ByteArray}{K:D→Prop}:strS .gtr a b K=(Two (Op.bytesLess b.toList a.toList=true) (K (.f (.v (.bool true)))) (K (.f (.v (.bool false))))):=id rfl
theorem u0d {a b:ByteArray}{K:D→Prop}:strS .leq a b K=(Two (Op.bytesLess b.toList a.toList=true) (K (.f (.v (.bool false)))) (K (.f (.v (.bool true))))):=id rfl
theorem t0P {a b:ByteArray}{K:D→Prop}:strS .geq a b K=(Two (Op.bytesLess a.toList b.toList=true) (K (.f (.v (.bool false)))) (K (.f (.v (.bool true))))):=id rfl
theorem p0w {a b:Bool}{K:D→Prop}:s0N .eql a b K=K (.f (.v (.bool (a==b)))):=id rfl
theorem o0n {a b:Bool}{K:D→Prop}:s0N .neq a b K=K (.f (.v (.bool (!(a==b))))):=id rfl
theorem x0v {sz r off n:Nat}{k:IntKind}{i:Int}{K:D→Prop}:idxS sz (.sl r off n) (.f (.v (.int k i))) K=((0≤i∧i<n)∧K (.pt r (off+i.toNat*sz))):=id rfl
theorem c1P {sz n:Nat}{xs:List F}{k:IntKind}{i:Int}{K:D→Prop}:idxS sz (.f (.s xs n)) (.f (.v (.int k i))) K=((0≤i∧i<n)∧K (.rf (xs.drop (i.toNat*sz)))):=id rfl
theorem a1G {sz n r off:Nat}{k:IntKind}{i:Int}{K:D→Prop}:arrS sz n (.pt r off) (.f (.v (.int k i))) K=((0≤i∧i<n)∧K (.pt r (off+i.toNat*sz))):=id rfl
theorem z0m {p q:Prop}:k0N (.f (.v (.bool true))) p q=p:=c0e
theorem y0d {p q:Prop}:k0N (.f (.v (.bool false))) p q=q:=b0p
theorem x0k {b:Bool}{p q:Prop}:k0N (.f (.v (.bool b))) p q=Bsel b p q:=id rfl
theorem d1N {b:Bool}:notS (.f (.v (.bool b)))=some (.f (.v (.bool (!b)))):=id rfl
theorem z0Z {k k2:IntKind}{n:Int}:x0c k (.f (.v (.int k2 n)))=some (.f (.v (.int k (k.wrap n)))):=id rfl
theorem z0i {n:Int}:intOf? (.f (.v (.int .i64 n)))=some n:=id rfl
theorem z0K {s:ByteArray}:strOf? (.f (.v (.string s)))=some s:=id rfl
theorem y0v {r o n:Nat}:slcS (.sl r o n)=some n:=id rfl
theorem c1T {xs:List F}{n:Nat}:slcS (.f (.s xs n))=some n:=id rfl
theorem c1a:slcS (.f .e)=some 0:=id rfl
theorem v0D:slcS (.f (.v (.slice none 0 0)))=some 0:=id rfl
def nilR (k:Nat)(p q:Option (Nat × Bool)):Option Bool:=match p,q with
 | some (i,a),some (j,b)=>if k=i∧k=j∧(a=true∨b=true) then some (a&&b) else none
 | _,_=>none
theorem c1q {k:Nat}{x y:D}:nilS k x y=nilR k (c0I x) (c0I y):=id rfl
theorem x0z {k i j:Nat}{a b:Bool}:nilR k (some (i,a)) (some (j,b))=if k=i∧k=j∧(a=true∨b=true) then some (a&&b) else none:=id rfl
theorem o0x:c0I (.f (.v (.slice none 0 0)))=some (0,true):=id rfl
theorem o0v:c0I (.f (.v (.pointer none)))=some (1,true):=id rfl
theorem q0L:c0I (.f (.v (.map none)))=some (2,true):=id rfl
theorem u0z {k:Nat}{y:D}{K:Bool→Prop}:d0G k (.f (.v (.slice none 0 0))) y K=a0E (nilS k (.f (.v (.slice none 0 0))) y) K:=id rfl
theorem w0B {k:Nat}{y:D}{K:Bool→Prop}:d0G k (.f (.v (.pointer none))) y K=a0E (nilS k (.f (.v (.pointer none))) y) K:=id rfl
theorem v0H {k:Nat}{y:D}{K:Bool→Prop}:d0G k (.f (.v (.map none))) y K=a0E (nilS k (.f (.v (.map none))) y) K:=id rfl
theorem u0c {k:Nat}{y:D}{K:Bool→Prop}:d0G k (.f .e) y K=a0E (nilS k (.f .e) y) K:=id rfl
theorem t0e {r o:Nat}{k:Nat}{y:D}{K:Bool→Prop}:d0G k (.pt r o) y K=a0E (nilS k (.pt r o) y) K:=id rfl
theorem t0Q {r:Nat}{k:Nat}{y:D}{K:Bool→Prop}:d0G k (.mp r) y K=a0E (nilS k (.mp r) y) K:=id rfl
theorem v0d {xs:List F}{k:Nat}{y:D}{K:Bool→Prop}:d0G k (.rf xs) y K=a0E (nilS k (.rf xs) y) K:=id rfl
theorem a1q {xs:List F}{n:Nat}:c0I (.f (.s xs (n+1)))=some (0,false):=id rfl
theorem t0c {r o n:Nat}:c0I (.sl r o (n+1))=some (0,false):=id rfl
theorem t0F {r o:Nat}:c0I (.pt r o)=some (1,false):=id rfl
theorem v0i {xs:List F}:c0I (.rf xs)=some (1,false):=id rfl
theorem v0F {r:Nat}:c0I (.mp r)=some (2,false):=id rfl
def subR (sz:Nat)(E:TypeId)(r off l h:Nat)(o:Option Row):Option D:=match o with
 | some (.data U xs)=>if l=h then some (.f (.s [] 0)) else if 0<xs.length∧some U=some E then some (.sl r (off+l*sz) (h-l)) else none
 | some (.froz U _)=>if l=h then some (.f (.s [] 0)) else if some U=some E then some (.sl r (off+l*sz) (h-l)) else none
 | _=>if l=h then some (.f (.s [] 0)) else none
theorem a1T {H:List Row}{sz:Nat}{E:TypeId}{r off n l h:Nat}:subS H sz E (.sl r off n) l h=subR sz E r off l h H[r]?:=by
 unfold subS i0D subR
 dsimp only
 split<;>split<;>simp only [*]
 all_goals first|(split<;>simp_all)|simp_all
theorem q0T {sz:Nat}{E U:TypeId}{r off l h:Nat}{xs:List F}:subR sz E r off l h (some (.data U xs))=if l=h then some (.f (.s [] 0)) else if 0<xs.length∧some U=some E then some (.sl r (off+l*sz) (h-l)) else none:=id rfl
theorem q0G {sz:Nat}{E U:TypeId}{r off l h:Nat}{xs:List F}:subR sz E r off l h (some (.froz U xs))=if l=h then some (.f (.s [] 0)) else if some U=some E then some (.sl r (off+l*sz) (h-l)) else none:=id rfl
theorem l0z {H:List Row}{sz:Nat}{E:TypeId}{xs:List F}{n l h:Nat}:subS H sz E (.f (.s xs n)) l h=some (.f (.s ((xs.drop (l*sz)).take ((h-l)*sz)) (h-l))):=id rfl
theorem d1G {H:List Row}{sz:Nat}{E:TypeId}{l h:Nat}:subS H sz E (.f .e) l h=some (.f .e):=id rfl
theorem t0H {H:List Row}{sz:Nat}{E:TypeId}{l h:Nat}:subS H sz E (.f (.v (.slice none 0 0))) l h=some (.f (.v (.slice none 0 0))):=id rfl
theorem y0F:mxS (.f (.v (.slice none 0 0))) = .f (.v (.slice none 0 0)):=id rfl
theorem f1S {xs:List F}{n:Nat}:mxS (.f (.s xs n)) = .f .e:=id rfl
theorem f1V:mxS (.f .e) = .f .e:=id rfl
theorem c1U {r o n:Nat}:mxS (.sl r o n) = .f .e:=id rfl
theorem o0c {cs:List D}:e0X cs []=some cs:=id rfl
theorem m0z {cs:List D}{off size:Nat}{d:D}{rest:List (Nat × Nat × D)}:e0X cs ((off,size,d) :: rest)=if b0E d=true∧d.cells.length=size∧off+size≤cs.length then e0X (putL off d.cells cs) rest else none:=id rfl
theorem m0D {P:Program}{H:List Row}:a0U P H []=some ([],[]):=id rfl
def a1y (x:F)(o:Option (List F × List (Nat × Row))):Option (List F × List (Nat × Row)):=match o with
 | some (xs,us)=>some (x :: xs,us)
 | none=>none
theorem t0I {P:Program}{H:List Row}{x:F}{ds:List D}:a0U P H (.f x :: ds)=a1y x (a0U P H ds):=by
 simp only [a0U,b0M,a0B,List.nil_append]
 cases a0U P H ds<;>rfl
theorem o0S {x:F}{xs:List F}{us:List (Nat × Row)}:a1y x (some (xs,us))=some (x :: xs,us):=id rfl
theorem g0R {H:List Row}:a0B H []=H:=id rfl
theorem c1l:fs? []=some []:=id rfl
theorem y0x {x:F}{ds:List D}:fs? (.f x :: ds)=(fs? ds).map (x :: ·):=id rfl
theorem m0o {H:List Row}{sz:Nat}:b0P H sz (.f (.v (.slice none 0 0)))=some (0,[]):=id rfl
theorem u0W {H:List Row}{sz:Nat}:b0P H sz (.f .e)=some (0,[]):=id rfl
theorem v0n {H:List Row}{sz n:Nat}{xs:List F}:b0P H sz (.f (.s xs n))=some (n,xs):=id rfl
def z0H (sz off n:Nat)(o:Option Row):Option (Nat × List F):=match o with
 | some (.data _ xs)=>if off+n*sz≤xs.length then some (n,(xs.drop off).take (n*sz)) else none
 | some (.froz _ xs)=>if off+n*sz≤xs.length then some (n,(xs.drop off).take (n*sz)) else none
 | some (.box _ ds)=>match fs? ds with
  | some xs=>if off+n*sz≤xs.length then some (n,(xs.drop off).take (n*sz)) else none
  | none=>none
 | _=>none
theorem r0I {H:List Row}{sz r off n:Nat}:b0P H sz (.sl r off n)=z0H sz off n H[r]?:=id rfl
theorem i0y {sz off n:Nat}{T:TypeId}{xs:List F}:z0H sz off n (some (.data T xs))=if off+n*sz≤xs.length then some (n,(xs.drop off).take (n*sz)) else none:=id rfl
theorem j0r {sz off n:Nat}{T:TypeId}{xs:List F}:z0H sz off n (some (.froz T xs))=if off+n*sz≤xs.length then some (n,(xs.drop off).take (n*sz)) else none:=id rfl
theorem t0q {H:List Row}{T:TypeId}{sz b:Nat}{x:D}{K:D→List Row→Prop}:appS H T sz b (.f (.v (.slice none 0 0))) x K=a0E (b0P H sz x) fun p=>Two (p.1=0) (K (.f (.v (.slice none 0 0))) H) (p.2.length=p.1*sz∧p.1*b≤most∧p.1≤most∧K (.sl H.length 0 p.1) (H++[.data T p.2])):=id rfl
theorem c1J {H:List Row}{T:TypeId}{sz b:Nat}{x:D}{K:D→List Row→Prop}:appS H T sz b (.f .e) x K=a0E (b0P H sz x) fun p=>Two (p.1=0) (K (.f .e) H) (p.2.length=p.1*sz∧p.1*b≤most∧p.1≤most∧K (.sl H.length 0 p.1) (H++[.data T p.2])):=id rfl
def appR (H:List Row)(T:TypeId)(sz b r off n m:Nat)(ys:List F)(K:D→List Row→Prop)(o:Option Row):Prop:=match o with
 | some (.data U xs)=>U=T∧ys.length=m*sz∧xs.length=off+n*sz∧(n+m)*b≤most∧n+m≤most∧K (.sl H.length 0 (n+m)) (H.set r .dead++[.data T (xs.drop off++ys)])
 | _=>False
theorem x0p {H:List Row}{T:TypeId}{sz b:Nat}{x:D}{K:D→List Row→Prop}{r off n:Nat}:appS H T sz b (.sl r off n) x K=a0E (b0P H sz x) fun p=>Two (p.1=0) (K (.sl r off n) H) (appR H T sz b r off n p.1 p.2 K H[r]?):=id rfl
theorem q0u {H:List Row}{T U:TypeId}{sz b r off n m:Nat}{ys xs:List F}{K:D→List Row→Prop}:appR H T sz b r off n m ys K (some (.data U xs))=(U=T∧ys.length=m*sz∧xs.length=off+n*sz∧(n+m)*b≤most∧n+m≤most∧K (.sl H.length 0 (n+m)) (H.set r .dead++[.data T (xs.drop off++ys)])):=id rfl
theorem p0C {H:List Row}:g0M H (.f (.v (.map none)))=some []:=id rfl
def f1C (o:Option Row):Option (List (Value × D)):=match o with
 | some (.map es)=>some es
 | _=>none
theorem n0X {H:List Row}{r:Nat}:g0M H (.mp r)=f1C H[r]?:=id rfl
theorem r0M {es:List (Value × D)}:f1C (some (.map es))=some es:=id rfl
theorem a1h {w:Bool}{p q:Prop}{b:Bool}:p0x (some (.f (.v (.bool b)))) w p q=if w then Bsel b p q else Bsel b q p:=id rfl
theorem y0m {w:Bool}{p q:Prop}{ds:List D}:p0x (some (.tp ds)) w p q=q:=id rfl
theorem Dint {n:Int}:D.int n = .f (.v (.int .i64 n)):=id rfl
theorem f1Z {b:Bool}:D.bool b = .f (.v (.bool b)):=id rfl
theorem Dv {x:Value}:D.v x = .f (.v x):=id rfl
theorem c1t:D.undef = .tp []:=id rfl
theorem a1o {N r:Nat}:ren [] N r=N+r:=by simp [ren]
theorem c1H {ρ:Nat→Nat}{x:F}:renE ρ (.f x) = .f x:=id rfl
theorem x0x {ρ:Nat→Nat}{r o n:Nat}:renE ρ (.sl r o n) = .sl (ρ r) o n:=id rfl
theorem a1R {ρ:Nat→Nat}{r o:Nat}:renE ρ (.pt r o) = .pt (ρ r) o:=id rfl
theorem x0m {ρ:Nat→Nat}{r:Nat}:renE ρ (.mp r) = .mp (ρ r):=id rfl
theorem a1v {ρ:Nat→Nat}{xs:List F}:renE ρ (.rf xs) = .rf xs:=id rfl
theorem a1Z {ρ:Nat→Nat}{ds:List D}:renE ρ (.ag ds) = .ag (ds.map (renE ρ)):=by simp [renE,c0L]
theorem y0Z {ρ:Nat→Nat}{ds:List D}:renE ρ (.tp ds) = .tp (ds.map (renE ρ)):=by simp [renE,c0L]
theorem x0d {ρ:Nat→Nat}{f:FuncId}{ds:List D}:renE ρ (.fn f ds) = .fn f (ds.map (renE ρ)):=by simp [renE,c0L]
theorem v0C {ρ:Nat→Nat}{T:TypeId}{ds:List D}:renR ρ (.box T ds) = .box T (ds.map (renE ρ)):=id rfl
theorem p0c {ρ:Nat→Nat}{T:TypeId}{xs:List F}:renR ρ (.data T xs) = .data T xs:=id rfl
theorem r0B {ρ:Nat→Nat}{T:TypeId}{xs:List F}:renR ρ (.froz T xs) = .froz T xs:=id rfl
theorem u0x {ρ:Nat→Nat}{es:List (Value × D)}:renR ρ (.map es) = .map es:=id rfl
theorem q0P {ρ:Nat→Nat}:renR ρ .dead = .dead:=id rfl
theorem j0E {ρ:Nat→Nat}{rows H:List Row}:b0U ρ [] rows H=H:=by cases rows<;>rfl
theorem h0C {ρ:Nat→Nat}{r:Nat}{ι:List Nat}{row:Row}{rows H:List Row}:b0U ρ (r :: ι) (row :: rows) H=b0U ρ ι rows (H.set r (renR ρ row)):=id rfl
theorem p0L {ts:List D}{t:Nat}{d:D}:putD! ts (some t) d=ts.set t d:=id rfl
theorem p0Q {ts:List D}{d:D}:putD! ts none d=ts:=id rfl
theorem m0A:List.range 0=[]:=id rfl
theorem u0I {P:Program}{b own:List Nat}{n0 i:Nat}{log:List (List Nat × List Nat)}{ts:List D}{H:List Row}{dr:List Nat}{K:St→Prop}:wpDr P b n0 [] i own log ⟨ts,H,dr⟩ K=K ⟨ts,H,[]⟩:=id rfl
def d0b (P:Program)(b own:List Nat)(n0 i:Nat)(log:List (List Nat × List Nat))(o:SOp)(V:List Nat)(ts:List D)(H:List Row)(next:List Nat→List (List Nat × List Nat)→D→List Row→Prop):Prop :=
 a0R P ts (b0b V H) o fun w d H'=>H'=(effS w V H.length d H').heap (b0b V H) ∧
  Chk (chkS n0 own (b.getD i 0) V (o.vs.map (SV.ev ts)) (b0b V H) (effS w V H.length d H') log) ∧
  next (own++(effS w V H.length d H').news.map fun _=>i) (log++[(V,(effS w V H.length d H').upd.map (·.1))]) d ((effS w V H.length d H').heap H)
@[congr] theorem drStep_congr {P:Program} {b own own':List Nat} {n0 i i':Nat} {log log':List (List Nat × List Nat)} {o:SOp} {V V':List Nat} {ts ts':List D} {H H':List Row} {next:List Nat→List (List Nat × List Nat)→D→List Row→Prop} (h1:own=own') (h5:log=log') (h2:V=V') (h3:ts=ts') (h4:H=H') (h6:i=i'):d0b P b own n0 i log o V ts H next=d0b P b own' n0 i' log' o V' ts' H' next:=by rw [h1,h2,h3,h4,h5,h6]
theorem x0R {P:Program}{b own:List Nat}{n0 i:Nat}{log:List (List Nat × List Nat)}{l:List SI}{ts:List D}{H:List Row}{dr:List Nat}{K:St→Prop}{t:Nat}{o:SOp}:wpDr P b n0 (.a t o :: l) i own log ⟨ts,H,dr⟩ K=d0b P b own n0 i log o (a0Y ts H o) ts H fun own1 log1 d H1=>wpDr P b n0 l (i+1) own1 log1 ⟨ts.set t d,H1,[]⟩ K:=id rfl
theorem y0U {P:Program}{b own:List Nat}{n0 i:Nat}{log:List (List Nat × List Nat)}{l:List SI}{ts:List D}{H:List Row}{dr:List Nat}{K:St→Prop}{o:SOp}:wpDr P b n0 (.n o :: l) i own log ⟨ts,H,dr⟩ K=d0b P b own n0 i log o (a0Y ts H o) ts H fun own1 log1 d H1=>wpDr P b n0 l (i+1) own1 log1 ⟨ts,H1,[]⟩ K:=id rfl
theorem z0Y {P:Program}{b own:List Nat}{n0 i:Nat}{log:List (List Nat × List Nat)}{l:List SI}{ts:List D}{H:List Row}{dr:List Nat}{K:St→Prop}{d:Option Nat}{t:Nat}{w:Bool}{o:SOp}:wpDr P b n0 (.g d o t w :: l) i own log ⟨ts,H,dr⟩ K=p0x ts[t]? w (d0b P b own n0 i log o (a0Y ts H o) ts H fun own1 log1 r H1=>wpDr P b n0 l (i+1) own1 log1 ⟨putD! ts d r,H1,[]⟩ K) (wpDr P b n0 l (i+1) own (log++[([],[])]) ⟨putD! ts d D.undef,H,[]⟩ K):=id rfl
theorem l0W {P:Program}{b own:List Nat}{n0 i:Nat}{log:List (List Nat × List Nat)}{o:SOp}{V:List Nat}{ts:List D}{H:List Row}{next:List Nat→List (List Nat × List Nat)→D→List Row→Prop}:d0b P b own n0 i log o V ts H next=a0R P ts (b0b V H) o fun w d H1=>H1=(effS w V H.length d H1).heap (b0b V H)∧Chk (chkS n0 own (b.getD i 0) V (o.vs.map (SV.ev ts)) (b0b V H) (effS w V H.length d H1) log)∧next (own++(effS w V H.length d H1).news.map fun _=>i) (log++[(V,(effS w V H.length d H1).upd.map (·.1))]) d ((effS w V H.length d H1).heap H):=id rfl
theorem o0r {P:Program}{ts:List D}{H:List Row}{K:Bool→D→List Row→Prop}(x:SV):a0R P ts H (.mv x) K=((K false) (x.ev ts) H):=id rfl
theorem w0C {ts:List D}{H:List Row}(x:SV):a0Y ts H (.mv x)=[]:=id rfl
theorem u0f (x:SV):SOp.turns (.mv x)=false:=id rfl
theorem i0O {P:Program}{ts:List D}{H:List Row}{K:Bool→D→List Row→Prop}(c a b:SV):a0R P ts H (.pick c a b) K=(k0N (c.ev ts) ((K false) (a.ev ts) H) ((K false) (b.ev ts) H)):=id rfl
theorem m0h {ts:List D}{H:List Row}(c a b:SV):a0Y ts H (.pick c a b)=[]:=id rfl
theorem l0S (c a b:SV):SOp.turns (.pick c a b)=false:=id rfl
theorem g0c {P:Program}{ts:List D}{H:List Row}{K:Bool→D→List Row→Prop}(T:TypeId)(z:List D):a0R P ts H (.alloc T z) K=((K false) (.pt H.length 0) (H++[.box T z])):=id rfl
theorem j0L {ts:List D}{H:List Row}(T:TypeId)(z:List D):a0Y ts H (.alloc T z)=[]:=id rfl
theorem i0x (T:TypeId)(z:List D):SOp.turns (.alloc T z)=false:=id rfl
theorem k0j {P:Program}{ts:List D}{H:List Row}{K:Bool→D→List Row→Prop}(T:TypeId)(x:SV):a0R P ts H (.box T x) K=(a0E (boxD (x.ev ts)) fun cs=>(K false) (.pt H.length 0) (H++[.box T cs])):=id rfl
theorem q0Q {ts:List D}{H:List Row}(T:TypeId)(x:SV):a0Y ts H (.box T x)=[]:=id rfl
theorem p0R (T:TypeId)(x:SV):SOp.turns (.box T x)=false:=id rfl
theorem h0I {P:Program}{ts:List D}{H:List Row}{K:Bool→D→List Row→Prop}(a:SV):a0R P ts H (.load1 a) K=(a0E (load1 H (a.ev ts)) fun d=>(K false) d H):=id rfl
theorem j0h {ts:List D}{H:List Row}(a:SV):a0Y ts H (.load1 a)=dedN (b0Y ([a.ev ts])):=id rfl
theorem j0s (a:SV):SOp.turns (.load1 a)=false:=id rfl
theorem g0W {P:Program}{ts:List D}{H:List Row}{K:Bool→D→List Row→Prop}(n:Nat)(a:SV):a0R P ts H (.loadA n a) K=(a0E (loadA H n (a.ev ts)) fun d=>(K false) d H):=id rfl
theorem j0c {ts:List D}{H:List Row}(n:Nat)(a:SV):a0Y ts H (.loadA n a)=dedN (b0Y ([a.ev ts])):=id rfl
theorem i0Q (n:Nat)(a:SV):SOp.turns (.loadA n a)=false:=id rfl
theorem g0e {P:Program}{ts:List D}{H:List Row}{K:Bool→D→List Row→Prop}(n:Nat)(a x:SV):a0R P ts H (.store n a x) K=(a0E (c0o P H n (a.ev ts) (x.ev ts)) fun H'=>(K true) D.undef H'):=id rfl
theorem i0f {ts:List D}{H:List Row}(n:Nat)(a x:SV):a0Y ts H (.store n a x)=dedN (b0Y ([a.ev ts,x.ev ts])):=id rfl
theorem i0v (n:Nat)(a x:SV):SOp.turns (.store n a x)=true:=id rfl
theorem i0F {P:Program}{ts:List D}{H:List Row}{K:Bool→D→List Row→Prop}(x:SV):a0R P ts H (.nilc x) K=(a0E (r0e (x.ev ts)) fun d=>(K false) d H):=id rfl
theorem m0Z {ts:List D}{H:List Row}(x:SV):a0Y ts H (.nilc x)=[]:=id rfl
theorem m0H (x:SV):SOp.turns (.nilc x)=false:=id rfl
theorem k0z {P:Program}{ts:List D}{H:List Row}{K:Bool→D→List Row→Prop}(o:Nat)(a:SV):a0R P ts H (.off o a) K=(a0E (offD o (a.ev ts)) fun d=>(K false) d H):=id rfl
theorem r0R {ts:List D}{H:List Row}(o:Nat)(a:SV):a0Y ts H (.off o a)=[]:=id rfl
theorem q0o (o:Nat)(a:SV):SOp.turns (.off o a)=false:=id rfl
theorem j0U {P:Program}{ts:List D}{H:List Row}{K:Bool→D→List Row→Prop}(o:Nat)(x:SV):a0R P ts H (.fld1 o x) K=(a0E (fld1 o (x.ev ts)) fun d=>(K false) d H):=id rfl
theorem l0E {ts:List D}{H:List Row}(o:Nat)(x:SV):a0Y ts H (.fld1 o x)=[]:=id rfl
theorem l0c (o:Nat)(x:SV):SOp.turns (.fld1 o x)=false:=id rfl
theorem i0i {P:Program}{ts:List D}{H:List Row}{K:Bool→D→List Row→Prop}(o n:Nat)(x:SV):a0R P ts H (.fldA o n x) K=(a0E (fldA o n (x.ev ts)) fun d=>(K false) d H):=id rfl
theorem l0n {ts:List D}{H:List Row}(o n:Nat)(x:SV):a0Y ts H (.fldA o n x)=[]:=id rfl
theorem l0Y (o n:Nat)(x:SV):SOp.turns (.fldA o n x)=false:=id rfl
theorem k0f {P:Program}{ts:List D}{H:List Row}{K:Bool→D→List Row→Prop}(sz:Nat)(x i:SV):a0R P ts H (.idx sz x i) K=(idxS sz (x.ev ts) (i.ev ts) fun d=>(K false) d H):=id rfl
theorem q0i {ts:List D}{H:List Row}(sz:Nat)(x i:SV):a0Y ts H (.idx sz x i)=[]:=id rfl
theorem p0n (sz:Nat)(x i:SV):SOp.turns (.idx sz x i)=false:=id rfl
theorem m0P {P:Program}{ts:List D}{H:List Row}{K:Bool→D→List Row→Prop}(sz n:Nat)(x i:SV):a0R P ts H (.arr sz n x i) K=(arrS sz n (x.ev ts) (i.ev ts) fun d=>(K false) d H):=id rfl
theorem o0O {ts:List D}{H:List Row}(sz n:Nat)(x i:SV):a0Y ts H (.arr sz n x i)=[]:=id rfl
theorem r0N (sz n:Nat)(x i:SV):SOp.turns (.arr sz n x i)=false:=id rfl
theorem k0g {P:Program}{ts:List D}{H:List Row}{K:Bool→D→List Row→Prop}(i:Nat)(x:SV):a0R P ts H (.ext i x) K=(a0E (extD i (x.ev ts)) fun d=>(K false) d H):=id rfl
theorem q0s {ts:List D}{H:List Row}(i:Nat)(x:SV):a0Y ts H (.ext i x)=[]:=id rfl
theorem p0W (i:Nat)(x:SV):SOp.turns (.ext i x)=false:=id rfl
theorem l0A {P:Program}{ts:List D}{H:List Row}{K:Bool→D→List Row→Prop}(op:BinOp)(x y:SV):a0R P ts H (.bin op x y) K=(binS op (x.ev ts) (y.ev ts) fun d=>(K false) d H):=id rfl
theorem q0n {ts:List D}{H:List Row}(op:BinOp)(x y:SV):a0Y ts H (.bin op x y)=[]:=id rfl
theorem r0L (op:BinOp)(x y:SV):SOp.turns (.bin op x y)=false:=id rfl
theorem i0h {P:Program}{ts:List D}{H:List Row}{K:Bool→D→List Row→Prop}(op:BinOp)(x y:SV):a0R P ts H (.binb op x y) K=(o0Q op (x.ev ts) (y.ev ts) fun d=>(K false) d H):=id rfl
theorem l0N {ts:List D}{H:List Row}(op:BinOp)(x y:SV):a0Y ts H (.binb op x y)=[]:=id rfl
theorem l0q (op:BinOp)(x y:SV):SOp.turns (.binb op x y)=false:=id rfl
theorem k0w {P:Program}{ts:List D}{H:List Row}{K:Bool→D→List Row→Prop}(eq:Bool)(ks:List Nat)(x y:SV):a0R P ts H (.aeq eq ks x y) K=(aeqS eq ks (x.ev ts) (y.ev ts) fun d=>(K false) d H):=id rfl
theorem q0C {ts:List D}{H:List Row}(eq:Bool)(ks:List Nat)(x y:SV):a0Y ts H (.aeq eq ks x y)=[]:=id rfl
theorem o0m (eq:Bool)(ks:List Nat)(x y:SV):SOp.turns (.aeq eq ks x y)=false:=id rfl
theorem i0J {P:Program}{ts:List D}{H:List Row}{K:Bool→D→List Row→Prop}(x:SV):a0R P ts H (.unot x) K=(a0E (notS (x.ev ts)) fun d=>(K false) d H):=id rfl
theorem l0J {ts:List D}{H:List Row}(x:SV):a0Y ts H (.unot x)=[]:=id rfl
theorem m0N (x:SV):SOp.turns (.unot x)=false:=id rfl
theorem q0w {P:Program}{ts:List D}{H:List Row}{K:Bool→D→List Row→Prop}(f:FuncId)(caps:List SV):a0R P ts H (.fn f caps) K=((K false) (.fn f (caps.map (SV.ev ts))) H):=id rfl
theorem t0z {ts:List D}{H:List Row}(f:FuncId)(caps:List SV):a0Y ts H (.fn f caps)=[]:=id rfl
theorem t0x (f:FuncId)(caps:List SV):SOp.turns (.fn f caps)=false:=id rfl
theorem g0k {P:Program}{ts:List D}{H:List Row}{K:Bool→D→List Row→Prop}  : a0R P ts H (.mkmap) K=((K false) (.mp H.length) (H++[.map []])):=id rfl
theorem j0O {ts:List D}{H:List Row}  : a0Y ts H (.mkmap)=[]:=id rfl
theorem i0u  : SOp.turns (.mkmap)=false:=id rfl
theorem e0e {P:Program}{ts:List D}{H:List Row}{K:Bool→D→List Row→Prop}(T:TypeId)(sz b:Nat)(z:List F)(l c:SV):a0R P ts H (.mkslice T sz b z l c) K=(a0E (intOf? (l.ev ts)) fun a=>a0E (intOf? (c.ev ts)) fun c=>((0<a∨c=0)∧0≤a∧a≤c∧b*c≤140737488355328∧c.toNat*sz≤16777216)∧(K false) (.sl H.length 0 a.toNat) (H++[.data T ((List.range (a.toNat*sz)).map fun j=>z.getD (j % sz) (.v Go.undef))])):=id rfl
theorem f0X {ts:List D}{H:List Row}(T:TypeId)(sz b:Nat)(z:List F)(l c:SV):a0Y ts H (.mkslice T sz b z l c)=[]:=id rfl
theorem e0y (T:TypeId)(sz b:Nat)(z:List F)(l c:SV):SOp.turns (.mkslice T sz b z l c)=false:=id rfl
theorem m0x {P:Program}{ts:List D}{H:List Row}{K:Bool→D→List Row→Prop}(z:List D)(parts:List (Nat × Nat × SV)):a0R P ts H (.bld z parts) K=(a0E (e0X z (parts.map fun p=>(p.1,p.2.1,p.2.2.ev ts))) fun ds=>(K false) (.ag ds) H):=id rfl
theorem r0E {ts:List D}{H:List Row}(z:List D)(parts:List (Nat × Nat × SV)):a0Y ts H (.bld z parts)=[]:=id rfl
theorem q0A (z:List D)(parts:List (Nat × Nat × SV)):SOp.turns (.bld z parts)=false:=id rfl
theorem l0h {P:Program}{ts:List D}{H:List Row}{K:Bool→D→List Row→Prop}(T:TypeId)(sz len:Nat)(z:List D)(parts:List (Nat × SV)):a0R P ts H (.bsl T sz len z parts) K=(a0E (e0X z (parts.map fun p=>(p.1,sz,p.2.ev ts))) fun ds=>a0E (a0U P H ds) fun xu=>(K true) (.sl H.length 0 len) (a0B H xu.2++[.data T xu.1])):=id rfl
theorem q0a {ts:List D}{H:List Row}(T:TypeId)(sz len:Nat)(z:List D)(parts:List (Nat × SV)):a0Y ts H (.bsl T sz len z parts)=dedN (b0Y ((parts.map fun p=>p.2).map (SV.ev ts))):=id rfl
theorem o0P (T:TypeId)(sz len:Nat)(z:List D)(parts:List (Nat × SV)):SOp.turns (.bsl T sz len z parts)=true:=id rfl
theorem m0R {P:Program}{ts:List D}{H:List Row}{K:Bool→D→List Row→Prop}(T:TypeId)(sz b:Nat)(s x:SV):a0R P ts H (.app T sz b s x) K=(appS H T sz b (s.ev ts) (x.ev ts) (K true)):=id rfl
theorem p0z {ts:List D}{H:List Row}(T:TypeId)(sz b:Nat)(s x:SV):a0Y ts H (.app T sz b s x)=dedN (b0Y ([s.ev ts,x.ev ts])):=id rfl
theorem q0N (T:TypeId)(sz b:Nat)(s x:SV):SOp.turns (.app T sz b s x)=true:=id rfl
theorem i0g {P:Program}{ts:List D}{H:List Row}{K:Bool→D→List Row→Prop}(x:SV):a0R P ts H (.slen x) K=(a0E (slcS (x.ev ts)) fun n=>(K false) (D.int n) H):=id rfl
theorem m0M {ts:List D}{H:List Row}(x:SV):a0Y ts H (.slen x)=[]:=id rfl
theorem m0J (x:SV):SOp.turns (.slen x)=false:=id rfl
theorem h0s {P:Program}{ts:List D}{H:List Row}{K:Bool→D→List Row→Prop}(x:SV):a0R P ts H (.mlen x) K=(a0E (g0M H (x.ev ts)) fun es=>(K false) (D.int es.length) H):=id rfl
theorem k0n {ts:List D}{H:List Row}(x:SV):a0Y ts H (.mlen x)=dedN (b0Y ([x.ev ts])):=id rfl
theorem m0X (x:SV):SOp.turns (.mlen x)=false:=id rfl
theorem i0b {P:Program}{ts:List D}{H:List Row}{K:Bool→D→List Row→Prop}(k:IntKind)(x:SV):a0R P ts H (.conv k x) K=(a0E (x0c k (x.ev ts)) fun d=>(K false) d H):=id rfl
theorem l0b {ts:List D}{H:List Row}(k:IntKind)(x:SV):a0Y ts H (.conv k x)=[]:=id rfl
theorem k0m (k:IntKind)(x:SV):SOp.turns (.conv k x)=false:=id rfl
theorem l0K {P:Program}{ts:List D}{H:List Row}{K:Bool→D→List Row→Prop}(x:SV):a0R P ts H (.s2b x) K=(a0E (strOf? (x.ev ts)) fun s=>s.size≤most∧(K false) (.f (.s (s.data.toList.map fun b=>.v (.int .u8 b.toNat)) s.size)) H):=id rfl
theorem q0X {ts:List D}{H:List Row}(x:SV):a0Y ts H (.s2b x)=[]:=id rfl
theorem p0i (x:SV):SOp.turns (.s2b x)=false:=id rfl
theorem k0o {P:Program}{ts:List D}{H:List Row}{K:Bool→D→List Row→Prop}(x:SV):a0R P ts H (.b2s x) K=(a0E (b0P H 1 (x.ev ts)) fun p=>a0E (bytesOf? (p.2.map .f)) fun l=>p.2.length=p.1∧(K false) (.f (.v (.string ⟨l.toArray⟩))) H):=id rfl
theorem r0a {ts:List D}{H:List Row}(x:SV):a0Y ts H (.b2s x)=dedN (b0Y ([x.ev ts])):=id rfl
theorem q0q (x:SV):SOp.turns (.b2s x)=false:=id rfl
theorem f0V {P:Program}{ts:List D}{H:List Row}{K:Bool→D→List Row→Prop}(x:SV):a0R P ts H (.strlen x) K=(a0E (strOf? (x.ev ts)) fun s=>(K false) (D.int s.size) H):=id rfl
theorem g0i {ts:List D}{H:List Row}(x:SV):a0Y ts H (.strlen x)=[]:=id rfl
theorem g0n (x:SV):SOp.turns (.strlen x)=false:=id rfl
theorem h0k {P:Program}{ts:List D}{H:List Row}{K:Bool→D→List Row→Prop}(sz n:Nat)(x i:SV):a0R P ts H (.aidx sz n x i) K=(w0N sz n (x.ev ts) (i.ev ts) fun d=>(K false) d H):=id rfl
theorem k0s {ts:List D}{H:List Row}(sz n:Nat)(x i:SV):a0Y ts H (.aidx sz n x i)=[]:=id rfl
theorem m0w (sz n:Nat)(x i:SV):SOp.turns (.aidx sz n x i)=false:=id rfl
theorem i0N {P:Program}{ts:List D}{H:List Row}{K:Bool→D→List Row→Prop}(x i:SV):a0R P ts H (.sidx x i) K=(a0E (strOf? (x.ev ts)) fun s=>a0E (intOf? (i.ev ts)) fun i=>a0E (if 0≤i then s.data.toList[i.toNat]? else none) fun b=>(K false) (.f (.v (.int .u8 b.toNat))) H):=id rfl
theorem l0g {ts:List D}{H:List Row}(x i:SV):a0Y ts H (.sidx x i)=[]:=id rfl
theorem k0u (x i:SV):SOp.turns (.sidx x i)=false:=id rfl
theorem j0Z {P:Program}{ts:List D}{H:List Row}{K:Bool→D→List Row→Prop}(x:SV)(lo hi:Option SV):a0R P ts H (.ssub x lo hi) K=(a0E (z0s (x.ev ts) (lo.map (SV.ev ts)) (hi.map (SV.ev ts))) fun d=>(K false) d H):=id rfl
theorem l0V {ts:List D}{H:List Row}(x:SV)(lo hi:Option SV):a0Y ts H (.ssub x lo hi)=[]:=id rfl
theorem m0c (x:SV)(lo hi:Option SV):SOp.turns (.ssub x lo hi)=false:=id rfl
theorem h0f {P:Program}{ts:List D}{H:List Row}{K:Bool→D→List Row→Prop}(ok:Bool)(K0:TypeId)(z:D)(m k:SV):a0R P ts H (.look ok K0 z m k) K=(a0E (s0q P H ok K0 z (m.ev ts) (k.ev ts)) fun d=>(K false) d H):=id rfl
theorem m0b {ts:List D}{H:List Row}(ok:Bool)(K0:TypeId)(z:D)(m k:SV):a0Y ts H (.look ok K0 z m k)=dedN (b0Y ([m.ev ts,k.ev ts])):=id rfl
theorem m0u (ok:Bool)(K0:TypeId)(z:D)(m k:SV):SOp.turns (.look ok K0 z m k)=false:=id rfl
theorem j0a {P:Program}{ts:List D}{H:List Row}{K:Bool→D→List Row→Prop}(K0:TypeId)(m k x:SV):a0R P ts H (.mput K0 m k x) K=(a0E (p0N P H K0 (m.ev ts) (k.ev ts) (x.ev ts)) fun H'=>(K true) D.undef H'):=id rfl
theorem m0v {ts:List D}{H:List Row}(K0:TypeId)(m k x:SV):a0Y ts H (.mput K0 m k x)=dedN (b0Y ([m.ev ts,k.ev ts,x.ev ts])):=id rfl
theorem l0Z (K0:TypeId)(m k x:SV):SOp.turns (.mput K0 m k x)=true:=id rfl
theorem i0A {P:Program}{ts:List D}{H:List Row}{K:Bool→D→List Row→Prop}(K0:TypeId)(m k:SV):a0R P ts H (.mdel K0 m k) K=(a0E (a1j P H K0 (m.ev ts) (k.ev ts)) fun H'=>(K true) (.tp []) H'):=id rfl
theorem m0L {ts:List D}{H:List Row}(K0:TypeId)(m k:SV):a0Y ts H (.mdel K0 m k)=dedN (b0Y ([m.ev ts,k.ev ts])):=id rfl
theorem k0y (K0:TypeId)(m k:SV):SOp.turns (.mdel K0 m k)=true:=id rfl
theorem l0P {P:Program}{ts:List D}{H:List Row}{K:Bool→D→List Row→Prop}(T:TypeId)(x:SV):a0R P ts H (.clr T x) K=(a0E (g0u P H T (x.ev ts)) fun H'=>(K true) (.tp []) H'):=id rfl
theorem q0F {ts:List D}{H:List Row}(T:TypeId)(x:SV):a0Y ts H (.clr T x)=dedN (b0Y ([x.ev ts])):=id rfl
theorem q0U (T:TypeId)(x:SV):SOp.turns (.clr T x)=true:=id rfl
theorem p0s {P:Program}{ts:List D}{H:List Row}{K:Bool→D→List Row→Prop}(mx:Bool)(x y:SV):a0R P ts H (.mm mx x y) K=(a0E (intOf? (x.ev ts)) fun a=>a0E (intOf? (y.ev ts)) fun b=>(K false) (D.int (if mx then max a b else min a b)) H):=id rfl
theorem v0Q {ts:List D}{H:List Row}(mx:Bool)(x y:SV):a0Y ts H (.mm mx x y)=[]:=id rfl
theorem t0V (mx:Bool)(x y:SV):SOp.turns (.mm mx x y)=false:=id rfl
theorem i0Y {P:Program}{ts:List D}{H:List Row}{K:Bool→D→List Row→Prop}(f:SV)(args:List SV):a0R P ts H (.call f args) K=a0n P (f.ev ts) (args.map (SV.ev ts)) H K:=id rfl
theorem m0F {ts:List D}{H:List Row}(f:SV)(args:List SV):a0Y ts H (.call f args)=dedN (lvl H (lvl H (lvl H (b0Y (args.map (SV.ev ts))++(f.ev ts).refs)))):=id rfl
theorem l0F (f:SV)(args:List SV):SOp.turns (.call f args)=true:=id rfl
theorem i0C {P:Program}{ts:List D}{H:List Row}{K:Bool→D→List Row→Prop}(sz:Nat)(E:TypeId)(x:SV):a0R P ts H (.sub sz E x none none none) K=(a0E (slcS (x.ev ts)) fun n=>(0≤(0:Int)∧(0:Int)≤n∧(n:Int)≤n)∧a0E (subS H sz E (x.ev ts) (0:Int).toNat (n:Int).toNat) fun d=>(K false) d H):=id rfl
theorem m0j {ts:List D}{H:List Row}(sz:Nat)(E:TypeId)(x:SV):a0Y ts H (.sub sz E x none none none)=dedN (b0Y ([x.ev ts])):=id rfl
theorem l0t (sz:Nat)(E:TypeId)(x:SV):SOp.turns (.sub sz E x none none none)=false:=id rfl
theorem h0l {P:Program}{ts:List D}{H:List Row}{K:Bool→D→List Row→Prop}(sz:Nat)(E:TypeId)(x l:SV):a0R P ts H (.sub sz E x (some l) none none) K=(a0E (slcS (x.ev ts)) fun n=>a0E (intOf? (l.ev ts)) fun l=>(0≤l∧l≤n∧(n:Int)≤n)∧a0E (subS H sz E (x.ev ts) l.toNat (n:Int).toNat) fun d=>(K false) d H):=id rfl
theorem k0l {ts:List D}{H:List Row}(sz:Nat)(E:TypeId)(x l:SV):a0Y ts H (.sub sz E x (some l) none none)=dedN (b0Y ([x.ev ts,l.ev ts])):=id rfl
theorem l0p (sz:Nat)(E:TypeId)(x l:SV):SOp.turns (.sub sz E x (some l) none none)=false:=id rfl
theorem h0e {P:Program}{ts:List D}{H:List Row}{K:Bool→D→List Row→Prop}(sz:Nat)(E:TypeId)(x h:SV):a0R P ts H (.sub sz E x none (some h) none) K=(a0E (slcS (x.ev ts)) fun n=>a0E (intOf? (h.ev ts)) fun h=>(0≤(0:Int)∧0≤h∧h≤n)∧a0E (subS H sz E (x.ev ts) (0:Int).toNat h.toNat) fun d=>(K false) d H):=id rfl
theorem l0s {ts:List D}{H:List Row}(sz:Nat)(E:TypeId)(x h:SV):a0Y ts H (.sub sz E x none (some h) none)=dedN (b0Y ([x.ev ts,h.ev ts])):=id rfl
theorem l0w (sz:Nat)(E:TypeId)(x h:SV):SOp.turns (.sub sz E x none (some h) none)=false:=id rfl
theorem g0g {P:Program}{ts:List D}{H:List Row}{K:Bool→D→List Row→Prop}(sz:Nat)(E:TypeId)(x l h:SV):a0R P ts H (.sub sz E x (some l) (some h) none) K=(a0E (slcS (x.ev ts)) fun n=>a0E (intOf? (l.ev ts)) fun l=>a0E (intOf? (h.ev ts)) fun h=>(0≤l∧l≤h∧h≤n)∧a0E (subS H sz E (x.ev ts) l.toNat h.toNat) fun d=>(K false) d H):=id rfl
theorem j0J {ts:List D}{H:List Row}(sz:Nat)(E:TypeId)(x l h:SV):a0Y ts H (.sub sz E x (some l) (some h) none)=dedN (b0Y ([x.ev ts,l.ev ts,h.ev ts])):=id rfl
theorem i0H (sz:Nat)(E:TypeId)(x l h:SV):SOp.turns (.sub sz E x (some l) (some h) none)=false:=id rfl
theorem j0X {P:Program}{ts:List D}{H:List Row}{K:Bool→D→List Row→Prop}(sz:Nat)(E:TypeId)(x l h m:SV):a0R P ts H (.sub sz E x (some l) (some h) (some m)) K=(a0E (slcS (x.ev ts)) fun n=>a0E (intOf? (l.ev ts)) fun l=>a0E (intOf? (h.ev ts)) fun h=>(0≤l∧l≤h∧h≤n)∧(intOf? (m.ev ts)=some l∧l=h∧(some h).isSome=true)∧(K false) (mxS (x.ev ts)) H):=id rfl
theorem m0s {ts:List D}{H:List Row}(sz:Nat)(E:TypeId)(x l h m:SV):a0Y ts H (.sub sz E x (some l) (some h) (some m))=dedN (b0Y ([x.ev ts,l.ev ts,h.ev ts,m.ev ts])):=id rfl
theorem k0h (sz:Nat)(E:TypeId)(x l h m:SV):SOp.turns (.sub sz E x (some l) (some h) (some m))=false:=id rfl
theorem g0o {P:Program}{ts:List D}{H:List Row}{K:Bool→D→List Row→Prop}(sz:Nat)(E:TypeId)(x h m:SV):a0R P ts H (.sub sz E x none (some h) (some m)) K=(a0E (slcS (x.ev ts)) fun n=>a0E (intOf? (h.ev ts)) fun h=>(0≤(0:Int)∧0≤h∧h≤n)∧(intOf? (m.ev ts)=some 0∧(0:Int)=h∧(some h).isSome=true)∧(K false) (mxS (x.ev ts)) H):=id rfl
theorem k0F {ts:List D}{H:List Row}(sz:Nat)(E:TypeId)(x h m:SV):a0Y ts H (.sub sz E x none (some h) (some m))=dedN (b0Y ([x.ev ts,h.ev ts,m.ev ts])):=id rfl
theorem h0n (sz:Nat)(E:TypeId)(x h m:SV):SOp.turns (.sub sz E x none (some h) (some m))=false:=id rfl
def hasB:List Nat→Nat→Bool
 | [],_=>false
 | x :: xs,i=>if x=i then true else hasB xs i
theorem r0q:∀ (V:List Nat) (i:Nat),hasB V i=V.contains i
 | [],_=>rfl
 | x :: xs,i=>by
  simp only [hasB,List.contains_cons,r0q xs i]
  by_cases h:x=i
  ·simp [h]
  ·simp [h,Ne.symm h]
def msk (V:List Nat):Nat→List Row→List Row
 | _,[]=>[]
 | i,r :: H=>(if hasB V i=true then r else .dead) :: msk V (i+1) H
theorem c1M (V:List Nat):∀ (H:List Row) (k:Nat),((H.zipIdx k).map fun p=>if V.contains p.2 then p.1 else .dead)=msk V k H
 | [],_=>rfl
 | r :: H,k=>by
  simp only [List.zipIdx_cons,List.map_cons,msk,r0q]
  rw [c1M V H (k+1)]
theorem r0J {V:List Nat}{H:List Row}:b0b V H=msk V 0 H:=c1M V H 0
theorem z0x {V:List Nat}{i:Nat}:msk V i []=[]:=id rfl
theorem v0r {V:List Nat}{i:Nat}{r:Row}{H:List Row}:msk V i (r :: H)=(if hasB V i=true then r else .dead) :: msk V (i+1) H:=id rfl
theorem t0d {i:Nat}:hasB [] i=false:=id rfl
theorem o0V {x i:Nat}{xs:List Nat}:hasB (x :: xs) i=if x=i then true else hasB xs i:=id rfl
theorem u0l:dedN []=[]:=id rfl
theorem r0A {x:Nat}{xs:List Nat}:dedN (x :: xs)=if hasB xs x=true then dedN xs else x :: dedN xs:=by rw [r0q];rfl
theorem r0O:b0Y []=[]:=id rfl
theorem k0v {d:D}{ds:List D}:b0Y (d :: ds)=d.refs++b0Y ds:=id rfl
theorem c1K {x:F}:D.refs (.f x)=[]:=id rfl
theorem x0e {r o n:Nat}:D.refs (.sl r o n)=[r]:=id rfl
theorem x0Y {r o:Nat}:D.refs (.pt r o)=[r]:=id rfl
theorem z0A {r:Nat}:D.refs (.mp r)=[r]:=id rfl
theorem y0M {xs:List F}:D.refs (.rf xs)=[]:=id rfl
theorem p0B:D.refs .junk=[]:=id rfl
theorem n0M (ds:List D):D.refs.go ds=b0Y ds:=by
 induction ds with
 | nil=>rfl
 | cons d ds ih=>simp only [D.refs.go,b0Y,ih]
theorem z0u {ds:List D}:D.refs (.ag ds)=b0Y ds:=by rw [D.refs,n0M]
theorem a1t {ds:List D}:D.refs (.tp ds)=b0Y ds:=by rw [D.refs,n0M]
theorem z0q {f:FuncId}{ds:List D}:D.refs (.fn f ds)=b0Y ds:=by rw [D.refs,n0M]
theorem y0n {H:List Row}:lvl H []=[]:=id rfl
theorem u0N {H:List Row}{r:Nat}{rs:List Nat}:lvl H (r :: rs)=r :: (d0l H[r]?++lvl H rs):=id rfl
theorem k0D {T:TypeId}{ds:List D}:d0l (some (.box T ds))=b0Y ds:=by
 simp only [d0l,Row.refs]
 induction ds with
 | nil=>rfl
 | cons d ds ih=>simp only [List.flatMap_cons,b0Y,ih]
theorem g0p {T:TypeId}{xs:List F}:d0l (some (.data T xs))=[]:=id rfl
theorem g0S {T:TypeId}{xs:List F}:d0l (some (.froz T xs))=[]:=id rfl
theorem i0r {es:List (Value × D)}:d0l (some (.map es))=[]:=id rfl
theorem g0h  : d0l (some (.dead))=[]:=id rfl
theorem d1P {V:List Nat}{n:Nat}{d:D}{H1:List Row}:effS false V n d H1=⟨d,[],H1.drop n⟩:=id rfl
theorem c1e {V:List Nat}{n:Nat}{d:D}{H1:List Row}:effS true V n d H1=⟨d,V.map fun r=>(r,H1.getD r .dead),H1.drop n⟩:=id rfl
theorem z0a {d:D}{u:List (Nat × Row)}{n H:List Row}:(⟨d,u,n⟩:Eff).heap H=a0B H u++n:=id rfl
theorem f0P {H:List Row}{i:Nat}{r:Row}{us:List (Nat × Row)}:a0B H ((i,r) :: us)=a0B (H.set i r) us:=id rfl
theorem c1z {α:Type}{a d:α}{l:List α}:(a :: l).getD 0 d=a:=id rfl
theorem d1T {α:Type}{a d:α}{l:List α}{n:Nat}:(a :: l).getD (n+1) d=l.getD n d:=id rfl
section
variable {P:Program}
theorem e0S {g:FuncId}{caps args args0:List D}{H H0 H1:List Row}{d0:D}{K:Bool→D→List Row→Prop}(h:Con P g args0 H0 fun d H'=>d=d0∧H'=H1)(ι:List Nat)(hb:k0S ι H.length H0 args0=true)(ha:args++caps=args0.map (renE (ren ι H.length)))
  (hr:(ι.map fun r=>H.getD r .dead)=H0.map (renR (ren ι H.length)))
  (hk:K true (renE (ren ι H.length) d0) (b0U (ren ι H.length) ι H1 H++(H1.drop H0.length).map (renR (ren ι H.length)))):a0n P (.fn g caps) args H K:=by
 obtain ⟨g',caps',e,hc⟩:=a0D (K:=fun d H'=>d=renE (ren ι H.length) d0∧H'=b0U (ren ι H.length) ι H1 H++(H1.drop H0.length).map (renR (ren ι H.length))) h ι hb ha hr (fun d H' ⟨h1,h2⟩=>by rw [h1,h2];exact ⟨rfl,rfl⟩)
 injection e with e1 e2
 subst e1;subst e2
 exact ⟨true,g,caps,_,_,rfl,hc,hk⟩
theorem d0U {g:FuncId}{caps args args0:List D}{H H1:List Row}{d0:D}{K:Bool→D→List Row→Prop}(h:Con P g args0 [] fun d H'=>d=d0∧H'=H1)(hv:Vws H (args++caps) args0)(hp:PlainD d0∧∀ row∈H1,m0Q row)
  (hk:K false (renE (ren [] H.length) d0) (H++H1.map (renR (ren [] H.length)))):a0n P (.fn g caps) args H K:=by
 obtain ⟨g',caps',e,hc⟩:=a0W (K:=fun d H'=>d=renE (ren [] H.length) d0∧H'=H++H1.map (renR (ren [] H.length))) h hv (fun d H' ⟨h1,h2⟩=>by rw [h1,h2];exact hp) (fun d H' ⟨h1,h2⟩=>by rw [h1,h2];exact ⟨rfl,rfl⟩)
 injection e with e1 e2
 subst e1;subst e2
 exact ⟨false,g,caps,_,_,rfl,hc,hk⟩
end
def v0Z (H:List Row)(r off:Nat)(x:F)(o:Option Row):Option (List Row):=match o with
 | some (.box U xs)=>if off+1≤xs.length then some (H.set r (.box U (putL off [.f x] xs))) else none
 | some (.data U xs)=>if off+1≤xs.length then some (H.set r (.data U (xs.set off x))) else none
 | _=>none
theorem l0v {H:List Row}{r off:Nat}{x:F}{U:TypeId}{xs:List D}:v0Z H r off x (some (.box U xs))=if off+1≤xs.length then some (H.set r (.box U (putL off [.f x] xs))) else none:=id rfl
theorem k0C {H:List Row}{r off:Nat}{x:F}{U:TypeId}{xs:List F}:v0Z H r off x (some (.data U xs))=if off+1≤xs.length then some (H.set r (.data U (xs.set off x))) else none:=id rfl
theorem o0N {P:Program}{H:List Row}{r off:Nat}{x:F}:c0o P H 1 (.pt r off) (.f x)=v0Z H r off x H[r]?:=by
 rw [c0G]
 generalize hr:H[r]?=o
 cases o with
 | none=>rfl
 | some row =>
  cases row with
  | data U xs=>rw [n0v hr];rfl
  | box U xs=>simp [c0N,v0Z,b0E,D.cells]
  | _=>rfl
theorem u0s {P:Program}{H:List Row}{n r off:Nat}{x:D}:c0o P H (n+2) (.pt r off) x=c0N P H (n+2) r off x H[r]?:=c0G
theorem l0j {P:Program}{H:List Row}{r off a b c:Nat}:c0o P H 1 (.pt r off) (.sl a b c)=c0N P H 1 r off (.sl a b c) H[r]?:=c0G
theorem l0m {P:Program}{H:List Row}{r off a b:Nat}:c0o P H 1 (.pt r off) (.pt a b)=c0N P H 1 r off (.pt a b) H[r]?:=c0G
theorem k0e {P:Program}{H:List Row}{r off a:Nat}:c0o P H 1 (.pt r off) (.mp a)=c0N P H 1 r off (.mp a) H[r]?:=c0G
theorem k0i {P:Program}{H:List Row}{r off:Nat}{a:List F}:c0o P H 1 (.pt r off) (.rf a)=c0N P H 1 r off (.rf a) H[r]?:=c0G
theorem l0i {P:Program}{H:List Row}{r off:Nat}{f:FuncId}{a:List D}:c0o P H 1 (.pt r off) (.fn f a)=c0N P H 1 r off (.fn f a) H[r]?:=c0G
end Go.Proofs.YthjgmldnegaaiaaGreatDoor.Mir
namespace Go.Proofs.YthjgmldnegaaiaaGreatDoor.Mir
open Go Go.RowKit
theorem LD:(((((((type_of% @W_mv∧type_of% @d1I)∧(type_of% @y0l∧type_of% @e1t))∧((type_of% @z0D∧type_of% @z0w)∧(type_of% @z0X∧(type_of% @c1i∧type_of% @e1k))))∧(((type_of% @d1E∧type_of% @c1g)∧(type_of% @e1p∧type_of% @f1D))∧((type_of% @e1j∧type_of% @f1a)∧(type_of% @d1H∧(type_of% @f1B∧type_of% @c1I)))))∧((((type_of% @c1c∧type_of% @W_fn)∧(type_of% @y0I∧type_of% @q0I))∧((type_of% @f1d∧type_of% @e1y)∧(type_of% @f1O∧(type_of% @c1V∧type_of% @c1h))))∧(((type_of% @c1O∧type_of% @f1X)∧(type_of% @f1M∧type_of% @t0N))∧((type_of% @c1L∧type_of% @c1v)∧(type_of% @c1W∧(type_of% @c1X∧type_of% @d1A))))))∧(((((type_of% @c1S∧type_of% @e1r)∧(type_of% @W_mm∧type_of% @d1J))∧((type_of% @c1Q∧type_of% @d1O)∧(type_of% @d1S∧(type_of% @a1M∧type_of% @c1Z))))∧(((type_of% @y0a∧type_of% @v0N)∧(type_of% @v0O∧type_of% @z0U))∧((type_of% @v0q∧type_of% @x0T)∧(type_of% @t0D∧(type_of% @v0z∧type_of% @v0y)))))∧((((type_of% @z0k∧type_of% @v0E)∧(type_of% @v0L∧type_of% @u0Z))∧((type_of% @t0C∧type_of% @u0u)∧(type_of% @v0W∧(type_of% @v0b∧type_of% @v0m))))∧(((type_of% @v0u∧type_of% @t0G)∧(type_of% @v0A∧type_of% @u0k))∧((type_of% @v0R∧type_of% @u0B)∧(type_of% @v0l∧(type_of% @t0k∧type_of% @t0v)))))))∧((((((type_of% @u0d∧type_of% @t0P)∧(type_of% @p0w∧type_of% @o0n))∧((type_of% @x0v∧type_of% @c1P)∧(type_of% @a1G∧(type_of% @z0m∧type_of% @y0d))))∧(((type_of% @x0k∧type_of% @u0z)∧(type_of% @w0B∧type_of% @v0H))∧((type_of% @u0c∧type_of% @t0e)∧(type_of% @t0Q∧(type_of% @v0d∧type_of% @t0q)))))∧((((type_of% @c1J∧type_of% @x0p)∧(type_of% @q0u∧type_of% @a1h))∧((type_of% @y0m∧type_of% @o0r)∧(type_of% @i0O∧(type_of% @g0c∧type_of% @k0j))))∧(((type_of% @h0I∧type_of% @g0W)∧(type_of% @g0e∧type_of% @i0F))∧((type_of% @k0z∧type_of% @j0U)∧(type_of% @i0i∧(type_of% @k0f∧type_of% @m0P))))))∧(((((type_of% @k0g∧type_of% @l0A)∧(type_of% @i0h∧type_of% @k0w))∧((type_of% @i0J∧type_of% @q0w)∧(type_of% @g0k∧(type_of% @e0e∧type_of% @m0x))))∧(((type_of% @l0h∧type_of% @m0R)∧(type_of% @i0g∧type_of% @h0s))∧((type_of% @i0b∧type_of% @l0K)∧(type_of% @k0o∧(type_of% @f0V∧type_of% @h0k)))))∧((((type_of% @i0N∧type_of% @j0Z)∧(type_of% @h0f∧type_of% @j0a))∧((type_of% @i0A∧type_of% @l0P)∧(type_of% @p0s∧(type_of% @i0Y∧type_of% @i0C))))∧(((type_of% @h0l∧type_of% @h0e)∧(type_of% @g0g∧(type_of% @j0X∧type_of% @g0o)))∧((type_of% @c0e∧type_of% @b0p)∧(type_of% @c0Y∧(type_of% @v0t∧type_of% @r0V)))))))):=(.intro (.intro (.intro (.intro (.intro (.intro (.intro @W_mv @d1I) (.intro @y0l @e1t)) (.intro (.intro @z0D @z0w) (.intro @z0X (.intro @c1i @e1k)))) (.intro (.intro (.intro @d1E @c1g) (.intro @e1p @f1D)) (.intro (.intro @e1j @f1a) (.intro @d1H (.intro @f1B @c1I))))) (.intro (.intro (.intro (.intro @c1c @W_fn) (.intro @y0I @q0I)) (.intro (.intro @f1d @e1y) (.intro @f1O (.intro @c1V @c1h)))) (.intro (.intro (.intro @c1O @f1X) (.intro @f1M @t0N)) (.intro (.intro @c1L @c1v) (.intro @c1W (.intro @c1X @d1A)))))) (.intro (.intro (.intro (.intro (.intro @c1S @e1r) (.intro @W_mm @d1J)) (.intro (.intro @c1Q @d1O) (.intro @d1S (.intro @a1M @c1Z)))) (.intro (.intro (.intro @y0a @v0N) (.intro @v0O @z0U)) (.intro (.intro @v0q @x0T) (.intro @t0D (.intro @v0z @v0y))))) (.intro (.intro (.intro (.intro @z0k @v0E) (.intro @v0L @u0Z)) (.intro (.intro @t0C @u0u) (.intro @v0W (.intro @v0b @v0m)))) (.intro (.intro (.intro @v0u @t0G) (.intro @v0A @u0k)) (.intro (.intro @v0R @u0B) (.intro @v0l (.intro @t0k @t0v))))))) (.intro (.intro (.intro (.intro (.intro (.intro @u0d @t0P) (.intro @p0w @o0n)) (.intro (.intro @x0v @c1P) (.intro @a1G (.intro @z0m @y0d)))) (.intro (.intro (.intro @x0k @u0z) (.intro @w0B @v0H)) (.intro (.intro @u0c @t0e) (.intro @t0Q (.intro @v0d @t0q))))) (.intro (.intro (.intro (.intro @c1J @x0p) (.intro @q0u @a1h)) (.intro (.intro @y0m @o0r) (.intro @i0O (.intro @g0c @k0j)))) (.intro (.intro (.intro @h0I @g0W) (.intro @g0e @i0F)) (.intro (.intro @k0z @j0U) (.intro @i0i (.intro @k0f @m0P)))))) (.intro (.intro (.intro (.intro (.intro @k0g @l0A) (.intro @i0h @k0w)) (.intro (.intro @i0J @q0w) (.intro @g0k (.intro @e0e @m0x)))) (.intro (.intro (.intro @l0h @m0R) (.intro @i0g @h0s)) (.intro (.intro @i0b @l0K) (.intro @k0o (.intro @f0V @h0k))))) (.intro (.intro (.intro (.intro @i0N @j0Z) (.intro @h0f @j0a)) (.intro (.intro @i0A @l0P) (.intro @p0s (.intro @i0Y @i0C)))) (.intro (.intro (.intro @h0l @h0e) (.intro @g0g (.intro @j0X @g0o))) (.intro (.intro @c0e @b0p) (.intro @c0Y (.intro @v0t @r0V))))))))
theorem LU:(((((((type_of% @ev_t∧(type_of% @ev_c∧type_of% @c1x))∧((type_of% @t0g∧type_of% @x0u)∧(type_of% @y0c∧type_of% @q0p)))∧(((type_of% @t0f∧type_of% @a1Y)∧(type_of% @p0P∧type_of% @u0H))∧((type_of% @x0Q∧type_of% @o0T)∧(type_of% @v0f∧type_of% @z0O))))∧((((type_of% @p0p∧type_of% @u0v)∧(type_of% @z0N∧type_of% @q0J))∧((type_of% @w0A∧type_of% @z0b)∧(type_of% @o0K∧type_of% @u0i)))∧(((type_of% @w0E∧type_of% @v0v)∧(type_of% @l0H∧type_of% @j0z))∧((type_of% @i0k∧type_of% @v0S)∧(type_of% @m0U∧type_of% @j0q)))))∧((((type_of% @j0K∧(type_of% @a1x∧type_of% @a1w))∧((type_of% @a1J∧type_of% @y0t)∧(type_of% @t0L∧type_of% @u0e)))∧(((type_of% @t0y∧type_of% @a1K)∧(type_of% @m0q∧type_of% @n0v))∧((type_of% @p0q∧type_of% @k0x)∧(type_of% @o0J∧type_of% @t0R))))∧((((type_of% @z0B∧type_of% @z0z)∧(type_of% @d1N∧type_of% @z0Z))∧((type_of% @z0i∧type_of% @z0K)∧(type_of% @y0v∧type_of% @c1T)))∧(((type_of% @c1a∧type_of% @v0D)∧(type_of% @c1q∧type_of% @x0z))∧((type_of% @o0x∧type_of% @o0v)∧(type_of% @q0L∧type_of% @a1q))))))∧(((((type_of% @t0c∧(type_of% @t0F∧type_of% @v0i))∧((type_of% @v0F∧type_of% @a1T)∧(type_of% @q0T∧type_of% @q0G)))∧(((type_of% @l0z∧type_of% @d1G)∧(type_of% @t0H∧type_of% @y0F))∧((type_of% @f1S∧type_of% @f1V)∧(type_of% @c1U∧type_of% @o0c))))∧((((type_of% @m0z∧type_of% @m0D)∧(type_of% @t0I∧type_of% @o0S))∧((type_of% @g0R∧type_of% @c1l)∧(type_of% @y0x∧type_of% @m0o)))∧(((type_of% @u0W∧type_of% @v0n)∧(type_of% @r0I∧type_of% @i0y))∧((type_of% @j0r∧type_of% @p0C)∧(type_of% @n0X∧type_of% @r0M)))))∧(((((type_of% @Dint∧type_of% @f1Z)∧(type_of% @Dv∧type_of% @c1t))∧((type_of% @a1o∧type_of% @c1H)∧(type_of% @x0x∧type_of% @a1R)))∧(((type_of% @x0m∧type_of% @a1v)∧(type_of% @a1Z∧type_of% @y0Z))∧((type_of% @x0d∧type_of% @v0C)∧(type_of% @p0c∧type_of% @r0B))))∧((((type_of% @u0x∧type_of% @q0P)∧(type_of% @j0E∧type_of% @h0C))∧((type_of% @p0L∧type_of% @p0Q)∧(type_of% @m0A∧type_of% @u0I)))∧(((type_of% @x0R∧type_of% @y0U)∧(type_of% @z0Y∧type_of% @l0W))∧((type_of% @w0C∧type_of% @u0f)∧(type_of% @m0h∧type_of% @l0S)))))))∧((((((type_of% @j0L∧(type_of% @i0x∧type_of% @q0Q))∧((type_of% @p0R∧type_of% @j0h)∧(type_of% @j0s∧type_of% @j0c)))∧(((type_of% @i0Q∧type_of% @i0f)∧(type_of% @i0v∧type_of% @m0Z))∧((type_of% @m0H∧type_of% @r0R)∧(type_of% @q0o∧type_of% @l0E))))∧((((type_of% @l0c∧type_of% @l0n)∧(type_of% @l0Y∧type_of% @q0i))∧((type_of% @p0n∧type_of% @o0O)∧(type_of% @r0N∧type_of% @q0s)))∧(((type_of% @p0W∧type_of% @q0n)∧(type_of% @r0L∧type_of% @l0N))∧((type_of% @l0q∧type_of% @q0C)∧(type_of% @o0m∧type_of% @l0J)))))∧(((((type_of% @m0N∧type_of% @t0z)∧(type_of% @t0x∧type_of% @j0O))∧((type_of% @i0u∧type_of% @f0X)∧(type_of% @e0y∧type_of% @r0E)))∧(((type_of% @q0A∧type_of% @q0a)∧(type_of% @o0P∧type_of% @p0z))∧((type_of% @q0N∧type_of% @m0M)∧(type_of% @m0J∧type_of% @k0n))))∧((((type_of% @m0X∧type_of% @l0b)∧(type_of% @k0m∧type_of% @q0X))∧((type_of% @p0i∧type_of% @r0a)∧(type_of% @q0q∧type_of% @g0i)))∧(((type_of% @g0n∧type_of% @k0s)∧(type_of% @m0w∧type_of% @l0g))∧((type_of% @k0u∧type_of% @l0V)∧(type_of% @m0c∧type_of% @m0b))))))∧(((((type_of% @m0u∧(type_of% @m0v∧type_of% @l0Z))∧((type_of% @m0L∧type_of% @k0y)∧(type_of% @q0F∧type_of% @q0U)))∧(((type_of% @v0Q∧type_of% @t0V)∧(type_of% @m0F∧type_of% @l0F))∧((type_of% @m0j∧type_of% @l0t)∧(type_of% @k0l∧type_of% @l0p))))∧((((type_of% @l0s∧type_of% @l0w)∧(type_of% @j0J∧type_of% @i0H))∧((type_of% @m0s∧type_of% @k0h)∧(type_of% @k0F∧type_of% @h0n)))∧(((type_of% @r0J∧type_of% @z0x)∧(type_of% @v0r∧type_of% @t0d))∧((type_of% @o0V∧type_of% @u0l)∧(type_of% @r0A∧type_of% @r0O)))))∧(((((type_of% @k0v∧type_of% @c1K)∧(type_of% @x0e∧type_of% @x0Y))∧((type_of% @z0A∧type_of% @y0M)∧(type_of% @p0B∧type_of% @z0u)))∧(((type_of% @a1t∧type_of% @z0q)∧(type_of% @y0n∧type_of% @u0N))∧((type_of% @k0D∧type_of% @g0p)∧(type_of% @g0S∧type_of% @i0r))))∧((((type_of% @g0h∧type_of% @d1P)∧(type_of% @c1e∧type_of% @z0a))∧((type_of% @f0P∧type_of% @c1z)∧(type_of% @d1T∧type_of% @l0v)))∧(((type_of% @k0C∧type_of% @o0N)∧(type_of% @u0s∧type_of% @l0j))∧((type_of% @l0m∧type_of% @k0e)∧(type_of% @k0i∧type_of% @l0i)))))))):=(.intro (.intro (.intro (.intro (.intro (.intro (.intro @ev_t (.intro @ev_c @c1x)) (.intro (.intro @t0g @x0u) (.intro @y0c @q0p))) (.intro (.intro (.intro @t0f @a1Y) (.intro @p0P @u0H)) (.intro (.intro @x0Q @o0T) (.intro @v0f @z0O)))) (.intro (.intro (.intro (.intro @p0p @u0v) (.intro @z0N @q0J)) (.intro (.intro @w0A @z0b) (.intro @o0K @u0i))) (.intro (.intro (.intro @w0E @v0v) (.intro @l0H @j0z)) (.intro (.intro @i0k @v0S) (.intro @m0U @j0q))))) (.intro (.intro (.intro (.intro @j0K (.intro @a1x @a1w)) (.intro (.intro @a1J @y0t) (.intro @t0L @u0e))) (.intro (.intro (.intro @t0y @a1K) (.intro @m0q @n0v)) (.intro (.intro @p0q @k0x) (.intro @o0J @t0R)))) (.intro (.intro (.intro (.intro @z0B @z0z) (.intro @d1N @z0Z)) (.intro (.intro @z0i @z0K) (.intro @y0v @c1T))) (.intro (.intro (.intro @c1a @v0D) (.intro @c1q @x0z)) (.intro (.intro @o0x @o0v) (.intro @q0L @a1q)))))) (.intro (.intro (.intro (.intro (.intro @t0c (.intro @t0F @v0i)) (.intro (.intro @v0F @a1T) (.intro @q0T @q0G))) (.intro (.intro (.intro @l0z @d1G) (.intro @t0H @y0F)) (.intro (.intro @f1S @f1V) (.intro @c1U @o0c)))) (.intro (.intro (.intro (.intro @m0z @m0D) (.intro @t0I @o0S)) (.intro (.intro @g0R @c1l) (.intro @y0x @m0o))) (.intro (.intro (.intro @u0W @v0n) (.intro @r0I @i0y)) (.intro (.intro @j0r @p0C) (.intro @n0X @r0M))))) (.intro (.intro (.intro (.intro (.intro @Dint @f1Z) (.intro @Dv @c1t)) (.intro (.intro @a1o @c1H) (.intro @x0x @a1R))) (.intro (.intro (.intro @x0m @a1v) (.intro @a1Z @y0Z)) (.intro (.intro @x0d @v0C) (.intro @p0c @r0B)))) (.intro (.intro (.intro (.intro @u0x @q0P) (.intro @j0E @h0C)) (.intro (.intro @p0L @p0Q) (.intro @m0A @u0I))) (.intro (.intro (.intro @x0R @y0U) (.intro @z0Y @l0W)) (.intro (.intro @w0C @u0f) (.intro @m0h @l0S))))))) (.intro (.intro (.intro (.intro (.intro (.intro @j0L (.intro @i0x @q0Q)) (.intro (.intro @p0R @j0h) (.intro @j0s @j0c))) (.intro (.intro (.intro @i0Q @i0f) (.intro @i0v @m0Z)) (.intro (.intro @m0H @r0R) (.intro @q0o @l0E)))) (.intro (.intro (.intro (.intro @l0c @l0n) (.intro @l0Y @q0i)) (.intro (.intro @p0n @o0O) (.intro @r0N @q0s))) (.intro (.intro (.intro @p0W @q0n) (.intro @r0L @l0N)) (.intro (.intro @l0q @q0C) (.intro @o0m @l0J))))) (.intro (.intro (.intro (.intro (.intro @m0N @t0z) (.intro @t0x @j0O)) (.intro (.intro @i0u @f0X) (.intro @e0y @r0E))) (.intro (.intro (.intro @q0A @q0a) (.intro @o0P @p0z)) (.intro (.intro @q0N @m0M) (.intro @m0J @k0n)))) (.intro (.intro (.intro (.intro @m0X @l0b) (.intro @k0m @q0X)) (.intro (.intro @p0i @r0a) (.intro @q0q @g0i))) (.intro (.intro (.intro @g0n @k0s) (.intro @m0w @l0g)) (.intro (.intro @k0u @l0V) (.intro @m0c @m0b)))))) (.intro (.intro (.intro (.intro (.intro @m0u (.intro @m0v @l0Z)) (.intro (.intro @m0L @k0y) (.intro @q0F @q0U))) (.intro (.intro (.intro @v0Q @t0V) (.intro @m0F @l0F)) (.intro (.intro @m0j @l0t) (.intro @k0l @l0p)))) (.intro (.intro (.intro (.intro @l0s @l0w) (.intro @j0J @i0H)) (.intro (.intro @m0s @k0h) (.intro @k0F @h0n))) (.intro (.intro (.intro @r0J @z0x) (.intro @v0r @t0d)) (.intro (.intro @o0V @u0l) (.intro @r0A @r0O))))) (.intro (.intro (.intro (.intro (.intro @k0v @c1K) (.intro @x0e @x0Y)) (.intro (.intro @z0A @y0M) (.intro @p0B @z0u))) (.intro (.intro (.intro @a1t @z0q) (.intro @y0n @u0N)) (.intro (.intro @k0D @g0p) (.intro @g0S @i0r)))) (.intro (.intro (.intro (.intro @g0h @d1P) (.intro @c1e @z0a)) (.intro (.intro @f0P @c1z) (.intro @d1T @l0v))) (.intro (.intro (.intro @k0C @o0N) (.intro @u0s @l0j)) (.intro (.intro @l0m @k0e) (.intro @k0i @l0i))))))))
theorem LS:(((((type_of% @z0V∧(type_of% @e1g∧type_of% @e1w))∧(type_of% @f1L∧(type_of% @c0g∧type_of% @b0u)))∧((type_of% @g0Q∧(type_of% @p0F∧type_of% @w0D))∧((type_of% @List.set_cons_succ.{0}∧type_of% @List.set_cons_zero.{0})∧(type_of% @List.getElem?_cons_succ.{0}∧type_of% @List.getElem?_cons_zero.{0}))))∧(((type_of% @List.length_cons.{0}∧(type_of% @List.length_nil.{0}∧type_of% @List.cons_append.{0}))∧((type_of% @List.nil_append.{0}∧type_of% @List.map_cons.{0,0})∧(type_of% @List.map_nil.{0,0}∧type_of% @List.take_succ_cons.{0})))∧((type_of% @List.take_zero.{0}∧(type_of% @List.drop_succ_cons.{0}∧type_of% @List.drop_zero.{0}))∧((type_of% @Option.map_some.{0,0}∧type_of% @Option.map_none.{0,0})∧(type_of% @Nat.add_zero∧type_of% @Nat.zero_add)))))∧((((type_of% @Nat.mul_one∧(type_of% @Int.toNat_natCast∧type_of% @Nat.mul_zero))∧(type_of% @Nat.zero_mul∧(type_of% @true_and∧type_of% @and_true)))∧((type_of% @s0z∧(type_of% @List.getElem?_drop.{0}∧type_of% @List.getElem?_map.{0,0}))∧((type_of% @List.length_map.{0,0}∧type_of% @Int.natCast_nonneg)∧(type_of% @getElem?_some_of∧type_of% @Bool.false_eq_true))))∧(((type_of% @decide_true∧(type_of% @decide_false∧type_of% @Bool.not_true))∧((type_of% @Bool.not_false∧type_of% @and_self)∧(type_of% @eq_self.{0}∧type_of% @false_implies)))∧((type_of% @or_self∧(type_of% @Bool.and_self∧type_of% @false_or))∧((type_of% @or_false∧type_of% @Bool.false_and)∧(type_of% @Bool.true_beq∧type_of% @Bool.false_beq)))))):=(.intro (.intro (.intro (.intro (.intro @z0V (.intro @e1g @e1w)) (.intro @f1L (.intro @c0g @b0u))) (.intro (.intro @g0Q (.intro @p0F @w0D)) (.intro (.intro @List.set_cons_succ.{0} @List.set_cons_zero.{0}) (.intro @List.getElem?_cons_succ.{0} @List.getElem?_cons_zero.{0})))) (.intro (.intro (.intro @List.length_cons.{0} (.intro @List.length_nil.{0} @List.cons_append.{0})) (.intro (.intro @List.nil_append.{0} @List.map_cons.{0,0}) (.intro @List.map_nil.{0,0} @List.take_succ_cons.{0}))) (.intro (.intro @List.take_zero.{0} (.intro @List.drop_succ_cons.{0} @List.drop_zero.{0})) (.intro (.intro @Option.map_some.{0,0} @Option.map_none.{0,0}) (.intro @Nat.add_zero @Nat.zero_add))))) (.intro (.intro (.intro (.intro @Nat.mul_one (.intro @Int.toNat_natCast @Nat.mul_zero)) (.intro @Nat.zero_mul (.intro @true_and @and_true))) (.intro (.intro @s0z (.intro @List.getElem?_drop.{0} @List.getElem?_map.{0,0})) (.intro (.intro @List.length_map.{0,0} @Int.natCast_nonneg) (.intro @getElem?_some_of @Bool.false_eq_true)))) (.intro (.intro (.intro @decide_true (.intro @decide_false @Bool.not_true)) (.intro (.intro @Bool.not_false @and_self) (.intro @eq_self.{0} @false_implies))) (.intro (.intro @or_self (.intro @Bool.and_self @false_or)) (.intro (.intro @or_false @Bool.false_and) (.intro @Bool.true_beq @Bool.false_beq))))))
end Go.Proofs.YthjgmldnegaaiaaGreatDoor.Mir
