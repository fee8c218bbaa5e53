/- Lemmas for the proof. No condition. -/
import Derived.Test.YthjgmldnegaaiaaGreatDoorQg06
set_option linter.unusedVariables false
set_option linter.unusedSimpArgs false
namespace Go.Proofs.YthjgmldnegaaiaaGreatDoor.Mir
open Go Go.RowKit
inductive SR where
 | t (n:Nat)
 | c1 (a:Nat)
 | cA (n a:Nat)
def o0v (P:Program):List ResultVar→Option (List SR)
 | []=>some []
 | .tmp t :: rs=>(o0v P rs).map (.t t :: ·)
 | .cell a T :: rs=>match e0L P T,inf P T,o0v P rs with
  | some false,_,some l=>some (.c1 a :: l)
  | some true,some (n,_,_),some l=>some (.cA n a :: l)
  | _,_,_=>none
def resS (H:List Row)(ts:List D):List SR→Option (List D)
 | []=>some []
 | .t n :: rs=>match resS H ts rs with
  | some ds=>some (ts.getD n D.undef :: ds)
  | none=>none
 | .c1 a :: rs=>match load1 H (ts.getD a D.undef),resS H ts rs with
  | some d,some ds=>some (d :: ds)
  | _,_=>none
 | .cA n a :: rs=>match loadA H n (ts.getD a D.undef),resS H ts rs with
  | some d,some ds=>some (d :: ds)
  | _,_=>none
section
variable {P:Program}
theorem o0n {H:List Row}{ts:List D}:∀ {rs:List ResultVar} {l:List SR} {ds:List D},o0v P rs=some l→resS H ts l=some ds→c0A P H ts rs=some ds
 | [],l,ds,h,k=>by simp [o0v] at h;subst h;exact k
 | .tmp t :: rs,l,ds,h,k=>by
  simp only [o0v,Option.map_eq_some_iff] at h
  obtain ⟨l',h1,rfl⟩:=h
  simp only [resS] at k
  split at k
  ·rename_i ds' h2
   injection k with k
   subst k
   simp only [c0A,o0n h1 h2,Option.map_some]
  ·cases k
 | .cell a T :: rs,l,ds,h,k=>by
  simp only [o0v] at h
  split at h
  ·rename_i l' hT hl
   injection h with h
   subst h
   simp only [resS] at k
   split at k
   ·rename_i d ds' h1 h2
    injection k with k
    subst k
    simp only [c0A,v0L hT h1,o0n hl h2]
   ·cases k
  ·rename_i n b z l' hT hi hl
   injection h with h
   subst h
   simp only [resS] at k
   split at k
   ·rename_i d ds' h1 h2
    injection k with k
    subst k
    simp only [c0A,x0b hT hi h1,o0n hl h2]
   ·cases k
  ·cases h
def e0V:Nat→List Row→List Row
 | 0,H=>H
 | _+1,[]=>[]
 | n+1,_ :: H=>.dead :: e0V n H
theorem j0y:∀ (n:Nat) (H:List Row),(e0V n H).length=H.length
 | 0,_=>rfl
 | _+1,[]=>rfl
 | n+1,_ :: H=>by simp [e0V,j0y n H]
theorem f0x:∀ (n:Nat) (H:List Row) (r:Nat),(e0V n H)[r]?=if r<n then (H[r]?).map fun _=>.dead else H[r]?
 | 0,H,r=>by simp [e0V]
 | n+1,[],r=>by simp [e0V]
 | n+1,x :: H,0=>by simp [e0V]
 | n+1,x :: H,r+1=>by simp [e0V,f0x n H r]
def lowB (n:Nat)(H:List Row):Bool:=H.all fun row=>row.refs.all fun r=>Nat.blt r n
inductive RetS (n0:Nat)(rs:List SR)(Q:D→List Row→Prop)(s:St):Prop
 | gather {ds:List D} {e:Eff}:resS s.H s.ts rs=some ds→gather n0 (one ds) (List.range n0) s.H=some e→Q e.res (a0B (s.H.take n0) e.upd++e.news)→RetS n0 rs Q s
 | still {ds:List D} {d0:D}:resS s.H s.ts rs=some ds→lowB n0 (s.H.take n0)=true→Vw (e0V n0 s.H) (one ds) d0→Q d0 (s.H.take n0)→RetS n0 rs Q s
 | all {ds:List D}:resS s.H s.ts rs=some ds→Q (one ds) s.H→RetS n0 rs Q s
def endS (n0:Nat)(rs:List SR)(Q:D→List Row→Prop):Out→St→Prop
 | .exit _,_=>False
 | .normal,s=>RetS n0 rs Q s
 | .ret,s=>RetS n0 rs Q s
def Fn (P:Program)(f:FuncId)(n:Nat)(rs:List SR)(c:SCode):Prop:=∃ fn k,P.funcs[f]?=some fn∧fn.body=some k∧fn.ntmps=n∧o0v P fn.results.toList=some rs∧a0q P k=c
theorem Fn.of {P:Program}{f:FuncId}{fn:Func}{n:Nat}{rs:List SR}{c:SCode}(h:P.funcs[f]?=some fn)(e:(fn.body.map (a0q P),fn.ntmps,o0v P fn.results.toList)=(some c,n,some rs)):Fn P f n rs c:=by
 obtain ⟨e1,e2,e3⟩:=by simpa only [Prod.mk.injEq] using e
 cases hb:fn.body with
 | none=>rw [hb] at e1;cases e1
 | some k=>rw [hb] at e1;exact ⟨fn,k,h,hb,e2,e3,Option.some.inj e1⟩
theorem HR.takeN {w:World}{φ:Nat→Nat × Nat}{X:Nat→Prop}{H:List Row}(h:HR P w φ X H){n:Nat}(hl:lowB n (H.take n)=true)(hn:n≤H.length):HR P w φ X (H.take n)∧∀ b,Av X φ (H.take n) b→Av X φ H b:=by
 have hlen:(H.take n).length=n:=by simp;omega
 have get:∀ (r:Nat) (row:Row),(H.take n)[r]?=some row→r<n∧H[r]?=some row:=by
  intro r row hr
  rw [List.getElem?_take] at hr
  split at hr
  ·exact ⟨‹_›,hr⟩
  ·cases hr
 have ha:∀ b,Av X φ (H.take n) b→Av X φ H b:=by
  rintro b (hb|⟨r,row,hr,hv,rfl⟩)
  ·exact .inl hb
  ·exact .inr ⟨r,row,(get r row hr).2,hv,rfl⟩
 refine ⟨⟨fun r row hr=>?_,fun r s x y hr hs=>h.apart r s x y (get r x hr).2 (get s y hs).2,fun r row hr=>h.off r row (get r row hr).2,h.old,fun p hp=>(h.gl p hp).thin ha⟩,ha⟩
 obtain ⟨h1,h2⟩:=get r row hr
 rw [hlen]
 refine (h.rows r row h2).lower (S:=(· < n)) rfl (fun r hr=>⟨rfl,hr⟩) ha (c0E fun q hq=>?_)
 have h3:=List.all_eq_true.1 hl row (List.mem_of_getElem? hr)
 have h4:=List.all_eq_true.1 h3 q hq
 simpa using h4
theorem f1Y {w w':World}{φ φ':Nat→Nat × Nat}{X:Nat→Prop}{H:List Row}{s:St}{a:Act}{fn:Func}{rs:List SR}(hrs:o0v P fn.results.toList=some rs){Q:D→List Row→Prop}(hq:RetS H.length rs Q s)(hr:RunW P X w φ H w' φ' s a) :
  a.defers=[]∧∃ v,(results fn a.tmps).run P w' = .ok v w'∧∃ v' d H',Ending.returned v = .returned v'∧Q d H'∧LeavesW P w φ X H v' w' d H':=by
 refine ⟨hr.sim.defers,?_⟩
 have hone:∀ ds,resS s.H s.ts rs=some ds→∃ v,(results fn a.tmps).run P w' = .ok v w'∧R P w' φ' (Av X φ' s.H) s.H.length (one ds) v:=by
  intro ds hds
  obtain ⟨us,h1,h2⟩:=e0b hr.sim.heap hr.sim.tmps _ _ (o0n hrs hds)
  refine ⟨if h:us.toArray.size=1 then us.toArray[0] else .tuple us.toArray,?_,?_⟩
  ·unfold results
   rw [Array.mapM_eq_mapM_toList]
   simp at h1
   simp
   exact congrArg (fun r:Result (List Value)=>r.andThen fun a w'=>Result.ok (if h:a.length=1 then a[0] else Value.tuple a.toArray) w') h1
  ·match ds,us,h2 with
   | [],[],_=>exact .tp rfl (fun i d u hd=>by simp at hd)
   | [d],[u],h2=>exact h2.2 0 d u (by simp) (by simp)
   | d :: d2 :: ds,u :: u2 :: us,h2=>exact .tp (by have:=h2.1;simpa using this) (fun i d' u' hd hu=>h2.2 i d' u' hd (by simpa using hu))
   | [],_ :: _,h2=>have:=h2.1;simp at this
   | _ :: _,[],h2=>have:=h2.1;simp at this
   | [_],_ :: _ :: _,h2=>have:=h2.1;simp at this
   | _ :: _ :: _,[_],h2=>have:=h2.1;simp at this
 have hlt:(s.H.take H.length).length=H.length:=by rw [List.length_take];have:=hr.ons.len;omega
 cases hq with
 | gather hds hg hq =>
  obtain ⟨v,h3,h4⟩:=hone _ hds
  obtain ⟨ψ,k1,k2,k3,k4,_⟩:=d0n hr.sim.heap hr.ons.len hlt h4 (fun r row hr hnd hrow=>absurd (List.mem_range.2 hr) hnd) hg
  exact ⟨v,h3,v,_,_,rfl,hq,ψ,⟨by simp [a0G,hlt],fun r hr'=>(k1 r hr').trans (hr.ons.same r hr'),hr.ons.keep,fun b hb=>hr.ons.fresh b (k4 b hb)⟩,k2,k3⟩
 | all hds hq =>
  obtain ⟨v,h3,h4⟩:=hone _ hds
  exact ⟨v,h3,v,_,_,rfl,hq,φ',hr.ons,hr.sim.heap,h4⟩
 | still hds hlow hv hq =>
  rename_i ds d0
  obtain ⟨v,h3,h4⟩:=hone _ hds
  obtain ⟨t1,t2⟩:=hr.sim.heap.takeN hlow hr.ons.len
  refine ⟨v,h3,v,d0,_,rfl,hq,φ',⟨by rw [hlt];exact Nat.le_refl _,hr.ons.same,hr.ons.keep,fun b hb=>hr.ons.fresh b ?_⟩,t1,?_⟩
  ·obtain ⟨r,row,hx,hl,rfl⟩:=hb
   rw [List.getElem?_take] at hx
   split at hx
   ·exact ⟨r,row,hx,hl,rfl⟩
   ·cases hx
  ·
   have hM:HR P w' φ' (Rest X φ' s.H (e0V H.length s.H)) (e0V H.length s.H):=by
    refine hr.sim.heap.part (S:=fun r=>r<s.H.length) (fun r h=>by rw [j0y];exact h) (fun x row hx=>?_)
    rw [f0x] at hx
    split at hx
    ·rw [Option.map_eq_some_iff] at hx
     obtain ⟨_,_,rfl⟩:=hx
     exact .inl rfl
    ·exact .inr ⟨hx,(hr.sim.heap.rows x row hx).isLow⟩
   have hA:∀ b,Av X φ' (s.H.take H.length) b→Rest X φ' s.H (e0V H.length s.H) b:=by
    rintro b (hb|⟨r,row,hx,hl,rfl⟩)
    ·exact .inl hb
    ·rw [List.getElem?_take] at hx
     split at hx
     ·rename_i hlt'
      refine .inr ⟨r,row,hx,hl,?_,rfl⟩
      rw [f0x,if_pos hlt',hx]
      intro e
      simp at e
      subst e
      simp [Row.live] at hl
     ·cases hx
   have h5:R P w' φ' (Av (Rest X φ' s.H (e0V H.length s.H)) φ' (e0V H.length s.H)) (e0V H.length s.H).length (one ds) v:=by
    rw [j0y]
    refine h4.lower (S:=fun r=>r<s.H.length) (fun r h=>⟨rfl,h⟩) (fun b hb=>?_) h4.isLow
    rcases hb with (hb|⟨x,row,hx,hl,_,rfl⟩)|⟨x,row,hx,hl,rfl⟩
    ·exact .inl hb
    ·exact .inr ⟨x,row,hx,hl,rfl⟩
    ·rw [f0x] at hx
     split at hx
     ·rw [Option.map_eq_some_iff] at hx
      obtain ⟨_,_,rfl⟩:=hx
      simp [Row.live] at hl
     ·exact .inr ⟨x,row,hx,hl,rfl⟩
   have h6:=hv.ok (φ':=φ') hM hA v h5
   exact h6.upper (Nat.zero_le _)
theorem Con.fn (hP:Good P){f:FuncId}{n:Nat}{rs:List SR}{c:SCode}(hf:Fn P f n rs c){args:List D}{H:List Row}{Q:D→List Row→Prop}
  (h:HS P H.length c ⟨args++List.replicate (n-args.length) D.undef,H,[]⟩ (endS H.length rs Q)):Con P f args H Q:=by
 obtain ⟨fn,k,h1,h2,h3,h4,h5⟩:=hf
 subst h3
 refine ⟨⟨fn,h1,by rw [h2];rfl⟩,fun w φ X vs hH hargs=>calls_of_wp h1 h2 ?_⟩
 have hlen:vs.size=args.length:=by have:=hargs.1;simpa using this
 refine h k h5 X w φ H w φ _ _ rfl ⟨⟨hH,?_,rfl⟩,Ons.refl _ _ _ _⟩ ?_
 ·rw [Array.toList_append,Array.toList_replicate,hlen]
  refine hargs.append ⟨by simp,fun i d u hd hu=>?_⟩
  rw [List.getElem?_replicate] at hd hu
  split at hd
  ·rename_i hi
   rw [if_pos hi] at hu
   injection hd with hd;injection hu with hu
   subst hd;subst hu
   exact R.undef
  ·cases hd
 ·intro out s' w' φ' a' hq hr'
  cases out with
  | normal=>exact f1Y h4 hq hr'
  | exit i=>exact hq.elim
  | ret=>exact f1Y h4 hq hr'
def l0A (ι:List Nat)(N:Nat)(H0:List Row)(args0:List D):Bool :=
 Nat.beq ι.length H0.length&&k0M ι&&(args0.all fun d=>d.refs.all fun r=>Nat.blt r H0.length)&&(H0.all fun row=>row.refs.all fun r=>Nat.blt r H0.length)&&ι.all fun r=>Nat.blt r N
theorem q0D:∀ {l:List Nat},k0M l=true→l.Nodup
 | [],_=>List.nodup_nil
 | x :: xs,h=>by
  simp only [k0M,Bool.and_eq_true,Bool.not_eq_true'] at h
  exact List.nodup_cons.2 ⟨by simpa using h.1,q0D h.2⟩
theorem a0D {g:FuncId}{caps args args0:List D}{H H0:List Row}{Q K:D→List Row→Prop}(h:Con P g args0 H0 Q)(ι:List Nat)(hb:l0A ι H.length H0 args0=true)(ha:args++caps=args0.map (renE (ren ι H.length)))
  (hr:(ι.map fun r=>H.getD r .dead)=H0.map (renR (ren ι H.length)))
  (hk:∀ d0 H0',Q d0 H0'→K (renE (ren ι H.length) d0) (b0W (ren ι H.length) ι H0' H++(H0'.drop H0.length).map (renR (ren ι H.length)))):a0T P (.fn g caps) args H K:=by
 unfold l0A at hb
 simp only [Bool.and_eq_true] at hb
 obtain ⟨⟨⟨⟨b1,b2⟩,b3⟩,b4⟩,b5⟩:=hb
 have e1:ι.length=H0.length:=Nat.eq_of_beq_eq_true b1
 refine ⟨g,caps,rfl,(h.embed e1 (q0D b2) ha (fun d hd=>b0Q fun r hr=>?_) (fun i row hi=>⟨c0E fun r hr=>?_,?_⟩)).mono ?_⟩
 ·have h1:=List.all_eq_true.1 b3 d hd
  have h2:=List.all_eq_true.1 h1 r hr
  simpa using h2
 ·have h1:=List.all_eq_true.1 b4 row (List.mem_of_getElem? hi)
  have h2:=List.all_eq_true.1 h1 r hr
  simpa using h2
 ·have hlt:i<ι.length:=by rw [e1];exact (List.getElem?_eq_some_iff.1 hi).1
  have h1:(ι.map fun r=>H.getD r .dead)[i]?=some (H.getD ι[i] .dead):=by simp [hlt]
  rw [hr,List.getElem?_map,hi] at h1
  have h2:ι[i]<H.length:=by
   have:=List.all_eq_true.1 b5 ι[i] (List.getElem_mem hlt)
   simpa using this
  refine ⟨ι[i],by simp [hlt],?_⟩
  have h3:H.getD ι[i] .dead=H[ι[i]]:=by simp [List.getD,h2]
  rw [h3] at h1
  rw [List.getElem?_eq_getElem h2]
  exact h1.symm
 ·rintro d H' ⟨d0,H0',hq,_,rfl,rfl⟩
  exact hk d0 H0' hq
theorem a0X {g:FuncId}{caps args args0:List D}{H:List Row}{Q K:D→List Row→Prop}(h:Con P g args0 [] Q)(hv:Vws H (args++caps) args0)(hp:∀ d H',Q d H'→PlainD d∧∀ row∈H',n0D row)
  (hk:∀ d0 H0',Q d0 H0'→K (renE (ren [] H.length) d0) (H++H0'.map (renR (ren [] H.length)))):a0T P (.fn g caps) args H K:=by
 refine ⟨g,caps,rfl,(h.peek hv hp).mono ?_⟩
 rintro d H' ⟨d0,H0',hq,rfl,rfl⟩
 exact hk d0 H0' hq
variable {n0:Nat}{s:St}{Q:Out→St→Prop}
theorem HS.opsK (hP:Good P){l:List SI}(h:∀ K:St→Prop,(∀ s',Q .normal s'→K s')→wpS P l s K):HS P n0 (.ops l) s Q:=HS.ops hP (h _ fun _ h=>h)
theorem HS.condB {c:SV}{x y:SCode}{b:Bool}(hc:c.ev s.ts = .f (.v (.bool b)))(h1:b=true→HS P n0 x s Q)(h0:b=false→HS P n0 y s Q):HS P n0 (.cond c x y) s Q:=HS.cond (by rw [hc];exact ⟨h1,h0⟩)
theorem o0Q {next:St→Prop}(h:next s):h0t next Q .normal s:=h
theorem f1u {next:St→Prop}{i:Nat}(h:Q (.exit i) s):h0t next Q (.exit i) s:=h
theorem g1h {next:St→Prop}(h:Q .ret s):h0t next Q .ret s:=h
theorem e1N {id:Nat}(h:Q .normal s):d0J id Q .normal s:=h
theorem e0h {id:Nat}(h:Q .normal s):d0J id Q (.exit id) s:=by rw [f0I,if_pos rfl];exact h
theorem t0K {id i:Nat}(hne:Nat.beq i id=false)(h:Q (.exit i) s):d0J id Q (.exit i) s:=by rw [f0I,if_neg (Nat.ne_of_beq_eq_false hne)];exact h
theorem d1X {id:Nat}(h:Q .ret s):d0J id Q .ret s:=h
theorem h1W {rs:List SR}{Q:D→List Row→Prop}(h:RetS n0 rs Q s):endS n0 rs Q .ret s:=h
theorem h1h {rs:List SR}{Q:D→List Row→Prop}(h:RetS n0 rs Q s):endS n0 rs Q .normal s:=h
theorem Bsel.mk' {b:Bool}{p q:Prop}(h1:b=true→p)(h2:b=false→q):Bsel b p q:=⟨h1,h2⟩
def Next (n0:Nat)(keep:List Nat){α:Type}(st:α→St)(p:α→Prop)(m:α→Nat)(x:α)(s:St):Prop:=∃ y,j0B n0 keep s=some (st y)∧p y∧m y<m x
theorem Next.mk {n0:Nat}{keep:List Nat}{α:Type}{st:α→St}{p:α→Prop}{m:α→Nat}{x:α}{s:St}(y:α)(h:j0B n0 keep s=some (st y))(hp:p y)(hm:m y<m x):Next n0 keep st p m x s:=⟨y,h,hp,hm⟩
theorem HS.loopG {c:SCode}{α:Type}(keep:List Nat)(st:α→St)(p:α→Prop)(m:α→Nat)(x0:α)(hs:j0B n0 keep s=some (st x0))(h0:p x0)
  (hbody:∀ x,p x→HS P n0 c (st x) (h0t (Next n0 keep st p m x) Q)):HS P n0 (.loop c) s Q:=by
 refine HS.view (View.sweep hs) ?_
 intro k hk
 cases k with
 | loop a =>
  simp only [a0q] at hk
  injection hk with h1
  intro X w0 φ0 H0 w φ a' K hn hr hK
  refine wp_loop_rounds (m x0+1) ?_
  have key:∀ (k:Nat) (x:α) (w:World) (φ:Nat→Nat × Nat) (a':Act),m x≤k→p x→RunW P X w0 φ0 H0 w φ (st x) a'→Code.rounds P a K (k+1) a' w:=by
   intro k
   induction k with
   | zero =>
    intro x w φ a' hm hp hr
    rw [rounds_succ]
    refine hbody x hp a h1 X w0 φ0 H0 w φ a' _ hn hr ?_
    intro out s' w' φ' a' hq hr'
    cases out with
    | normal=>obtain ⟨y,_,_,hlt⟩:=hq;omega
    | exit i=>exact hK _ s' w' φ' a' hq hr'
    | ret=>exact hK _ s' w' φ' a' hq hr'
   | succ k ih =>
    intro x w φ a' hm hp hr
    rw [rounds_succ]
    refine hbody x hp a h1 X w0 φ0 H0 w φ a' _ hn hr ?_
    intro out s' w' φ' a'' hq hr'
    cases out with
    | normal =>
     obtain ⟨y,hsw,hp',hlt⟩:=hq
     obtain ⟨φ2,hr2⟩:=View.sweep hsw X w0 φ0 H0 w' φ' a'' hn hr'
     exact ih y w' φ2 a'' (by omega) hp' hr2
    | exit i=>exact hK _ s' w' φ' a'' hq hr'
    | ret=>exact hK _ s' w' φ' a'' hq hr'
  exact key (m x0) x0 w φ a' (Nat.le_refl _) h0 hr
 | region id ops draw=>cases draw<;>simp only [a0q] at hk<;>first|(split at hk<;>first|cases hk|(split at hk<;>cases hk))|cases hk
 | cond c a b=>simp only [a0q] at hk;split at hk<;>cases hk
 | _=>simp [a0q] at hk
end
theorem t0R {a:Int}(h1 : -9223372036854775808≤a)(h2:a≤9223372036854775807):IntKind.i64.wrap a=a:=by
 have:=IntWalk.i64_in a ⟨h1,h2⟩
 exact this
def gt {α:Type}[Inhabited α](l:List α)(k:Nat):α:=l[k]!
theorem getElem?_some_of {α:Type}[Inhabited α]{l:List α}{i:Nat}(h:i<l.length):l[i]?=some (gt l i):=by rw [gt,List.getElem?_eq_getElem h,getElem!_pos l i h]
theorem a0v {α:Type}[Inhabited α]{l:List α}{i:Nat}(h:i<l.length):gt l i=l[i]:=by rw [gt,getElem!_pos l i h]
theorem a0I {α:Type}[Inhabited α]{l:List α}{k:Nat}(h:k<l.length):l.drop k=gt l k :: l.drop (k+1):=by
 rw [List.drop_eq_getElem_cons h,a0v h]
def look (i:Nat):List (Nat × D)→D
 | []=>.junk
 | (j,d) :: e=>if j=i then d else look i e
def frm (n:Nat)(e:List (Nat × D)):List D:=(List.range n).map fun i=>look i e
theorem d0c (n:Nat)(e:List (Nat × D)):(frm n e).length=n:=by simp [frm]
theorem c0k {n:Nat}{e:List (Nat × D)}{i:Nat}(h:i<n):(frm n e)[i]?=some (look i e):=by
 unfold frm
 rw [List.getElem?_map,List.getElem?_range h];rfl
theorem b0f {n:Nat}{e:List (Nat × D)}{i:Nat}{u:D}(h:i<n):(frm n e).getD i u=look i e:=by
 rw [List.getD_eq_getElem?_getD,c0k h];rfl
theorem g0n {n:Nat}{e:List (Nat × D)}{i:Nat}{d:D}:(frm n e).set i d=frm n ((i,d) :: e):=by
 apply List.ext_getElem?
 intro j
 by_cases hj:j<n
 ·rw [List.getElem?_set,c0k hj,c0k hj,d0c]
  simp only [look]
  split
  ·rename_i e;subst e;rw [if_pos hj]
  ·rfl
 ·rw [List.getElem?_eq_none (by simp [d0c];omega),List.getElem?_eq_none (by simp [d0c];omega)]
theorem s0A {i j:Nat}{d:D}{e:List (Nat × D)}:look i ((j,d) :: e)=if j=i then d else look i e:=id rfl
theorem x0Z {i:Nat}:look i [] = .junk:=id rfl
section
variable {P:Program}{n0:Nat}{s:St}{Q:Out→St→Prop}
theorem View.frm {n:Nat}{e:List (Nat × D)}(hl:s.ts.length=n)(h:∀ i,i<n→look i e = .junk∨s.ts[i]?=some (look i e)):View P n0 s ⟨frm n e,s.H,[]⟩:=by
 intro X w0 φ0 H0 w φ a _ hr
 refine ⟨φ,⟨hr.sim.heap,⟨?_,fun i d u hd hu=>?_⟩,hr.sim.defers⟩,hr.ons⟩
 ·rw [d0c,hr.sim.tmps.1,hl]
 ·dsimp only at hd
  have hi:i<n:=by have:=(List.getElem?_eq_some_iff.1 hd).1;rwa [d0c] at this
  rw [c0k hi] at hd
  injection hd with hd
  subst hd
  rcases h i hi with h1|h1
  ·rw [h1];exact .junk
  ·exact hr.sim.tmps.2 i _ u h1 hu
def a0J:Nat→List D→List (Nat × D)
 | _,[]=>[]
 | i,d :: ds=>(i,d) :: a0J (i+1) ds
theorem l0t:∀ (ds:List D) (k i:Nat),look (k+i) (a0J k ds) = .junk∨ds[i]?=some (look (k+i) (a0J k ds))
 | [],_,_=>.inl rfl
 | d :: ds,k,0=>by simp [a0J,look]
 | d :: ds,k,i+1=>by
  simp only [a0J,look]
  rw [if_neg (by omega),show k+(i+1)=k+1+i by omega]
  simpa using l0t ds (k+1) i
theorem Con.walk (hP:Good P){f:FuncId}{n:Nat}{rs:List SR}{c:SCode}(hf:Fn P f n rs c){args:List D}{H:List Row}{Q:D→List Row→Prop}(hn:args.length≤n)
  (h:HS P H.length c ⟨frm n (a0J 0 args),H,[]⟩ (endS H.length rs Q)):Con P f args H Q:=by
 refine Con.fn hP hf (HS.view (View.frm ?_ (fun i hi=>?_)) h)
 ·simp;omega
 ·dsimp only
  have:=l0t args 0 i
  rw [Nat.zero_add] at this
  rcases this with h1|h1
  ·exact .inl h1
  ·have hlt:=(List.getElem?_eq_some_iff.1 h1).1
   rw [List.getElem?_append_left hlt]
   exact .inr h1
end
theorem a0s {P:Program}{g:FuncId}{caps args:List D}{H:List Row}{Q K:D→List Row→Prop}(h:Con P g (args++caps) H Q)(hk:∀ d H',Q d H'→K d H'):a0T P (.fn g caps) args H K:=⟨g,caps,rfl,h.mono hk⟩
theorem w0I {i:Nat}:∀ {e:List (Nat × D)},look i e = .junk∨(i,look i e)∈e
 | []=>.inl rfl
 | (j,d) :: e=>by
  simp only [look]
  split
  ·rename_i h;subst h;exact .inr List.mem_cons_self
  ·rcases w0I (i:=i) (e:=e) with h|h
   ·exact .inl h
   ·exact .inr (List.mem_cons_of_mem _ h)
def NextP (n:Nat){α:Type}(st:α→List (Nat × D))(hs:α→List Row)(p:α→Prop)(m:α→Nat)(x:α)(s:St):Prop:=∃ y,s.H=hs y∧(∃ e,s.ts=frm n e∧(st y).map (fun q=>look q.1 e)=(st y).map (·.2))∧p y∧m y<m x
theorem NextP.mk {α:Type}{st:α→List (Nat × D)}{hs:α→List Row}{p:α→Prop}{m:α→Nat}{x:α}{n:Nat}{e:List (Nat × D)}{H:List Row}{dr:List Nat}(y:α)(hH:H=hs y)(he:(st y).map (fun q=>look q.1 e)=(st y).map (·.2))(hp:p y)(hm:m y<m x):NextP n st hs p m x ⟨frm n e,H,dr⟩:=⟨y,hH,⟨e,rfl,he⟩,hp,hm⟩
section
variable {P:Program}{n0:Nat}{s:St}{Q:Out→St→Prop}
theorem View.told {n:Nat}{e e':List (Nat × D)}{H:List Row}{dr:List Nat}(he:e'.map (fun q=>look q.1 e)=e'.map (·.2)):View P n0 ⟨Mir.frm n e,H,dr⟩ ⟨Mir.frm n e',H,[]⟩:=by
 refine View.frm (s:=⟨Mir.frm n e,H,dr⟩) (d0c _ _) (fun i hi=>?_)
 rcases w0I (i:=i) (e:=e') with h|h
 ·exact .inl h
 ·refine .inr ?_
  dsimp only
  rw [c0k hi]
  have:∀ q∈e',look q.1 e=q.2:=by
   intro q hq
   obtain ⟨k,hk,rfl⟩:=List.getElem_of_mem hq
   have:=congrArg (fun l=>l[k]?) he
   simpa [hk] using this
  exact congrArg some (this _ h)
theorem HS.loopP {c:SCode}{α:Type}{n:Nat}{e:List (Nat × D)}{H:List Row}{dr:List Nat}(st:α→List (Nat × D))(hs:α→List Row)(p:α→Prop)(m:α→Nat)(x0:α)(hH:H=hs x0)(he:(st x0).map (fun q=>look q.1 e)=(st x0).map (·.2))(h0:p x0)
  (hbody:∀ x,p x→HS P n0 c ⟨Mir.frm n (st x),hs x,[]⟩ (h0t (NextP n st hs p m x) Q)):HS P n0 (.loop c) ⟨Mir.frm n e,H,dr⟩ Q:=by
 subst hH
 refine HS.view (View.told he) ?_
 intro k hk
 cases k with
 | loop a =>
  simp only [a0q] at hk
  injection hk with h1
  intro X w0 φ0 H0 w φ a' K hn0 hr hK
  refine wp_loop_rounds (m x0+1) ?_
  have key:∀ (k:Nat) (x:α) (w:World) (φ:Nat→Nat × Nat) (a':Act),m x≤k→p x→RunW P X w0 φ0 H0 w φ ⟨Mir.frm n (st x),hs x,[]⟩ a'→Code.rounds P a K (k+1) a' w:=by
   have nx:∀ (x y:α) (s':St) (w':World) (φ':Nat→Nat × Nat) (a'':Act),RunW P X w0 φ0 H0 w' φ' s' a''→s'.H=hs y→(∃ e,s'.ts=Mir.frm n e∧(st y).map (fun q=>look q.1 e)=(st y).map (·.2))→∃ φ2,RunW P X w0 φ0 H0 w' φ2 ⟨Mir.frm n (st y),hs y,[]⟩ a'':=by
    rintro x y ⟨ts,H,dr⟩ w' φ' a'' hr' hy ⟨e,he1,he2⟩
    dsimp only at hy he1
    subst hy;subst he1
    exact View.told (dr:=dr) he2 X w0 φ0 H0 w' φ' a'' hn0 hr'
   intro k
   induction k with
   | zero =>
    intro x w φ a' hm hp hr
    rw [rounds_succ]
    refine hbody x hp a h1 X w0 φ0 H0 w φ a' _ hn0 hr ?_
    intro out s' w' φ' a'' hq hr'
    cases out with
    | normal=>obtain ⟨y,_,_,_,hlt⟩:=hq;omega
    | exit i=>exact hK _ s' w' φ' a'' hq hr'
    | ret=>exact hK _ s' w' φ' a'' hq hr'
   | succ k ih =>
    intro x w φ a' hm hp hr
    rw [rounds_succ]
    refine hbody x hp a h1 X w0 φ0 H0 w φ a' _ hn0 hr ?_
    intro out s' w' φ' a'' hq hr'
    cases out with
    | normal =>
     obtain ⟨y,hy,he,hp',hlt⟩:=hq
     obtain ⟨φ2,hr2⟩:=nx x y s' w' φ' a'' hr' hy he
     exact ih y w' φ2 a'' (by omega) hp' hr2
    | exit i=>exact hK _ s' w' φ' a'' hq hr'
    | ret=>exact hK _ s' w' φ' a'' hq hr'
  exact key (m x0) x0 w φ a' (Nat.le_refl _) h0 hr
 | region id ops draw=>cases draw<;>simp only [a0q] at hk<;>first|(split at hk<;>first|cases hk|(split at hk<;>cases hk))|cases hk
 | cond c a b=>simp only [a0q] at hk;split at hk<;>cases hk
 | _=>simp [a0q] at hk
end
section
variable {P:Program}{n0:Nat}{Q:D→List Row→Prop}
theorem end1 {n t:Nat}{e:List (Nat × D)}{H:List Row}{dr:List Nat}{d d0:D}(ht:Nat.blt t n=true)(h:look t e=d)(hl:lowB n0 (H.take n0)=true)(hv:Vw (e0V n0 H) d d0)(q:Q d0 (H.take n0)):RetS n0 [.t t] Q ⟨frm n e,H,dr⟩:=by
 refine .still (ds:=[d]) ?_ hl hv q
 simp only [resS]
 rw [b0f (by simpa using ht),h]
theorem endA {n t:Nat}{e:List (Nat × D)}{H:List Row}{dr:List Nat}{d:D}(ht:Nat.blt t n=true)(h:look t e=d)(q:Q d H):RetS n0 [.t t] Q ⟨frm n e,H,dr⟩:=by
 refine .all (ds:=[d]) ?_ q
 simp only [resS]
 rw [b0f (by simpa using ht),h]
theorem end2 {n t u:Nat}{e:List (Nat × D)}{H:List Row}{dr:List Nat}{d f d0:D}(ht:Nat.blt t n=true)(hu:Nat.blt u n=true)(h:look t e=d)(k:look u e=f)(hl:lowB n0 (H.take n0)=true)(hv:Vw (e0V n0 H) (.tp [d,f]) d0)(q:Q d0 (H.take n0)):RetS n0 [.t t,.t u] Q ⟨frm n e,H,dr⟩:=by
 refine .still (ds:=[d,f]) ?_ hl hv q
 simp only [resS]
 rw [b0f (by simpa using ht),b0f (by simpa using hu),h,k]
theorem i1A {n t u:Nat}{e:List (Nat × D)}{H:List Row}{dr:List Nat}{d f:D}{ef:Eff}(ht:Nat.blt t n=true)(hu:Nat.blt u n=true)(h:look t e=d)(k:look u e=f)(hg:gather n0 (.tp [d,f]) (List.range n0) H=some ef)(q:Q ef.res (a0B (H.take n0) ef.upd++ef.news)):RetS n0 [.t t,.t u] Q ⟨frm n e,H,dr⟩:=by
 refine .gather (ds:=[d,f]) ?_ hg q
 simp only [resS]
 rw [b0f (by simpa using ht),b0f (by simpa using hu),h,k]
theorem endG {n t:Nat}{e:List (Nat × D)}{H:List Row}{dr:List Nat}{d:D}{ef:Eff}(ht:Nat.blt t n=true)(h:look t e=d)(hg:gather n0 d (List.range n0) H=some ef)(q:Q ef.res (a0B (H.take n0) ef.upd++ef.news)):RetS n0 [.t t] Q ⟨frm n e,H,dr⟩:=by
 refine .gather (ds:=[d]) ?_ hg q
 simp only [resS]
 rw [b0f (by simpa using ht),h]
end
end Go.Proofs.YthjgmldnegaaiaaGreatDoor.Mir
namespace Go.Proofs.YthjgmldnegaaiaaGreatDoor.Mir
open Go Go.RowKit
theorem n0M {P:Program}:∀ (l1 l2:List SI) (s:St) (K:St→Prop),wpS P (l1++l2) s K=wpS P l1 s fun s'=>wpS P l2 s' K
 | [],l2,s,K=>rfl
 | i :: l1,l2,s,K=>by
  simp only [List.cons_append,wpS,n0M l1 l2]
theorem h1K {P:Program}{l1 l2:List SI}{s:St}{K:St→Prop}(h:∀ K':St→Prop,(∀ s',wpS P l2 s' K→K' s')→wpS P l1 s K'):wpS P (l1++l2) s K:=by
 rw [n0M]
 exact h _ fun _ h=>h
abbrev kI (n:Int):SV:=.c (.f (.v (.int .i64 n)))
abbrev kT:SV:=.c (.f (.v (.bool true)))
abbrev kF:SV:=.c (.f (.v (.bool false)))
abbrev kN:SV:=.c (.f (.v (.slice none 0 0)))
abbrev kC (f:Nat):SV:=.c (.fn f [])
abbrev jI:D:=.f (.v (.int .i64 0))
abbrev jN:D:=.f (.v (.slice none 0 0))
abbrev jF:D:=.f (.v (.bool false))
abbrev jm (t x:Nat):SI:=.a t (.mv (.t x))
abbrev jl (t x:Nat):SI:=.a t (.load1 (.t x))
abbrev jo (t o x:Nat):SI:=.a t (.off o (.t x))
abbrev jn (t x:Nat):SI:=.a t (.nilc (.t x))
abbrev gM (t x g:Nat) (b:Bool):SI:=.g (some t) (.mv (.t x)) g b
abbrev gL (t x g:Nat) (b:Bool):SI:=.g (some t) (.load1 (.t x)) g b
abbrev gO (t o x g:Nat) (b:Bool):SI:=.g (some t) (.off o (.t x)) g b
abbrev gN (t x g:Nat) (b:Bool):SI:=.g (some t) (.nilc (.t x)) g b
abbrev je (t x:Nat):SI:=.a t (.slen (.t x))
abbrev jx (t n x i:Nat):SI:=.a t (.idx n (.t x) (.t i))
abbrev jL (t n x:Nat):SI:=.a t (.loadA n (.t x))
abbrev jE (t n x:Nat):SI:=.a t (.ext n (.t x))
abbrev jb (t:Nat) (op:BinOp) (x:Nat) (k:Int):SI:=.a t (.bin op (.t x) (kI k))
abbrev jB (t:Nat) (op:BinOp) (x y:Nat):SI:=.a t (.bin op (.t x) (.t y))
abbrev jk (t:Nat) (k:Int):SI:=.a t (.mv (kI k))
abbrev jG (t:Nat) (o:SOp) (g:Nat) (b:Bool):SI:=.g (some t) o g b
abbrev jq (l:List SI) (y:SCode):SCode:=.seq (.ops l) y
abbrev jc (t:Nat) (x y:SCode):SCode:=.cond (.t t) x y
def ap (a b:List SI):List SI:=a++b
theorem W_mv {P:Program}{ts:List D}{H:List Row}{K:D→List Row→Prop}(x:SV):a0U P ts H (.mv x) K=(K (x.ev ts) H):=id rfl
theorem e1p {P:Program}{ts:List D}{H:List Row}{K:D→List Row→Prop}(c a b:SV):a0U P ts H (.pick c a b) K=(k0x (c.ev ts) (K (a.ev ts) H) (K (b.ev ts) H)):=id rfl
theorem b1R {P:Program}{ts:List D}{H:List Row}{K:D→List Row→Prop}(T:TypeId)(z:List D):a0U P ts H (.alloc T z) K=(K (.pt H.length 0) (H++[.box T z])):=id rfl
theorem h1i {P:Program}{ts:List D}{H:List Row}{K:D→List Row→Prop}(T:TypeId)(x:SV):a0U P ts H (.box T x) K=(a0E (boxD (x.ev ts)) fun cs=>K (.pt H.length 0) (H++[.box T cs])):=id rfl
theorem b1l {P:Program}{ts:List D}{H:List Row}{K:D→List Row→Prop}(a:SV):a0U P ts H (.load1 a) K=(a0E (load1 H (a.ev ts)) fun d=>K d H):=id rfl
theorem b1L {P:Program}{ts:List D}{H:List Row}{K:D→List Row→Prop}(n:Nat)(a:SV):a0U P ts H (.loadA n a) K=(a0E (loadA H n (a.ev ts)) fun d=>K d H):=id rfl
theorem a1G {P:Program}{ts:List D}{H:List Row}{K:D→List Row→Prop}(n:Nat)(a x:SV):a0U P ts H (.store n a x) K=(a0E (c0t P H n (a.ev ts) (x.ev ts)) fun H'=>K D.undef H'):=id rfl
theorem f1c {P:Program}{ts:List D}{H:List Row}{K:D→List Row→Prop}(x:SV):a0U P ts H (.nilc x) K=(a0E (t0j (x.ev ts)) fun d=>K d H):=id rfl
theorem i1J {P:Program}{ts:List D}{H:List Row}{K:D→List Row→Prop}(o:Nat)(a:SV):a0U P ts H (.off o a) K=(a0E (offD o (a.ev ts)) fun d=>K d H):=id rfl
theorem e1x {P:Program}{ts:List D}{H:List Row}{K:D→List Row→Prop}(o:Nat)(x:SV):a0U P ts H (.fld1 o x) K=(a0E (fld1 o (x.ev ts)) fun d=>K d H):=id rfl
theorem f1U {P:Program}{ts:List D}{H:List Row}{K:D→List Row→Prop}(o n:Nat)(x:SV):a0U P ts H (.fldA o n x) K=(a0E (fldA o n (x.ev ts)) fun d=>K d H):=id rfl
theorem h1p {P:Program}{ts:List D}{H:List Row}{K:D→List Row→Prop}(sz:Nat)(x i:SV):a0U P ts H (.idx sz x i) K=(idxS sz (x.ev ts) (i.ev ts) fun d=>K d H):=id rfl
theorem i1N {P:Program}{ts:List D}{H:List Row}{K:D→List Row→Prop}(sz n:Nat)(x i:SV):a0U P ts H (.arr sz n x i) K=(arrS sz n (x.ev ts) (i.ev ts) fun d=>K d H):=id rfl
theorem h1S {P:Program}{ts:List D}{H:List Row}{K:D→List Row→Prop}(i:Nat)(x:SV):a0U P ts H (.ext i x) K=(a0E (extD i (x.ev ts)) fun d=>K d H):=id rfl
theorem i1D {P:Program}{ts:List D}{H:List Row}{K:D→List Row→Prop}(op:BinOp)(x y:SV):a0U P ts H (.bin op x y) K=(binS op (x.ev ts) (y.ev ts) fun d=>K d H):=id rfl
theorem e1j {P:Program}{ts:List D}{H:List Row}{K:D→List Row→Prop}(op:BinOp)(x y:SV):a0U P ts H (.binb op x y) K=(p0m op (x.ev ts) (y.ev ts) fun d=>K d H):=id rfl
theorem i1E {P:Program}{ts:List D}{H:List Row}{K:D→List Row→Prop}(eq:Bool)(ks:List Nat)(x y:SV):a0U P ts H (.aeq eq ks x y) K=(aeqS eq ks (x.ev ts) (y.ev ts) fun d=>K d H):=id rfl
theorem f1k {P:Program}{ts:List D}{H:List Row}{K:D→List Row→Prop}(eq:Bool)(k:Nat)(x y:SV):a0U P ts H (.nilq eq k x y) K=(d0U k (x.ev ts) (y.ev ts) fun b=>K (D.bool (if eq then b else !b)) H):=id rfl
theorem e1s {P:Program}{ts:List D}{H:List Row}{K:D→List Row→Prop}(x:SV):a0U P ts H (.unot x) K=(a0E (notS (x.ev ts)) fun d=>K d H):=id rfl
theorem W_fn {P:Program}{ts:List D}{H:List Row}{K:D→List Row→Prop}(f:FuncId)(caps:List SV):a0U P ts H (.fn f caps) K=(K (.fn f (caps.map (SV.ev ts))) H):=id rfl
theorem b1v {P:Program}{ts:List D}{H:List Row}{K:D→List Row→Prop}  : a0U P ts H (.mkmap) K=(K (.mp H.length) (H++[.map []])):=id rfl
theorem p0o {P:Program}{ts:List D}{H:List Row}{K:D→List Row→Prop}(T:TypeId)(sz b:Nat)(z:List F)(l c:SV):a0U P ts H (.mkslice T sz b z l c) K=(a0E (intOf? (l.ev ts)) fun a=>a0E (intOf? (c.ev ts)) fun c=>((0<a∨c=0)∧0≤a∧a≤c∧b*c≤140737488355328∧c.toNat*sz≤16777216)∧K (.sl H.length 0 a.toNat) (H++[.data T ((List.range (a.toNat*sz)).map fun j=>z.getD (j % sz) (.v Go.undef))])):=id rfl
theorem i1K {P:Program}{ts:List D}{H:List Row}{K:D→List Row→Prop}(z:List D)(parts:List (Nat × Nat × SV)):a0U P ts H (.bld z parts) K=(a0E (e0l z (parts.map fun p=>(p.1,p.2.1,p.2.2.ev ts))) fun ds=>K (.ag ds) H):=id rfl
theorem h1n {P:Program}{ts:List D}{H:List Row}{K:D→List Row→Prop}(T:TypeId)(sz len:Nat)(z:List D)(parts:List (Nat × SV)):a0U P ts H (.bsl T sz len z parts) K=(a0E (e0l z (parts.map fun p=>(p.1,sz,p.2.ev ts))) fun ds=>a0E (a0V P H ds) fun xu=>K (.sl H.length 0 len) (a0B H xu.2++[.data T xu.1])):=id rfl
theorem i1Q {P:Program}{ts:List D}{H:List Row}{K:D→List Row→Prop}(T:TypeId)(sz b:Nat)(s x:SV):a0U P ts H (.app T sz b s x) K=(appS H T sz b (s.ev ts) (x.ev ts) K):=id rfl
theorem e1m {P:Program}{ts:List D}{H:List Row}{K:D→List Row→Prop}(x:SV):a0U P ts H (.slen x) K=(a0E (slcS (x.ev ts)) fun n=>K (D.int n) H):=id rfl
theorem f1f {P:Program}{ts:List D}{H:List Row}{K:D→List Row→Prop}(x:SV):a0U P ts H (.mlen x) K=(a0E (g0S H (x.ev ts)) fun es=>K (D.int es.length) H):=id rfl
theorem f1d {P:Program}{ts:List D}{H:List Row}{K:D→List Row→Prop}(k:IntKind)(x:SV):a0U P ts H (.conv k x) K=(a0E (b1z k (x.ev ts)) fun d=>K d H):=id rfl
theorem h1w {P:Program}{ts:List D}{H:List Row}{K:D→List Row→Prop}(x:SV):a0U P ts H (.s2b x) K=(a0E (strOf? (x.ev ts)) fun s=>s.size≤most∧K (.f (.s (s.data.toList.map fun b=>.v (.int .u8 b.toNat)) s.size)) H):=id rfl
theorem h1z {P:Program}{ts:List D}{H:List Row}{K:D→List Row→Prop}(x:SV):a0U P ts H (.b2s x) K=(a0E (b0b H 1 (x.ev ts)) fun p=>a0E (bytesOf? (p.2.map .f)) fun l=>p.2.length=p.1∧K (.f (.v (.string ⟨l.toArray⟩))) H):=id rfl
theorem x0K {P:Program}{ts:List D}{H:List Row}{K:D→List Row→Prop}(x:SV):a0U P ts H (.strlen x) K=(a0E (strOf? (x.ev ts)) fun s=>K (D.int s.size) H):=id rfl
theorem e1g {P:Program}{ts:List D}{H:List Row}{K:D→List Row→Prop}(sz n:Nat)(x i:SV):a0U P ts H (.aidx sz n x i) K=(z0C sz n (x.ev ts) (i.ev ts) fun d=>K d H):=id rfl
theorem e1v {P:Program}{ts:List D}{H:List Row}{K:D→List Row→Prop}(x i:SV):a0U P ts H (.sidx x i) K=(a0E (strOf? (x.ev ts)) fun s=>a0E (intOf? (i.ev ts)) fun i=>a0E (if 0≤i then s.data.toList[i.toNat]? else none) fun b=>K (.f (.v (.int .u8 b.toNat))) H):=id rfl
theorem e1t {P:Program}{ts:List D}{H:List Row}{K:D→List Row→Prop}(x:SV)(lo hi:Option SV):a0U P ts H (.ssub x lo hi) K=(a0E (a1d (x.ev ts) (lo.map (SV.ev ts)) (hi.map (SV.ev ts))) fun d=>K d H):=id rfl
theorem f1T {P:Program}{ts:List D}{H:List Row}{K:D→List Row→Prop}(ok:Bool)(K0:TypeId)(z:D)(m k:SV):a0U P ts H (.look ok K0 z m k) K=(a0E (t0A P H ok K0 z (m.ev ts) (k.ev ts)) fun d=>K d H):=id rfl
theorem f1D {P:Program}{ts:List D}{H:List Row}{K:D→List Row→Prop}(K0:TypeId)(m k x:SV):a0U P ts H (.mput K0 m k x) K=(a0E (q0U P H K0 (m.ev ts) (k.ev ts) (x.ev ts)) fun H'=>K D.undef H'):=id rfl
theorem f1W {P:Program}{ts:List D}{H:List Row}{K:D→List Row→Prop}(K0:TypeId)(m k:SV):a0U P ts H (.mdel K0 m k) K=(a0E (a1f P H K0 (m.ev ts) (k.ev ts)) fun H'=>K (.tp []) H'):=id rfl
theorem h1o {P:Program}{ts:List D}{H:List Row}{K:D→List Row→Prop}(T:TypeId)(x:SV):a0U P ts H (.clr T x) K=(a0E (h0B P H T (x.ev ts)) fun H'=>K (.tp []) H'):=id rfl
theorem W_mm {P:Program}{ts:List D}{H:List Row}{K:D→List Row→Prop}(mx:Bool)(x y:SV):a0U P ts H (.mm mx x y) K=(a0E (intOf? (x.ev ts)) fun a=>a0E (intOf? (y.ev ts)) fun b=>K (D.int (if mx then max a b else min a b)) H):=id rfl
theorem f1L {P:Program}{ts:List D}{H:List Row}{K:D→List Row→Prop}(f:SV)(args:List SV):a0U P ts H (.call f args) K=(a0T P (f.ev ts) (args.map (SV.ev ts)) H K):=id rfl
theorem f1G {P:Program}{ts:List D}{H:List Row}{K:D→List Row→Prop}(sz:Nat)(E:TypeId)(x:SV):a0U P ts H (.sub sz E x none none none) K=(a0E (slcS (x.ev ts)) fun n=>(0≤(0:Int)∧(0:Int)≤n∧(n:Int)≤n)∧a0E (subS H sz E (x.ev ts) (0:Int).toNat (n:Int).toNat) fun d=>K d H):=id rfl
theorem f1b {P:Program}{ts:List D}{H:List Row}{K:D→List Row→Prop}(sz:Nat)(E:TypeId)(x l:SV):a0U P ts H (.sub sz E x (some l) none none) K=(a0E (slcS (x.ev ts)) fun n=>a0E (intOf? (l.ev ts)) fun l=>(0≤l∧l≤n∧(n:Int)≤n)∧a0E (subS H sz E (x.ev ts) l.toNat (n:Int).toNat) fun d=>K d H):=id rfl
theorem e1f {P:Program}{ts:List D}{H:List Row}{K:D→List Row→Prop}(sz:Nat)(E:TypeId)(x h:SV):a0U P ts H (.sub sz E x none (some h) none) K=(a0E (slcS (x.ev ts)) fun n=>a0E (intOf? (h.ev ts)) fun h=>(0≤(0:Int)∧0≤h∧h≤n)∧a0E (subS H sz E (x.ev ts) (0:Int).toNat h.toNat) fun d=>K d H):=id rfl
theorem c1L {P:Program}{ts:List D}{H:List Row}{K:D→List Row→Prop}(sz:Nat)(E:TypeId)(x l h:SV):a0U P ts H (.sub sz E x (some l) (some h) none) K=(a0E (slcS (x.ev ts)) fun n=>a0E (intOf? (l.ev ts)) fun l=>a0E (intOf? (h.ev ts)) fun h=>(0≤l∧l≤h∧h≤n)∧a0E (subS H sz E (x.ev ts) l.toNat h.toNat) fun d=>K d H):=id rfl
theorem f1P {P:Program}{ts:List D}{H:List Row}{K:D→List Row→Prop}(sz:Nat)(E:TypeId)(x l h m:SV):a0U P ts H (.sub sz E x (some l) (some h) (some m)) K=(a0E (slcS (x.ev ts)) fun n=>a0E (intOf? (l.ev ts)) fun l=>a0E (intOf? (h.ev ts)) fun h=>(0≤l∧l≤h∧h≤n)∧(intOf? (m.ev ts)=some l∧l=h∧(some h).isSome=true)∧K (mxS (x.ev ts)) H):=id rfl
theorem c1B {P:Program}{ts:List D}{H:List Row}{K:D→List Row→Prop}(sz:Nat)(E:TypeId)(x h m:SV):a0U P ts H (.sub sz E x none (some h) (some m)) K=(a0E (slcS (x.ev ts)) fun n=>a0E (intOf? (h.ev ts)) fun h=>(0≤(0:Int)∧0≤h∧h≤n)∧(intOf? (m.ev ts)=some 0∧(0:Int)=h∧(some h).isSome=true)∧K (mxS (x.ev ts)) H):=id rfl
theorem ev_t {ts:List D}{n:Nat}:(SV.t n).ev ts=ts.getD n D.undef:=id rfl
theorem ev_c {ts:List D}{d:D}:(SV.c d).ev ts=d:=id rfl
theorem f1a {x:F}:boxD (.f x)=some ([.f x]):=id rfl
theorem v0x {x:F}:b0L (.f x)=true:=id rfl
theorem z0X {x:F}:(D.f x).cells=[.f x]:=id rfl
theorem d1H {r o n:Nat}:boxD (.sl r o n)=some ([.sl r o n]):=id rfl
theorem q0s {r o n:Nat}:b0L (.sl r o n)=true:=id rfl
theorem w0C {r o n:Nat}:(D.sl r o n).cells=[.sl r o n]:=id rfl
theorem a1v {r o:Nat}:boxD (.pt r o)=some ([.pt r o]):=id rfl
theorem q0p {r o:Nat}:b0L (.pt r o)=true:=id rfl
theorem x0S {r o:Nat}:(D.pt r o).cells=[.pt r o]:=id rfl
theorem a1U {r:Nat}:boxD (.mp r)=some ([.mp r]):=id rfl
theorem p0J {r:Nat}:b0L (.mp r)=true:=id rfl
theorem v0a {r:Nat}:(D.mp r).cells=[.mp r]:=id rfl
theorem c1r {xs:List F}:boxD (.rf xs)=some ([.rf xs]):=id rfl
theorem r0K {xs:List F}:b0L (.rf xs)=true:=id rfl
theorem w0R {xs:List F}:(D.rf xs).cells=[.rf xs]:=id rfl
theorem a1E {ds:List D}:boxD (.ag ds)=some (ds):=id rfl
theorem q0g {ds:List D}:b0L (.ag ds)=true:=id rfl
theorem v0u {ds:List D}:(D.ag ds).cells=ds:=id rfl
theorem c1D {f:FuncId}{ds:List D}:boxD (.fn f ds)=some ([.fn f ds]):=id rfl
theorem q0W {f:FuncId}{ds:List D}:b0L (.fn f ds)=true:=id rfl
theorem w0T {f:FuncId}{ds:List D}:(D.fn f ds).cells=[.fn f ds]:=id rfl
def m0c (o:Option Row)(off:Nat):Option D:=match o with
 | some row=>match row.cells with
  | some xs=>xs[off]?
  | none=>none
 | none=>none
theorem u0p {H:List Row}{r off:Nat}:load1 H (.pt r off)=m0c H[r]? off:=id rfl
theorem v0v {H:List Row}{xs:List F}:load1 H (.rf xs)=(xs[0]?).map .f:=id rfl
theorem n0R {T:TypeId}{ds:List D}{off:Nat}:m0c (some (.box T ds)) off=ds[off]?:=id rfl
theorem j0o {T:TypeId}{xs:List F}{off:Nat}:m0c (some (.data T xs)) off=(xs[off]?).map .f:=by simp [m0c,Row.cells]
theorem k0R {T:TypeId}{xs:List F}{off:Nat}:m0c (some (.froz T xs)) off=(xs[off]?).map .f:=by simp [m0c,Row.cells]
def m0L (n:Nat)(o:Option Row)(off:Nat):Option D:=match o with
 | some row=>match row.cells with
  | some xs=>if off+n≤xs.length then some (.ag ((xs.drop off).take n)) else none
  | none=>none
 | none=>none
theorem w0l {H:List Row}{n r off:Nat}:loadA H n (.pt r off)=m0L n H[r]? off:=id rfl
theorem a0A {H:List Row}{n:Nat}{xs:List F}:loadA H n (.rf xs)=if n≤xs.length then some (.ag ((xs.map .f).take n)) else none:=id rfl
theorem n0B {n:Nat}{T:TypeId}{ds:List D}{off:Nat}:m0L n (some (.box T ds)) off=if off+n≤ds.length then some (.ag ((ds.drop off).take n)) else none:=id rfl
theorem j0H {n:Nat}{T:TypeId}{xs:List F}{off:Nat}:m0L n (some (.data T xs)) off=if off+n≤xs.length then some (.ag (((xs.drop off).take n).map .f)) else none:=by simp [m0L,Row.cells,List.map_take,List.map_drop]
theorem j0d {n:Nat}{T:TypeId}{xs:List F}{off:Nat}:m0L n (some (.froz T xs)) off=if off+n≤xs.length then some (.ag (((xs.drop off).take n).map .f)) else none:=by simp [m0L,Row.cells,List.map_take,List.map_drop]
theorem z0x {o r off:Nat}:offD o (.pt r off)=some (.pt r (off+o)):=id rfl
theorem b1V {o:Nat}{xs:List F}:offD o (.rf xs)=some (.rf (xs.drop o)):=id rfl
theorem b1S {o:Nat}{ds:List D}:fld1 o (.ag ds)=ds[o]?:=id rfl
theorem c1E {o n:Nat}{ds:List D}:fldA o n (.ag ds)=if o+n≤ds.length then some (.ag ((ds.drop o).take n)) else none:=id rfl
theorem w0P {r o:Nat}:t0j (.pt r o)=some (.pt r o):=id rfl
theorem x0O {xs:List F}:t0j (.rf xs)=some (.rf xs):=id rfl
theorem w0o {f:FuncId}{cs:List D}:t0j (.fn f cs)=some (.fn f cs):=id rfl
theorem z0z {i:Nat}{ds:List D}:extD i (.tp ds)=ds[i]?:=id rfl
def c0V (P:Program)(H:List Row)(n r off:Nat)(x:D)(o:Option Row):Option (List Row):=match o with
 | some (.box U xs)=>if b0L x=true∧x.cells.length=n∧off+n≤xs.length then some (H.set r (.box U (putL off x.cells xs))) else none
 | some (.data U xs)=>if b0L x=true∧x.cells.length=n∧off+n≤xs.length∧0<n then
   match a0V P H x.cells with
   | some (ys,us)=>match (a0B H us)[r]? with
    | some (.data U ws)=>some ((a0B H us).set r (.data U (splice ws off ys)))
    | _=>none
   | none=>none
  else none
 | _=>none
theorem y0f {α:Type}{xs:List α}{off:Nat}{x:α}(h:off<xs.length):splice xs off [x]=xs.set off x:=by
 rw [List.set_eq_take_append_cons_drop,if_pos h]
 simp [splice]
theorem c0N {P:Program}{H:List Row}{n r off:Nat}{x:D}:c0t P H n (.pt r off) x=c0V P H n r off x H[r]?:=id rfl
theorem m0O {P:Program}{H:List Row}{n r off:Nat}{x:D}{U:TypeId}{xs:List D}:c0V P H n r off x (some (.box U xs))=if b0L x=true∧x.cells.length=n∧off+n≤xs.length then some (H.set r (.box U (putL off x.cells xs))) else none:=id rfl
theorem n0x {P:Program}{H:List Row}{r off:Nat}{x:F}{U:TypeId}{xs:List F}(h:H[r]?=some (.data U xs)):c0V P H 1 r off (.f x) (some (.data U xs))=if off+1≤xs.length then some (H.set r (.data U (xs.set off x))) else none:=by
 unfold c0V
 simp only [b0L,D.cells,a0V,b0S,a0B,List.append_nil,List.length_cons,List.length_nil,h,true_and,Nat.reduceAdd,Nat.zero_lt_one,and_true]
 split
 ·rw [y0f (by omega)]
 ·rfl
theorem s0J {α:Type}{cs:List α}:putL 0 [] cs=cs:=by cases cs<;>rfl
theorem m0f {α:Type}{y c:α}{ys cs:List α}:putL 0 (y :: ys) (c :: cs)=y :: putL 0 ys cs:=id rfl
theorem p0z {α:Type}{n:Nat}{c:α}{ys cs:List α}:putL (n+1) ys (c :: cs)=c :: putL n ys cs:=id rfl
theorem v0W {op:BinOp}{k k2:IntKind}{a b:Int}{K:D→Prop}:binS op (.f (.v (.int k a))) (.f (.v (.int k2 b))) K=(shQ op k k2∧intS op k a b K):=id rfl
theorem u0v {op:BinOp}{k:IntKind}:shQ op k k=True:=by cases op<;>simp [shQ]
theorem c1o {k k2:IntKind}:shQ .shl k k2=True:=id rfl
theorem c1N {k k2:IntKind}:shQ .shr k k2=True:=id rfl
theorem w0L {op:BinOp}{a b:ByteArray}{K:D→Prop}:binS op (.f (.v (.string a))) (.f (.v (.string b))) K=strS op a b K:=id rfl
theorem b1e {eq:Bool}{ks:List Nat}{xs ys:List D}{K:D→Prop}:aeqS eq ks (.ag xs) (.ag ys) K=a0E (eqL ks xs ys) fun b=>K (.f (.v (.bool (if eq then b else !b)))):=id rfl
theorem x0J {sz n:Nat}{ds:List D}{k:IntKind}{a:Int}{K:D→Prop}:z0C sz n (.ag ds) (.f (.v (.int k a))) K=((0≤a∧a<n)∧a0E (ds[a.toNat*sz]?) K):=id rfl
theorem z0N {op:BinOp}{a b:Bool}{K:D→Prop}:p0m op (.f (.v (.bool a))) (.f (.v (.bool b))) K=u0M op a b K:=id rfl
theorem v0s {k:IntKind}{a b:Int}{K:D→Prop}:intS .shl k a b K=(0≤b∧K (.f (.v (.int k (k.wrap (a*2 ^ (min b.toNat k.bits))))))):=id rfl
theorem x0d {k:IntKind}{a b:Int}{K:D→Prop}:intS .shr k a b K=(0≤b∧K (.f (.v (.int k (a.fdiv (2 ^ (min b.toNat k.bits))))))):=id rfl
theorem x0c {k:IntKind}{a b:Int}{K:D→Prop}:intS .and k a b K=(K (.f (.v (.int k (k.wrap (BitVec.ofInt k.bits a &&& BitVec.ofInt k.bits b).toNat))))):=id rfl
theorem a1Z {k:IntKind}{a b:Int}{K:D→Prop}:intS .or k a b K=(K (.f (.v (.int k (k.wrap (BitVec.ofInt k.bits a ||| BitVec.ofInt k.bits b).toNat))))):=id rfl
theorem v0E {k:IntKind}{a b:Int}{K:D→Prop}:intS .xor k a b K=(K (.f (.v (.int k (k.wrap (BitVec.ofInt k.bits a ^^^ BitVec.ofInt k.bits b).toNat))))):=id rfl
theorem v0f {k:IntKind}{a b:Int}{K:D→Prop}:intS .add k a b K=(K (.f (.v (.int k (k.wrap (a+b)))))):=id rfl
theorem v0H {k:IntKind}{a b:Int}{K:D→Prop}:intS .sub k a b K=(K (.f (.v (.int k (k.wrap (a-b)))))):=id rfl
theorem w0E {k:IntKind}{a b:Int}{K:D→Prop}:intS .mul k a b K=(K (.f (.v (.int k (k.wrap (a*b)))))):=id rfl
theorem x0G {k:IntKind}{a b:Int}{K:D→Prop}:intS .quo k a b K=(b≠0∧K (.f (.v (.int k (k.wrap (a.tdiv b)))))):=id rfl
theorem x0C {k:IntKind}{a b:Int}{K:D→Prop}:intS .rem k a b K=(b≠0∧K (.f (.v (.int k (a.tmod b))))):=id rfl
theorem w0p {k:IntKind}{a b:Int}{K:D→Prop}:intS .eql k a b K=(Two (a=b) (K (.f (.v (.bool true)))) (K (.f (.v (.bool false))))):=id rfl
theorem w0F {k:IntKind}{a b:Int}{K:D→Prop}:intS .neq k a b K=(Two (a=b) (K (.f (.v (.bool false)))) (K (.f (.v (.bool true))))):=id rfl
theorem w0t {k:IntKind}{a b:Int}{K:D→Prop}:intS .lss k a b K=(Two (a<b) (K (.f (.v (.bool true)))) (K (.f (.v (.bool false))))):=id rfl
theorem v0C {k:IntKind}{a b:Int}{K:D→Prop}:intS .leq k a b K=(Two (a≤b) (K (.f (.v (.bool true)))) (K (.f (.v (.bool false))))):=id rfl
theorem x0l {k:IntKind}{a b:Int}{K:D→Prop}:intS .gtr k a b K=(Two (b<a) (K (.f (.v (.bool true)))) (K (.f (.v (.bool false))))):=id rfl
theorem v0k {k:IntKind}{a b:Int}{K:D→Prop}:intS .geq k a b K=(Two (b≤a) (K (.f (.v (.bool true)))) (K (.f (.v (.bool false))))):=id rfl
theorem v0g {a b:ByteArray}{K:D→Prop}:strS .add a b K=(a.size+b.size≤9223372036854775807∧K (.f (.v (.string (a++b))))):=id rfl
theorem u0z {a b:ByteArray}{K:D→Prop}:strS .eql a b K=(Two (a=b) (K (.f (.v (.bool true)))) (K (.f (.v (.bool false))))):=id rfl
theorem u0b {a b:ByteArray}{K:D→Prop}:strS .neq a b K=(Two (a=b) (K (.f (.v (.bool false)))) (K (.f (.v (.bool true))))):=id rfl
theorem w0U {a b:ByteArray}{K:D→Prop}:strS .lss a b K=(Two (Op.bytesLess a.toList b.toList=true) (K (.f (.v (.bool true)))) (K (.f (.v (.bool false))))):=id rfl
theorem w0s {a b:ByteArray}{K:D→Prop}:strS .gtr a b K=(Two (Op.bytesLess b.toList a.toList=true) (K (.f (.v (.bool true)))) (K (.f (.v (.bool false))))):=id rfl
theorem w0i {a b:ByteArray}{K:D→Prop}:strS .leq a b K=(Two (Op.bytesLess b.toList a.toList=true) (K (.f (.v (.bool false)))) (K (.f (.v (.bool true))))):=id rfl
theorem x0I {a b:ByteArray}{K:D→Prop}:strS .geq a b K=(Two (Op.bytesLess a.toList b.toList=true) (K (.f (.v (.bool false)))) (K (.f (.v (.bool true))))):=id rfl
theorem p0G {a b:Bool}{K:D→Prop}:u0M .eql a b K=K (.f (.v (.bool (a==b)))):=id rfl
theorem r0q {a b:Bool}{K:D→Prop}:u0M .neq a b K=K (.f (.v (.bool (!(a==b))))):=id rfl
theorem b1i {sz r off n:Nat}{k:IntKind}{i:Int}{K:D→Prop}:idxS sz (.sl r off n) (.f (.v (.int k i))) K=((0≤i∧i<n)∧K (.pt r (off+i.toNat*sz))):=id rfl
theorem f1N {sz n:Nat}{xs:List F}{k:IntKind}{i:Int}{K:D→Prop}:idxS sz (.f (.s xs n)) (.f (.v (.int k i))) K=((0≤i∧i<n)∧K (.rf (xs.drop (i.toNat*sz)))):=id rfl
theorem a1o {sz n r off:Nat}{k:IntKind}{i:Int}{K:D→Prop}:arrS sz n (.pt r off) (.f (.v (.int k i))) K=((0≤i∧i<n)∧K (.pt r (off+i.toNat*sz))):=id rfl
theorem c1j {p q:Prop}:k0x (.f (.v (.bool true))) p q=p:=c0r
theorem z0J {p q:Prop}:k0x (.f (.v (.bool false))) p q=q:=b0z
theorem a1w {b:Bool}{p q:Prop}:k0x (.f (.v (.bool b))) p q=Bsel b p q:=id rfl
theorem e1o {b:Bool}:notS (.f (.v (.bool b)))=some (.f (.v (.bool (!b)))):=id rfl
theorem b1D {k k2:IntKind}{n:Int}:b1z k (.f (.v (.int k2 n)))=some (.f (.v (.int k (k.wrap n)))):=id rfl
theorem z0L {n:Int}:intOf? (.f (.v (.int .i64 n)))=some n:=id rfl
theorem c1d {s:ByteArray}:strOf? (.f (.v (.string s)))=some s:=id rfl
theorem b1q {r o n:Nat}:slcS (.sl r o n)=some n:=id rfl
theorem e1y {xs:List F}{n:Nat}:slcS (.f (.s xs n))=some n:=id rfl
theorem f1Q:slcS (.f .e)=some 0:=id rfl
theorem w0Q:slcS (.f (.v (.slice none 0 0)))=some 0:=id rfl
def nilR (k:Nat)(p q:Option (Nat × Bool)):Option Bool:=match p,q with
 | some (i,a),some (j,b)=>if k=i∧k=j∧(a=true∨b=true) then some (a&&b) else none
 | _,_=>none
theorem f1M {k:Nat}{x y:D}:nilS k x y=nilR k (c0M x) (c0M y):=id rfl
theorem z0a {k i j:Nat}{a b:Bool}:nilR k (some (i,a)) (some (j,b))=if k=i∧k=j∧(a=true∨b=true) then some (a&&b) else none:=id rfl
theorem s0L:c0M (.f (.v (.slice none 0 0)))=some (0,true):=id rfl
theorem p0c:c0M (.f (.v (.pointer none)))=some (1,true):=id rfl
theorem q0m:c0M (.f (.v (.map none)))=some (2,true):=id rfl
theorem v0c {k:Nat}{y:D}{K:Bool→Prop}:d0U k (.f (.v (.slice none 0 0))) y K=a0E (nilS k (.f (.v (.slice none 0 0))) y) K:=id rfl
theorem v0R {k:Nat}{y:D}{K:Bool→Prop}:d0U k (.f (.v (.pointer none))) y K=a0E (nilS k (.f (.v (.pointer none))) y) K:=id rfl
theorem u0u {k:Nat}{y:D}{K:Bool→Prop}:d0U k (.f (.v (.map none))) y K=a0E (nilS k (.f (.v (.map none))) y) K:=id rfl
theorem w0n {k:Nat}{y:D}{K:Bool→Prop}:d0U k (.f .e) y K=a0E (nilS k (.f .e) y) K:=id rfl
theorem v0r {r o:Nat}{k:Nat}{y:D}{K:Bool→Prop}:d0U k (.pt r o) y K=a0E (nilS k (.pt r o) y) K:=id rfl
theorem x0W {r:Nat}{k:Nat}{y:D}{K:Bool→Prop}:d0U k (.mp r) y K=a0E (nilS k (.mp r) y) K:=id rfl
theorem x0H {xs:List F}{k:Nat}{y:D}{K:Bool→Prop}:d0U k (.rf xs) y K=a0E (nilS k (.rf xs) y) K:=id rfl
theorem a1Q {xs:List F}{n:Nat}:c0M (.f (.s xs (n+1)))=some (0,false):=id rfl
theorem v0d {r o n:Nat}:c0M (.sl r o (n+1))=some (0,false):=id rfl
theorem v0t {r o:Nat}:c0M (.pt r o)=some (1,false):=id rfl
theorem x0B {xs:List F}:c0M (.rf xs)=some (1,false):=id rfl
theorem v0l {r:Nat}:c0M (.mp r)=some (2,false):=id rfl
def subR (sz:Nat)(E:TypeId)(r off l h:Nat)(o:Option Row):Option D:=match o with
 | some (.data U xs)=>if l=h then some (.f (.s [] 0)) else if 0<xs.length∧some U=some E then some (.sl r (off+l*sz) (h-l)) else none
 | some (.froz U _)=>if l=h then some (.f (.s [] 0)) else if some U=some E then some (.sl r (off+l*sz) (h-l)) else none
 | _=>if l=h then some (.f (.s [] 0)) else none
theorem a1p {H:List Row}{sz:Nat}{E:TypeId}{r off n l h:Nat}:subS H sz E (.sl r off n) l h=subR sz E r off l h H[r]?:=by
 unfold subS k0D subR
 dsimp only
 split<;>split<;>simp only [*]
 all_goals first|(split<;>simp_all)|simp_all
theorem p0K {sz:Nat}{E U:TypeId}{r off l h:Nat}{xs:List F}:subR sz E r off l h (some (.data U xs))=if l=h then some (.f (.s [] 0)) else if 0<xs.length∧some U=some E then some (.sl r (off+l*sz) (h-l)) else none:=id rfl
theorem q0Y {sz:Nat}{E U:TypeId}{r off l h:Nat}{xs:List F}:subR sz E r off l h (some (.froz U xs))=if l=h then some (.f (.s [] 0)) else if some U=some E then some (.sl r (off+l*sz) (h-l)) else none:=id rfl
theorem p0l {H:List Row}{sz:Nat}{E:TypeId}{xs:List F}{n l h:Nat}:subS H sz E (.f (.s xs n)) l h=some (.f (.s ((xs.drop (l*sz)).take ((h-l)*sz)) (h-l))):=id rfl
theorem e1w {H:List Row}{sz:Nat}{E:TypeId}{l h:Nat}:subS H sz E (.f .e) l h=some (.f .e):=id rfl
theorem v0h {H:List Row}{sz:Nat}{E:TypeId}{l h:Nat}:subS H sz E (.f (.v (.slice none 0 0))) l h=some (.f (.v (.slice none 0 0))):=id rfl
theorem c1f:mxS (.f (.v (.slice none 0 0))) = .f (.v (.slice none 0 0)):=id rfl
theorem i1S {xs:List F}{n:Nat}:mxS (.f (.s xs n)) = .f .e:=id rfl
theorem i1C:mxS (.f .e) = .f .e:=id rfl
theorem e1q {r o n:Nat}:mxS (.sl r o n) = .f .e:=id rfl
theorem r0G {cs:List D}:e0l cs []=some cs:=id rfl
theorem m0u {cs:List D}{off size:Nat}{d:D}{rest:List (Nat × Nat × D)}:e0l cs ((off,size,d) :: rest)=if b0L d=true∧d.cells.length=size∧off+size≤cs.length then e0l (putL off d.cells cs) rest else none:=id rfl
theorem l0Y {P:Program}{H:List Row}:a0V P H []=some ([],[]):=id rfl
def b1c (x:F)(o:Option (List F × List (Nat × Row))):Option (List F × List (Nat × Row)):=match o with
 | some (xs,us)=>some (x :: xs,us)
 | none=>none
theorem v0P {P:Program}{H:List Row}{x:F}{ds:List D}:a0V P H (.f x :: ds)=b1c x (a0V P H ds):=by
 simp only [a0V,b0S,a0B,List.nil_append]
 cases a0V P H ds<;>rfl
theorem r0w {x:F}{xs:List F}{us:List (Nat × Row)}:b1c x (some (xs,us))=some (x :: xs,us):=id rfl
theorem h0Q {H:List Row}:a0B H []=H:=id rfl
theorem f1K:fs? []=some []:=id rfl
theorem b1H {x:F}{ds:List D}:fs? (.f x :: ds)=(fs? ds).map (x :: ·):=id rfl
theorem n0j {H:List Row}{sz:Nat}:b0b H sz (.f (.v (.slice none 0 0)))=some (0,[]):=id rfl
theorem u0n {H:List Row}{sz:Nat}:b0b H sz (.f .e)=some (0,[]):=id rfl
theorem u0x {H:List Row}{sz n:Nat}{xs:List F}:b0b H sz (.f (.s xs n))=some (n,xs):=id rfl
def d1M (sz off n:Nat)(o:Option Row):Option (Nat × List F):=match o with
 | some (.data _ xs)=>if off+n*sz≤xs.length then some (n,(xs.drop off).take (n*sz)) else none
 | some (.froz _ xs)=>if off+n*sz≤xs.length then some (n,(xs.drop off).take (n*sz)) else none
 | some (.box _ ds)=>match fs? ds with
  | some xs=>if off+n*sz≤xs.length then some (n,(xs.drop off).take (n*sz)) else none
  | none=>none
 | _=>none
theorem s0N {H:List Row}{sz r off n:Nat}:b0b H sz (.sl r off n)=d1M sz off n H[r]?:=id rfl
theorem j0O {sz off n:Nat}{T:TypeId}{xs:List F}:d1M sz off n (some (.data T xs))=if off+n*sz≤xs.length then some (n,(xs.drop off).take (n*sz)) else none:=id rfl
theorem i0u {sz off n:Nat}{T:TypeId}{xs:List F}:d1M sz off n (some (.froz T xs))=if off+n*sz≤xs.length then some (n,(xs.drop off).take (n*sz)) else none:=id rfl
theorem v0w {H:List Row}{T:TypeId}{sz b:Nat}{x:D}{K:D→List Row→Prop}:appS H T sz b (.f (.v (.slice none 0 0))) x K=a0E (b0b H sz x) fun p=>Two (p.1=0) (K (.f (.v (.slice none 0 0))) H) (p.2.length=p.1*sz∧p.1*b≤most∧p.1≤most∧K (.sl H.length 0 p.1) (H++[.data T p.2])):=id rfl
theorem f1X {H:List Row}{T:TypeId}{sz b:Nat}{x:D}{K:D→List Row→Prop}:appS H T sz b (.f .e) x K=a0E (b0b H sz x) fun p=>Two (p.1=0) (K (.f .e) H) (p.2.length=p.1*sz∧p.1*b≤most∧p.1≤most∧K (.sl H.length 0 p.1) (H++[.data T p.2])):=id rfl
def appR (H:List Row)(T:TypeId)(sz b r off n m:Nat)(ys:List F)(K:D→List Row→Prop)(o:Option Row):Prop:=match o with
 | some (.data U xs)=>U=T∧ys.length=m*sz∧xs.length=off+n*sz∧(n+m)*b≤most∧n+m≤most∧K (.sl H.length 0 (n+m)) (H.set r .dead++[.data T (xs.drop off++ys)])
 | _=>False
theorem z0i {H:List Row}{T:TypeId}{sz b:Nat}{x:D}{K:D→List Row→Prop}{r off n:Nat}:appS H T sz b (.sl r off n) x K=a0E (b0b H sz x) fun p=>Two (p.1=0) (K (.sl r off n) H) (appR H T sz b r off n p.1 p.2 K H[r]?):=id rfl
theorem s0H {H:List Row}{T U:TypeId}{sz b r off n m:Nat}{ys xs:List F}{K:D→List Row→Prop}:appR H T sz b r off n m ys K (some (.data U xs))=(U=T∧ys.length=m*sz∧xs.length=off+n*sz∧(n+m)*b≤most∧n+m≤most∧K (.sl H.length 0 (n+m)) (H.set r .dead++[.data T (xs.drop off++ys)])):=id rfl
theorem q0e {H:List Row}:g0S H (.f (.v (.map none)))=some []:=id rfl
def h1X (o:Option Row):Option (List (Value × D)):=match o with
 | some (.map es)=>some es
 | _=>none
theorem o0d {H:List Row}{r:Nat}:g0S H (.mp r)=h1X H[r]?:=id rfl
theorem r0p {es:List (Value × D)}:h1X (some (.map es))=some es:=id rfl
theorem b1w {w:Bool}{p q:Prop}{b:Bool}:r0t (some (.f (.v (.bool b)))) w p q=if w then Bsel b p q else Bsel b q p:=id rfl
theorem z0r {w:Bool}{p q:Prop}{ds:List D}:r0t (some (.tp ds)) w p q=q:=id rfl
theorem Dint {n:Int}:D.int n = .f (.v (.int .i64 n)):=id rfl
theorem i1F {b:Bool}:D.bool b = .f (.v (.bool b)):=id rfl
theorem Dv {x:Value}:D.v x = .f (.v x):=id rfl
theorem f1R:D.undef = .tp []:=id rfl
theorem b1X {N r:Nat}:ren [] N r=N+r:=by simp [ren]
theorem e1h {ρ:Nat→Nat}{x:F}:renE ρ (.f x) = .f x:=id rfl
theorem c1h {ρ:Nat→Nat}{r o n:Nat}:renE ρ (.sl r o n) = .sl (ρ r) o n:=id rfl
theorem d1F {ρ:Nat→Nat}{r o:Nat}:renE ρ (.pt r o) = .pt (ρ r) o:=id rfl
theorem b1r {ρ:Nat→Nat}{r:Nat}:renE ρ (.mp r) = .mp (ρ r):=id rfl
theorem z0q {ρ:Nat→Nat}{xs:List F}:renE ρ (.rf xs) = .rf xs:=id rfl
theorem a1N {ρ:Nat→Nat}{ds:List D}:renE ρ (.ag ds) = .ag (ds.map (renE ρ)):=by simp [renE,c0S]
theorem z0j {ρ:Nat→Nat}{ds:List D}:renE ρ (.tp ds) = .tp (ds.map (renE ρ)):=by simp [renE,c0S]
theorem b1k {ρ:Nat→Nat}{f:FuncId}{ds:List D}:renE ρ (.fn f ds) = .fn f (ds.map (renE ρ)):=by simp [renE,c0S]
theorem x0P {ρ:Nat→Nat}{T:TypeId}{ds:List D}:renR ρ (.box T ds) = .box T (ds.map (renE ρ)):=id rfl
theorem s0m {ρ:Nat→Nat}{T:TypeId}{xs:List F}:renR ρ (.data T xs) = .data T xs:=id rfl
theorem o0y {ρ:Nat→Nat}{T:TypeId}{xs:List F}:renR ρ (.froz T xs) = .froz T xs:=id rfl
theorem w0f {ρ:Nat→Nat}{es:List (Value × D)}:renR ρ (.map es) = .map es:=id rfl
theorem q0Q {ρ:Nat→Nat}:renR ρ .dead = .dead:=id rfl
theorem j0w {ρ:Nat→Nat}{rows H:List Row}:b0W ρ [] rows H=H:=by cases rows<;>rfl
theorem h0F {ρ:Nat→Nat}{r:Nat}{ι:List Nat}{row:Row}{rows H:List Row}:b0W ρ (r :: ι) (row :: rows) H=b0W ρ ι rows (H.set r (renR ρ row)):=id rfl
theorem s0i {ts:List D}{t:Nat}{d:D}:putD! ts (some t) d=ts.set t d:=id rfl
theorem s0B {ts:List D}{d:D}:putD! ts none d=ts:=id rfl
theorem n0O:List.range 0=[]:=id rfl
theorem w0k {P:Program}{b own:List Nat}{n0 i:Nat}{log:List (List Nat × List Nat)}{ts:List D}{H:List Row}{dr:List Nat}{K:St→Prop}:wpDr P b n0 [] i own log ⟨ts,H,dr⟩ K=K ⟨ts,H,[]⟩:=id rfl
def d0t (P:Program)(b own:List Nat)(n0 i:Nat)(log:List (List Nat × List Nat))(o:SOp)(V:List Nat)(ts:List D)(H:List Row)(next:List Nat→List (List Nat × List Nat)→D→List Row→Prop):Prop :=
 a0S P ts (b0k V H) o fun w d H'=>H'=(effS w V H.length d H').heap (b0k V H) ∧
  Chk (chkS n0 own (b.getD i 0) V (o.vs.map (SV.ev ts)) (b0k V H) (effS w V H.length d H') log) ∧
  next (own++(effS w V H.length d H').news.map fun _=>i) (log++[(V,(effS w V H.length d H').upd.map (·.1))]) d ((effS w V H.length d H').heap H)
@[congr] theorem drStep_congr {P:Program} {b own own':List Nat} {n0 i i':Nat} {log log':List (List Nat × List Nat)} {o:SOp} {V V':List Nat} {ts ts':List D} {H H':List Row} {next:List Nat→List (List Nat × List Nat)→D→List Row→Prop} (h1:own=own') (h5:log=log') (h2:V=V') (h3:ts=ts') (h4:H=H') (h6:i=i'):d0t P b own n0 i log o V ts H next=d0t P b own' n0 i' log' o V' ts' H' next:=by rw [h1,h2,h3,h4,h5,h6]
theorem b1C {P:Program}{b own:List Nat}{n0 i:Nat}{log:List (List Nat × List Nat)}{l:List SI}{ts:List D}{H:List Row}{dr:List Nat}{K:St→Prop}{t:Nat}{o:SOp}:wpDr P b n0 (.a t o :: l) i own log ⟨ts,H,dr⟩ K=d0t P b own n0 i log o (a0Z ts H o) ts H fun own1 log1 d H1=>wpDr P b n0 l (i+1) own1 log1 ⟨ts.set t d,H1,[]⟩ K:=id rfl
theorem d1C {P:Program}{b own:List Nat}{n0 i:Nat}{log:List (List Nat × List Nat)}{l:List SI}{ts:List D}{H:List Row}{dr:List Nat}{K:St→Prop}{o:SOp}:wpDr P b n0 (.n o :: l) i own log ⟨ts,H,dr⟩ K=d0t P b own n0 i log o (a0Z ts H o) ts H fun own1 log1 d H1=>wpDr P b n0 l (i+1) own1 log1 ⟨ts,H1,[]⟩ K:=id rfl
theorem z0m {P:Program}{b own:List Nat}{n0 i:Nat}{log:List (List Nat × List Nat)}{l:List SI}{ts:List D}{H:List Row}{dr:List Nat}{K:St→Prop}{d:Option Nat}{t:Nat}{w:Bool}{o:SOp}:wpDr P b n0 (.g d o t w :: l) i own log ⟨ts,H,dr⟩ K=r0t ts[t]? w (d0t P b own n0 i log o (a0Z ts H o) ts H fun own1 log1 r H1=>wpDr P b n0 l (i+1) own1 log1 ⟨putD! ts d r,H1,[]⟩ K) (wpDr P b n0 l (i+1) own (log++[([],[])]) ⟨putD! ts d D.undef,H,[]⟩ K):=id rfl
theorem l0T {P:Program}{b own:List Nat}{n0 i:Nat}{log:List (List Nat × List Nat)}{o:SOp}{V:List Nat}{ts:List D}{H:List Row}{next:List Nat→List (List Nat × List Nat)→D→List Row→Prop}:d0t P b own n0 i log o V ts H next=a0S P ts (b0k V H) o fun w d H1=>H1=(effS w V H.length d H1).heap (b0k V H)∧Chk (chkS n0 own (b.getD i 0) V (o.vs.map (SV.ev ts)) (b0k V H) (effS w V H.length d H1) log)∧next (own++(effS w V H.length d H1).news.map fun _=>i) (log++[(V,(effS w V H.length d H1).upd.map (·.1))]) d ((effS w V H.length d H1).heap H):=id rfl
theorem s0Z {P:Program}{ts:List D}{H:List Row}{K:Bool→D→List Row→Prop}(x:SV):a0S P ts H (.mv x) K=((K false) (x.ev ts) H):=id rfl
theorem w0h {ts:List D}{H:List Row}(x:SV):a0Z ts H (.mv x)=[]:=id rfl
theorem u0t (x:SV):SOp.turns (.mv x)=false:=id rfl
theorem k0e {P:Program}{ts:List D}{H:List Row}{K:Bool→D→List Row→Prop}(c a b:SV):a0S P ts H (.pick c a b) K=(k0x (c.ev ts) ((K false) (a.ev ts) H) ((K false) (b.ev ts) H)):=id rfl
theorem n0a {ts:List D}{H:List Row}(c a b:SV):a0Z ts H (.pick c a b)=[]:=id rfl
theorem m0G (c a b:SV):SOp.turns (.pick c a b)=false:=id rfl
theorem h0i {P:Program}{ts:List D}{H:List Row}{K:Bool→D→List Row→Prop}(T:TypeId)(z:List D):a0S P ts H (.alloc T z) K=((K false) (.pt H.length 0) (H++[.box T z])):=id rfl
theorem k0B {ts:List D}{H:List Row}(T:TypeId)(z:List D):a0Z ts H (.alloc T z)=[]:=id rfl
theorem i0K (T:TypeId)(z:List D):SOp.turns (.alloc T z)=false:=id rfl
theorem l0b {P:Program}{ts:List D}{H:List Row}{K:Bool→D→List Row→Prop}(T:TypeId)(x:SV):a0S P ts H (.box T x) K=(a0E (boxD (x.ev ts)) fun cs=>(K false) (.pt H.length 0) (H++[.box T cs])):=id rfl
theorem r0n {ts:List D}{H:List Row}(T:TypeId)(x:SV):a0Z ts H (.box T x)=[]:=id rfl
theorem r0J (T:TypeId)(x:SV):SOp.turns (.box T x)=false:=id rfl
theorem h0A {P:Program}{ts:List D}{H:List Row}{K:Bool→D→List Row→Prop}(a:SV):a0S P ts H (.load1 a) K=(a0E (load1 H (a.ev ts)) fun d=>(K false) d H):=id rfl
theorem j0k {ts:List D}{H:List Row}(a:SV):a0Z ts H (.load1 a)=dedN (b0h ([a.ev ts])):=id rfl
theorem k0J (a:SV):SOp.turns (.load1 a)=false:=id rfl
theorem h0g {P:Program}{ts:List D}{H:List Row}{K:Bool→D→List Row→Prop}(n:Nat)(a:SV):a0S P ts H (.loadA n a) K=(a0E (loadA H n (a.ev ts)) fun d=>(K false) d H):=id rfl
theorem j0N {ts:List D}{H:List Row}(n:Nat)(a:SV):a0Z ts H (.loadA n a)=dedN (b0h ([a.ev ts])):=id rfl
theorem j0q (n:Nat)(a:SV):SOp.turns (.loadA n a)=false:=id rfl
theorem h0c {P:Program}{ts:List D}{H:List Row}{K:Bool→D→List Row→Prop}(n:Nat)(a x:SV):a0S P ts H (.store n a x) K=(a0E (c0t P H n (a.ev ts) (x.ev ts)) fun H'=>(K true) D.undef H'):=id rfl
theorem k0O {ts:List D}{H:List Row}(n:Nat)(a x:SV):a0Z ts H (.store n a x)=dedN (b0h ([a.ev ts,x.ev ts])):=id rfl
theorem j0C (n:Nat)(a x:SV):SOp.turns (.store n a x)=true:=id rfl
theorem k0o {P:Program}{ts:List D}{H:List Row}{K:Bool→D→List Row→Prop}(x:SV):a0S P ts H (.nilc x) K=(a0E (t0j (x.ev ts)) fun d=>(K false) d H):=id rfl
theorem m0m {ts:List D}{H:List Row}(x:SV):a0Z ts H (.nilc x)=[]:=id rfl
theorem l0w (x:SV):SOp.turns (.nilc x)=false:=id rfl
theorem l0Z {P:Program}{ts:List D}{H:List Row}{K:Bool→D→List Row→Prop}(o:Nat)(a:SV):a0S P ts H (.off o a) K=(a0E (offD o (a.ev ts)) fun d=>(K false) d H):=id rfl
theorem p0S {ts:List D}{H:List Row}(o:Nat)(a:SV):a0Z ts H (.off o a)=[]:=id rfl
theorem q0j (o:Nat)(a:SV):SOp.turns (.off o a)=false:=id rfl
theorem j0p {P:Program}{ts:List D}{H:List Row}{K:Bool→D→List Row→Prop}(o:Nat)(x:SV):a0S P ts H (.fld1 o x) K=(a0E (fld1 o (x.ev ts)) fun d=>(K false) d H):=id rfl
theorem m0k {ts:List D}{H:List Row}(o:Nat)(x:SV):a0Z ts H (.fld1 o x)=[]:=id rfl
theorem m0N (o:Nat)(x:SV):SOp.turns (.fld1 o x)=false:=id rfl
theorem j0V {P:Program}{ts:List D}{H:List Row}{K:Bool→D→List Row→Prop}(o n:Nat)(x:SV):a0S P ts H (.fldA o n x) K=(a0E (fldA o n (x.ev ts)) fun d=>(K false) d H):=id rfl
theorem n0K {ts:List D}{H:List Row}(o n:Nat)(x:SV):a0Z ts H (.fldA o n x)=[]:=id rfl
theorem m0M (o n:Nat)(x:SV):SOp.turns (.fldA o n x)=false:=id rfl
theorem l0i {P:Program}{ts:List D}{H:List Row}{K:Bool→D→List Row→Prop}(sz:Nat)(x i:SV):a0S P ts H (.idx sz x i) K=(idxS sz (x.ev ts) (i.ev ts) fun d=>(K false) d H):=id rfl
theorem s0U {ts:List D}{H:List Row}(sz:Nat)(x i:SV):a0Z ts H (.idx sz x i)=[]:=id rfl
theorem r0d (sz:Nat)(x i:SV):SOp.turns (.idx sz x i)=false:=id rfl
theorem l0n {P:Program}{ts:List D}{H:List Row}{K:Bool→D→List Row→Prop}(sz n:Nat)(x i:SV):a0S P ts H (.arr sz n x i) K=(arrS sz n (x.ev ts) (i.ev ts) fun d=>(K false) d H):=id rfl
theorem p0d {ts:List D}{H:List Row}(sz n:Nat)(x i:SV):a0Z ts H (.arr sz n x i)=[]:=id rfl
theorem q0G (sz n:Nat)(x i:SV):SOp.turns (.arr sz n x i)=false:=id rfl
theorem n0N {P:Program}{ts:List D}{H:List Row}{K:Bool→D→List Row→Prop}(i:Nat)(x:SV):a0S P ts H (.ext i x) K=(a0E (extD i (x.ev ts)) fun d=>(K false) d H):=id rfl
theorem p0D {ts:List D}{H:List Row}(i:Nat)(x:SV):a0Z ts H (.ext i x)=[]:=id rfl
theorem p0u (i:Nat)(x:SV):SOp.turns (.ext i x)=false:=id rfl
theorem m0U {P:Program}{ts:List D}{H:List Row}{K:Bool→D→List Row→Prop}(op:BinOp)(x y:SV):a0S P ts H (.bin op x y) K=(binS op (x.ev ts) (y.ev ts) fun d=>(K false) d H):=id rfl
theorem p0X {ts:List D}{H:List Row}(op:BinOp)(x y:SV):a0Z ts H (.bin op x y)=[]:=id rfl
theorem q0B (op:BinOp)(x y:SV):SOp.turns (.bin op x y)=false:=id rfl
theorem i0j {P:Program}{ts:List D}{H:List Row}{K:Bool→D→List Row→Prop}(op:BinOp)(x y:SV):a0S P ts H (.binb op x y) K=(p0m op (x.ev ts) (y.ev ts) fun d=>(K false) d H):=id rfl
theorem m0W {ts:List D}{H:List Row}(op:BinOp)(x y:SV):a0Z ts H (.binb op x y)=[]:=id rfl
theorem m0y (op:BinOp)(x y:SV):SOp.turns (.binb op x y)=false:=id rfl
theorem m0P {P:Program}{ts:List D}{H:List Row}{K:Bool→D→List Row→Prop}(eq:Bool)(ks:List Nat)(x y:SV):a0S P ts H (.aeq eq ks x y) K=(aeqS eq ks (x.ev ts) (y.ev ts) fun d=>(K false) d H):=id rfl
theorem p0e {ts:List D}{H:List Row}(eq:Bool)(ks:List Nat)(x y:SV):a0Z ts H (.aeq eq ks x y)=[]:=id rfl
theorem p0h (eq:Bool)(ks:List Nat)(x y:SV):SOp.turns (.aeq eq ks x y)=false:=id rfl
theorem i0F {P:Program}{ts:List D}{H:List Row}{K:Bool→D→List Row→Prop}(x:SV):a0S P ts H (.unot x) K=(a0E (notS (x.ev ts)) fun d=>(K false) d H):=id rfl
theorem m0I {ts:List D}{H:List Row}(x:SV):a0Z ts H (.unot x)=[]:=id rfl
theorem l0x (x:SV):SOp.turns (.unot x)=false:=id rfl
theorem s0o {P:Program}{ts:List D}{H:List Row}{K:Bool→D→List Row→Prop}(f:FuncId)(caps:List SV):a0S P ts H (.fn f caps) K=((K false) (.fn f (caps.map (SV.ev ts))) H):=id rfl
theorem v0Z {ts:List D}{H:List Row}(f:FuncId)(caps:List SV):a0Z ts H (.fn f caps)=[]:=id rfl
theorem x0F (f:FuncId)(caps:List SV):SOp.turns (.fn f caps)=false:=id rfl
theorem h0d {P:Program}{ts:List D}{H:List Row}{K:Bool→D→List Row→Prop}  : a0S P ts H (.mkmap) K=((K false) (.mp H.length) (H++[.map []])):=id rfl
theorem k0i {ts:List D}{H:List Row}  : a0Z ts H (.mkmap)=[]:=id rfl
theorem i0o  : SOp.turns (.mkmap)=false:=id rfl
theorem e0r {P:Program}{ts:List D}{H:List Row}{K:Bool→D→List Row→Prop}(T:TypeId)(sz b:Nat)(z:List F)(l c:SV):a0S P ts H (.mkslice T sz b z l c) K=(a0E (intOf? (l.ev ts)) fun a=>a0E (intOf? (c.ev ts)) fun c=>((0<a∨c=0)∧0≤a∧a≤c∧b*c≤140737488355328∧c.toNat*sz≤16777216)∧(K false) (.sl H.length 0 a.toNat) (H++[.data T ((List.range (a.toNat*sz)).map fun j=>z.getD (j % sz) (.v Go.undef))])):=id rfl
theorem f0k {ts:List D}{H:List Row}(T:TypeId)(sz b:Nat)(z:List F)(l c:SV):a0Z ts H (.mkslice T sz b z l c)=[]:=id rfl
theorem f0l (T:TypeId)(sz b:Nat)(z:List F)(l c:SV):SOp.turns (.mkslice T sz b z l c)=false:=id rfl
theorem n0Q {P:Program}{ts:List D}{H:List Row}{K:Bool→D→List Row→Prop}(z:List D)(parts:List (Nat × Nat × SV)):a0S P ts H (.bld z parts) K=(a0E (e0l z (parts.map fun p=>(p.1,p.2.1,p.2.2.ev ts))) fun ds=>(K false) (.ag ds) H):=id rfl
theorem q0Z {ts:List D}{H:List Row}(z:List D)(parts:List (Nat × Nat × SV)):a0Z ts H (.bld z parts)=[]:=id rfl
theorem q0d (z:List D)(parts:List (Nat × Nat × SV)):SOp.turns (.bld z parts)=false:=id rfl
theorem l0Q {P:Program}{ts:List D}{H:List Row}{K:Bool→D→List Row→Prop}(T:TypeId)(sz len:Nat)(z:List D)(parts:List (Nat × SV)):a0S P ts H (.bsl T sz len z parts) K=(a0E (e0l z (parts.map fun p=>(p.1,sz,p.2.ev ts))) fun ds=>a0E (a0V P H ds) fun xu=>(K true) (.sl H.length 0 len) (a0B H xu.2++[.data T xu.1])):=id rfl
theorem q0a {ts:List D}{H:List Row}(T:TypeId)(sz len:Nat)(z:List D)(parts:List (Nat × SV)):a0Z ts H (.bsl T sz len z parts)=dedN (b0h ((parts.map fun p=>p.2).map (SV.ev ts))):=id rfl
theorem r0b (T:TypeId)(sz len:Nat)(z:List D)(parts:List (Nat × SV)):SOp.turns (.bsl T sz len z parts)=true:=id rfl
theorem m0g {P:Program}{ts:List D}{H:List Row}{K:Bool→D→List Row→Prop}(T:TypeId)(sz b:Nat)(s x:SV):a0S P ts H (.app T sz b s x) K=(appS H T sz b (s.ev ts) (x.ev ts) (K true)):=id rfl
theorem p0p {ts:List D}{H:List Row}(T:TypeId)(sz b:Nat)(s x:SV):a0Z ts H (.app T sz b s x)=dedN (b0h ([s.ev ts,x.ev ts])):=id rfl
theorem r0M (T:TypeId)(sz b:Nat)(s x:SV):SOp.turns (.app T sz b s x)=true:=id rfl
theorem k0l {P:Program}{ts:List D}{H:List Row}{K:Bool→D→List Row→Prop}(x:SV):a0S P ts H (.slen x) K=(a0E (slcS (x.ev ts)) fun n=>(K false) (D.int n) H):=id rfl
theorem m0i {ts:List D}{H:List Row}(x:SV):a0Z ts H (.slen x)=[]:=id rfl
theorem m0t (x:SV):SOp.turns (.slen x)=false:=id rfl
theorem i0N {P:Program}{ts:List D}{H:List Row}{K:Bool→D→List Row→Prop}(x:SV):a0S P ts H (.mlen x) K=(a0E (g0S H (x.ev ts)) fun es=>(K false) (D.int es.length) H):=id rfl
theorem m0C {ts:List D}{H:List Row}(x:SV):a0Z ts H (.mlen x)=dedN (b0h ([x.ev ts])):=id rfl
theorem l0c (x:SV):SOp.turns (.mlen x)=false:=id rfl
theorem j0Z {P:Program}{ts:List D}{H:List Row}{K:Bool→D→List Row→Prop}(k:IntKind)(x:SV):a0S P ts H (.conv k x) K=(a0E (b1z k (x.ev ts)) fun d=>(K false) d H):=id rfl
theorem m0T {ts:List D}{H:List Row}(k:IntKind)(x:SV):a0Z ts H (.conv k x)=[]:=id rfl
theorem l0U (k:IntKind)(x:SV):SOp.turns (.conv k x)=false:=id rfl
theorem n0G {P:Program}{ts:List D}{H:List Row}{K:Bool→D→List Row→Prop}(x:SV):a0S P ts H (.s2b x) K=(a0E (strOf? (x.ev ts)) fun s=>s.size≤most∧(K false) (.f (.s (s.data.toList.map fun b=>.v (.int .u8 b.toNat)) s.size)) H):=id rfl
theorem q0o {ts:List D}{H:List Row}(x:SV):a0Z ts H (.s2b x)=[]:=id rfl
theorem r0x (x:SV):SOp.turns (.s2b x)=false:=id rfl
theorem n0k {P:Program}{ts:List D}{H:List Row}{K:Bool→D→List Row→Prop}(x:SV):a0S P ts H (.b2s x) K=(a0E (b0b H 1 (x.ev ts)) fun p=>a0E (bytesOf? (p.2.map .f)) fun l=>p.2.length=p.1∧(K false) (.f (.v (.string ⟨l.toArray⟩))) H):=id rfl
theorem s0s {ts:List D}{H:List Row}(x:SV):a0Z ts H (.b2s x)=dedN (b0h ([x.ev ts])):=id rfl
theorem o0z (x:SV):SOp.turns (.b2s x)=false:=id rfl
theorem f0Z {P:Program}{ts:List D}{H:List Row}{K:Bool→D→List Row→Prop}(x:SV):a0S P ts H (.strlen x) K=(a0E (strOf? (x.ev ts)) fun s=>(K false) (D.int s.size) H):=id rfl
theorem h0X {ts:List D}{H:List Row}(x:SV):a0Z ts H (.strlen x)=[]:=id rfl
theorem h0m (x:SV):SOp.turns (.strlen x)=false:=id rfl
theorem j0I {P:Program}{ts:List D}{H:List Row}{K:Bool→D→List Row→Prop}(sz n:Nat)(x i:SV):a0S P ts H (.aidx sz n x i) K=(z0C sz n (x.ev ts) (i.ev ts) fun d=>(K false) d H):=id rfl
theorem l0P {ts:List D}{H:List Row}(sz n:Nat)(x i:SV):a0Z ts H (.aidx sz n x i)=[]:=id rfl
theorem m0e (sz n:Nat)(x i:SV):SOp.turns (.aidx sz n x i)=false:=id rfl
theorem j0x {P:Program}{ts:List D}{H:List Row}{K:Bool→D→List Row→Prop}(x i:SV):a0S P ts H (.sidx x i) K=(a0E (strOf? (x.ev ts)) fun s=>a0E (intOf? (i.ev ts)) fun i=>a0E (if 0≤i then s.data.toList[i.toNat]? else none) fun b=>(K false) (.f (.v (.int .u8 b.toNat))) H):=id rfl
theorem m0h {ts:List D}{H:List Row}(x i:SV):a0Z ts H (.sidx x i)=[]:=id rfl
theorem l0y (x i:SV):SOp.turns (.sidx x i)=false:=id rfl
theorem j0J {P:Program}{ts:List D}{H:List Row}{K:Bool→D→List Row→Prop}(x:SV)(lo hi:Option SV):a0S P ts H (.ssub x lo hi) K=(a0E (a1d (x.ev ts) (lo.map (SV.ev ts)) (hi.map (SV.ev ts))) fun d=>(K false) d H):=id rfl
theorem l0p {ts:List D}{H:List Row}(x:SV)(lo hi:Option SV):a0Z ts H (.ssub x lo hi)=[]:=id rfl
theorem l0a (x:SV)(lo hi:Option SV):SOp.turns (.ssub x lo hi)=false:=id rfl
theorem j0g {P:Program}{ts:List D}{H:List Row}{K:Bool→D→List Row→Prop}(ok:Bool)(K0:TypeId)(z:D)(m k:SV):a0S P ts H (.look ok K0 z m k) K=(a0E (t0A P H ok K0 z (m.ev ts) (k.ev ts)) fun d=>(K false) d H):=id rfl
theorem l0W {ts:List D}{H:List Row}(ok:Bool)(K0:TypeId)(z:D)(m k:SV):a0Z ts H (.look ok K0 z m k)=dedN (b0h ([m.ev ts,k.ev ts])):=id rfl
theorem m0j (ok:Bool)(K0:TypeId)(z:D)(m k:SV):SOp.turns (.look ok K0 z m k)=false:=id rfl
theorem i0a {P:Program}{ts:List D}{H:List Row}{K:Bool→D→List Row→Prop}(K0:TypeId)(m k x:SV):a0S P ts H (.mput K0 m k x) K=(a0E (q0U P H K0 (m.ev ts) (k.ev ts) (x.ev ts)) fun H'=>(K true) D.undef H'):=id rfl
theorem l0r {ts:List D}{H:List Row}(K0:TypeId)(m k x:SV):a0Z ts H (.mput K0 m k x)=dedN (b0h ([m.ev ts,k.ev ts,x.ev ts])):=id rfl
theorem m0Z (K0:TypeId)(m k x:SV):SOp.turns (.mput K0 m k x)=true:=id rfl
theorem k0P {P:Program}{ts:List D}{H:List Row}{K:Bool→D→List Row→Prop}(K0:TypeId)(m k:SV):a0S P ts H (.mdel K0 m k) K=(a0E (a1f P H K0 (m.ev ts) (k.ev ts)) fun H'=>(K true) (.tp []) H'):=id rfl
theorem n0H {ts:List D}{H:List Row}(K0:TypeId)(m k:SV):a0Z ts H (.mdel K0 m k)=dedN (b0h ([m.ev ts,k.ev ts])):=id rfl
theorem n0m (K0:TypeId)(m k:SV):SOp.turns (.mdel K0 m k)=true:=id rfl
theorem m0x {P:Program}{ts:List D}{H:List Row}{K:Bool→D→List Row→Prop}(T:TypeId)(x:SV):a0S P ts H (.clr T x) K=(a0E (h0B P H T (x.ev ts)) fun H'=>(K true) (.tp []) H'):=id rfl
theorem s0g {ts:List D}{H:List Row}(T:TypeId)(x:SV):a0Z ts H (.clr T x)=dedN (b0h ([x.ev ts])):=id rfl
theorem s0j (T:TypeId)(x:SV):SOp.turns (.clr T x)=true:=id rfl
theorem p0r {P:Program}{ts:List D}{H:List Row}{K:Bool→D→List Row→Prop}(mx:Bool)(x y:SV):a0S P ts H (.mm mx x y) K=(a0E (intOf? (x.ev ts)) fun a=>a0E (intOf? (y.ev ts)) fun b=>(K false) (D.int (if mx then max a b else min a b)) H):=id rfl
theorem x0T {ts:List D}{H:List Row}(mx:Bool)(x y:SV):a0Z ts H (.mm mx x y)=[]:=id rfl
theorem v0m (mx:Bool)(x y:SV):SOp.turns (.mm mx x y)=false:=id rfl
theorem j0A {P:Program}{ts:List D}{H:List Row}{K:Bool→D→List Row→Prop}(f:SV)(args:List SV):a0S P ts H (.call f args) K=a0m P (f.ev ts) (args.map (SV.ev ts)) H K:=id rfl
theorem l0g {ts:List D}{H:List Row}(f:SV)(args:List SV):a0Z ts H (.call f args)=dedN (lvl H (lvl H (lvl H (b0h (args.map (SV.ev ts))++(f.ev ts).refs)))):=id rfl
theorem n0C (f:SV)(args:List SV):SOp.turns (.call f args)=true:=id rfl
theorem i0U {P:Program}{ts:List D}{H:List Row}{K:Bool→D→List Row→Prop}(sz:Nat)(E:TypeId)(x:SV):a0S P ts H (.sub sz E x none none none) K=(a0E (slcS (x.ev ts)) fun n=>(0≤(0:Int)∧(0:Int)≤n∧(n:Int)≤n)∧a0E (subS H sz E (x.ev ts) (0:Int).toNat (n:Int).toNat) fun d=>(K false) d H):=id rfl
theorem l0q {ts:List D}{H:List Row}(sz:Nat)(E:TypeId)(x:SV):a0Z ts H (.sub sz E x none none none)=dedN (b0h ([x.ev ts])):=id rfl
theorem l0j (sz:Nat)(E:TypeId)(x:SV):SOp.turns (.sub sz E x none none none)=false:=id rfl
theorem i0m {P:Program}{ts:List D}{H:List Row}{K:Bool→D→List Row→Prop}(sz:Nat)(E:TypeId)(x l:SV):a0S P ts H (.sub sz E x (some l) none none) K=(a0E (slcS (x.ev ts)) fun n=>a0E (intOf? (l.ev ts)) fun l=>(0≤l∧l≤n∧(n:Int)≤n)∧a0E (subS H sz E (x.ev ts) l.toNat (n:Int).toNat) fun d=>(K false) d H):=id rfl
theorem n0Z {ts:List D}{H:List Row}(sz:Nat)(E:TypeId)(x l:SV):a0Z ts H (.sub sz E x (some l) none none)=dedN (b0h ([x.ev ts,l.ev ts])):=id rfl
theorem m0J (sz:Nat)(E:TypeId)(x l:SV):SOp.turns (.sub sz E x (some l) none none)=false:=id rfl
theorem k0C {P:Program}{ts:List D}{H:List Row}{K:Bool→D→List Row→Prop}(sz:Nat)(E:TypeId)(x h:SV):a0S P ts H (.sub sz E x none (some h) none) K=(a0E (slcS (x.ev ts)) fun n=>a0E (intOf? (h.ev ts)) fun h=>(0≤(0:Int)∧0≤h∧h≤n)∧a0E (subS H sz E (x.ev ts) (0:Int).toNat h.toNat) fun d=>(K false) d H):=id rfl
theorem m0V {ts:List D}{H:List Row}(sz:Nat)(E:TypeId)(x h:SV):a0Z ts H (.sub sz E x none (some h) none)=dedN (b0h ([x.ev ts,h.ev ts])):=id rfl
theorem m0r (sz:Nat)(E:TypeId)(x h:SV):SOp.turns (.sub sz E x none (some h) none)=false:=id rfl
theorem g0w {P:Program}{ts:List D}{H:List Row}{K:Bool→D→List Row→Prop}(sz:Nat)(E:TypeId)(x l h:SV):a0S P ts H (.sub sz E x (some l) (some h) none) K=(a0E (slcS (x.ev ts)) fun n=>a0E (intOf? (l.ev ts)) fun l=>a0E (intOf? (h.ev ts)) fun h=>(0≤l∧l≤h∧h≤n)∧a0E (subS H sz E (x.ev ts) l.toNat h.toNat) fun d=>(K false) d H):=id rfl
theorem j0K {ts:List D}{H:List Row}(sz:Nat)(E:TypeId)(x l h:SV):a0Z ts H (.sub sz E x (some l) (some h) none)=dedN (b0h ([x.ev ts,l.ev ts,h.ev ts])):=id rfl
theorem k0N (sz:Nat)(E:TypeId)(x l h:SV):SOp.turns (.sub sz E x (some l) (some h) none)=false:=id rfl
theorem i0c {P:Program}{ts:List D}{H:List Row}{K:Bool→D→List Row→Prop}(sz:Nat)(E:TypeId)(x l h m:SV):a0S P ts H (.sub sz E x (some l) (some h) (some m)) K=(a0E (slcS (x.ev ts)) fun n=>a0E (intOf? (l.ev ts)) fun l=>a0E (intOf? (h.ev ts)) fun h=>(0≤l∧l≤h∧h≤n)∧(intOf? (m.ev ts)=some l∧l=h∧(some h).isSome=true)∧(K false) (mxS (x.ev ts)) H):=id rfl
theorem n0h {ts:List D}{H:List Row}(sz:Nat)(E:TypeId)(x l h m:SV):a0Z ts H (.sub sz E x (some l) (some h) (some m))=dedN (b0h ([x.ev ts,l.ev ts,h.ev ts,m.ev ts])):=id rfl
theorem l0u (sz:Nat)(E:TypeId)(x l h m:SV):SOp.turns (.sub sz E x (some l) (some h) (some m))=false:=id rfl
theorem h0V {P:Program}{ts:List D}{H:List Row}{K:Bool→D→List Row→Prop}(sz:Nat)(E:TypeId)(x h m:SV):a0S P ts H (.sub sz E x none (some h) (some m)) K=(a0E (slcS (x.ev ts)) fun n=>a0E (intOf? (h.ev ts)) fun h=>(0≤(0:Int)∧0≤h∧h≤n)∧(intOf? (m.ev ts)=some 0∧(0:Int)=h∧(some h).isSome=true)∧(K false) (mxS (x.ev ts)) H):=id rfl
theorem i0n {ts:List D}{H:List Row}(sz:Nat)(E:TypeId)(x h m:SV):a0Z ts H (.sub sz E x none (some h) (some m))=dedN (b0h ([x.ev ts,h.ev ts,m.ev ts])):=id rfl
theorem j0b (sz:Nat)(E:TypeId)(x h m:SV):SOp.turns (.sub sz E x none (some h) (some m))=false:=id rfl
def hasB:List Nat→Nat→Bool
 | [],_=>false
 | x :: xs,i=>if x=i then true else hasB xs i
theorem t0g:∀ (V:List Nat) (i:Nat),hasB V i=V.contains i
 | [],_=>rfl
 | x :: xs,i=>by
  simp only [hasB,List.contains_cons,t0g xs i]
  by_cases h:x=i
  ·simp [h]
  ·simp [h,Ne.symm h]
def msk (V:List Nat):Nat→List Row→List Row
 | _,[]=>[]
 | i,r :: H=>(if hasB V i=true then r else .dead) :: msk V (i+1) H
theorem e1z (V:List Nat):∀ (H:List Row) (k:Nat),((H.zipIdx k).map fun p=>if V.contains p.2 then p.1 else .dead)=msk V k H
 | [],_=>rfl
 | r :: H,k=>by
  simp only [List.zipIdx_cons,List.map_cons,msk,t0g]
  rw [e1z V H (k+1)]
theorem s0Y {V:List Nat}{H:List Row}:b0k V H=msk V 0 H:=e1z V H 0
theorem a1m {V:List Nat}{i:Nat}:msk V i []=[]:=id rfl
theorem x0M {V:List Nat}{i:Nat}{r:Row}{H:List Row}:msk V i (r :: H)=(if hasB V i=true then r else .dead) :: msk V (i+1) H:=id rfl
theorem w0j {i:Nat}:hasB [] i=false:=id rfl
theorem s0D {x i:Nat}{xs:List Nat}:hasB (x :: xs) i=if x=i then true else hasB xs i:=id rfl
theorem w0a:dedN []=[]:=id rfl
theorem r0L {x:Nat}{xs:List Nat}:dedN (x :: xs)=if hasB xs x=true then dedN xs else x :: dedN xs:=by rw [t0g];rfl
theorem q0P:b0h []=[]:=id rfl
theorem n0L {d:D}{ds:List D}:b0h (d :: ds)=d.refs++b0h ds:=id rfl
theorem f1Z {x:F}:D.refs (.f x)=[]:=id rfl
theorem z0S {r o n:Nat}:D.refs (.sl r o n)=[r]:=id rfl
theorem c1Y {r o:Nat}:D.refs (.pt r o)=[r]:=id rfl
theorem z0K {r:Nat}:D.refs (.mp r)=[r]:=id rfl
theorem d1G {xs:List F}:D.refs (.rf xs)=[]:=id rfl
theorem q0L:D.refs .junk=[]:=id rfl
theorem o0A (ds:List D):D.refs.go ds=b0h ds:=by
 induction ds with
 | nil=>rfl
 | cons d ds ih=>simp only [D.refs.go,b0h,ih]
theorem z0W {ds:List D}:D.refs (.ag ds)=b0h ds:=by rw [D.refs,o0A]
theorem z0u {ds:List D}:D.refs (.tp ds)=b0h ds:=by rw [D.refs,o0A]
theorem d1I {f:FuncId}{ds:List D}:D.refs (.fn f ds)=b0h ds:=by rw [D.refs,o0A]
theorem c1t {H:List Row}:lvl H []=[]:=id rfl
theorem u0d {H:List Row}{r:Nat}{rs:List Nat}:lvl H (r :: rs)=r :: (e0X H[r]?++lvl H rs):=id rfl
theorem i0f {T:TypeId}{ds:List D}:e0X (some (.box T ds))=b0h ds:=by
 simp only [e0X,Row.refs]
 induction ds with
 | nil=>rfl
 | cons d ds ih=>simp only [List.flatMap_cons,b0h,ih]
theorem g0u {T:TypeId}{xs:List F}:e0X (some (.data T xs))=[]:=id rfl
theorem g0t {T:TypeId}{xs:List F}:e0X (some (.froz T xs))=[]:=id rfl
theorem i0Q {es:List (Value × D)}:e0X (some (.map es))=[]:=id rfl
theorem h0S  : e0X (some (.dead))=[]:=id rfl
theorem f1e {V:List Nat}{n:Nat}{d:D}{H1:List Row}:effS false V n d H1=⟨d,[],H1.drop n⟩:=id rfl
theorem f1h {V:List Nat}{n:Nat}{d:D}{H1:List Row}:effS true V n d H1=⟨d,V.map fun r=>(r,H1.getD r .dead),H1.drop n⟩:=id rfl
theorem c1V {d:D}{u:List (Nat × Row)}{n H:List Row}:(⟨d,u,n⟩:Eff).heap H=a0B H u++n:=id rfl
theorem f0y {H:List Row}{i:Nat}{r:Row}{us:List (Nat × Row)}:a0B H ((i,r) :: us)=a0B (H.set i r) us:=id rfl
theorem f1j {α:Type}{a d:α}{l:List α}:(a :: l).getD 0 d=a:=id rfl
theorem f1E {α:Type}{a d:α}{l:List α}{n:Nat}:(a :: l).getD (n+1) d=l.getD n d:=id rfl
section
variable {P:Program}
theorem c0a {g:FuncId}{caps args args0:List D}{H H0 H1:List Row}{d0:D}{K:Bool→D→List Row→Prop}(h:Con P g args0 H0 fun d H'=>d=d0∧H'=H1)(ι:List Nat)(hb:l0A ι H.length H0 args0=true)(ha:args++caps=args0.map (renE (ren ι H.length)))
  (hr:(ι.map fun r=>H.getD r .dead)=H0.map (renR (ren ι H.length)))
  (hk:K true (renE (ren ι H.length) d0) (b0W (ren ι H.length) ι H1 H++(H1.drop H0.length).map (renR (ren ι H.length)))):a0m P (.fn g caps) args H K:=by
 obtain ⟨g',caps',e,hc⟩:=a0D (K:=fun d H'=>d=renE (ren ι H.length) d0∧H'=b0W (ren ι H.length) ι H1 H++(H1.drop H0.length).map (renR (ren ι H.length))) h ι hb ha hr (fun d H' ⟨h1,h2⟩=>by rw [h1,h2];exact ⟨rfl,rfl⟩)
 injection e with e1 e2
 subst e1;subst e2
 exact ⟨true,g,caps,_,_,rfl,hc,hk⟩
theorem c0o {g:FuncId}{caps args args0:List D}{H H1:List Row}{d0:D}{K:Bool→D→List Row→Prop}(h:Con P g args0 [] fun d H'=>d=d0∧H'=H1)(hv:Vws H (args++caps) args0)(hp:PlainD d0∧∀ row∈H1,n0D row)
  (hk:K false (renE (ren [] H.length) d0) (H++H1.map (renR (ren [] H.length)))):a0m P (.fn g caps) args H K:=by
 obtain ⟨g',caps',e,hc⟩:=a0X (K:=fun d H'=>d=renE (ren [] H.length) d0∧H'=H++H1.map (renR (ren [] H.length))) h hv (fun d H' ⟨h1,h2⟩=>by rw [h1,h2];exact hp) (fun d H' ⟨h1,h2⟩=>by rw [h1,h2];exact ⟨rfl,rfl⟩)
 injection e with e1 e2
 subst e1;subst e2
 exact ⟨false,g,caps,_,_,rfl,hc,hk⟩
end
def u0j (H:List Row)(r off:Nat)(x:F)(o:Option Row):Option (List Row):=match o with
 | some (.box U xs)=>if off+1≤xs.length then some (H.set r (.box U (putL off [.f x] xs))) else none
 | some (.data U xs)=>if off+1≤xs.length then some (H.set r (.data U (xs.set off x))) else none
 | _=>none
theorem n0o {H:List Row}{r off:Nat}{x:F}{U:TypeId}{xs:List D}:u0j H r off x (some (.box U xs))=if off+1≤xs.length then some (H.set r (.box U (putL off [.f x] xs))) else none:=id rfl
theorem k0L {H:List Row}{r off:Nat}{x:F}{U:TypeId}{xs:List F}:u0j H r off x (some (.data U xs))=if off+1≤xs.length then some (H.set r (.data U (xs.set off x))) else none:=id rfl
theorem q0H {P:Program}{H:List Row}{r off:Nat}{x:F}:c0t P H 1 (.pt r off) (.f x)=u0j H r off x H[r]?:=by
 rw [c0N]
 generalize hr:H[r]?=o
 cases o with
 | none=>rfl
 | some row =>
  cases row with
  | data U xs=>rw [n0x hr];rfl
  | box U xs=>simp [c0V,u0j,b0L,D.cells]
  | _=>rfl
theorem w0G {P:Program}{H:List Row}{n r off:Nat}{x:D}:c0t P H (n+2) (.pt r off) x=c0V P H (n+2) r off x H[r]?:=c0N
theorem m0b {P:Program}{H:List Row}{r off a b c:Nat}:c0t P H 1 (.pt r off) (.sl a b c)=c0V P H 1 r off (.sl a b c) H[r]?:=c0N
theorem n0U {P:Program}{H:List Row}{r off a b:Nat}:c0t P H 1 (.pt r off) (.pt a b)=c0V P H 1 r off (.pt a b) H[r]?:=c0N
theorem n0l {P:Program}{H:List Row}{r off a:Nat}:c0t P H 1 (.pt r off) (.mp a)=c0V P H 1 r off (.mp a) H[r]?:=c0N
theorem m0H {P:Program}{H:List Row}{r off:Nat}{a:List F}:c0t P H 1 (.pt r off) (.rf a)=c0V P H 1 r off (.rf a) H[r]?:=c0N
theorem l0d {P:Program}{H:List Row}{r off:Nat}{f:FuncId}{a:List D}:c0t P H 1 (.pt r off) (.fn f a)=c0V P H 1 r off (.fn f a) H[r]?:=c0N
end Go.Proofs.YthjgmldnegaaiaaGreatDoor.Mir
namespace Go.Proofs.YthjgmldnegaaiaaGreatDoor.Mir
open Go Go.RowKit
theorem LD:(((((((type_of% @W_mv∧type_of% @e1p)∧(type_of% @b1R∧type_of% @h1i))∧((type_of% @b1l∧type_of% @b1L)∧(type_of% @a1G∧(type_of% @f1c∧type_of% @i1J))))∧(((type_of% @e1x∧type_of% @f1U)∧(type_of% @h1p∧type_of% @i1N))∧((type_of% @h1S∧type_of% @i1D)∧(type_of% @e1j∧(type_of% @i1E∧type_of% @f1k)))))∧((((type_of% @e1s∧type_of% @W_fn)∧(type_of% @b1v∧type_of% @p0o))∧((type_of% @i1K∧type_of% @h1n)∧(type_of% @i1Q∧(type_of% @e1m∧type_of% @f1f))))∧(((type_of% @f1d∧type_of% @h1w)∧(type_of% @h1z∧type_of% @x0K))∧((type_of% @e1g∧type_of% @e1v)∧(type_of% @e1t∧(type_of% @f1T∧type_of% @f1D))))))∧(((((type_of% @f1W∧type_of% @h1o)∧(type_of% @W_mm∧type_of% @f1L))∧((type_of% @f1G∧type_of% @f1b)∧(type_of% @e1f∧(type_of% @c1L∧type_of% @f1P))))∧(((type_of% @c1B∧type_of% @v0W)∧(type_of% @w0L∧type_of% @b1e))∧((type_of% @x0J∧type_of% @z0N)∧(type_of% @v0s∧(type_of% @x0d∧type_of% @x0c)))))∧((((type_of% @a1Z∧type_of% @v0E)∧(type_of% @v0f∧type_of% @v0H))∧((type_of% @w0E∧type_of% @x0G)∧(type_of% @x0C∧(type_of% @w0p∧type_of% @w0F))))∧(((type_of% @w0t∧type_of% @v0C)∧(type_of% @x0l∧type_of% @v0k))∧((type_of% @v0g∧type_of% @u0z)∧(type_of% @u0b∧(type_of% @w0U∧type_of% @w0s)))))))∧((((((type_of% @w0i∧type_of% @x0I)∧(type_of% @p0G∧type_of% @r0q))∧((type_of% @b1i∧type_of% @f1N)∧(type_of% @a1o∧(type_of% @c1j∧type_of% @z0J))))∧(((type_of% @a1w∧type_of% @v0c)∧(type_of% @v0R∧type_of% @u0u))∧((type_of% @w0n∧type_of% @v0r)∧(type_of% @x0W∧(type_of% @x0H∧type_of% @v0w)))))∧((((type_of% @f1X∧type_of% @z0i)∧(type_of% @s0H∧type_of% @b1w))∧((type_of% @z0r∧type_of% @s0Z)∧(type_of% @k0e∧(type_of% @h0i∧type_of% @l0b))))∧(((type_of% @h0A∧type_of% @h0g)∧(type_of% @h0c∧type_of% @k0o))∧((type_of% @l0Z∧type_of% @j0p)∧(type_of% @j0V∧(type_of% @l0i∧type_of% @l0n))))))∧(((((type_of% @n0N∧type_of% @m0U)∧(type_of% @i0j∧type_of% @m0P))∧((type_of% @i0F∧type_of% @s0o)∧(type_of% @h0d∧(type_of% @e0r∧type_of% @n0Q))))∧(((type_of% @l0Q∧type_of% @m0g)∧(type_of% @k0l∧type_of% @i0N))∧((type_of% @j0Z∧type_of% @n0G)∧(type_of% @n0k∧(type_of% @f0Z∧type_of% @j0I)))))∧((((type_of% @j0x∧type_of% @j0J)∧(type_of% @j0g∧type_of% @i0a))∧((type_of% @k0P∧type_of% @m0x)∧(type_of% @p0r∧(type_of% @j0A∧type_of% @i0U))))∧(((type_of% @i0m∧type_of% @k0C)∧(type_of% @g0w∧(type_of% @i0c∧type_of% @h0V)))∧((type_of% @c0r∧type_of% @b0z)∧(type_of% @c0f∧(type_of% @w0d∧type_of% @s0W)))))))):=(.intro (.intro (.intro (.intro (.intro (.intro (.intro @W_mv @e1p) (.intro @b1R @h1i)) (.intro (.intro @b1l @b1L) (.intro @a1G (.intro @f1c @i1J)))) (.intro (.intro (.intro @e1x @f1U) (.intro @h1p @i1N)) (.intro (.intro @h1S @i1D) (.intro @e1j (.intro @i1E @f1k))))) (.intro (.intro (.intro (.intro @e1s @W_fn) (.intro @b1v @p0o)) (.intro (.intro @i1K @h1n) (.intro @i1Q (.intro @e1m @f1f)))) (.intro (.intro (.intro @f1d @h1w) (.intro @h1z @x0K)) (.intro (.intro @e1g @e1v) (.intro @e1t (.intro @f1T @f1D)))))) (.intro (.intro (.intro (.intro (.intro @f1W @h1o) (.intro @W_mm @f1L)) (.intro (.intro @f1G @f1b) (.intro @e1f (.intro @c1L @f1P)))) (.intro (.intro (.intro @c1B @v0W) (.intro @w0L @b1e)) (.intro (.intro @x0J @z0N) (.intro @v0s (.intro @x0d @x0c))))) (.intro (.intro (.intro (.intro @a1Z @v0E) (.intro @v0f @v0H)) (.intro (.intro @w0E @x0G) (.intro @x0C (.intro @w0p @w0F)))) (.intro (.intro (.intro @w0t @v0C) (.intro @x0l @v0k)) (.intro (.intro @v0g @u0z) (.intro @u0b (.intro @w0U @w0s))))))) (.intro (.intro (.intro (.intro (.intro (.intro @w0i @x0I) (.intro @p0G @r0q)) (.intro (.intro @b1i @f1N) (.intro @a1o (.intro @c1j @z0J)))) (.intro (.intro (.intro @a1w @v0c) (.intro @v0R @u0u)) (.intro (.intro @w0n @v0r) (.intro @x0W (.intro @x0H @v0w))))) (.intro (.intro (.intro (.intro @f1X @z0i) (.intro @s0H @b1w)) (.intro (.intro @z0r @s0Z) (.intro @k0e (.intro @h0i @l0b)))) (.intro (.intro (.intro @h0A @h0g) (.intro @h0c @k0o)) (.intro (.intro @l0Z @j0p) (.intro @j0V (.intro @l0i @l0n)))))) (.intro (.intro (.intro (.intro (.intro @n0N @m0U) (.intro @i0j @m0P)) (.intro (.intro @i0F @s0o) (.intro @h0d (.intro @e0r @n0Q)))) (.intro (.intro (.intro @l0Q @m0g) (.intro @k0l @i0N)) (.intro (.intro @j0Z @n0G) (.intro @n0k (.intro @f0Z @j0I))))) (.intro (.intro (.intro (.intro @j0x @j0J) (.intro @j0g @i0a)) (.intro (.intro @k0P @m0x) (.intro @p0r (.intro @j0A @i0U)))) (.intro (.intro (.intro @i0m @k0C) (.intro @g0w (.intro @i0c @h0V))) (.intro (.intro @c0r @b0z) (.intro @c0f (.intro @w0d @s0W))))))))
theorem LU:(((((((type_of% @ev_t∧(type_of% @ev_c∧type_of% @f1a))∧((type_of% @v0x∧type_of% @z0X)∧(type_of% @d1H∧type_of% @q0s)))∧(((type_of% @w0C∧type_of% @a1v)∧(type_of% @q0p∧type_of% @x0S))∧((type_of% @a1U∧type_of% @p0J)∧(type_of% @v0a∧type_of% @c1r))))∧((((type_of% @r0K∧type_of% @w0R)∧(type_of% @a1E∧type_of% @q0g))∧((type_of% @v0u∧type_of% @c1D)∧(type_of% @q0W∧type_of% @w0T)))∧(((type_of% @u0p∧type_of% @v0v)∧(type_of% @n0R∧type_of% @j0o))∧((type_of% @k0R∧type_of% @w0l)∧(type_of% @n0B∧type_of% @j0H)))))∧((((type_of% @j0d∧(type_of% @z0x∧type_of% @b1V))∧((type_of% @b1S∧type_of% @c1E)∧(type_of% @w0P∧type_of% @x0O)))∧(((type_of% @w0o∧type_of% @z0z)∧(type_of% @m0O∧type_of% @n0x))∧((type_of% @s0J∧type_of% @m0f)∧(type_of% @p0z∧type_of% @u0v))))∧((((type_of% @c1o∧type_of% @c1N)∧(type_of% @e1o∧type_of% @b1D))∧((type_of% @z0L∧type_of% @c1d)∧(type_of% @b1q∧type_of% @e1y)))∧(((type_of% @f1Q∧type_of% @w0Q)∧(type_of% @f1M∧type_of% @z0a))∧((type_of% @s0L∧type_of% @p0c)∧(type_of% @q0m∧type_of% @a1Q))))))∧(((((type_of% @v0d∧(type_of% @v0t∧type_of% @x0B))∧((type_of% @v0l∧type_of% @a1p)∧(type_of% @p0K∧type_of% @q0Y)))∧(((type_of% @p0l∧type_of% @e1w)∧(type_of% @v0h∧type_of% @c1f))∧((type_of% @i1S∧type_of% @i1C)∧(type_of% @e1q∧type_of% @r0G))))∧((((type_of% @m0u∧type_of% @l0Y)∧(type_of% @v0P∧type_of% @r0w))∧((type_of% @h0Q∧type_of% @f1K)∧(type_of% @b1H∧type_of% @n0j)))∧(((type_of% @u0n∧type_of% @u0x)∧(type_of% @s0N∧type_of% @j0O))∧((type_of% @i0u∧type_of% @q0e)∧(type_of% @o0d∧type_of% @r0p)))))∧(((((type_of% @Dint∧type_of% @i1F)∧(type_of% @Dv∧type_of% @f1R))∧((type_of% @b1X∧type_of% @e1h)∧(type_of% @c1h∧type_of% @d1F)))∧(((type_of% @b1r∧type_of% @z0q)∧(type_of% @a1N∧type_of% @z0j))∧((type_of% @b1k∧type_of% @x0P)∧(type_of% @s0m∧type_of% @o0y))))∧((((type_of% @w0f∧type_of% @q0Q)∧(type_of% @j0w∧type_of% @h0F))∧((type_of% @s0i∧type_of% @s0B)∧(type_of% @n0O∧type_of% @w0k)))∧(((type_of% @b1C∧type_of% @d1C)∧(type_of% @z0m∧type_of% @l0T))∧((type_of% @w0h∧type_of% @u0t)∧(type_of% @n0a∧type_of% @m0G)))))))∧((((((type_of% @k0B∧(type_of% @i0K∧type_of% @r0n))∧((type_of% @r0J∧type_of% @j0k)∧(type_of% @k0J∧type_of% @j0N)))∧(((type_of% @j0q∧type_of% @k0O)∧(type_of% @j0C∧type_of% @m0m))∧((type_of% @l0w∧type_of% @p0S)∧(type_of% @q0j∧type_of% @m0k))))∧((((type_of% @m0N∧type_of% @n0K)∧(type_of% @m0M∧type_of% @s0U))∧((type_of% @r0d∧type_of% @p0d)∧(type_of% @q0G∧type_of% @p0D)))∧(((type_of% @p0u∧type_of% @p0X)∧(type_of% @q0B∧type_of% @m0W))∧((type_of% @m0y∧type_of% @p0e)∧(type_of% @p0h∧type_of% @m0I)))))∧(((((type_of% @l0x∧type_of% @v0Z)∧(type_of% @x0F∧type_of% @k0i))∧((type_of% @i0o∧type_of% @f0k)∧(type_of% @f0l∧type_of% @q0Z)))∧(((type_of% @q0d∧type_of% @q0a)∧(type_of% @r0b∧type_of% @p0p))∧((type_of% @r0M∧type_of% @m0i)∧(type_of% @m0t∧type_of% @m0C))))∧((((type_of% @l0c∧type_of% @m0T)∧(type_of% @l0U∧type_of% @q0o))∧((type_of% @r0x∧type_of% @s0s)∧(type_of% @o0z∧type_of% @h0X)))∧(((type_of% @h0m∧type_of% @l0P)∧(type_of% @m0e∧type_of% @m0h))∧((type_of% @l0y∧type_of% @l0p)∧(type_of% @l0a∧type_of% @l0W))))))∧(((((type_of% @m0j∧(type_of% @l0r∧type_of% @m0Z))∧((type_of% @n0H∧type_of% @n0m)∧(type_of% @s0g∧type_of% @s0j)))∧(((type_of% @x0T∧type_of% @v0m)∧(type_of% @l0g∧type_of% @n0C))∧((type_of% @l0q∧type_of% @l0j)∧(type_of% @n0Z∧type_of% @m0J))))∧((((type_of% @m0V∧type_of% @m0r)∧(type_of% @j0K∧type_of% @k0N))∧((type_of% @n0h∧type_of% @l0u)∧(type_of% @i0n∧type_of% @j0b)))∧(((type_of% @s0Y∧type_of% @a1m)∧(type_of% @x0M∧type_of% @w0j))∧((type_of% @s0D∧type_of% @w0a)∧(type_of% @r0L∧type_of% @q0P)))))∧(((((type_of% @n0L∧type_of% @f1Z)∧(type_of% @z0S∧type_of% @c1Y))∧((type_of% @z0K∧type_of% @d1G)∧(type_of% @q0L∧type_of% @z0W)))∧(((type_of% @z0u∧type_of% @d1I)∧(type_of% @c1t∧type_of% @u0d))∧((type_of% @i0f∧type_of% @g0u)∧(type_of% @g0t∧type_of% @i0Q))))∧((((type_of% @h0S∧type_of% @f1e)∧(type_of% @f1h∧type_of% @c1V))∧((type_of% @f0y∧type_of% @f1j)∧(type_of% @f1E∧type_of% @n0o)))∧(((type_of% @k0L∧type_of% @q0H)∧(type_of% @w0G∧type_of% @m0b))∧((type_of% @n0U∧type_of% @n0l)∧(type_of% @m0H∧type_of% @l0d)))))))):=(.intro (.intro (.intro (.intro (.intro (.intro (.intro @ev_t (.intro @ev_c @f1a)) (.intro (.intro @v0x @z0X) (.intro @d1H @q0s))) (.intro (.intro (.intro @w0C @a1v) (.intro @q0p @x0S)) (.intro (.intro @a1U @p0J) (.intro @v0a @c1r)))) (.intro (.intro (.intro (.intro @r0K @w0R) (.intro @a1E @q0g)) (.intro (.intro @v0u @c1D) (.intro @q0W @w0T))) (.intro (.intro (.intro @u0p @v0v) (.intro @n0R @j0o)) (.intro (.intro @k0R @w0l) (.intro @n0B @j0H))))) (.intro (.intro (.intro (.intro @j0d (.intro @z0x @b1V)) (.intro (.intro @b1S @c1E) (.intro @w0P @x0O))) (.intro (.intro (.intro @w0o @z0z) (.intro @m0O @n0x)) (.intro (.intro @s0J @m0f) (.intro @p0z @u0v)))) (.intro (.intro (.intro (.intro @c1o @c1N) (.intro @e1o @b1D)) (.intro (.intro @z0L @c1d) (.intro @b1q @e1y))) (.intro (.intro (.intro @f1Q @w0Q) (.intro @f1M @z0a)) (.intro (.intro @s0L @p0c) (.intro @q0m @a1Q)))))) (.intro (.intro (.intro (.intro (.intro @v0d (.intro @v0t @x0B)) (.intro (.intro @v0l @a1p) (.intro @p0K @q0Y))) (.intro (.intro (.intro @p0l @e1w) (.intro @v0h @c1f)) (.intro (.intro @i1S @i1C) (.intro @e1q @r0G)))) (.intro (.intro (.intro (.intro @m0u @l0Y) (.intro @v0P @r0w)) (.intro (.intro @h0Q @f1K) (.intro @b1H @n0j))) (.intro (.intro (.intro @u0n @u0x) (.intro @s0N @j0O)) (.intro (.intro @i0u @q0e) (.intro @o0d @r0p))))) (.intro (.intro (.intro (.intro (.intro @Dint @i1F) (.intro @Dv @f1R)) (.intro (.intro @b1X @e1h) (.intro @c1h @d1F))) (.intro (.intro (.intro @b1r @z0q) (.intro @a1N @z0j)) (.intro (.intro @b1k @x0P) (.intro @s0m @o0y)))) (.intro (.intro (.intro (.intro @w0f @q0Q) (.intro @j0w @h0F)) (.intro (.intro @s0i @s0B) (.intro @n0O @w0k))) (.intro (.intro (.intro @b1C @d1C) (.intro @z0m @l0T)) (.intro (.intro @w0h @u0t) (.intro @n0a @m0G))))))) (.intro (.intro (.intro (.intro (.intro (.intro @k0B (.intro @i0K @r0n)) (.intro (.intro @r0J @j0k) (.intro @k0J @j0N))) (.intro (.intro (.intro @j0q @k0O) (.intro @j0C @m0m)) (.intro (.intro @l0w @p0S) (.intro @q0j @m0k)))) (.intro (.intro (.intro (.intro @m0N @n0K) (.intro @m0M @s0U)) (.intro (.intro @r0d @p0d) (.intro @q0G @p0D))) (.intro (.intro (.intro @p0u @p0X) (.intro @q0B @m0W)) (.intro (.intro @m0y @p0e) (.intro @p0h @m0I))))) (.intro (.intro (.intro (.intro (.intro @l0x @v0Z) (.intro @x0F @k0i)) (.intro (.intro @i0o @f0k) (.intro @f0l @q0Z))) (.intro (.intro (.intro @q0d @q0a) (.intro @r0b @p0p)) (.intro (.intro @r0M @m0i) (.intro @m0t @m0C)))) (.intro (.intro (.intro (.intro @l0c @m0T) (.intro @l0U @q0o)) (.intro (.intro @r0x @s0s) (.intro @o0z @h0X))) (.intro (.intro (.intro @h0m @l0P) (.intro @m0e @m0h)) (.intro (.intro @l0y @l0p) (.intro @l0a @l0W)))))) (.intro (.intro (.intro (.intro (.intro @m0j (.intro @l0r @m0Z)) (.intro (.intro @n0H @n0m) (.intro @s0g @s0j))) (.intro (.intro (.intro @x0T @v0m) (.intro @l0g @n0C)) (.intro (.intro @l0q @l0j) (.intro @n0Z @m0J)))) (.intro (.intro (.intro (.intro @m0V @m0r) (.intro @j0K @k0N)) (.intro (.intro @n0h @l0u) (.intro @i0n @j0b))) (.intro (.intro (.intro @s0Y @a1m) (.intro @x0M @w0j)) (.intro (.intro @s0D @w0a) (.intro @r0L @q0P))))) (.intro (.intro (.intro (.intro (.intro @n0L @f1Z) (.intro @z0S @c1Y)) (.intro (.intro @z0K @d1G) (.intro @q0L @z0W))) (.intro (.intro (.intro @z0u @d1I) (.intro @c1t @u0d)) (.intro (.intro @i0f @g0u) (.intro @g0t @i0Q)))) (.intro (.intro (.intro (.intro @h0S @f1e) (.intro @f1h @c1V)) (.intro (.intro @f0y @f1j) (.intro @f1E @n0o))) (.intro (.intro (.intro @k0L @q0H) (.intro @w0G @m0b)) (.intro (.intro @n0U @n0l) (.intro @m0H @l0d))))))))
theorem LS:(((((type_of% @a1T∧(type_of% @h1l∧type_of% @h1P))∧(type_of% @i1R∧(type_of% @c0k∧type_of% @b0f)))∧((type_of% @g0n∧(type_of% @s0A∧type_of% @x0Z))∧((type_of% @List.set_cons_succ.{0}∧type_of% @List.set_cons_zero.{0})∧(type_of% @List.getElem?_cons_succ.{0}∧type_of% @List.getElem?_cons_zero.{0}))))∧(((type_of% @List.length_cons.{0}∧(type_of% @List.length_nil.{0}∧type_of% @List.cons_append.{0}))∧((type_of% @List.nil_append.{0}∧type_of% @List.map_cons.{0,0})∧(type_of% @List.map_nil.{0,0}∧type_of% @List.take_succ_cons.{0})))∧((type_of% @List.take_zero.{0}∧(type_of% @List.drop_succ_cons.{0}∧type_of% @List.drop_zero.{0}))∧((type_of% @Option.map_some.{0,0}∧type_of% @Option.map_none.{0,0})∧(type_of% @Nat.add_zero∧type_of% @Nat.zero_add)))))∧((((type_of% @Nat.mul_one∧(type_of% @Int.toNat_natCast∧type_of% @Nat.mul_zero))∧(type_of% @Nat.zero_mul∧(type_of% @true_and∧type_of% @and_true)))∧((type_of% @t0R∧(type_of% @List.getElem?_drop.{0}∧type_of% @List.getElem?_map.{0,0}))∧((type_of% @List.length_map.{0,0}∧type_of% @Int.natCast_nonneg)∧(type_of% @getElem?_some_of∧type_of% @Bool.false_eq_true))))∧(((type_of% @decide_true∧(type_of% @decide_false∧type_of% @Bool.not_true))∧((type_of% @Bool.not_false∧type_of% @and_self)∧(type_of% @eq_self.{0}∧type_of% @false_implies)))∧((type_of% @or_self∧(type_of% @Bool.and_self∧type_of% @false_or))∧((type_of% @or_false∧type_of% @Bool.false_and)∧(type_of% @Bool.true_beq∧type_of% @Bool.false_beq)))))):=(.intro (.intro (.intro (.intro (.intro @a1T (.intro @h1l @h1P)) (.intro @i1R (.intro @c0k @b0f))) (.intro (.intro @g0n (.intro @s0A @x0Z)) (.intro (.intro @List.set_cons_succ.{0} @List.set_cons_zero.{0}) (.intro @List.getElem?_cons_succ.{0} @List.getElem?_cons_zero.{0})))) (.intro (.intro (.intro @List.length_cons.{0} (.intro @List.length_nil.{0} @List.cons_append.{0})) (.intro (.intro @List.nil_append.{0} @List.map_cons.{0,0}) (.intro @List.map_nil.{0,0} @List.take_succ_cons.{0}))) (.intro (.intro @List.take_zero.{0} (.intro @List.drop_succ_cons.{0} @List.drop_zero.{0})) (.intro (.intro @Option.map_some.{0,0} @Option.map_none.{0,0}) (.intro @Nat.add_zero @Nat.zero_add))))) (.intro (.intro (.intro (.intro @Nat.mul_one (.intro @Int.toNat_natCast @Nat.mul_zero)) (.intro @Nat.zero_mul (.intro @true_and @and_true))) (.intro (.intro @t0R (.intro @List.getElem?_drop.{0} @List.getElem?_map.{0,0})) (.intro (.intro @List.length_map.{0,0} @Int.natCast_nonneg) (.intro @getElem?_some_of @Bool.false_eq_true)))) (.intro (.intro (.intro @decide_true (.intro @decide_false @Bool.not_true)) (.intro (.intro @Bool.not_false @and_self) (.intro @eq_self.{0} @false_implies))) (.intro (.intro @or_self (.intro @Bool.and_self @false_or)) (.intro (.intro @or_false @Bool.false_and) (.intro @Bool.true_beq @Bool.false_beq))))))
end Go.Proofs.YthjgmldnegaaiaaGreatDoor.Mir
