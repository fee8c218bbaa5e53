/- Lemmas for the proof. No condition. -/
import Derived.Test.YthjgmldnegaaiaaGreatDoorQt06
set_option linter.unusedVariables false
set_option linter.unusedSimpArgs false
namespace Go.Proofs.YthjgmldnegaaiaaGreatDoor.Mir
open Go Go.RowKit
inductive SR where
 | t (n:Nat)
 | c1 (a:Nat)
 | cA (n a:Nat)
def o0G (P:Program):List ResultVar→Option (List SR)
 | []=>some []
 | .tmp t :: rs=>(o0G P rs).map (.t t :: ·)
 | .cell a T :: rs=>match d0u P T,inf P T,o0G P rs with
  | some false,_,some l=>some (.c1 a :: l)
  | some true,some (n,_,_),some l=>some (.cA n a :: l)
  | _,_,_=>none
def resS (H:List Row)(ts:List D):List SR→Option (List D)
 | []=>some []
 | .t n :: rs=>match resS H ts rs with
  | some ds=>some (ts.getD n D.undef :: ds)
  | none=>none
 | .c1 a :: rs=>match load1 H (ts.getD a D.undef),resS H ts rs with
  | some d,some ds=>some (d :: ds)
  | _,_=>none
 | .cA n a :: rs=>match loadA H n (ts.getD a D.undef),resS H ts rs with
  | some d,some ds=>some (d :: ds)
  | _,_=>none
section
variable {P:Program}
theorem n0l {H:List Row}{ts:List D}:∀ {rs:List ResultVar} {l:List SR} {ds:List D},o0G P rs=some l→resS H ts l=some ds→c0A P H ts rs=some ds
 | [],l,ds,h,k=>by simp [o0G] at h;subst h;exact k
 | .tmp t :: rs,l,ds,h,k=>by
  simp only [o0G,Option.map_eq_some_iff] at h
  obtain ⟨l',h1,rfl⟩:=h
  simp only [resS] at k
  split at k
  ·rename_i ds' h2
   injection k with k
   subst k
   simp only [c0A,n0l h1 h2,Option.map_some]
  ·cases k
 | .cell a T :: rs,l,ds,h,k=>by
  simp only [o0G] at h
  split at h
  ·rename_i l' hT hl
   injection h with h
   subst h
   simp only [resS] at k
   split at k
   ·rename_i d ds' h1 h2
    injection k with k
    subst k
    simp only [c0A,u0e hT h1,n0l hl h2]
   ·cases k
  ·rename_i n b z l' hT hi hl
   injection h with h
   subst h
   simp only [resS] at k
   split at k
   ·rename_i d ds' h1 h2
    injection k with k
    subst k
    simp only [c0A,w0A hT hi h1,n0l hl h2]
   ·cases k
  ·cases h
def e0A:Nat→List Row→List Row
 | 0,H=>H
 | _+1,[]=>[]
 | n+1,_ :: H=>.dead :: e0A n H
theorem j0F:∀ (n:Nat) (H:List Row),(e0A n H).length=H.length
 | 0,_=>rfl
 | _+1,[]=>rfl
 | n+1,_ :: H=>by simp [e0A,j0F n H]
theorem f0O:∀ (n:Nat) (H:List Row) (r:Nat),(e0A n H)[r]?=if r<n then (H[r]?).map fun _=>.dead else H[r]?
 | 0,H,r=>by simp [e0A]
 | n+1,[],r=>by simp [e0A]
 | n+1,x :: H,0=>by simp [e0A]
 | n+1,x :: H,r+1=>by simp [e0A,f0O n H r]
def lowB (n:Nat)(H:List Row):Bool:=H.all fun row=>row.refs.all fun r=>Nat.blt r n
inductive RetS (n0:Nat)(rs:List SR)(Q:D→List Row→Prop)(s:St):Prop
 | gather {ds:List D} {e:Eff}:resS s.H s.ts rs=some ds→gather n0 (one ds) (List.range n0) s.H=some e→Q e.res (a0B (s.H.take n0) e.upd++e.news)→RetS n0 rs Q s
 | still {ds:List D} {d0:D}:resS s.H s.ts rs=some ds→lowB n0 (s.H.take n0)=true→Vw (e0A n0 s.H) (one ds) d0→Q d0 (s.H.take n0)→RetS n0 rs Q s
 | all {ds:List D}:resS s.H s.ts rs=some ds→Q (one ds) s.H→RetS n0 rs Q s
def endS (n0:Nat)(rs:List SR)(Q:D→List Row→Prop):Out→St→Prop
 | .exit _,_=>False
 | .normal,s=>RetS n0 rs Q s
 | .ret,s=>RetS n0 rs Q s
def Fn (P:Program)(f:FuncId)(n:Nat)(rs:List SR)(c:SCode):Prop:=∃ fn k,P.funcs[f]?=some fn∧fn.body=some k∧fn.ntmps=n∧o0G P fn.results.toList=some rs∧a0r P k=c
theorem Fn.of {P:Program}{f:FuncId}{fn:Func}{n:Nat}{rs:List SR}{c:SCode}(h:P.funcs[f]?=some fn)(e:(fn.body.map (a0r P),fn.ntmps,o0G P fn.results.toList)=(some c,n,some rs)):Fn P f n rs c:=by
 obtain ⟨e1,e2,e3⟩:=by simpa only [Prod.mk.injEq] using e
 cases hb:fn.body with
 | none=>rw [hb] at e1;cases e1
 | some k=>rw [hb] at e1;exact ⟨fn,k,h,hb,e2,e3,Option.some.inj e1⟩
theorem HR.takeN {w:World}{φ:Nat→Nat × Nat}{X:Nat→Prop}{H:List Row}(h:HR P w φ X H){n:Nat}(hl:lowB n (H.take n)=true)(hn:n≤H.length):HR P w φ X (H.take n)∧∀ b,Av X φ (H.take n) b→Av X φ H b:=by
 have hlen:(H.take n).length=n:=by simp;omega
 have get:∀ (r:Nat) (row:Row),(H.take n)[r]?=some row→r<n∧H[r]?=some row:=by
  intro r row hr
  rw [List.getElem?_take] at hr
  split at hr
  ·exact ⟨‹_›,hr⟩
  ·cases hr
 have ha:∀ b,Av X φ (H.take n) b→Av X φ H b:=by
  rintro b (hb|⟨r,row,hr,hv,rfl⟩)
  ·exact .inl hb
  ·exact .inr ⟨r,row,(get r row hr).2,hv,rfl⟩
 refine ⟨⟨fun r row hr=>?_,fun r s x y hr hs=>h.apart r s x y (get r x hr).2 (get s y hs).2,fun r row hr=>h.off r row (get r row hr).2,h.old,fun p hp=>(h.gl p hp).thin ha⟩,ha⟩
 obtain ⟨h1,h2⟩:=get r row hr
 rw [hlen]
 refine (h.rows r row h2).lower (S:=(· < n)) rfl (fun r hr=>⟨rfl,hr⟩) ha (c0F fun q hq=>?_)
 have h3:=List.all_eq_true.1 hl row (List.mem_of_getElem? hr)
 have h4:=List.all_eq_true.1 h3 q hq
 simpa using h4
theorem e1E {w w':World}{φ φ':Nat→Nat × Nat}{X:Nat→Prop}{H:List Row}{s:St}{a:Act}{fn:Func}{rs:List SR}(hrs:o0G P fn.results.toList=some rs){Q:D→List Row→Prop}(hq:RetS H.length rs Q s)(hr:RunW P X w φ H w' φ' s a) :
  a.defers=[]∧∃ v,(results fn a.tmps).run P w' = .ok v w'∧∃ v' d H',Ending.returned v = .returned v'∧Q d H'∧LeavesW P w φ X H v' w' d H':=by
 refine ⟨hr.sim.defers,?_⟩
 have hone:∀ ds,resS s.H s.ts rs=some ds→∃ v,(results fn a.tmps).run P w' = .ok v w'∧R P w' φ' (Av X φ' s.H) s.H.length (one ds) v:=by
  intro ds hds
  obtain ⟨us,h1,h2⟩:=e0S hr.sim.heap hr.sim.tmps _ _ (n0l hrs hds)
  refine ⟨if h:us.toArray.size=1 then us.toArray[0] else .tuple us.toArray,?_,?_⟩
  ·unfold results
   rw [Array.mapM_eq_mapM_toList]
   simp at h1
   simp
   exact congrArg (fun r:Result (List Value)=>r.andThen fun a w'=>Result.ok (if h:a.length=1 then a[0] else Value.tuple a.toArray) w') h1
  ·match ds,us,h2 with
   | [],[],_=>exact .tp rfl (fun i d u hd=>by simp at hd)
   | [d],[u],h2=>exact h2.2 0 d u (by simp) (by simp)
   | d :: d2 :: ds,u :: u2 :: us,h2=>exact .tp (by have:=h2.1;simpa using this) (fun i d' u' hd hu=>h2.2 i d' u' hd (by simpa using hu))
   | [],_ :: _,h2=>have:=h2.1;simp at this
   | _ :: _,[],h2=>have:=h2.1;simp at this
   | [_],_ :: _ :: _,h2=>have:=h2.1;simp at this
   | _ :: _ :: _,[_],h2=>have:=h2.1;simp at this
 have hlt:(s.H.take H.length).length=H.length:=by rw [List.length_take];have:=hr.ons.len;omega
 cases hq with
 | gather hds hg hq =>
  obtain ⟨v,h3,h4⟩:=hone _ hds
  obtain ⟨ψ,k1,k2,k3,k4,_⟩:=d0c hr.sim.heap hr.ons.len hlt h4 (fun r row hr hnd hrow=>absurd (List.mem_range.2 hr) hnd) hg
  exact ⟨v,h3,v,_,_,rfl,hq,ψ,⟨by simp [a0F,hlt],fun r hr'=>(k1 r hr').trans (hr.ons.same r hr'),hr.ons.keep,fun b hb=>hr.ons.fresh b (k4 b hb)⟩,k2,k3⟩
 | all hds hq =>
  obtain ⟨v,h3,h4⟩:=hone _ hds
  exact ⟨v,h3,v,_,_,rfl,hq,φ',hr.ons,hr.sim.heap,h4⟩
 | still hds hlow hv hq =>
  rename_i ds d0
  obtain ⟨v,h3,h4⟩:=hone _ hds
  obtain ⟨t1,t2⟩:=hr.sim.heap.takeN hlow hr.ons.len
  refine ⟨v,h3,v,d0,_,rfl,hq,φ',⟨by rw [hlt];exact Nat.le_refl _,hr.ons.same,hr.ons.keep,fun b hb=>hr.ons.fresh b ?_⟩,t1,?_⟩
  ·obtain ⟨r,row,hx,hl,rfl⟩:=hb
   rw [List.getElem?_take] at hx
   split at hx
   ·exact ⟨r,row,hx,hl,rfl⟩
   ·cases hx
  ·
   have hM:HR P w' φ' (Rest X φ' s.H (e0A H.length s.H)) (e0A H.length s.H):=by
    refine hr.sim.heap.part (S:=fun r=>r<s.H.length) (fun r h=>by rw [j0F];exact h) (fun x row hx=>?_)
    rw [f0O] at hx
    split at hx
    ·rw [Option.map_eq_some_iff] at hx
     obtain ⟨_,_,rfl⟩:=hx
     exact .inl rfl
    ·exact .inr ⟨hx,(hr.sim.heap.rows x row hx).isLow⟩
   have hA:∀ b,Av X φ' (s.H.take H.length) b→Rest X φ' s.H (e0A H.length s.H) b:=by
    rintro b (hb|⟨r,row,hx,hl,rfl⟩)
    ·exact .inl hb
    ·rw [List.getElem?_take] at hx
     split at hx
     ·rename_i hlt'
      refine .inr ⟨r,row,hx,hl,?_,rfl⟩
      rw [f0O,if_pos hlt',hx]
      intro e
      simp at e
      subst e
      simp [Row.live] at hl
     ·cases hx
   have h5:R P w' φ' (Av (Rest X φ' s.H (e0A H.length s.H)) φ' (e0A H.length s.H)) (e0A H.length s.H).length (one ds) v:=by
    rw [j0F]
    refine h4.lower (S:=fun r=>r<s.H.length) (fun r h=>⟨rfl,h⟩) (fun b hb=>?_) h4.isLow
    rcases hb with (hb|⟨x,row,hx,hl,_,rfl⟩)|⟨x,row,hx,hl,rfl⟩
    ·exact .inl hb
    ·exact .inr ⟨x,row,hx,hl,rfl⟩
    ·rw [f0O] at hx
     split at hx
     ·rw [Option.map_eq_some_iff] at hx
      obtain ⟨_,_,rfl⟩:=hx
      simp [Row.live] at hl
     ·exact .inr ⟨x,row,hx,hl,rfl⟩
   have h6:=hv.ok (φ':=φ') hM hA v h5
   exact h6.upper (Nat.zero_le _)
theorem Con.fn (hP:Good P){f:FuncId}{n:Nat}{rs:List SR}{c:SCode}(hf:Fn P f n rs c){args:List D}{H:List Row}{Q:D→List Row→Prop}
  (h:HS P H.length c ⟨args++List.replicate (n-args.length) D.undef,H,[]⟩ (endS H.length rs Q)):Con P f args H Q:=by
 obtain ⟨fn,k,h1,h2,h3,h4,h5⟩:=hf
 subst h3
 refine ⟨⟨fn,h1,by rw [h2];rfl⟩,fun w φ X vs hH hargs=>calls_of_wp h1 h2 ?_⟩
 have hlen:vs.size=args.length:=by have:=hargs.1;simpa using this
 refine h k h5 X w φ H w φ _ _ rfl ⟨⟨hH,?_,rfl⟩,Ons.refl _ _ _ _⟩ ?_
 ·rw [Array.toList_append,Array.toList_replicate,hlen]
  refine hargs.append ⟨by simp,fun i d u hd hu=>?_⟩
  rw [List.getElem?_replicate] at hd hu
  split at hd
  ·rename_i hi
   rw [if_pos hi] at hu
   injection hd with hd;injection hu with hu
   subst hd;subst hu
   exact R.undef
  ·cases hd
 ·intro out s' w' φ' a' hq hr'
  cases out with
  | normal=>exact e1E h4 hq hr'
  | exit i=>exact hq.elim
  | ret=>exact e1E h4 hq hr'
def k0e (ι:List Nat)(N:Nat)(H0:List Row)(args0:List D):Bool :=
 Nat.beq ι.length H0.length&&i0j ι&&(args0.all fun d=>d.refs.all fun r=>Nat.blt r H0.length)&&(H0.all fun row=>row.refs.all fun r=>Nat.blt r H0.length)&&ι.all fun r=>Nat.blt r N
theorem p0i:∀ {l:List Nat},i0j l=true→l.Nodup
 | [],_=>List.nodup_nil
 | x :: xs,h=>by
  simp only [i0j,Bool.and_eq_true,Bool.not_eq_true'] at h
  exact List.nodup_cons.2 ⟨by simpa using h.1,p0i h.2⟩
theorem a0I {g:FuncId}{caps args args0:List D}{H H0:List Row}{Q K:D→List Row→Prop}(h:Con P g args0 H0 Q)(ι:List Nat)(hb:k0e ι H.length H0 args0=true)(ha:args++caps=args0.map (renE (ren ι H.length)))
  (hr:(ι.map fun r=>H.getD r .dead)=H0.map (renR (ren ι H.length)))
  (hk:∀ d0 H0',Q d0 H0'→K (renE (ren ι H.length) d0) (b0a (ren ι H.length) ι H0' H++(H0'.drop H0.length).map (renR (ren ι H.length)))):a0S P (.fn g caps) args H K:=by
 unfold k0e at hb
 simp only [Bool.and_eq_true] at hb
 obtain ⟨⟨⟨⟨b1,b2⟩,b3⟩,b4⟩,b5⟩:=hb
 have e1:ι.length=H0.length:=Nat.eq_of_beq_eq_true b1
 refine ⟨g,caps,rfl,(h.embed e1 (p0i b2) ha (fun d hd=>b0Q fun r hr=>?_) (fun i row hi=>⟨c0F fun r hr=>?_,?_⟩)).mono ?_⟩
 ·have h1:=List.all_eq_true.1 b3 d hd
  have h2:=List.all_eq_true.1 h1 r hr
  simpa using h2
 ·have h1:=List.all_eq_true.1 b4 row (List.mem_of_getElem? hi)
  have h2:=List.all_eq_true.1 h1 r hr
  simpa using h2
 ·have hlt:i<ι.length:=by rw [e1];exact (List.getElem?_eq_some_iff.1 hi).1
  have h1:(ι.map fun r=>H.getD r .dead)[i]?=some (H.getD ι[i] .dead):=by simp [hlt]
  rw [hr,List.getElem?_map,hi] at h1
  have h2:ι[i]<H.length:=by
   have:=List.all_eq_true.1 b5 ι[i] (List.getElem_mem hlt)
   simpa using this
  refine ⟨ι[i],by simp [hlt],?_⟩
  have h3:H.getD ι[i] .dead=H[ι[i]]:=by simp [List.getD,h2]
  rw [h3] at h1
  rw [List.getElem?_eq_getElem h2]
  exact h1.symm
 ·rintro d H' ⟨d0,H0',hq,_,rfl,rfl⟩
  exact hk d0 H0' hq
theorem a0Z {g:FuncId}{caps args args0:List D}{H:List Row}{Q K:D→List Row→Prop}(h:Con P g args0 [] Q)(hv:Vws H (args++caps) args0)(hp:∀ d H',Q d H'→PlainD d∧∀ row∈H',l0u row)
  (hk:∀ d0 H0',Q d0 H0'→K (renE (ren [] H.length) d0) (H++H0'.map (renR (ren [] H.length)))):a0S P (.fn g caps) args H K:=by
 refine ⟨g,caps,rfl,(h.peek hv hp).mono ?_⟩
 rintro d H' ⟨d0,H0',hq,rfl,rfl⟩
 exact hk d0 H0' hq
variable {n0:Nat}{s:St}{Q:Out→St→Prop}
theorem HS.opsK (hP:Good P){l:List SI}(h:∀ K:St→Prop,(∀ s',Q .normal s'→K s')→wpS P l s K):HS P n0 (.ops l) s Q:=HS.ops hP (h _ fun _ h=>h)
theorem HS.condB {c:SV}{x y:SCode}{b:Bool}(hc:c.ev s.ts = .f (.v (.bool b)))(h1:b=true→HS P n0 x s Q)(h0:b=false→HS P n0 y s Q):HS P n0 (.cond c x y) s Q:=HS.cond (by rw [hc];exact ⟨h1,h0⟩)
theorem n0j {next:St→Prop}(h:next s):h0f next Q .normal s:=h
theorem f1a {next:St→Prop}{i:Nat}(h:Q (.exit i) s):h0f next Q (.exit i) s:=h
theorem f1g {next:St→Prop}(h:Q .ret s):h0f next Q .ret s:=h
theorem d1g {id:Nat}(h:Q .normal s):d0K id Q .normal s:=h
theorem e0U {id:Nat}(h:Q .normal s):d0K id Q (.exit id) s:=by rw [f0F,if_pos rfl];exact h
theorem t0t {id i:Nat}(hne:Nat.beq i id=false)(h:Q (.exit i) s):d0K id Q (.exit i) s:=by rw [f0F,if_neg (Nat.ne_of_beq_eq_false hne)];exact h
theorem c1v {id:Nat}(h:Q .ret s):d0K id Q .ret s:=h
theorem h1Q {rs:List SR}{Q:D→List Row→Prop}(h:RetS n0 rs Q s):endS n0 rs Q .ret s:=h
theorem g1o {rs:List SR}{Q:D→List Row→Prop}(h:RetS n0 rs Q s):endS n0 rs Q .normal s:=h
theorem Bsel.mk' {b:Bool}{p q:Prop}(h1:b=true→p)(h2:b=false→q):Bsel b p q:=⟨h1,h2⟩
def Next (n0:Nat)(keep:List Nat){α:Type}(st:α→St)(p:α→Prop)(m:α→Nat)(x:α)(s:St):Prop:=∃ y,k0Q n0 keep s=some (st y)∧p y∧m y<m x
theorem Next.mk {n0:Nat}{keep:List Nat}{α:Type}{st:α→St}{p:α→Prop}{m:α→Nat}{x:α}{s:St}(y:α)(h:k0Q n0 keep s=some (st y))(hp:p y)(hm:m y<m x):Next n0 keep st p m x s:=⟨y,h,hp,hm⟩
theorem HS.loopG {c:SCode}{α:Type}(keep:List Nat)(st:α→St)(p:α→Prop)(m:α→Nat)(x0:α)(hs:k0Q n0 keep s=some (st x0))(h0:p x0)
  (hbody:∀ x,p x→HS P n0 c (st x) (h0f (Next n0 keep st p m x) Q)):HS P n0 (.loop c) s Q:=by
 refine HS.view (View.sweep hs) ?_
 intro k hk
 cases k with
 | loop a =>
  simp only [a0r] at hk
  injection hk with h1
  intro X w0 φ0 H0 w φ a' K hn hr hK
  refine wp_loop_rounds (m x0+1) ?_
  have key:∀ (k:Nat) (x:α) (w:World) (φ:Nat→Nat × Nat) (a':Act),m x≤k→p x→RunW P X w0 φ0 H0 w φ (st x) a'→Code.rounds P a K (k+1) a' w:=by
   intro k
   induction k with
   | zero =>
    intro x w φ a' hm hp hr
    rw [rounds_succ]
    refine hbody x hp a h1 X w0 φ0 H0 w φ a' _ hn hr ?_
    intro out s' w' φ' a' hq hr'
    cases out with
    | normal=>obtain ⟨y,_,_,hlt⟩:=hq;omega
    | exit i=>exact hK _ s' w' φ' a' hq hr'
    | ret=>exact hK _ s' w' φ' a' hq hr'
   | succ k ih =>
    intro x w φ a' hm hp hr
    rw [rounds_succ]
    refine hbody x hp a h1 X w0 φ0 H0 w φ a' _ hn hr ?_
    intro out s' w' φ' a'' hq hr'
    cases out with
    | normal =>
     obtain ⟨y,hsw,hp',hlt⟩:=hq
     obtain ⟨φ2,hr2⟩:=View.sweep hsw X w0 φ0 H0 w' φ' a'' hn hr'
     exact ih y w' φ2 a'' (by omega) hp' hr2
    | exit i=>exact hK _ s' w' φ' a'' hq hr'
    | ret=>exact hK _ s' w' φ' a'' hq hr'
  exact key (m x0) x0 w φ a' (Nat.le_refl _) h0 hr
 | region id ops draw=>cases draw<;>simp only [a0r] at hk<;>first|(split at hk<;>first|cases hk|(split at hk<;>cases hk))|cases hk
 | cond c a b=>simp only [a0r] at hk;split at hk<;>cases hk
 | _=>simp [a0r] at hk
end
theorem t0G {a:Int}(h1 : -9223372036854775808≤a)(h2:a≤9223372036854775807):IntKind.i64.wrap a=a:=by
 have:=IntWalk.i64_in a ⟨h1,h2⟩
 exact this
def gt {α:Type}[Inhabited α](l:List α)(k:Nat):α:=l[k]!
theorem getElem?_some_of {α:Type}[Inhabited α]{l:List α}{i:Nat}(h:i<l.length):l[i]?=some (gt l i):=by rw [gt,List.getElem?_eq_getElem h,getElem!_pos l i h]
theorem a0q {α:Type}[Inhabited α]{l:List α}{i:Nat}(h:i<l.length):gt l i=l[i]:=by rw [gt,getElem!_pos l i h]
theorem a0H {α:Type}[Inhabited α]{l:List α}{k:Nat}(h:k<l.length):l.drop k=gt l k :: l.drop (k+1):=by
 rw [List.drop_eq_getElem_cons h,a0q h]
def look (i:Nat):List (Nat × D)→D
 | []=>.junk
 | (j,d) :: e=>if j=i then d else look i e
def frm (n:Nat)(e:List (Nat × D)):List D:=(List.range n).map fun i=>look i e
theorem d0j (n:Nat)(e:List (Nat × D)):(frm n e).length=n:=by simp [frm]
theorem c0n {n:Nat}{e:List (Nat × D)}{i:Nat}(h:i<n):(frm n e)[i]?=some (look i e):=by
 unfold frm
 rw [List.getElem?_map,List.getElem?_range h];rfl
theorem b0g {n:Nat}{e:List (Nat × D)}{i:Nat}{u:D}(h:i<n):(frm n e).getD i u=look i e:=by
 rw [List.getD_eq_getElem?_getD,c0n h];rfl
theorem g0V {n:Nat}{e:List (Nat × D)}{i:Nat}{d:D}:(frm n e).set i d=frm n ((i,d) :: e):=by
 apply List.ext_getElem?
 intro j
 by_cases hj:j<n
 ·rw [List.getElem?_set,c0n hj,c0n hj,d0j]
  simp only [look]
  split
  ·rename_i e;subst e;rw [if_pos hj]
  ·rfl
 ·rw [List.getElem?_eq_none (by simp [d0j];omega),List.getElem?_eq_none (by simp [d0j];omega)]
theorem p0X {i j:Nat}{d:D}{e:List (Nat × D)}:look i ((j,d) :: e)=if j=i then d else look i e:=id rfl
theorem u0s {i:Nat}:look i [] = .junk:=id rfl
section
variable {P:Program}{n0:Nat}{s:St}{Q:Out→St→Prop}
theorem View.frm {n:Nat}{e:List (Nat × D)}(hl:s.ts.length=n)(h:∀ i,i<n→look i e = .junk∨s.ts[i]?=some (look i e)):View P n0 s ⟨frm n e,s.H,[]⟩:=by
 intro X w0 φ0 H0 w φ a _ hr
 refine ⟨φ,⟨hr.sim.heap,⟨?_,fun i d u hd hu=>?_⟩,hr.sim.defers⟩,hr.ons⟩
 ·rw [d0j,hr.sim.tmps.1,hl]
 ·dsimp only at hd
  have hi:i<n:=by have:=(List.getElem?_eq_some_iff.1 hd).1;rwa [d0j] at this
  rw [c0n hi] at hd
  injection hd with hd
  subst hd
  rcases h i hi with h1|h1
  ·rw [h1];exact .junk
  ·exact hr.sim.tmps.2 i _ u h1 hu
def a0J:Nat→List D→List (Nat × D)
 | _,[]=>[]
 | i,d :: ds=>(i,d) :: a0J (i+1) ds
theorem l0A:∀ (ds:List D) (k i:Nat),look (k+i) (a0J k ds) = .junk∨ds[i]?=some (look (k+i) (a0J k ds))
 | [],_,_=>.inl rfl
 | d :: ds,k,0=>by simp [a0J,look]
 | d :: ds,k,i+1=>by
  simp only [a0J,look]
  rw [if_neg (by omega),show k+(i+1)=k+1+i by omega]
  simpa using l0A ds (k+1) i
theorem Con.walk (hP:Good P){f:FuncId}{n:Nat}{rs:List SR}{c:SCode}(hf:Fn P f n rs c){args:List D}{H:List Row}{Q:D→List Row→Prop}(hn:args.length≤n)
  (h:HS P H.length c ⟨frm n (a0J 0 args),H,[]⟩ (endS H.length rs Q)):Con P f args H Q:=by
 refine Con.fn hP hf (HS.view (View.frm ?_ (fun i hi=>?_)) h)
 ·simp;omega
 ·dsimp only
  have:=l0A args 0 i
  rw [Nat.zero_add] at this
  rcases this with h1|h1
  ·exact .inl h1
  ·have hlt:=(List.getElem?_eq_some_iff.1 h1).1
   rw [List.getElem?_append_left hlt]
   exact .inr h1
end
theorem a0t {P:Program}{g:FuncId}{caps args:List D}{H:List Row}{Q K:D→List Row→Prop}(h:Con P g (args++caps) H Q)(hk:∀ d H',Q d H'→K d H'):a0S P (.fn g caps) args H K:=⟨g,caps,rfl,h.mono hk⟩
theorem u0D {i:Nat}:∀ {e:List (Nat × D)},look i e = .junk∨(i,look i e)∈e
 | []=>.inl rfl
 | (j,d) :: e=>by
  simp only [look]
  split
  ·rename_i h;subst h;exact .inr List.mem_cons_self
  ·rcases u0D (i:=i) (e:=e) with h|h
   ·exact .inl h
   ·exact .inr (List.mem_cons_of_mem _ h)
def NextP (n:Nat){α:Type}(st:α→List (Nat × D))(hs:α→List Row)(p:α→Prop)(m:α→Nat)(x:α)(s:St):Prop:=∃ y,s.H=hs y∧(∃ e,s.ts=frm n e∧(st y).map (fun q=>look q.1 e)=(st y).map (·.2))∧p y∧m y<m x
theorem NextP.mk {α:Type}{st:α→List (Nat × D)}{hs:α→List Row}{p:α→Prop}{m:α→Nat}{x:α}{n:Nat}{e:List (Nat × D)}{H:List Row}{dr:List Nat}(y:α)(hH:H=hs y)(he:(st y).map (fun q=>look q.1 e)=(st y).map (·.2))(hp:p y)(hm:m y<m x):NextP n st hs p m x ⟨frm n e,H,dr⟩:=⟨y,hH,⟨e,rfl,he⟩,hp,hm⟩
section
variable {P:Program}{n0:Nat}{s:St}{Q:Out→St→Prop}
theorem View.told {n:Nat}{e e':List (Nat × D)}{H:List Row}{dr:List Nat}(he:e'.map (fun q=>look q.1 e)=e'.map (·.2)):View P n0 ⟨Mir.frm n e,H,dr⟩ ⟨Mir.frm n e',H,[]⟩:=by
 refine View.frm (s:=⟨Mir.frm n e,H,dr⟩) (d0j _ _) (fun i hi=>?_)
 rcases u0D (i:=i) (e:=e') with h|h
 ·exact .inl h
 ·refine .inr ?_
  dsimp only
  rw [c0n hi]
  have:∀ q∈e',look q.1 e=q.2:=by
   intro q hq
   obtain ⟨k,hk,rfl⟩:=List.getElem_of_mem hq
   have:=congrArg (fun l=>l[k]?) he
   simpa [hk] using this
  exact congrArg some (this _ h)
theorem HS.loopP {c:SCode}{α:Type}{n:Nat}{e:List (Nat × D)}{H:List Row}{dr:List Nat}(st:α→List (Nat × D))(hs:α→List Row)(p:α→Prop)(m:α→Nat)(x0:α)(hH:H=hs x0)(he:(st x0).map (fun q=>look q.1 e)=(st x0).map (·.2))(h0:p x0)
  (hbody:∀ x,p x→HS P n0 c ⟨Mir.frm n (st x),hs x,[]⟩ (h0f (NextP n st hs p m x) Q)):HS P n0 (.loop c) ⟨Mir.frm n e,H,dr⟩ Q:=by
 subst hH
 refine HS.view (View.told he) ?_
 intro k hk
 cases k with
 | loop a =>
  simp only [a0r] at hk
  injection hk with h1
  intro X w0 φ0 H0 w φ a' K hn0 hr hK
  refine wp_loop_rounds (m x0+1) ?_
  have key:∀ (k:Nat) (x:α) (w:World) (φ:Nat→Nat × Nat) (a':Act),m x≤k→p x→RunW P X w0 φ0 H0 w φ ⟨Mir.frm n (st x),hs x,[]⟩ a'→Code.rounds P a K (k+1) a' w:=by
   have nx:∀ (x y:α) (s':St) (w':World) (φ':Nat→Nat × Nat) (a'':Act),RunW P X w0 φ0 H0 w' φ' s' a''→s'.H=hs y→(∃ e,s'.ts=Mir.frm n e∧(st y).map (fun q=>look q.1 e)=(st y).map (·.2))→∃ φ2,RunW P X w0 φ0 H0 w' φ2 ⟨Mir.frm n (st y),hs y,[]⟩ a'':=by
    rintro x y ⟨ts,H,dr⟩ w' φ' a'' hr' hy ⟨e,he1,he2⟩
    dsimp only at hy he1
    subst hy;subst he1
    exact View.told (dr:=dr) he2 X w0 φ0 H0 w' φ' a'' hn0 hr'
   intro k
   induction k with
   | zero =>
    intro x w φ a' hm hp hr
    rw [rounds_succ]
    refine hbody x hp a h1 X w0 φ0 H0 w φ a' _ hn0 hr ?_
    intro out s' w' φ' a'' hq hr'
    cases out with
    | normal=>obtain ⟨y,_,_,_,hlt⟩:=hq;omega
    | exit i=>exact hK _ s' w' φ' a'' hq hr'
    | ret=>exact hK _ s' w' φ' a'' hq hr'
   | succ k ih =>
    intro x w φ a' hm hp hr
    rw [rounds_succ]
    refine hbody x hp a h1 X w0 φ0 H0 w φ a' _ hn0 hr ?_
    intro out s' w' φ' a'' hq hr'
    cases out with
    | normal =>
     obtain ⟨y,hy,he,hp',hlt⟩:=hq
     obtain ⟨φ2,hr2⟩:=nx x y s' w' φ' a'' hr' hy he
     exact ih y w' φ2 a'' (by omega) hp' hr2
    | exit i=>exact hK _ s' w' φ' a'' hq hr'
    | ret=>exact hK _ s' w' φ' a'' hq hr'
  exact key (m x0) x0 w φ a' (Nat.le_refl _) h0 hr
 | region id ops draw=>cases draw<;>simp only [a0r] at hk<;>first|(split at hk<;>first|cases hk|(split at hk<;>cases hk))|cases hk
 | cond c a b=>simp only [a0r] at hk;split at hk<;>cases hk
 | _=>simp [a0r] at hk
end
section
variable {P:Program}{n0:Nat}{Q:D→List Row→Prop}
theorem end1 {n t:Nat}{e:List (Nat × D)}{H:List Row}{dr:List Nat}{d d0:D}(ht:Nat.blt t n=true)(h:look t e=d)(hl:lowB n0 (H.take n0)=true)(hv:Vw (e0A n0 H) d d0)(q:Q d0 (H.take n0)):RetS n0 [.t t] Q ⟨frm n e,H,dr⟩:=by
 refine .still (ds:=[d]) ?_ hl hv q
 simp only [resS]
 rw [b0g (by simpa using ht),h]
theorem endA {n t:Nat}{e:List (Nat × D)}{H:List Row}{dr:List Nat}{d:D}(ht:Nat.blt t n=true)(h:look t e=d)(q:Q d H):RetS n0 [.t t] Q ⟨frm n e,H,dr⟩:=by
 refine .all (ds:=[d]) ?_ q
 simp only [resS]
 rw [b0g (by simpa using ht),h]
theorem end2 {n t u:Nat}{e:List (Nat × D)}{H:List Row}{dr:List Nat}{d f d0:D}(ht:Nat.blt t n=true)(hu:Nat.blt u n=true)(h:look t e=d)(k:look u e=f)(hl:lowB n0 (H.take n0)=true)(hv:Vw (e0A n0 H) (.tp [d,f]) d0)(q:Q d0 (H.take n0)):RetS n0 [.t t,.t u] Q ⟨frm n e,H,dr⟩:=by
 refine .still (ds:=[d,f]) ?_ hl hv q
 simp only [resS]
 rw [b0g (by simpa using ht),b0g (by simpa using hu),h,k]
theorem h1O {n t u:Nat}{e:List (Nat × D)}{H:List Row}{dr:List Nat}{d f:D}{ef:Eff}(ht:Nat.blt t n=true)(hu:Nat.blt u n=true)(h:look t e=d)(k:look u e=f)(hg:gather n0 (.tp [d,f]) (List.range n0) H=some ef)(q:Q ef.res (a0B (H.take n0) ef.upd++ef.news)):RetS n0 [.t t,.t u] Q ⟨frm n e,H,dr⟩:=by
 refine .gather (ds:=[d,f]) ?_ hg q
 simp only [resS]
 rw [b0g (by simpa using ht),b0g (by simpa using hu),h,k]
theorem endG {n t:Nat}{e:List (Nat × D)}{H:List Row}{dr:List Nat}{d:D}{ef:Eff}(ht:Nat.blt t n=true)(h:look t e=d)(hg:gather n0 d (List.range n0) H=some ef)(q:Q ef.res (a0B (H.take n0) ef.upd++ef.news)):RetS n0 [.t t] Q ⟨frm n e,H,dr⟩:=by
 refine .gather (ds:=[d]) ?_ hg q
 simp only [resS]
 rw [b0g (by simpa using ht),h]
end
end Go.Proofs.YthjgmldnegaaiaaGreatDoor.Mir
namespace Go.Proofs.YthjgmldnegaaiaaGreatDoor.Mir
open Go Go.RowKit
theorem k0w {P:Program}:∀ (l1 l2:List SI) (s:St) (K:St→Prop),wpS P (l1++l2) s K=wpS P l1 s fun s'=>wpS P l2 s' K
 | [],l2,s,K=>rfl
 | i :: l1,l2,s,K=>by
  simp only [List.cons_append,wpS,k0w l1 l2]
theorem f1q {P:Program}{l1 l2:List SI}{s:St}{K:St→Prop}(h:∀ K':St→Prop,(∀ s',wpS P l2 s' K→K' s')→wpS P l1 s K'):wpS P (l1++l2) s K:=by
 rw [k0w]
 exact h _ fun _ h=>h
abbrev kI (n:Int):SV:=.c (.f (.v (.int .i64 n)))
abbrev kT:SV:=.c (.f (.v (.bool true)))
abbrev kF:SV:=.c (.f (.v (.bool false)))
abbrev kN:SV:=.c (.f (.v (.slice none 0 0)))
abbrev kC (f:Nat):SV:=.c (.fn f [])
abbrev jI:D:=.f (.v (.int .i64 0))
abbrev jN:D:=.f (.v (.slice none 0 0))
abbrev jF:D:=.f (.v (.bool false))
abbrev jm (t x:Nat):SI:=.a t (.mv (.t x))
abbrev jl (t x:Nat):SI:=.a t (.load1 (.t x))
abbrev jo (t o x:Nat):SI:=.a t (.off o (.t x))
abbrev jn (t x:Nat):SI:=.a t (.nilc (.t x))
abbrev gM (t x g:Nat) (b:Bool):SI:=.g (some t) (.mv (.t x)) g b
abbrev gL (t x g:Nat) (b:Bool):SI:=.g (some t) (.load1 (.t x)) g b
abbrev gO (t o x g:Nat) (b:Bool):SI:=.g (some t) (.off o (.t x)) g b
abbrev gN (t x g:Nat) (b:Bool):SI:=.g (some t) (.nilc (.t x)) g b
abbrev je (t x:Nat):SI:=.a t (.slen (.t x))
abbrev jx (t n x i:Nat):SI:=.a t (.idx n (.t x) (.t i))
abbrev jL (t n x:Nat):SI:=.a t (.loadA n (.t x))
abbrev jE (t n x:Nat):SI:=.a t (.ext n (.t x))
abbrev jb (t:Nat) (op:BinOp) (x:Nat) (k:Int):SI:=.a t (.bin op (.t x) (kI k))
abbrev jB (t:Nat) (op:BinOp) (x y:Nat):SI:=.a t (.bin op (.t x) (.t y))
abbrev jk (t:Nat) (k:Int):SI:=.a t (.mv (kI k))
abbrev jG (t:Nat) (o:SOp) (g:Nat) (b:Bool):SI:=.g (some t) o g b
abbrev jq (l:List SI) (y:SCode):SCode:=.seq (.ops l) y
abbrev jc (t:Nat) (x y:SCode):SCode:=.cond (.t t) x y
def ap (a b:List SI):List SI:=a++b
theorem W_mv {P:Program}{ts:List D}{H:List Row}{K:D→List Row→Prop}(x:SV):a0V P ts H (.mv x) K=(K (x.ev ts) H):=id rfl
theorem e1W {P:Program}{ts:List D}{H:List Row}{K:D→List Row→Prop}(c a b:SV):a0V P ts H (.pick c a b) K=(k0q (c.ev ts) (K (a.ev ts) H) (K (b.ev ts) H)):=id rfl
theorem c1L {P:Program}{ts:List D}{H:List Row}{K:D→List Row→Prop}(T:TypeId)(z:List D):a0V P ts H (.alloc T z) K=(K (.pt H.length 0) (H++[.box T z])):=id rfl
theorem g1Y {P:Program}{ts:List D}{H:List Row}{K:D→List Row→Prop}(T:TypeId)(x:SV):a0V P ts H (.box T x) K=(a0D (boxD (x.ev ts)) fun cs=>K (.pt H.length 0) (H++[.box T cs])):=id rfl
theorem z0J {P:Program}{ts:List D}{H:List Row}{K:D→List Row→Prop}(a:SV):a0V P ts H (.load1 a) K=(a0D (load1 H (a.ev ts)) fun d=>K d H):=id rfl
theorem a1Q {P:Program}{ts:List D}{H:List Row}{K:D→List Row→Prop}(n:Nat)(a:SV):a0V P ts H (.loadA n a) K=(a0D (loadA H n (a.ev ts)) fun d=>K d H):=id rfl
theorem y0k {P:Program}{ts:List D}{H:List Row}{K:D→List Row→Prop}(n:Nat)(a x:SV):a0V P ts H (.store n a x) K=(a0D (c0w P H n (a.ev ts) (x.ev ts)) fun H'=>K D.undef H'):=id rfl
theorem d1n {P:Program}{ts:List D}{H:List Row}{K:D→List Row→Prop}(x:SV):a0V P ts H (.nilc x) K=(a0D (s0i (x.ev ts)) fun d=>K d H):=id rfl
theorem g1m {P:Program}{ts:List D}{H:List Row}{K:D→List Row→Prop}(o:Nat)(a:SV):a0V P ts H (.off o a) K=(a0D (offD o (a.ev ts)) fun d=>K d H):=id rfl
theorem d1u {P:Program}{ts:List D}{H:List Row}{K:D→List Row→Prop}(o:Nat)(x:SV):a0V P ts H (.fld1 o x) K=(a0D (fld1 o (x.ev ts)) fun d=>K d H):=id rfl
theorem e1L {P:Program}{ts:List D}{H:List Row}{K:D→List Row→Prop}(o n:Nat)(x:SV):a0V P ts H (.fldA o n x) K=(a0D (fldA o n (x.ev ts)) fun d=>K d H):=id rfl
theorem h1J {P:Program}{ts:List D}{H:List Row}{K:D→List Row→Prop}(sz:Nat)(x i:SV):a0V P ts H (.idx sz x i) K=(idxS sz (x.ev ts) (i.ev ts) fun d=>K d H):=id rfl
theorem g1T {P:Program}{ts:List D}{H:List Row}{K:D→List Row→Prop}(sz n:Nat)(x i:SV):a0V P ts H (.arr sz n x i) K=(arrS sz n (x.ev ts) (i.ev ts) fun d=>K d H):=id rfl
theorem h1L {P:Program}{ts:List D}{H:List Row}{K:D→List Row→Prop}(i:Nat)(x:SV):a0V P ts H (.ext i x) K=(a0D (extD i (x.ev ts)) fun d=>K d H):=id rfl
theorem g1b {P:Program}{ts:List D}{H:List Row}{K:D→List Row→Prop}(op:BinOp)(x y:SV):a0V P ts H (.bin op x y) K=(binS op (x.ev ts) (y.ev ts) fun d=>K d H):=id rfl
theorem d1m {P:Program}{ts:List D}{H:List Row}{K:D→List Row→Prop}(op:BinOp)(x y:SV):a0V P ts H (.binb op x y) K=(p0d op (x.ev ts) (y.ev ts) fun d=>K d H):=id rfl
theorem g1S {P:Program}{ts:List D}{H:List Row}{K:D→List Row→Prop}(eq:Bool)(ks:List Nat)(x y:SV):a0V P ts H (.aeq eq ks x y) K=(aeqS eq ks (x.ev ts) (y.ev ts) fun d=>K d H):=id rfl
theorem e1q {P:Program}{ts:List D}{H:List Row}{K:D→List Row→Prop}(eq:Bool)(k:Nat)(x y:SV):a0V P ts H (.nilq eq k x y) K=(d0H k (x.ev ts) (y.ev ts) fun b=>K (D.bool (if eq then b else !b)) H):=id rfl
theorem d1w {P:Program}{ts:List D}{H:List Row}{K:D→List Row→Prop}(x:SV):a0V P ts H (.unot x) K=(a0D (notS (x.ev ts)) fun d=>K d H):=id rfl
theorem W_fn {P:Program}{ts:List D}{H:List Row}{K:D→List Row→Prop}(f:FuncId)(caps:List SV):a0V P ts H (.fn f caps) K=(K (.fn f (caps.map (SV.ev ts))) H):=id rfl
theorem z0G {P:Program}{ts:List D}{H:List Row}{K:D→List Row→Prop}  : a0V P ts H (.mkmap) K=(K (.mp H.length) (H++[.map []])):=id rfl
theorem p0I {P:Program}{ts:List D}{H:List Row}{K:D→List Row→Prop}(T:TypeId)(sz b:Nat)(z:List F)(l c:SV):a0V P ts H (.mkslice T sz b z l c) K=(a0D (intOf? (l.ev ts)) fun a=>a0D (intOf? (c.ev ts)) fun c=>((0<a∨c=0)∧0≤a∧a≤c∧b*c≤140737488355328∧c.toNat*sz≤16777216)∧K (.sl H.length 0 a.toNat) (H++[.data T ((List.range (a.toNat*sz)).map fun j=>z.getD (j % sz) (.v Go.undef))])):=id rfl
theorem g1t {P:Program}{ts:List D}{H:List Row}{K:D→List Row→Prop}(z:List D)(parts:List (Nat × Nat × SV)):a0V P ts H (.bld z parts) K=(a0D (e0f z (parts.map fun p=>(p.1,p.2.1,p.2.2.ev ts))) fun ds=>K (.ag ds) H):=id rfl
theorem g1e {P:Program}{ts:List D}{H:List Row}{K:D→List Row→Prop}(T:TypeId)(sz len:Nat)(z:List D)(parts:List (Nat × SV)):a0V P ts H (.bsl T sz len z parts) K=(a0D (e0f z (parts.map fun p=>(p.1,sz,p.2.ev ts))) fun ds=>a0D (a0W P H ds) fun xu=>K (.sl H.length 0 len) (a0B H xu.2++[.data T xu.1])):=id rfl
theorem g1a {P:Program}{ts:List D}{H:List Row}{K:D→List Row→Prop}(T:TypeId)(sz b:Nat)(s x:SV):a0V P ts H (.app T sz b s x) K=(appS H T sz b (s.ev ts) (x.ev ts) K):=id rfl
theorem d1x {P:Program}{ts:List D}{H:List Row}{K:D→List Row→Prop}(x:SV):a0V P ts H (.slen x) K=(a0D (slcS (x.ev ts)) fun n=>K (D.int n) H):=id rfl
theorem e1A {P:Program}{ts:List D}{H:List Row}{K:D→List Row→Prop}(x:SV):a0V P ts H (.mlen x) K=(a0D (g0O H (x.ev ts)) fun es=>K (D.int es.length) H):=id rfl
theorem e1Q {P:Program}{ts:List D}{H:List Row}{K:D→List Row→Prop}(k:IntKind)(x:SV):a0V P ts H (.conv k x) K=(a0D (z0l k (x.ev ts)) fun d=>K d H):=id rfl
theorem g1f {P:Program}{ts:List D}{H:List Row}{K:D→List Row→Prop}(x:SV):a0V P ts H (.s2b x) K=(a0D (strOf? (x.ev ts)) fun s=>s.size≤most∧K (.f (.s (s.data.toList.map fun b=>.v (.int .u8 b.toNat)) s.size)) H):=id rfl
theorem g1U {P:Program}{ts:List D}{H:List Row}{K:D→List Row→Prop}(x:SV):a0V P ts H (.b2s x) K=(a0D (b0X H 1 (x.ev ts)) fun p=>a0D (bytesOf? (p.2.map .f)) fun l=>p.2.length=p.1∧K (.f (.v (.string ⟨l.toArray⟩))) H):=id rfl
theorem u0i {P:Program}{ts:List D}{H:List Row}{K:D→List Row→Prop}(x:SV):a0V P ts H (.strlen x) K=(a0D (strOf? (x.ev ts)) fun s=>K (D.int s.size) H):=id rfl
theorem e1I {P:Program}{ts:List D}{H:List Row}{K:D→List Row→Prop}(sz n:Nat)(x i:SV):a0V P ts H (.aidx sz n x i) K=(x0U sz n (x.ev ts) (i.ev ts) fun d=>K d H):=id rfl
theorem e1n {P:Program}{ts:List D}{H:List Row}{K:D→List Row→Prop}(x i:SV):a0V P ts H (.sidx x i) K=(a0D (strOf? (x.ev ts)) fun s=>a0D (intOf? (i.ev ts)) fun i=>a0D (if 0≤i then s.data.toList[i.toNat]? else none) fun b=>K (.f (.v (.int .u8 b.toNat))) H):=id rfl
theorem e1Z {P:Program}{ts:List D}{H:List Row}{K:D→List Row→Prop}(x:SV)(lo hi:Option SV):a0V P ts H (.ssub x lo hi) K=(a0D (b1j (x.ev ts) (lo.map (SV.ev ts)) (hi.map (SV.ev ts))) fun d=>K d H):=id rfl
theorem e1a {P:Program}{ts:List D}{H:List Row}{K:D→List Row→Prop}(ok:Bool)(K0:TypeId)(z:D)(m k:SV):a0V P ts H (.look ok K0 z m k) K=(a0D (z0K P H ok K0 z (m.ev ts) (k.ev ts)) fun d=>K d H):=id rfl
theorem d1t {P:Program}{ts:List D}{H:List Row}{K:D→List Row→Prop}(K0:TypeId)(m k x:SV):a0V P ts H (.mput K0 m k x) K=(a0D (c1B P H K0 (m.ev ts) (k.ev ts) (x.ev ts)) fun H'=>K D.undef H'):=id rfl
theorem d1l {P:Program}{ts:List D}{H:List Row}{K:D→List Row→Prop}(K0:TypeId)(m k:SV):a0V P ts H (.mdel K0 m k) K=(a0D (y0t P H K0 (m.ev ts) (k.ev ts)) fun H'=>K (.tp []) H'):=id rfl
theorem g1z {P:Program}{ts:List D}{H:List Row}{K:D→List Row→Prop}(T:TypeId)(x:SV):a0V P ts H (.clr T x) K=(a0D (p0K P H T (x.ev ts)) fun H'=>K (.tp []) H'):=id rfl
theorem W_mm {P:Program}{ts:List D}{H:List Row}{K:D→List Row→Prop}(mx:Bool)(x y:SV):a0V P ts H (.mm mx x y) K=(a0D (intOf? (x.ev ts)) fun a=>a0D (intOf? (y.ev ts)) fun b=>K (D.int (if mx then max a b else min a b)) H):=id rfl
theorem e1k {P:Program}{ts:List D}{H:List Row}{K:D→List Row→Prop}(f:SV)(args:List SV):a0V P ts H (.call f args) K=(a0S P (f.ev ts) (args.map (SV.ev ts)) H K):=id rfl
theorem e1h {P:Program}{ts:List D}{H:List Row}{K:D→List Row→Prop}(sz:Nat)(E:TypeId)(x:SV):a0V P ts H (.sub sz E x none none none) K=(a0D (slcS (x.ev ts)) fun n=>(0≤(0:Int)∧(0:Int)≤n∧(n:Int)≤n)∧a0D (subS H sz E (x.ev ts) (0:Int).toNat (n:Int).toNat) fun d=>K d H):=id rfl
theorem e1Y {P:Program}{ts:List D}{H:List Row}{K:D→List Row→Prop}(sz:Nat)(E:TypeId)(x l:SV):a0V P ts H (.sub sz E x (some l) none none) K=(a0D (slcS (x.ev ts)) fun n=>a0D (intOf? (l.ev ts)) fun l=>(0≤l∧l≤n∧(n:Int)≤n)∧a0D (subS H sz E (x.ev ts) l.toNat (n:Int).toNat) fun d=>K d H):=id rfl
theorem d1z {P:Program}{ts:List D}{H:List Row}{K:D→List Row→Prop}(sz:Nat)(E:TypeId)(x h:SV):a0V P ts H (.sub sz E x none (some h) none) K=(a0D (slcS (x.ev ts)) fun n=>a0D (intOf? (h.ev ts)) fun h=>(0≤(0:Int)∧0≤h∧h≤n)∧a0D (subS H sz E (x.ev ts) (0:Int).toNat h.toNat) fun d=>K d H):=id rfl
theorem z0P {P:Program}{ts:List D}{H:List Row}{K:D→List Row→Prop}(sz:Nat)(E:TypeId)(x l h:SV):a0V P ts H (.sub sz E x (some l) (some h) none) K=(a0D (slcS (x.ev ts)) fun n=>a0D (intOf? (l.ev ts)) fun l=>a0D (intOf? (h.ev ts)) fun h=>(0≤l∧l≤h∧h≤n)∧a0D (subS H sz E (x.ev ts) l.toNat h.toNat) fun d=>K d H):=id rfl
theorem d1h {P:Program}{ts:List D}{H:List Row}{K:D→List Row→Prop}(sz:Nat)(E:TypeId)(x l h m:SV):a0V P ts H (.sub sz E x (some l) (some h) (some m)) K=(a0D (slcS (x.ev ts)) fun n=>a0D (intOf? (l.ev ts)) fun l=>a0D (intOf? (h.ev ts)) fun h=>(0≤l∧l≤h∧h≤n)∧(intOf? (m.ev ts)=some l∧l=h∧(some h).isSome=true)∧K (mxS (x.ev ts)) H):=id rfl
theorem a1k {P:Program}{ts:List D}{H:List Row}{K:D→List Row→Prop}(sz:Nat)(E:TypeId)(x h m:SV):a0V P ts H (.sub sz E x none (some h) (some m)) K=(a0D (slcS (x.ev ts)) fun n=>a0D (intOf? (h.ev ts)) fun h=>(0≤(0:Int)∧0≤h∧h≤n)∧(intOf? (m.ev ts)=some 0∧(0:Int)=h∧(some h).isSome=true)∧K (mxS (x.ev ts)) H):=id rfl
theorem ev_t {ts:List D}{n:Nat}:(SV.t n).ev ts=ts.getD n D.undef:=id rfl
theorem ev_c {ts:List D}{d:D}:(SV.c d).ev ts=d:=id rfl
theorem e1o {x:F}:boxD (.f x)=some ([.f x]):=id rfl
theorem u0Q {x:F}:b0K (.f x)=true:=id rfl
theorem z0U {x:F}:(D.f x).cells=[.f x]:=id rfl
theorem a1x {r o n:Nat}:boxD (.sl r o n)=some ([.sl r o n]):=id rfl
theorem r0G {r o n:Nat}:b0K (.sl r o n)=true:=id rfl
theorem u0x {r o n:Nat}:(D.sl r o n).cells=[.sl r o n]:=id rfl
theorem y0z {r o:Nat}:boxD (.pt r o)=some ([.pt r o]):=id rfl
theorem p0L {r o:Nat}:b0K (.pt r o)=true:=id rfl
theorem u0t {r o:Nat}:(D.pt r o).cells=[.pt r o]:=id rfl
theorem y0f {r:Nat}:boxD (.mp r)=some ([.mp r]):=id rfl
theorem p0x {r:Nat}:b0K (.mp r)=true:=id rfl
theorem v0B {r:Nat}:(D.mp r).cells=[.mp r]:=id rfl
theorem a1I {xs:List F}:boxD (.rf xs)=some ([.rf xs]):=id rfl
theorem s0M {xs:List F}:b0K (.rf xs)=true:=id rfl
theorem v0d {xs:List F}:(D.rf xs).cells=[.rf xs]:=id rfl
theorem b1g {ds:List D}:boxD (.ag ds)=some (ds):=id rfl
theorem p0m {ds:List D}:b0K (.ag ds)=true:=id rfl
theorem u0C {ds:List D}:(D.ag ds).cells=ds:=id rfl
theorem a1u {f:FuncId}{ds:List D}:boxD (.fn f ds)=some ([.fn f ds]):=id rfl
theorem p0g {f:FuncId}{ds:List D}:b0K (.fn f ds)=true:=id rfl
theorem v0r {f:FuncId}{ds:List D}:(D.fn f ds).cells=[.fn f ds]:=id rfl
def l0E (o:Option Row)(off:Nat):Option D:=match o with
 | some row=>match row.cells with
  | some xs=>xs[off]?
  | none=>none
 | none=>none
theorem v0w {H:List Row}{r off:Nat}:load1 H (.pt r off)=l0E H[r]? off:=id rfl
theorem u0f {H:List Row}{xs:List F}:load1 H (.rf xs)=(xs[0]?).map .f:=id rfl
theorem n0A {T:TypeId}{ds:List D}{off:Nat}:l0E (some (.box T ds)) off=ds[off]?:=id rfl
theorem k0N {T:TypeId}{xs:List F}{off:Nat}:l0E (some (.data T xs)) off=(xs[off]?).map .f:=by simp [l0E,Row.cells]
theorem i0t {T:TypeId}{xs:List F}{off:Nat}:l0E (some (.froz T xs)) off=(xs[off]?).map .f:=by simp [l0E,Row.cells]
def m0g (n:Nat)(o:Option Row)(off:Nat):Option D:=match o with
 | some row=>match row.cells with
  | some xs=>if off+n≤xs.length then some (.ag ((xs.drop off).take n)) else none
  | none=>none
 | none=>none
theorem v0o {H:List Row}{n r off:Nat}:loadA H n (.pt r off)=m0g n H[r]? off:=id rfl
theorem a0A {H:List Row}{n:Nat}{xs:List F}:loadA H n (.rf xs)=if n≤xs.length then some (.ag ((xs.map .f).take n)) else none:=id rfl
theorem l0B {n:Nat}{T:TypeId}{ds:List D}{off:Nat}:m0g n (some (.box T ds)) off=if off+n≤ds.length then some (.ag ((ds.drop off).take n)) else none:=id rfl
theorem i0e {n:Nat}{T:TypeId}{xs:List F}{off:Nat}:m0g n (some (.data T xs)) off=if off+n≤xs.length then some (.ag (((xs.drop off).take n).map .f)) else none:=by simp [m0g,Row.cells,List.map_take,List.map_drop]
theorem j0R {n:Nat}{T:TypeId}{xs:List F}{off:Nat}:m0g n (some (.froz T xs)) off=if off+n≤xs.length then some (.ag (((xs.drop off).take n).map .f)) else none:=by simp [m0g,Row.cells,List.map_take,List.map_drop]
theorem z0m {o r off:Nat}:offD o (.pt r off)=some (.pt r (off+o)):=id rfl
theorem y0m {o:Nat}{xs:List F}:offD o (.rf xs)=some (.rf (xs.drop o)):=id rfl
theorem b1X {o:Nat}{ds:List D}:fld1 o (.ag ds)=ds[o]?:=id rfl
theorem b1r {o n:Nat}{ds:List D}:fldA o n (.ag ds)=if o+n≤ds.length then some (.ag ((ds.drop o).take n)) else none:=id rfl
theorem u0m {r o:Nat}:s0i (.pt r o)=some (.pt r o):=id rfl
theorem v0g {xs:List F}:s0i (.rf xs)=some (.rf xs):=id rfl
theorem u0y {f:FuncId}{cs:List D}:s0i (.fn f cs)=some (.fn f cs):=id rfl
theorem a1v {i:Nat}{ds:List D}:extD i (.tp ds)=ds[i]?:=id rfl
def c0p (P:Program)(H:List Row)(n r off:Nat)(x:D)(o:Option Row):Option (List Row):=match o with
 | some (.box U xs)=>if b0K x=true∧x.cells.length=n∧off+n≤xs.length then some (H.set r (.box U (putL off x.cells xs))) else none
 | some (.data U xs)=>if b0K x=true∧x.cells.length=n∧off+n≤xs.length∧0<n then
   match a0W P H x.cells with
   | some (ys,us)=>match (a0B H us)[r]? with
    | some (.data U ws)=>some ((a0B H us).set r (.data U (splice ws off ys)))
    | _=>none
   | none=>none
  else none
 | _=>none
theorem y0S {α:Type}{xs:List α}{off:Nat}{x:α}(h:off<xs.length):splice xs off [x]=xs.set off x:=by
 rw [List.set_eq_take_append_cons_drop,if_pos h]
 simp [splice]
theorem c0M {P:Program}{H:List Row}{n r off:Nat}{x:D}:c0w P H n (.pt r off) x=c0p P H n r off x H[r]?:=id rfl
theorem m0e {P:Program}{H:List Row}{n r off:Nat}{x:D}{U:TypeId}{xs:List D}:c0p P H n r off x (some (.box U xs))=if b0K x=true∧x.cells.length=n∧off+n≤xs.length then some (H.set r (.box U (putL off x.cells xs))) else none:=id rfl
theorem n0i {P:Program}{H:List Row}{r off:Nat}{x:F}{U:TypeId}{xs:List F}(h:H[r]?=some (.data U xs)):c0p P H 1 r off (.f x) (some (.data U xs))=if off+1≤xs.length then some (H.set r (.data U (xs.set off x))) else none:=by
 unfold c0p
 simp only [b0K,D.cells,a0W,b0T,a0B,List.append_nil,List.length_cons,List.length_nil,h,true_and,Nat.reduceAdd,Nat.zero_lt_one,and_true]
 split
 ·rw [y0S (by omega)]
 ·rfl
theorem p0Q {α:Type}{cs:List α}:putL 0 [] cs=cs:=by cases cs<;>rfl
theorem n0K {α:Type}{y c:α}{ys cs:List α}:putL 0 (y :: ys) (c :: cs)=y :: putL 0 ys cs:=id rfl
theorem r0b {α:Type}{n:Nat}{c:α}{ys cs:List α}:putL (n+1) ys (c :: cs)=c :: putL n ys cs:=id rfl
theorem t0w {op:BinOp}{k k2:IntKind}{a b:Int}{K:D→Prop}:binS op (.f (.v (.int k a))) (.f (.v (.int k2 b))) K=(shQ op k k2∧intS op k a b K):=id rfl
theorem v0L {op:BinOp}{k:IntKind}:shQ op k k=True:=by cases op<;>simp [shQ]
theorem y0o {k k2:IntKind}:shQ .shl k k2=True:=id rfl
theorem a1O {k k2:IntKind}:shQ .shr k k2=True:=id rfl
theorem u0z {op:BinOp}{a b:ByteArray}{K:D→Prop}:binS op (.f (.v (.string a))) (.f (.v (.string b))) K=strS op a b K:=id rfl
theorem b1H {eq:Bool}{ks:List Nat}{xs ys:List D}{K:D→Prop}:aeqS eq ks (.ag xs) (.ag ys) K=a0D (eqL ks xs ys) fun b=>K (.f (.v (.bool (if eq then b else !b)))):=id rfl
theorem v0H {sz n:Nat}{ds:List D}{k:IntKind}{a:Int}{K:D→Prop}:x0U sz n (.ag ds) (.f (.v (.int k a))) K=((0≤a∧a<n)∧a0D (ds[a.toNat*sz]?) K):=id rfl
theorem a1Z {op:BinOp}{a b:Bool}{K:D→Prop}:p0d op (.f (.v (.bool a))) (.f (.v (.bool b))) K=s0k op a b K:=id rfl
theorem v0m {k:IntKind}{a b:Int}{K:D→Prop}:intS .shl k a b K=(0≤b∧K (.f (.v (.int k (k.wrap (a*2 ^ (min b.toNat k.bits))))))):=id rfl
theorem w0x {k:IntKind}{a b:Int}{K:D→Prop}:intS .shr k a b K=(0≤b∧K (.f (.v (.int k (a.fdiv (2 ^ (min b.toNat k.bits))))))):=id rfl
theorem v0N {k:IntKind}{a b:Int}{K:D→Prop}:intS .and k a b K=(K (.f (.v (.int k (k.wrap (BitVec.ofInt k.bits a &&& BitVec.ofInt k.bits b).toNat))))):=id rfl
theorem y0r {k:IntKind}{a b:Int}{K:D→Prop}:intS .or k a b K=(K (.f (.v (.int k (k.wrap (BitVec.ofInt k.bits a ||| BitVec.ofInt k.bits b).toNat))))):=id rfl
theorem v0J {k:IntKind}{a b:Int}{K:D→Prop}:intS .xor k a b K=(K (.f (.v (.int k (k.wrap (BitVec.ofInt k.bits a ^^^ BitVec.ofInt k.bits b).toNat))))):=id rfl
theorem v0P {k:IntKind}{a b:Int}{K:D→Prop}:intS .add k a b K=(K (.f (.v (.int k (k.wrap (a+b)))))):=id rfl
theorem v0T {k:IntKind}{a b:Int}{K:D→Prop}:intS .sub k a b K=(K (.f (.v (.int k (k.wrap (a-b)))))):=id rfl
theorem v0E {k:IntKind}{a b:Int}{K:D→Prop}:intS .mul k a b K=(K (.f (.v (.int k (k.wrap (a*b)))))):=id rfl
theorem u0n {k:IntKind}{a b:Int}{K:D→Prop}:intS .quo k a b K=(b≠0∧K (.f (.v (.int k (k.wrap (a.tdiv b)))))):=id rfl
theorem u0a {k:IntKind}{a b:Int}{K:D→Prop}:intS .rem k a b K=(b≠0∧K (.f (.v (.int k (a.tmod b))))):=id rfl
theorem v0M {k:IntKind}{a b:Int}{K:D→Prop}:intS .eql k a b K=(Two (a=b) (K (.f (.v (.bool true)))) (K (.f (.v (.bool false))))):=id rfl
theorem v0W {k:IntKind}{a b:Int}{K:D→Prop}:intS .neq k a b K=(Two (a=b) (K (.f (.v (.bool false)))) (K (.f (.v (.bool true))))):=id rfl
theorem v0t {k:IntKind}{a b:Int}{K:D→Prop}:intS .lss k a b K=(Two (a<b) (K (.f (.v (.bool true)))) (K (.f (.v (.bool false))))):=id rfl
theorem v0z {k:IntKind}{a b:Int}{K:D→Prop}:intS .leq k a b K=(Two (a≤b) (K (.f (.v (.bool true)))) (K (.f (.v (.bool false))))):=id rfl
theorem v0k {k:IntKind}{a b:Int}{K:D→Prop}:intS .gtr k a b K=(Two (b<a) (K (.f (.v (.bool true)))) (K (.f (.v (.bool false))))):=id rfl
theorem v0U {k:IntKind}{a b:Int}{K:D→Prop}:intS .geq k a b K=(Two (b≤a) (K (.f (.v (.bool true)))) (K (.f (.v (.bool false))))):=id rfl
theorem u0d {a b:ByteArray}{K:D→Prop}:strS .add a b K=(a.size+b.size≤9223372036854775807∧K (.f (.v (.string (a++b))))):=id rfl
theorem w0O {a b:ByteArray}{K:D→Prop}:strS .eql a b K=(Two (a=b) (K (.f (.v (.bool true)))) (K (.f (.v (.bool false))))):=id rfl
theorem v0C {a b:ByteArray}{K:D→Prop}:strS .neq a b K=(Two (a=b) (K (.f (.v (.bool false)))) (K (.f (.v (.bool true))))):=id rfl
theorem t0z {a b:ByteArray}{K:D→Prop}:strS .lss a b K=(Two (Op.bytesLess a.toList b.toList=true) (K (.f (.v (.bool true)))) (K (.f (.v (.bool false))))):=id rfl
theorem u0u {a b:ByteArray}{K:D→Prop}:strS .gtr a b K=(Two (Op.bytesLess b.toList a.toList=true) (K (.f (.v (.bool true)))) (K (.f (.v (.bool false))))):=id rfl
theorem v0G {a b:ByteArray}{K:D→Prop}:strS .leq a b K=(Two (Op.bytesLess b.toList a.toList=true) (K (.f (.v (.bool false)))) (K (.f (.v (.bool true))))):=id rfl
theorem w0Z {a b:ByteArray}{K:D→Prop}:strS .geq a b K=(Two (Op.bytesLess a.toList b.toList=true) (K (.f (.v (.bool false)))) (K (.f (.v (.bool true))))):=id rfl
theorem q0R {a b:Bool}{K:D→Prop}:s0k .eql a b K=K (.f (.v (.bool (a==b)))):=id rfl
theorem r0h {a b:Bool}{K:D→Prop}:s0k .neq a b K=K (.f (.v (.bool (!(a==b))))):=id rfl
theorem b1L {sz r off n:Nat}{k:IntKind}{i:Int}{K:D→Prop}:idxS sz (.sl r off n) (.f (.v (.int k i))) K=((0≤i∧i<n)∧K (.pt r (off+i.toNat*sz))):=id rfl
theorem d1s {sz n:Nat}{xs:List F}{k:IntKind}{i:Int}{K:D→Prop}:idxS sz (.f (.s xs n)) (.f (.v (.int k i))) K=((0≤i∧i<n)∧K (.rf (xs.drop (i.toNat*sz)))):=id rfl
theorem z0O {sz n r off:Nat}{k:IntKind}{i:Int}{K:D→Prop}:arrS sz n (.pt r off) (.f (.v (.int k i))) K=((0≤i∧i<n)∧K (.pt r (off+i.toNat*sz))):=id rfl
theorem b1A {p q:Prop}:k0q (.f (.v (.bool true))) p q=p:=c0o
theorem b1t {p q:Prop}:k0q (.f (.v (.bool false))) p q=q:=b0x
theorem y0x {b:Bool}{p q:Prop}:k0q (.f (.v (.bool b))) p q=Bsel b p q:=id rfl
theorem e1f {b:Bool}:notS (.f (.v (.bool b)))=some (.f (.v (.bool (!b)))):=id rfl
theorem a1R {k k2:IntKind}{n:Int}:z0l k (.f (.v (.int k2 n)))=some (.f (.v (.int k (k.wrap n)))):=id rfl
theorem y0V {n:Int}:intOf? (.f (.v (.int .i64 n)))=some n:=id rfl
theorem b1l {s:ByteArray}:strOf? (.f (.v (.string s)))=some s:=id rfl
theorem y0l {r o n:Nat}:slcS (.sl r o n)=some n:=id rfl
theorem d1j {xs:List F}{n:Nat}:slcS (.f (.s xs n))=some n:=id rfl
theorem e1j:slcS (.f .e)=some 0:=id rfl
theorem u0Y:slcS (.f (.v (.slice none 0 0)))=some 0:=id rfl
def nilR (k:Nat)(p q:Option (Nat × Bool)):Option Bool:=match p,q with
 | some (i,a),some (j,b)=>if k=i∧k=j∧(a=true∨b=true) then some (a&&b) else none
 | _,_=>none
theorem e1b {k:Nat}{x y:D}:nilS k x y=nilR k (c0J x) (c0J y):=id rfl
theorem c1R {k i j:Nat}{a b:Bool}:nilR k (some (i,a)) (some (j,b))=if k=i∧k=j∧(a=true∨b=true) then some (a&&b) else none:=id rfl
theorem r0r:c0J (.f (.v (.slice none 0 0)))=some (0,true):=id rfl
theorem q0L:c0J (.f (.v (.pointer none)))=some (1,true):=id rfl
theorem r0R:c0J (.f (.v (.map none)))=some (2,true):=id rfl
theorem v0D {k:Nat}{y:D}{K:Bool→Prop}:d0H k (.f (.v (.slice none 0 0))) y K=a0D (nilS k (.f (.v (.slice none 0 0))) y) K:=id rfl
theorem u0T {k:Nat}{y:D}{K:Bool→Prop}:d0H k (.f (.v (.pointer none))) y K=a0D (nilS k (.f (.v (.pointer none))) y) K:=id rfl
theorem u0B {k:Nat}{y:D}{K:Bool→Prop}:d0H k (.f (.v (.map none))) y K=a0D (nilS k (.f (.v (.map none))) y) K:=id rfl
theorem w0B {k:Nat}{y:D}{K:Bool→Prop}:d0H k (.f .e) y K=a0D (nilS k (.f .e) y) K:=id rfl
theorem w0W {r o:Nat}{k:Nat}{y:D}{K:Bool→Prop}:d0H k (.pt r o) y K=a0D (nilS k (.pt r o) y) K:=id rfl
theorem w0S {r:Nat}{k:Nat}{y:D}{K:Bool→Prop}:d0H k (.mp r) y K=a0D (nilS k (.mp r) y) K:=id rfl
theorem w0w {xs:List F}{k:Nat}{y:D}{K:Bool→Prop}:d0H k (.rf xs) y K=a0D (nilS k (.rf xs) y) K:=id rfl
theorem z0y {xs:List F}{n:Nat}:c0J (.f (.s xs (n+1)))=some (0,false):=id rfl
theorem v0i {r o n:Nat}:c0J (.sl r o (n+1))=some (0,false):=id rfl
theorem w0o {r o:Nat}:c0J (.pt r o)=some (1,false):=id rfl
theorem w0q {xs:List F}:c0J (.rf xs)=some (1,false):=id rfl
theorem v0Z {r:Nat}:c0J (.mp r)=some (2,false):=id rfl
def subR (sz:Nat)(E:TypeId)(r off l h:Nat)(o:Option Row):Option D:=match o with
 | some (.data U xs)=>if l=h then some (.f (.s [] 0)) else if 0<xs.length∧some U=some E then some (.sl r (off+l*sz) (h-l)) else none
 | some (.froz U _)=>if l=h then some (.f (.s [] 0)) else if some U=some E then some (.sl r (off+l*sz) (h-l)) else none
 | _=>if l=h then some (.f (.s [] 0)) else none
theorem b1y {H:List Row}{sz:Nat}{E:TypeId}{r off n l h:Nat}:subS H sz E (.sl r off n) l h=subR sz E r off l h H[r]?:=by
 unfold subS j0i subR
 dsimp only
 split<;>split<;>simp only [*]
 all_goals first|(split<;>simp_all)|simp_all
theorem r0o {sz:Nat}{E U:TypeId}{r off l h:Nat}{xs:List F}:subR sz E r off l h (some (.data U xs))=if l=h then some (.f (.s [] 0)) else if 0<xs.length∧some U=some E then some (.sl r (off+l*sz) (h-l)) else none:=id rfl
theorem p0n {sz:Nat}{E U:TypeId}{r off l h:Nat}{xs:List F}:subR sz E r off l h (some (.froz U xs))=if l=h then some (.f (.s [] 0)) else if some U=some E then some (.sl r (off+l*sz) (h-l)) else none:=id rfl
theorem k0z {H:List Row}{sz:Nat}{E:TypeId}{xs:List F}{n l h:Nat}:subS H sz E (.f (.s xs n)) l h=some (.f (.s ((xs.drop (l*sz)).take ((h-l)*sz)) (h-l))):=id rfl
theorem d1q {H:List Row}{sz:Nat}{E:TypeId}{l h:Nat}:subS H sz E (.f .e) l h=some (.f .e):=id rfl
theorem v0p {H:List Row}{sz:Nat}{E:TypeId}{l h:Nat}:subS H sz E (.f (.v (.slice none 0 0))) l h=some (.f (.v (.slice none 0 0))):=id rfl
theorem b1i:mxS (.f (.v (.slice none 0 0))) = .f (.v (.slice none 0 0)):=id rfl
theorem h1K {xs:List F}{n:Nat}:mxS (.f (.s xs n)) = .f .e:=id rfl
theorem h1T:mxS (.f .e) = .f .e:=id rfl
theorem d1r {r o n:Nat}:mxS (.sl r o n) = .f .e:=id rfl
theorem s0H {cs:List D}:e0f cs []=some cs:=id rfl
theorem m0y {cs:List D}{off size:Nat}{d:D}{rest:List (Nat × Nat × D)}:e0f cs ((off,size,d) :: rest)=if b0K d=true∧d.cells.length=size∧off+size≤cs.length then e0f (putL off d.cells cs) rest else none:=id rfl
theorem n0R {P:Program}{H:List Row}:a0W P H []=some ([],[]):=id rfl
def z0b (x:F)(o:Option (List F × List (Nat × Row))):Option (List F × List (Nat × Row)):=match o with
 | some (xs,us)=>some (x :: xs,us)
 | none=>none
theorem w0N {P:Program}{H:List Row}{x:F}{ds:List D}:a0W P H (.f x :: ds)=z0b x (a0W P H ds):=by
 simp only [a0W,b0T,a0B,List.nil_append]
 cases a0W P H ds<;>rfl
theorem q0G {x:F}{xs:List F}{us:List (Nat × Row)}:z0b x (some (xs,us))=some (x :: xs,us):=id rfl
theorem h0Z {H:List Row}:a0B H []=H:=id rfl
theorem d1v:fs? []=some []:=id rfl
theorem c1E {x:F}{ds:List D}:fs? (.f x :: ds)=(fs? ds).map (x :: ·):=id rfl
theorem m0h {H:List Row}{sz:Nat}:b0X H sz (.f (.v (.slice none 0 0)))=some (0,[]):=id rfl
theorem t0v {H:List Row}{sz:Nat}:b0X H sz (.f .e)=some (0,[]):=id rfl
theorem t0u {H:List Row}{sz n:Nat}{xs:List F}:b0X H sz (.f (.s xs n))=some (n,xs):=id rfl
def z0h (sz off n:Nat)(o:Option Row):Option (Nat × List F):=match o with
 | some (.data _ xs)=>if off+n*sz≤xs.length then some (n,(xs.drop off).take (n*sz)) else none
 | some (.froz _ xs)=>if off+n*sz≤xs.length then some (n,(xs.drop off).take (n*sz)) else none
 | some (.box _ ds)=>match fs? ds with
  | some xs=>if off+n*sz≤xs.length then some (n,(xs.drop off).take (n*sz)) else none
  | none=>none
 | _=>none
theorem r0U {H:List Row}{sz r off n:Nat}:b0X H sz (.sl r off n)=z0h sz off n H[r]?:=id rfl
theorem k0W {sz off n:Nat}{T:TypeId}{xs:List F}:z0h sz off n (some (.data T xs))=if off+n*sz≤xs.length then some (n,(xs.drop off).take (n*sz)) else none:=id rfl
theorem k0b {sz off n:Nat}{T:TypeId}{xs:List F}:z0h sz off n (some (.froz T xs))=if off+n*sz≤xs.length then some (n,(xs.drop off).take (n*sz)) else none:=id rfl
theorem u0Z {H:List Row}{T:TypeId}{sz b:Nat}{x:D}{K:D→List Row→Prop}:appS H T sz b (.f (.v (.slice none 0 0))) x K=a0D (b0X H sz x) fun p=>Two (p.1=0) (K (.f (.v (.slice none 0 0))) H) (p.2.length=p.1*sz∧p.1*b≤most∧p.1≤most∧K (.sl H.length 0 p.1) (H++[.data T p.2])):=id rfl
theorem e1F {H:List Row}{T:TypeId}{sz b:Nat}{x:D}{K:D→List Row→Prop}:appS H T sz b (.f .e) x K=a0D (b0X H sz x) fun p=>Two (p.1=0) (K (.f .e) H) (p.2.length=p.1*sz∧p.1*b≤most∧p.1≤most∧K (.sl H.length 0 p.1) (H++[.data T p.2])):=id rfl
def appR (H:List Row)(T:TypeId)(sz b r off n m:Nat)(ys:List F)(K:D→List Row→Prop)(o:Option Row):Prop:=match o with
 | some (.data U xs)=>U=T∧ys.length=m*sz∧xs.length=off+n*sz∧(n+m)*b≤most∧n+m≤most∧K (.sl H.length 0 (n+m)) (H.set r .dead++[.data T (xs.drop off++ys)])
 | _=>False
theorem z0Y {H:List Row}{T:TypeId}{sz b:Nat}{x:D}{K:D→List Row→Prop}{r off n:Nat}:appS H T sz b (.sl r off n) x K=a0D (b0X H sz x) fun p=>Two (p.1=0) (K (.sl r off n) H) (appR H T sz b r off n p.1 p.2 K H[r]?):=id rfl
theorem q0H {H:List Row}{T U:TypeId}{sz b r off n m:Nat}{ys xs:List F}{K:D→List Row→Prop}:appR H T sz b r off n m ys K (some (.data U xs))=(U=T∧ys.length=m*sz∧xs.length=off+n*sz∧(n+m)*b≤most∧n+m≤most∧K (.sl H.length 0 (n+m)) (H.set r .dead++[.data T (xs.drop off++ys)])):=id rfl
theorem p0t {H:List Row}:g0O H (.f (.v (.map none)))=some []:=id rfl
def g1q (o:Option Row):Option (List (Value × D)):=match o with
 | some (.map es)=>some es
 | _=>none
theorem v0X {H:List Row}{r:Nat}:g0O H (.mp r)=g1q H[r]?:=id rfl
theorem r0A {es:List (Value × D)}:g1q (some (.map es))=some es:=id rfl
theorem b1R {w:Bool}{p q:Prop}{b:Bool}:r0D (some (.f (.v (.bool b)))) w p q=if w then Bsel b p q else Bsel b q p:=id rfl
theorem b1v {w:Bool}{p q:Prop}{ds:List D}:r0D (some (.tp ds)) w p q=q:=id rfl
theorem Dint {n:Int}:D.int n = .f (.v (.int .i64 n)):=id rfl
theorem h1U {b:Bool}:D.bool b = .f (.v (.bool b)):=id rfl
theorem Dv {x:Value}:D.v x = .f (.v x):=id rfl
theorem e1R:D.undef = .tp []:=id rfl
theorem a1E {N r:Nat}:ren [] N r=N+r:=by simp [ren]
theorem e1p {ρ:Nat→Nat}{x:F}:renE ρ (.f x) = .f x:=id rfl
theorem z0g {ρ:Nat→Nat}{r o n:Nat}:renE ρ (.sl r o n) = .sl (ρ r) o n:=id rfl
theorem a1f {ρ:Nat→Nat}{r o:Nat}:renE ρ (.pt r o) = .pt (ρ r) o:=id rfl
theorem b1W {ρ:Nat→Nat}{r:Nat}:renE ρ (.mp r) = .mp (ρ r):=id rfl
theorem z0T {ρ:Nat→Nat}{xs:List F}:renE ρ (.rf xs) = .rf xs:=id rfl
theorem a1M {ρ:Nat→Nat}{ds:List D}:renE ρ (.ag ds) = .ag (ds.map (renE ρ)):=by simp [renE,c0T]
theorem b1f {ρ:Nat→Nat}{ds:List D}:renE ρ (.tp ds) = .tp (ds.map (renE ρ)):=by simp [renE,c0T]
theorem z0L {ρ:Nat→Nat}{f:FuncId}{ds:List D}:renE ρ (.fn f ds) = .fn f (ds.map (renE ρ)):=by simp [renE,c0T]
theorem u0S {ρ:Nat→Nat}{T:TypeId}{ds:List D}:renR ρ (.box T ds) = .box T (ds.map (renE ρ)):=id rfl
theorem p0u {ρ:Nat→Nat}{T:TypeId}{xs:List F}:renR ρ (.data T xs) = .data T xs:=id rfl
theorem p0k {ρ:Nat→Nat}{T:TypeId}{xs:List F}:renR ρ (.froz T xs) = .froz T xs:=id rfl
theorem w0h {ρ:Nat→Nat}{es:List (Value × D)}:renR ρ (.map es) = .map es:=id rfl
theorem s0B {ρ:Nat→Nat}:renR ρ .dead = .dead:=id rfl
theorem j0I {ρ:Nat→Nat}{rows H:List Row}:b0a ρ [] rows H=H:=by cases rows<;>rfl
theorem g0r {ρ:Nat→Nat}{r:Nat}{ι:List Nat}{row:Row}{rows H:List Row}:b0a ρ (r :: ι) (row :: rows) H=b0a ρ ι rows (H.set r (renR ρ row)):=id rfl
theorem r0e {ts:List D}{t:Nat}{d:D}:putD! ts (some t) d=ts.set t d:=id rfl
theorem o0p {ts:List D}{d:D}:putD! ts none d=ts:=id rfl
theorem l0X:List.range 0=[]:=id rfl
theorem v0q {P:Program}{b own:List Nat}{n0 i:Nat}{log:List (List Nat × List Nat)}{ts:List D}{H:List Row}{dr:List Nat}{K:St→Prop}:wpDr P b n0 [] i own log ⟨ts,H,dr⟩ K=K ⟨ts,H,[]⟩:=id rfl
def d0m (P:Program)(b own:List Nat)(n0 i:Nat)(log:List (List Nat × List Nat))(o:SOp)(V:List Nat)(ts:List D)(H:List Row)(next:List Nat→List (List Nat × List Nat)→D→List Row→Prop):Prop :=
 a0T P ts (b0j V H) o fun w d H'=>H'=(effS w V H.length d H').heap (b0j V H) ∧
  Chk (chkS n0 own (b.getD i 0) V (o.vs.map (SV.ev ts)) (b0j V H) (effS w V H.length d H') log) ∧
  next (own++(effS w V H.length d H').news.map fun _=>i) (log++[(V,(effS w V H.length d H').upd.map (·.1))]) d ((effS w V H.length d H').heap H)
@[congr] theorem drStep_congr {P:Program} {b own own':List Nat} {n0 i i':Nat} {log log':List (List Nat × List Nat)} {o:SOp} {V V':List Nat} {ts ts':List D} {H H':List Row} {next:List Nat→List (List Nat × List Nat)→D→List Row→Prop} (h1:own=own') (h5:log=log') (h2:V=V') (h3:ts=ts') (h4:H=H') (h6:i=i'):d0m P b own n0 i log o V ts H next=d0m P b own' n0 i' log' o V' ts' H' next:=by rw [h1,h2,h3,h4,h5,h6]
theorem b1n {P:Program}{b own:List Nat}{n0 i:Nat}{log:List (List Nat × List Nat)}{l:List SI}{ts:List D}{H:List Row}{dr:List Nat}{K:St→Prop}{t:Nat}{o:SOp}:wpDr P b n0 (.a t o :: l) i own log ⟨ts,H,dr⟩ K=d0m P b own n0 i log o (a0b ts H o) ts H fun own1 log1 d H1=>wpDr P b n0 l (i+1) own1 log1 ⟨ts.set t d,H1,[]⟩ K:=id rfl
theorem y0b {P:Program}{b own:List Nat}{n0 i:Nat}{log:List (List Nat × List Nat)}{l:List SI}{ts:List D}{H:List Row}{dr:List Nat}{K:St→Prop}{o:SOp}:wpDr P b n0 (.n o :: l) i own log ⟨ts,H,dr⟩ K=d0m P b own n0 i log o (a0b ts H o) ts H fun own1 log1 d H1=>wpDr P b n0 l (i+1) own1 log1 ⟨ts,H1,[]⟩ K:=id rfl
theorem a1r {P:Program}{b own:List Nat}{n0 i:Nat}{log:List (List Nat × List Nat)}{l:List SI}{ts:List D}{H:List Row}{dr:List Nat}{K:St→Prop}{d:Option Nat}{t:Nat}{w:Bool}{o:SOp}:wpDr P b n0 (.g d o t w :: l) i own log ⟨ts,H,dr⟩ K=r0D ts[t]? w (d0m P b own n0 i log o (a0b ts H o) ts H fun own1 log1 r H1=>wpDr P b n0 l (i+1) own1 log1 ⟨putD! ts d r,H1,[]⟩ K) (wpDr P b n0 l (i+1) own (log++[([],[])]) ⟨putD! ts d D.undef,H,[]⟩ K):=id rfl
theorem m0v {P:Program}{b own:List Nat}{n0 i:Nat}{log:List (List Nat × List Nat)}{o:SOp}{V:List Nat}{ts:List D}{H:List Row}{next:List Nat→List (List Nat × List Nat)→D→List Row→Prop}:d0m P b own n0 i log o V ts H next=a0T P ts (b0j V H) o fun w d H1=>H1=(effS w V H.length d H1).heap (b0j V H)∧Chk (chkS n0 own (b.getD i 0) V (o.vs.map (SV.ev ts)) (b0j V H) (effS w V H.length d H1) log)∧next (own++(effS w V H.length d H1).news.map fun _=>i) (log++[(V,(effS w V H.length d H1).upd.map (·.1))]) d ((effS w V H.length d H1).heap H):=id rfl
theorem r0w {P:Program}{ts:List D}{H:List Row}{K:Bool→D→List Row→Prop}(x:SV):a0T P ts H (.mv x) K=((K false) (x.ev ts) H):=id rfl
theorem v0l {ts:List D}{H:List Row}(x:SV):a0b ts H (.mv x)=[]:=id rfl
theorem u0g (x:SV):SOp.turns (.mv x)=false:=id rfl
theorem i0z {P:Program}{ts:List D}{H:List Row}{K:Bool→D→List Row→Prop}(c a b:SV):a0T P ts H (.pick c a b) K=(k0q (c.ev ts) ((K false) (a.ev ts) H) ((K false) (b.ev ts) H)):=id rfl
theorem m0k {ts:List D}{H:List Row}(c a b:SV):a0b ts H (.pick c a b)=[]:=id rfl
theorem l0t (c a b:SV):SOp.turns (.pick c a b)=false:=id rfl
theorem h0M {P:Program}{ts:List D}{H:List Row}{K:Bool→D→List Row→Prop}(T:TypeId)(z:List D):a0T P ts H (.alloc T z) K=((K false) (.pt H.length 0) (H++[.box T z])):=id rfl
theorem i0w {ts:List D}{H:List Row}(T:TypeId)(z:List D):a0b ts H (.alloc T z)=[]:=id rfl
theorem i0C (T:TypeId)(z:List D):SOp.turns (.alloc T z)=false:=id rfl
theorem m0J {P:Program}{ts:List D}{H:List Row}{K:Bool→D→List Row→Prop}(T:TypeId)(x:SV):a0T P ts H (.box T x) K=(a0D (boxD (x.ev ts)) fun cs=>(K false) (.pt H.length 0) (H++[.box T cs])):=id rfl
theorem p0s {ts:List D}{H:List Row}(T:TypeId)(x:SV):a0b ts H (.box T x)=[]:=id rfl
theorem q0I (T:TypeId)(x:SV):SOp.turns (.box T x)=false:=id rfl
theorem h0Y {P:Program}{ts:List D}{H:List Row}{K:Bool→D→List Row→Prop}(a:SV):a0T P ts H (.load1 a) K=(a0D (load1 H (a.ev ts)) fun d=>(K false) d H):=id rfl
theorem i0I {ts:List D}{H:List Row}(a:SV):a0b ts H (.load1 a)=dedN (b0l ([a.ev ts])):=id rfl
theorem j0C (a:SV):SOp.turns (.load1 a)=false:=id rfl
theorem h0R {P:Program}{ts:List D}{H:List Row}{K:Bool→D→List Row→Prop}(n:Nat)(a:SV):a0T P ts H (.loadA n a) K=(a0D (loadA H n (a.ev ts)) fun d=>(K false) d H):=id rfl
theorem k0C {ts:List D}{H:List Row}(n:Nat)(a:SV):a0b ts H (.loadA n a)=dedN (b0l ([a.ev ts])):=id rfl
theorem k0L (n:Nat)(a:SV):SOp.turns (.loadA n a)=false:=id rfl
theorem h0X {P:Program}{ts:List D}{H:List Row}{K:Bool→D→List Row→Prop}(n:Nat)(a x:SV):a0T P ts H (.store n a x) K=(a0D (c0w P H n (a.ev ts) (x.ev ts)) fun H'=>(K true) D.undef H'):=id rfl
theorem i0K {ts:List D}{H:List Row}(n:Nat)(a x:SV):a0b ts H (.store n a x)=dedN (b0l ([a.ev ts,x.ev ts])):=id rfl
theorem i0J (n:Nat)(a x:SV):SOp.turns (.store n a x)=true:=id rfl
theorem i0u {P:Program}{ts:List D}{H:List Row}{K:Bool→D→List Row→Prop}(x:SV):a0T P ts H (.nilc x) K=(a0D (s0i (x.ev ts)) fun d=>(K false) d H):=id rfl
theorem m0Q {ts:List D}{H:List Row}(x:SV):a0b ts H (.nilc x)=[]:=id rfl
theorem m0H (x:SV):SOp.turns (.nilc x)=false:=id rfl
theorem m0o {P:Program}{ts:List D}{H:List Row}{K:Bool→D→List Row→Prop}(o:Nat)(a:SV):a0T P ts H (.off o a) K=(a0D (offD o (a.ev ts)) fun d=>(K false) d H):=id rfl
theorem q0F {ts:List D}{H:List Row}(o:Nat)(a:SV):a0b ts H (.off o a)=[]:=id rfl
theorem r0W (o:Nat)(a:SV):SOp.turns (.off o a)=false:=id rfl
theorem j0U {P:Program}{ts:List D}{H:List Row}{K:Bool→D→List Row→Prop}(o:Nat)(x:SV):a0T P ts H (.fld1 o x) K=(a0D (fld1 o (x.ev ts)) fun d=>(K false) d H):=id rfl
theorem l0H {ts:List D}{H:List Row}(o:Nat)(x:SV):a0b ts H (.fld1 o x)=[]:=id rfl
theorem m0r (o:Nat)(x:SV):SOp.turns (.fld1 o x)=false:=id rfl
theorem i0M {P:Program}{ts:List D}{H:List Row}{K:Bool→D→List Row→Prop}(o n:Nat)(x:SV):a0T P ts H (.fldA o n x) K=(a0D (fldA o n (x.ev ts)) fun d=>(K false) d H):=id rfl
theorem n0N {ts:List D}{H:List Row}(o n:Nat)(x:SV):a0b ts H (.fldA o n x)=[]:=id rfl
theorem m0q (o n:Nat)(x:SV):SOp.turns (.fldA o n x)=false:=id rfl
theorem l0s {P:Program}{ts:List D}{H:List Row}{K:Bool→D→List Row→Prop}(sz:Nat)(x i:SV):a0T P ts H (.idx sz x i) K=(idxS sz (x.ev ts) (i.ev ts) fun d=>(K false) d H):=id rfl
theorem q0M {ts:List D}{H:List Row}(sz:Nat)(x i:SV):a0b ts H (.idx sz x i)=[]:=id rfl
theorem s0F (sz:Nat)(x i:SV):SOp.turns (.idx sz x i)=false:=id rfl
theorem l0v {P:Program}{ts:List D}{H:List Row}{K:Bool→D→List Row→Prop}(sz n:Nat)(x i:SV):a0T P ts H (.arr sz n x i) K=(arrS sz n (x.ev ts) (i.ev ts) fun d=>(K false) d H):=id rfl
theorem o0q {ts:List D}{H:List Row}(sz n:Nat)(x i:SV):a0b ts H (.arr sz n x i)=[]:=id rfl
theorem p0U (sz n:Nat)(x i:SV):SOp.turns (.arr sz n x i)=false:=id rfl
theorem m0Y {P:Program}{ts:List D}{H:List Row}{K:Bool→D→List Row→Prop}(i:Nat)(x:SV):a0T P ts H (.ext i x) K=(a0D (extD i (x.ev ts)) fun d=>(K false) d H):=id rfl
theorem q0m {ts:List D}{H:List Row}(i:Nat)(x:SV):a0b ts H (.ext i x)=[]:=id rfl
theorem r0J (i:Nat)(x:SV):SOp.turns (.ext i x)=false:=id rfl
theorem m0Z {P:Program}{ts:List D}{H:List Row}{K:Bool→D→List Row→Prop}(op:BinOp)(x y:SV):a0T P ts H (.bin op x y) K=(binS op (x.ev ts) (y.ev ts) fun d=>(K false) d H):=id rfl
theorem r0S {ts:List D}{H:List Row}(op:BinOp)(x y:SV):a0b ts H (.bin op x y)=[]:=id rfl
theorem r0O (op:BinOp)(x y:SV):SOp.turns (.bin op x y)=false:=id rfl
theorem i0X {P:Program}{ts:List D}{H:List Row}{K:Bool→D→List Row→Prop}(op:BinOp)(x y:SV):a0T P ts H (.binb op x y) K=(p0d op (x.ev ts) (y.ev ts) fun d=>(K false) d H):=id rfl
theorem m0I {ts:List D}{H:List Row}(op:BinOp)(x y:SV):a0b ts H (.binb op x y)=[]:=id rfl
theorem l0I (op:BinOp)(x y:SV):SOp.turns (.binb op x y)=false:=id rfl
theorem m0L {P:Program}{ts:List D}{H:List Row}{K:Bool→D→List Row→Prop}(eq:Bool)(ks:List Nat)(x y:SV):a0T P ts H (.aeq eq ks x y) K=(aeqS eq ks (x.ev ts) (y.ev ts) fun d=>(K false) d H):=id rfl
theorem q0C {ts:List D}{H:List Row}(eq:Bool)(ks:List Nat)(x y:SV):a0b ts H (.aeq eq ks x y)=[]:=id rfl
theorem p0o (eq:Bool)(ks:List Nat)(x y:SV):SOp.turns (.aeq eq ks x y)=false:=id rfl
theorem k0S {P:Program}{ts:List D}{H:List Row}{K:Bool→D→List Row→Prop}(x:SV):a0T P ts H (.unot x) K=(a0D (notS (x.ev ts)) fun d=>(K false) d H):=id rfl
theorem m0w {ts:List D}{H:List Row}(x:SV):a0b ts H (.unot x)=[]:=id rfl
theorem m0m (x:SV):SOp.turns (.unot x)=false:=id rfl
theorem q0E {P:Program}{ts:List D}{H:List Row}{K:Bool→D→List Row→Prop}(f:FuncId)(caps:List SV):a0T P ts H (.fn f caps) K=((K false) (.fn f (caps.map (SV.ev ts))) H):=id rfl
theorem v0y {ts:List D}{H:List Row}(f:FuncId)(caps:List SV):a0b ts H (.fn f caps)=[]:=id rfl
theorem v0F (f:FuncId)(caps:List SV):SOp.turns (.fn f caps)=false:=id rfl
theorem h0A {P:Program}{ts:List D}{H:List Row}{K:Bool→D→List Row→Prop}  : a0T P ts H (.mkmap) K=((K false) (.mp H.length) (H++[.map []])):=id rfl
theorem i0s {ts:List D}{H:List Row}  : a0b ts H (.mkmap)=[]:=id rfl
theorem i0l  : SOp.turns (.mkmap)=false:=id rfl
theorem e0g {P:Program}{ts:List D}{H:List Row}{K:Bool→D→List Row→Prop}(T:TypeId)(sz b:Nat)(z:List F)(l c:SV):a0T P ts H (.mkslice T sz b z l c) K=(a0D (intOf? (l.ev ts)) fun a=>a0D (intOf? (c.ev ts)) fun c=>((0<a∨c=0)∧0≤a∧a≤c∧b*c≤140737488355328∧c.toNat*sz≤16777216)∧(K false) (.sl H.length 0 a.toNat) (H++[.data T ((List.range (a.toNat*sz)).map fun j=>z.getD (j % sz) (.v Go.undef))])):=id rfl
theorem f0w {ts:List D}{H:List Row}(T:TypeId)(sz b:Nat)(z:List F)(l c:SV):a0b ts H (.mkslice T sz b z l c)=[]:=id rfl
theorem f0p (T:TypeId)(sz b:Nat)(z:List F)(l c:SV):SOp.turns (.mkslice T sz b z l c)=false:=id rfl
theorem m0A {P:Program}{ts:List D}{H:List Row}{K:Bool→D→List Row→Prop}(z:List D)(parts:List (Nat × Nat × SV)):a0T P ts H (.bld z parts) K=(a0D (e0f z (parts.map fun p=>(p.1,p.2.1,p.2.2.ev ts))) fun ds=>(K false) (.ag ds) H):=id rfl
theorem q0N {ts:List D}{H:List Row}(z:List D)(parts:List (Nat × Nat × SV)):a0b ts H (.bld z parts)=[]:=id rfl
theorem p0b (z:List D)(parts:List (Nat × Nat × SV)):SOp.turns (.bld z parts)=false:=id rfl
theorem l0n {P:Program}{ts:List D}{H:List Row}{K:Bool→D→List Row→Prop}(T:TypeId)(sz len:Nat)(z:List D)(parts:List (Nat × SV)):a0T P ts H (.bsl T sz len z parts) K=(a0D (e0f z (parts.map fun p=>(p.1,sz,p.2.ev ts))) fun ds=>a0D (a0W P H ds) fun xu=>(K true) (.sl H.length 0 len) (a0B H xu.2++[.data T xu.1])):=id rfl
theorem q0e {ts:List D}{H:List Row}(T:TypeId)(sz len:Nat)(z:List D)(parts:List (Nat × SV)):a0b ts H (.bsl T sz len z parts)=dedN (b0l ((parts.map fun p=>p.2).map (SV.ev ts))):=id rfl
theorem r0s (T:TypeId)(sz len:Nat)(z:List D)(parts:List (Nat × SV)):SOp.turns (.bsl T sz len z parts)=true:=id rfl
theorem l0h {P:Program}{ts:List D}{H:List Row}{K:Bool→D→List Row→Prop}(T:TypeId)(sz b:Nat)(s x:SV):a0T P ts H (.app T sz b s x) K=(appS H T sz b (s.ev ts) (x.ev ts) (K true)):=id rfl
theorem q0Z {ts:List D}{H:List Row}(T:TypeId)(sz b:Nat)(s x:SV):a0b ts H (.app T sz b s x)=dedN (b0l ([s.ev ts,x.ev ts])):=id rfl
theorem r0f (T:TypeId)(sz b:Nat)(s x:SV):SOp.turns (.app T sz b s x)=true:=id rfl
theorem i0D {P:Program}{ts:List D}{H:List Row}{K:Bool→D→List Row→Prop}(x:SV):a0T P ts H (.slen x) K=(a0D (slcS (x.ev ts)) fun n=>(K false) (D.int n) H):=id rfl
theorem m0n {ts:List D}{H:List Row}(x:SV):a0b ts H (.slen x)=[]:=id rfl
theorem m0G (x:SV):SOp.turns (.slen x)=false:=id rfl
theorem j0w {P:Program}{ts:List D}{H:List Row}{K:Bool→D→List Row→Prop}(x:SV):a0T P ts H (.mlen x) K=(a0D (g0O H (x.ev ts)) fun es=>(K false) (D.int es.length) H):=id rfl
theorem m0R {ts:List D}{H:List Row}(x:SV):a0b ts H (.mlen x)=dedN (b0l ([x.ev ts])):=id rfl
theorem n0O (x:SV):SOp.turns (.mlen x)=false:=id rfl
theorem j0m {P:Program}{ts:List D}{H:List Row}{K:Bool→D→List Row→Prop}(k:IntKind)(x:SV):a0T P ts H (.conv k x) K=(a0D (z0l k (x.ev ts)) fun d=>(K false) d H):=id rfl
theorem l0i {ts:List D}{H:List Row}(k:IntKind)(x:SV):a0b ts H (.conv k x)=[]:=id rfl
theorem l0q (k:IntKind)(x:SV):SOp.turns (.conv k x)=false:=id rfl
theorem n0M {P:Program}{ts:List D}{H:List Row}{K:Bool→D→List Row→Prop}(x:SV):a0T P ts H (.s2b x) K=(a0D (strOf? (x.ev ts)) fun s=>s.size≤most∧(K false) (.f (.s (s.data.toList.map fun b=>.v (.int .u8 b.toNat)) s.size)) H):=id rfl
theorem o0s {ts:List D}{H:List Row}(x:SV):a0b ts H (.s2b x)=[]:=id rfl
theorem p0f (x:SV):SOp.turns (.s2b x)=false:=id rfl
theorem n0B {P:Program}{ts:List D}{H:List Row}{K:Bool→D→List Row→Prop}(x:SV):a0T P ts H (.b2s x) K=(a0D (b0X H 1 (x.ev ts)) fun p=>a0D (bytesOf? (p.2.map .f)) fun l=>p.2.length=p.1∧(K false) (.f (.v (.string ⟨l.toArray⟩))) H):=id rfl
theorem r0Z {ts:List D}{H:List Row}(x:SV):a0b ts H (.b2s x)=dedN (b0l ([x.ev ts])):=id rfl
theorem r0v (x:SV):SOp.turns (.b2s x)=false:=id rfl
theorem f0e {P:Program}{ts:List D}{H:List Row}{K:Bool→D→List Row→Prop}(x:SV):a0T P ts H (.strlen x) K=(a0D (strOf? (x.ev ts)) fun s=>(K false) (D.int s.size) H):=id rfl
theorem h0I {ts:List D}{H:List Row}(x:SV):a0b ts H (.strlen x)=[]:=id rfl
theorem g0n (x:SV):SOp.turns (.strlen x)=false:=id rfl
theorem j0h {P:Program}{ts:List D}{H:List Row}{K:Bool→D→List Row→Prop}(sz n:Nat)(x i:SV):a0T P ts H (.aidx sz n x i) K=(x0U sz n (x.ev ts) (i.ev ts) fun d=>(K false) d H):=id rfl
theorem l0o {ts:List D}{H:List Row}(sz n:Nat)(x i:SV):a0b ts H (.aidx sz n x i)=[]:=id rfl
theorem l0V (sz n:Nat)(x i:SV):SOp.turns (.aidx sz n x i)=false:=id rfl
theorem i0B {P:Program}{ts:List D}{H:List Row}{K:Bool→D→List Row→Prop}(x i:SV):a0T P ts H (.sidx x i) K=(a0D (strOf? (x.ev ts)) fun s=>a0D (intOf? (i.ev ts)) fun i=>a0D (if 0≤i then s.data.toList[i.toNat]? else none) fun b=>(K false) (.f (.v (.int .u8 b.toNat))) H):=id rfl
theorem l0a {ts:List D}{H:List Row}(x i:SV):a0b ts H (.sidx x i)=[]:=id rfl
theorem m0i (x i:SV):SOp.turns (.sidx x i)=false:=id rfl
theorem j0M {P:Program}{ts:List D}{H:List Row}{K:Bool→D→List Row→Prop}(x:SV)(lo hi:Option SV):a0T P ts H (.ssub x lo hi) K=(a0D (b1j (x.ev ts) (lo.map (SV.ev ts)) (hi.map (SV.ev ts))) fun d=>(K false) d H):=id rfl
theorem m0z {ts:List D}{H:List Row}(x:SV)(lo hi:Option SV):a0b ts H (.ssub x lo hi)=[]:=id rfl
theorem l0k (x:SV)(lo hi:Option SV):SOp.turns (.ssub x lo hi)=false:=id rfl
theorem i0L {P:Program}{ts:List D}{H:List Row}{K:Bool→D→List Row→Prop}(ok:Bool)(K0:TypeId)(z:D)(m k:SV):a0T P ts H (.look ok K0 z m k) K=(a0D (z0K P H ok K0 z (m.ev ts) (k.ev ts)) fun d=>(K false) d H):=id rfl
theorem l0W {ts:List D}{H:List Row}(ok:Bool)(K0:TypeId)(z:D)(m k:SV):a0b ts H (.look ok K0 z m k)=dedN (b0l ([m.ev ts,k.ev ts])):=id rfl
theorem k0x (ok:Bool)(K0:TypeId)(z:D)(m k:SV):SOp.turns (.look ok K0 z m k)=false:=id rfl
theorem j0V {P:Program}{ts:List D}{H:List Row}{K:Bool→D→List Row→Prop}(K0:TypeId)(m k x:SV):a0T P ts H (.mput K0 m k x) K=(a0D (c1B P H K0 (m.ev ts) (k.ev ts) (x.ev ts)) fun H'=>(K true) D.undef H'):=id rfl
theorem m0x {ts:List D}{H:List Row}(K0:TypeId)(m k x:SV):a0b ts H (.mput K0 m k x)=dedN (b0l ([m.ev ts,k.ev ts,x.ev ts])):=id rfl
theorem l0L (K0:TypeId)(m k x:SV):SOp.turns (.mput K0 m k x)=true:=id rfl
theorem j0A {P:Program}{ts:List D}{H:List Row}{K:Bool→D→List Row→Prop}(K0:TypeId)(m k:SV):a0T P ts H (.mdel K0 m k) K=(a0D (y0t P H K0 (m.ev ts) (k.ev ts)) fun H'=>(K true) (.tp []) H'):=id rfl
theorem k0y {ts:List D}{H:List Row}(K0:TypeId)(m k:SV):a0b ts H (.mdel K0 m k)=dedN (b0l ([m.ev ts,k.ev ts])):=id rfl
theorem l0r (K0:TypeId)(m k:SV):SOp.turns (.mdel K0 m k)=true:=id rfl
theorem l0P {P:Program}{ts:List D}{H:List Row}{K:Bool→D→List Row→Prop}(T:TypeId)(x:SV):a0T P ts H (.clr T x) K=(a0D (p0K P H T (x.ev ts)) fun H'=>(K true) (.tp []) H'):=id rfl
theorem p0c {ts:List D}{H:List Row}(T:TypeId)(x:SV):a0b ts H (.clr T x)=dedN (b0l ([x.ev ts])):=id rfl
theorem s0J (T:TypeId)(x:SV):SOp.turns (.clr T x)=true:=id rfl
theorem s0A {P:Program}{ts:List D}{H:List Row}{K:Bool→D→List Row→Prop}(mx:Bool)(x y:SV):a0T P ts H (.mm mx x y) K=(a0D (intOf? (x.ev ts)) fun a=>a0D (intOf? (y.ev ts)) fun b=>(K false) (D.int (if mx then max a b else min a b)) H):=id rfl
theorem v0R {ts:List D}{H:List Row}(mx:Bool)(x y:SV):a0b ts H (.mm mx x y)=[]:=id rfl
theorem t0x (mx:Bool)(x y:SV):SOp.turns (.mm mx x y)=false:=id rfl
theorem j0n {P:Program}{ts:List D}{H:List Row}{K:Bool→D→List Row→Prop}(f:SV)(args:List SV):a0T P ts H (.call f args) K=a0j P (f.ev ts) (args.map (SV.ev ts)) H K:=id rfl
theorem m0f {ts:List D}{H:List Row}(f:SV)(args:List SV):a0b ts H (.call f args)=dedN (lvl H (lvl H (lvl H (b0l (args.map (SV.ev ts))++(f.ev ts).refs)))):=id rfl
theorem m0B (f:SV)(args:List SV):SOp.turns (.call f args)=true:=id rfl
theorem i0x {P:Program}{ts:List D}{H:List Row}{K:Bool→D→List Row→Prop}(sz:Nat)(E:TypeId)(x:SV):a0T P ts H (.sub sz E x none none none) K=(a0D (slcS (x.ev ts)) fun n=>(0≤(0:Int)∧(0:Int)≤n∧(n:Int)≤n)∧a0D (subS H sz E (x.ev ts) (0:Int).toNat (n:Int).toNat) fun d=>(K false) d H):=id rfl
theorem m0E {ts:List D}{H:List Row}(sz:Nat)(E:TypeId)(x:SV):a0b ts H (.sub sz E x none none none)=dedN (b0l ([x.ev ts])):=id rfl
theorem m0s (sz:Nat)(E:TypeId)(x:SV):SOp.turns (.sub sz E x none none none)=false:=id rfl
theorem j0N {P:Program}{ts:List D}{H:List Row}{K:Bool→D→List Row→Prop}(sz:Nat)(E:TypeId)(x l:SV):a0T P ts H (.sub sz E x (some l) none none) K=(a0D (slcS (x.ev ts)) fun n=>a0D (intOf? (l.ev ts)) fun l=>(0≤l∧l≤n∧(n:Int)≤n)∧a0D (subS H sz E (x.ev ts) l.toNat (n:Int).toNat) fun d=>(K false) d H):=id rfl
theorem l0M {ts:List D}{H:List Row}(sz:Nat)(E:TypeId)(x l:SV):a0b ts H (.sub sz E x (some l) none none)=dedN (b0l ([x.ev ts,l.ev ts])):=id rfl
theorem l0d (sz:Nat)(E:TypeId)(x l:SV):SOp.turns (.sub sz E x (some l) none none)=false:=id rfl
theorem j0l {P:Program}{ts:List D}{H:List Row}{K:Bool→D→List Row→Prop}(sz:Nat)(E:TypeId)(x h:SV):a0T P ts H (.sub sz E x none (some h) none) K=(a0D (slcS (x.ev ts)) fun n=>a0D (intOf? (h.ev ts)) fun h=>(0≤(0:Int)∧0≤h∧h≤n)∧a0D (subS H sz E (x.ev ts) (0:Int).toNat h.toNat) fun d=>(K false) d H):=id rfl
theorem l0g {ts:List D}{H:List Row}(sz:Nat)(E:TypeId)(x h:SV):a0b ts H (.sub sz E x none (some h) none)=dedN (b0l ([x.ev ts,h.ev ts])):=id rfl
theorem l0F (sz:Nat)(E:TypeId)(x h:SV):SOp.turns (.sub sz E x none (some h) none)=false:=id rfl
theorem h0W {P:Program}{ts:List D}{H:List Row}{K:Bool→D→List Row→Prop}(sz:Nat)(E:TypeId)(x l h:SV):a0T P ts H (.sub sz E x (some l) (some h) none) K=(a0D (slcS (x.ev ts)) fun n=>a0D (intOf? (l.ev ts)) fun l=>a0D (intOf? (h.ev ts)) fun h=>(0≤l∧l≤h∧h≤n)∧a0D (subS H sz E (x.ev ts) l.toNat h.toNat) fun d=>(K false) d H):=id rfl
theorem k0O {ts:List D}{H:List Row}(sz:Nat)(E:TypeId)(x l h:SV):a0b ts H (.sub sz E x (some l) (some h) none)=dedN (b0l ([x.ev ts,l.ev ts,h.ev ts])):=id rfl
theorem k0R (sz:Nat)(E:TypeId)(x l h:SV):SOp.turns (.sub sz E x (some l) (some h) none)=false:=id rfl
theorem j0p {P:Program}{ts:List D}{H:List Row}{K:Bool→D→List Row→Prop}(sz:Nat)(E:TypeId)(x l h m:SV):a0T P ts H (.sub sz E x (some l) (some h) (some m)) K=(a0D (slcS (x.ev ts)) fun n=>a0D (intOf? (l.ev ts)) fun l=>a0D (intOf? (h.ev ts)) fun h=>(0≤l∧l≤h∧h≤n)∧(intOf? (m.ev ts)=some l∧l=h∧(some h).isSome=true)∧(K false) (mxS (x.ev ts)) H):=id rfl
theorem m0a {ts:List D}{H:List Row}(sz:Nat)(E:TypeId)(x l h m:SV):a0b ts H (.sub sz E x (some l) (some h) (some m))=dedN (b0l ([x.ev ts,l.ev ts,h.ev ts,m.ev ts])):=id rfl
theorem l0U (sz:Nat)(E:TypeId)(x l h m:SV):SOp.turns (.sub sz E x (some l) (some h) (some m))=false:=id rfl
theorem h0c {P:Program}{ts:List D}{H:List Row}{K:Bool→D→List Row→Prop}(sz:Nat)(E:TypeId)(x h m:SV):a0T P ts H (.sub sz E x none (some h) (some m)) K=(a0D (slcS (x.ev ts)) fun n=>a0D (intOf? (h.ev ts)) fun h=>(0≤(0:Int)∧0≤h∧h≤n)∧(intOf? (m.ev ts)=some 0∧(0:Int)=h∧(some h).isSome=true)∧(K false) (mxS (x.ev ts)) H):=id rfl
theorem j0S {ts:List D}{H:List Row}(sz:Nat)(E:TypeId)(x h m:SV):a0b ts H (.sub sz E x none (some h) (some m))=dedN (b0l ([x.ev ts,h.ev ts,m.ev ts])):=id rfl
theorem j0d (sz:Nat)(E:TypeId)(x h m:SV):SOp.turns (.sub sz E x none (some h) (some m))=false:=id rfl
def hasB:List Nat→Nat→Bool
 | [],_=>false
 | x :: xs,i=>if x=i then true else hasB xs i
theorem s0h:∀ (V:List Nat) (i:Nat),hasB V i=V.contains i
 | [],_=>rfl
 | x :: xs,i=>by
  simp only [hasB,List.contains_cons,s0h xs i]
  by_cases h:x=i
  ·simp [h]
  ·simp [h,Ne.symm h]
def msk (V:List Nat):Nat→List Row→List Row
 | _,[]=>[]
 | i,r :: H=>(if hasB V i=true then r else .dead) :: msk V (i+1) H
theorem e1P (V:List Nat):∀ (H:List Row) (k:Nat),((H.zipIdx k).map fun p=>if V.contains p.2 then p.1 else .dead)=msk V k H
 | [],_=>rfl
 | r :: H,k=>by
  simp only [List.zipIdx_cons,List.map_cons,msk,s0h]
  rw [e1P V H (k+1)]
theorem q0j {V:List Nat}{H:List Row}:b0j V H=msk V 0 H:=e1P V H 0
theorem c1G {V:List Nat}{i:Nat}:msk V i []=[]:=id rfl
theorem u0N {V:List Nat}{i:Nat}{r:Row}{H:List Row}:msk V i (r :: H)=(if hasB V i=true then r else .dead) :: msk V (i+1) H:=id rfl
theorem w0t {i:Nat}:hasB [] i=false:=id rfl
theorem p0a {x i:Nat}{xs:List Nat}:hasB (x :: xs) i=if x=i then true else hasB xs i:=id rfl
theorem w0Q:dedN []=[]:=id rfl
theorem o0e {x:Nat}{xs:List Nat}:dedN (x :: xs)=if hasB xs x=true then dedN xs else x :: dedN xs:=by rw [s0h];rfl
theorem o0x:b0l []=[]:=id rfl
theorem l0Q {d:D}{ds:List D}:b0l (d :: ds)=d.refs++b0l ds:=id rfl
theorem e1D {x:F}:D.refs (.f x)=[]:=id rfl
theorem a1L {r o n:Nat}:D.refs (.sl r o n)=[r]:=id rfl
theorem z0p {r o:Nat}:D.refs (.pt r o)=[r]:=id rfl
theorem a1G {r:Nat}:D.refs (.mp r)=[r]:=id rfl
theorem y0q {xs:List F}:D.refs (.rf xs)=[]:=id rfl
theorem o0o:D.refs .junk=[]:=id rfl
theorem o0M (ds:List D):D.refs.go ds=b0l ds:=by
 induction ds with
 | nil=>rfl
 | cons d ds ih=>simp only [D.refs.go,b0l,ih]
theorem z0k {ds:List D}:D.refs (.ag ds)=b0l ds:=by rw [D.refs,o0M]
theorem a1q {ds:List D}:D.refs (.tp ds)=b0l ds:=by rw [D.refs,o0M]
theorem c1K {f:FuncId}{ds:List D}:D.refs (.fn f ds)=b0l ds:=by rw [D.refs,o0M]
theorem z0A {H:List Row}:lvl H []=[]:=id rfl
theorem w0u {H:List Row}{r:Nat}{rs:List Nat}:lvl H (r :: rs)=r :: (e0D H[r]?++lvl H rs):=id rfl
theorem j0q {T:TypeId}{ds:List D}:e0D (some (.box T ds))=b0l ds:=by
 simp only [e0D,Row.refs]
 induction ds with
 | nil=>rfl
 | cons d ds ih=>simp only [List.flatMap_cons,b0l,ih]
theorem h0C {T:TypeId}{xs:List F}:e0D (some (.data T xs))=[]:=id rfl
theorem h0J {T:TypeId}{xs:List F}:e0D (some (.froz T xs))=[]:=id rfl
theorem k0B {es:List (Value × D)}:e0D (some (.map es))=[]:=id rfl
theorem h0G  : e0D (some (.dead))=[]:=id rfl
theorem e1O {V:List Nat}{n:Nat}{d:D}{H1:List Row}:effS false V n d H1=⟨d,[],H1.drop n⟩:=id rfl
theorem d1o {V:List Nat}{n:Nat}{d:D}{H1:List Row}:effS true V n d H1=⟨d,V.map fun r=>(r,H1.getD r .dead),H1.drop n⟩:=id rfl
theorem b1Q {d:D}{u:List (Nat × Row)}{n H:List Row}:(⟨d,u,n⟩:Eff).heap H=a0B H u++n:=id rfl
theorem f0U {H:List Row}{i:Nat}{r:Row}{us:List (Nat × Row)}:a0B H ((i,r) :: us)=a0B (H.set i r) us:=id rfl
theorem e1U {α:Type}{a d:α}{l:List α}:(a :: l).getD 0 d=a:=id rfl
theorem e1T {α:Type}{a d:α}{l:List α}{n:Nat}:(a :: l).getD (n+1) d=l.getD n d:=id rfl
section
variable {P:Program}
theorem c0a {g:FuncId}{caps args args0:List D}{H H0 H1:List Row}{d0:D}{K:Bool→D→List Row→Prop}(h:Con P g args0 H0 fun d H'=>d=d0∧H'=H1)(ι:List Nat)(hb:k0e ι H.length H0 args0=true)(ha:args++caps=args0.map (renE (ren ι H.length)))
  (hr:(ι.map fun r=>H.getD r .dead)=H0.map (renR (ren ι H.length)))
  (hk:K true (renE (ren ι H.length) d0) (b0a (ren ι H.length) ι H1 H++(H1.drop H0.length).map (renR (ren ι H.length)))):a0j P (.fn g caps) args H K:=by
 obtain ⟨g',caps',e,hc⟩:=a0I (K:=fun d H'=>d=renE (ren ι H.length) d0∧H'=b0a (ren ι H.length) ι H1 H++(H1.drop H0.length).map (renR (ren ι H.length))) h ι hb ha hr (fun d H' ⟨h1,h2⟩=>by rw [h1,h2];exact ⟨rfl,rfl⟩)
 injection e with e1 e2
 subst e1;subst e2
 exact ⟨true,g,caps,_,_,rfl,hc,hk⟩
theorem c0i {g:FuncId}{caps args args0:List D}{H H1:List Row}{d0:D}{K:Bool→D→List Row→Prop}(h:Con P g args0 [] fun d H'=>d=d0∧H'=H1)(hv:Vws H (args++caps) args0)(hp:PlainD d0∧∀ row∈H1,l0u row)
  (hk:K false (renE (ren [] H.length) d0) (H++H1.map (renR (ren [] H.length)))):a0j P (.fn g caps) args H K:=by
 obtain ⟨g',caps',e,hc⟩:=a0Z (K:=fun d H'=>d=renE (ren [] H.length) d0∧H'=H++H1.map (renR (ren [] H.length))) h hv (fun d H' ⟨h1,h2⟩=>by rw [h1,h2];exact hp) (fun d H' ⟨h1,h2⟩=>by rw [h1,h2];exact ⟨rfl,rfl⟩)
 injection e with e1 e2
 subst e1;subst e2
 exact ⟨false,g,caps,_,_,rfl,hc,hk⟩
end
def w0g (H:List Row)(r off:Nat)(x:F)(o:Option Row):Option (List Row):=match o with
 | some (.box U xs)=>if off+1≤xs.length then some (H.set r (.box U (putL off [.f x] xs))) else none
 | some (.data U xs)=>if off+1≤xs.length then some (H.set r (.data U (xs.set off x))) else none
 | _=>none
theorem l0J {H:List Row}{r off:Nat}{x:F}{U:TypeId}{xs:List D}:w0g H r off x (some (.box U xs))=if off+1≤xs.length then some (H.set r (.box U (putL off [.f x] xs))) else none:=id rfl
theorem k0Y {H:List Row}{r off:Nat}{x:F}{U:TypeId}{xs:List F}:w0g H r off x (some (.data U xs))=if off+1≤xs.length then some (H.set r (.data U (xs.set off x))) else none:=id rfl
theorem p0h {P:Program}{H:List Row}{r off:Nat}{x:F}:c0w P H 1 (.pt r off) (.f x)=w0g H r off x H[r]?:=by
 rw [c0M]
 generalize hr:H[r]?=o
 cases o with
 | none=>rfl
 | some row =>
  cases row with
  | data U xs=>rw [n0i hr];rfl
  | box U xs=>simp [c0p,w0g,b0K,D.cells]
  | _=>rfl
theorem u0X {P:Program}{H:List Row}{n r off:Nat}{x:D}:c0w P H (n+2) (.pt r off) x=c0p P H (n+2) r off x H[r]?:=c0M
theorem l0N {P:Program}{H:List Row}{r off a b c:Nat}:c0w P H 1 (.pt r off) (.sl a b c)=c0p P H 1 r off (.sl a b c) H[r]?:=c0M
theorem m0l {P:Program}{H:List Row}{r off a b:Nat}:c0w P H 1 (.pt r off) (.pt a b)=c0p P H 1 r off (.pt a b) H[r]?:=c0M
theorem m0W {P:Program}{H:List Row}{r off a:Nat}:c0w P H 1 (.pt r off) (.mp a)=c0p P H 1 r off (.mp a) H[r]?:=c0M
theorem n0D {P:Program}{H:List Row}{r off:Nat}{a:List F}:c0w P H 1 (.pt r off) (.rf a)=c0p P H 1 r off (.rf a) H[r]?:=c0M
theorem m0b {P:Program}{H:List Row}{r off:Nat}{f:FuncId}{a:List D}:c0w P H 1 (.pt r off) (.fn f a)=c0p P H 1 r off (.fn f a) H[r]?:=c0M
end Go.Proofs.YthjgmldnegaaiaaGreatDoor.Mir
namespace Go.Proofs.YthjgmldnegaaiaaGreatDoor.Mir
open Go Go.RowKit
theorem LD:(((((((type_of% @W_mv∧type_of% @e1W)∧(type_of% @c1L∧type_of% @g1Y))∧((type_of% @z0J∧type_of% @a1Q)∧(type_of% @y0k∧(type_of% @d1n∧type_of% @g1m))))∧(((type_of% @d1u∧type_of% @e1L)∧(type_of% @h1J∧type_of% @g1T))∧((type_of% @h1L∧type_of% @g1b)∧(type_of% @d1m∧(type_of% @g1S∧type_of% @e1q)))))∧((((type_of% @d1w∧type_of% @W_fn)∧(type_of% @z0G∧type_of% @p0I))∧((type_of% @g1t∧type_of% @g1e)∧(type_of% @g1a∧(type_of% @d1x∧type_of% @e1A))))∧(((type_of% @e1Q∧type_of% @g1f)∧(type_of% @g1U∧type_of% @u0i))∧((type_of% @e1I∧type_of% @e1n)∧(type_of% @e1Z∧(type_of% @e1a∧type_of% @d1t))))))∧(((((type_of% @d1l∧type_of% @g1z)∧(type_of% @W_mm∧type_of% @e1k))∧((type_of% @e1h∧type_of% @e1Y)∧(type_of% @d1z∧(type_of% @z0P∧type_of% @d1h))))∧(((type_of% @a1k∧type_of% @t0w)∧(type_of% @u0z∧type_of% @b1H))∧((type_of% @v0H∧type_of% @a1Z)∧(type_of% @v0m∧(type_of% @w0x∧type_of% @v0N)))))∧((((type_of% @y0r∧type_of% @v0J)∧(type_of% @v0P∧type_of% @v0T))∧((type_of% @v0E∧type_of% @u0n)∧(type_of% @u0a∧(type_of% @v0M∧type_of% @v0W))))∧(((type_of% @v0t∧type_of% @v0z)∧(type_of% @v0k∧type_of% @v0U))∧((type_of% @u0d∧type_of% @w0O)∧(type_of% @v0C∧(type_of% @t0z∧type_of% @u0u)))))))∧((((((type_of% @v0G∧type_of% @w0Z)∧(type_of% @q0R∧type_of% @r0h))∧((type_of% @b1L∧type_of% @d1s)∧(type_of% @z0O∧(type_of% @b1A∧type_of% @b1t))))∧(((type_of% @y0x∧type_of% @v0D)∧(type_of% @u0T∧type_of% @u0B))∧((type_of% @w0B∧type_of% @w0W)∧(type_of% @w0S∧(type_of% @w0w∧type_of% @u0Z)))))∧((((type_of% @e1F∧type_of% @z0Y)∧(type_of% @q0H∧type_of% @b1R))∧((type_of% @b1v∧type_of% @r0w)∧(type_of% @i0z∧(type_of% @h0M∧type_of% @m0J))))∧(((type_of% @h0Y∧type_of% @h0R)∧(type_of% @h0X∧type_of% @i0u))∧((type_of% @m0o∧type_of% @j0U)∧(type_of% @i0M∧(type_of% @l0s∧type_of% @l0v))))))∧(((((type_of% @m0Y∧type_of% @m0Z)∧(type_of% @i0X∧type_of% @m0L))∧((type_of% @k0S∧type_of% @q0E)∧(type_of% @h0A∧(type_of% @e0g∧type_of% @m0A))))∧(((type_of% @l0n∧type_of% @l0h)∧(type_of% @i0D∧type_of% @j0w))∧((type_of% @j0m∧type_of% @n0M)∧(type_of% @n0B∧(type_of% @f0e∧type_of% @j0h)))))∧((((type_of% @i0B∧type_of% @j0M)∧(type_of% @i0L∧type_of% @j0V))∧((type_of% @j0A∧type_of% @l0P)∧(type_of% @s0A∧(type_of% @j0n∧type_of% @i0x))))∧(((type_of% @j0N∧type_of% @j0l)∧(type_of% @h0W∧(type_of% @j0p∧type_of% @h0c)))∧((type_of% @c0o∧type_of% @b0x)∧(type_of% @c0b∧(type_of% @w0b∧type_of% @o0d)))))))):=(.intro (.intro (.intro (.intro (.intro (.intro (.intro @W_mv @e1W) (.intro @c1L @g1Y)) (.intro (.intro @z0J @a1Q) (.intro @y0k (.intro @d1n @g1m)))) (.intro (.intro (.intro @d1u @e1L) (.intro @h1J @g1T)) (.intro (.intro @h1L @g1b) (.intro @d1m (.intro @g1S @e1q))))) (.intro (.intro (.intro (.intro @d1w @W_fn) (.intro @z0G @p0I)) (.intro (.intro @g1t @g1e) (.intro @g1a (.intro @d1x @e1A)))) (.intro (.intro (.intro @e1Q @g1f) (.intro @g1U @u0i)) (.intro (.intro @e1I @e1n) (.intro @e1Z (.intro @e1a @d1t)))))) (.intro (.intro (.intro (.intro (.intro @d1l @g1z) (.intro @W_mm @e1k)) (.intro (.intro @e1h @e1Y) (.intro @d1z (.intro @z0P @d1h)))) (.intro (.intro (.intro @a1k @t0w) (.intro @u0z @b1H)) (.intro (.intro @v0H @a1Z) (.intro @v0m (.intro @w0x @v0N))))) (.intro (.intro (.intro (.intro @y0r @v0J) (.intro @v0P @v0T)) (.intro (.intro @v0E @u0n) (.intro @u0a (.intro @v0M @v0W)))) (.intro (.intro (.intro @v0t @v0z) (.intro @v0k @v0U)) (.intro (.intro @u0d @w0O) (.intro @v0C (.intro @t0z @u0u))))))) (.intro (.intro (.intro (.intro (.intro (.intro @v0G @w0Z) (.intro @q0R @r0h)) (.intro (.intro @b1L @d1s) (.intro @z0O (.intro @b1A @b1t)))) (.intro (.intro (.intro @y0x @v0D) (.intro @u0T @u0B)) (.intro (.intro @w0B @w0W) (.intro @w0S (.intro @w0w @u0Z))))) (.intro (.intro (.intro (.intro @e1F @z0Y) (.intro @q0H @b1R)) (.intro (.intro @b1v @r0w) (.intro @i0z (.intro @h0M @m0J)))) (.intro (.intro (.intro @h0Y @h0R) (.intro @h0X @i0u)) (.intro (.intro @m0o @j0U) (.intro @i0M (.intro @l0s @l0v)))))) (.intro (.intro (.intro (.intro (.intro @m0Y @m0Z) (.intro @i0X @m0L)) (.intro (.intro @k0S @q0E) (.intro @h0A (.intro @e0g @m0A)))) (.intro (.intro (.intro @l0n @l0h) (.intro @i0D @j0w)) (.intro (.intro @j0m @n0M) (.intro @n0B (.intro @f0e @j0h))))) (.intro (.intro (.intro (.intro @i0B @j0M) (.intro @i0L @j0V)) (.intro (.intro @j0A @l0P) (.intro @s0A (.intro @j0n @i0x)))) (.intro (.intro (.intro @j0N @j0l) (.intro @h0W (.intro @j0p @h0c))) (.intro (.intro @c0o @b0x) (.intro @c0b (.intro @w0b @o0d))))))))
theorem LU:(((((((type_of% @ev_t∧(type_of% @ev_c∧type_of% @e1o))∧((type_of% @u0Q∧type_of% @z0U)∧(type_of% @a1x∧type_of% @r0G)))∧(((type_of% @u0x∧type_of% @y0z)∧(type_of% @p0L∧type_of% @u0t))∧((type_of% @y0f∧type_of% @p0x)∧(type_of% @v0B∧type_of% @a1I))))∧((((type_of% @s0M∧type_of% @v0d)∧(type_of% @b1g∧type_of% @p0m))∧((type_of% @u0C∧type_of% @a1u)∧(type_of% @p0g∧type_of% @v0r)))∧(((type_of% @v0w∧type_of% @u0f)∧(type_of% @n0A∧type_of% @k0N))∧((type_of% @i0t∧type_of% @v0o)∧(type_of% @l0B∧type_of% @i0e)))))∧((((type_of% @j0R∧(type_of% @z0m∧type_of% @y0m))∧((type_of% @b1X∧type_of% @b1r)∧(type_of% @u0m∧type_of% @v0g)))∧(((type_of% @u0y∧type_of% @a1v)∧(type_of% @m0e∧type_of% @n0i))∧((type_of% @p0Q∧type_of% @n0K)∧(type_of% @r0b∧type_of% @v0L))))∧((((type_of% @y0o∧type_of% @a1O)∧(type_of% @e1f∧type_of% @a1R))∧((type_of% @y0V∧type_of% @b1l)∧(type_of% @y0l∧type_of% @d1j)))∧(((type_of% @e1j∧type_of% @u0Y)∧(type_of% @e1b∧type_of% @c1R))∧((type_of% @r0r∧type_of% @q0L)∧(type_of% @r0R∧type_of% @z0y))))))∧(((((type_of% @v0i∧(type_of% @w0o∧type_of% @w0q))∧((type_of% @v0Z∧type_of% @b1y)∧(type_of% @r0o∧type_of% @p0n)))∧(((type_of% @k0z∧type_of% @d1q)∧(type_of% @v0p∧type_of% @b1i))∧((type_of% @h1K∧type_of% @h1T)∧(type_of% @d1r∧type_of% @s0H))))∧((((type_of% @m0y∧type_of% @n0R)∧(type_of% @w0N∧type_of% @q0G))∧((type_of% @h0Z∧type_of% @d1v)∧(type_of% @c1E∧type_of% @m0h)))∧(((type_of% @t0v∧type_of% @t0u)∧(type_of% @r0U∧type_of% @k0W))∧((type_of% @k0b∧type_of% @p0t)∧(type_of% @v0X∧type_of% @r0A)))))∧(((((type_of% @Dint∧type_of% @h1U)∧(type_of% @Dv∧type_of% @e1R))∧((type_of% @a1E∧type_of% @e1p)∧(type_of% @z0g∧type_of% @a1f)))∧(((type_of% @b1W∧type_of% @z0T)∧(type_of% @a1M∧type_of% @b1f))∧((type_of% @z0L∧type_of% @u0S)∧(type_of% @p0u∧type_of% @p0k))))∧((((type_of% @w0h∧type_of% @s0B)∧(type_of% @j0I∧type_of% @g0r))∧((type_of% @r0e∧type_of% @o0p)∧(type_of% @l0X∧type_of% @v0q)))∧(((type_of% @b1n∧type_of% @y0b)∧(type_of% @a1r∧type_of% @m0v))∧((type_of% @v0l∧type_of% @u0g)∧(type_of% @m0k∧type_of% @l0t)))))))∧((((((type_of% @i0w∧(type_of% @i0C∧type_of% @p0s))∧((type_of% @q0I∧type_of% @i0I)∧(type_of% @j0C∧type_of% @k0C)))∧(((type_of% @k0L∧type_of% @i0K)∧(type_of% @i0J∧type_of% @m0Q))∧((type_of% @m0H∧type_of% @q0F)∧(type_of% @r0W∧type_of% @l0H))))∧((((type_of% @m0r∧type_of% @n0N)∧(type_of% @m0q∧type_of% @q0M))∧((type_of% @s0F∧type_of% @o0q)∧(type_of% @p0U∧type_of% @q0m)))∧(((type_of% @r0J∧type_of% @r0S)∧(type_of% @r0O∧type_of% @m0I))∧((type_of% @l0I∧type_of% @q0C)∧(type_of% @p0o∧type_of% @m0w)))))∧(((((type_of% @m0m∧type_of% @v0y)∧(type_of% @v0F∧type_of% @i0s))∧((type_of% @i0l∧type_of% @f0w)∧(type_of% @f0p∧type_of% @q0N)))∧(((type_of% @p0b∧type_of% @q0e)∧(type_of% @r0s∧type_of% @q0Z))∧((type_of% @r0f∧type_of% @m0n)∧(type_of% @m0G∧type_of% @m0R))))∧((((type_of% @n0O∧type_of% @l0i)∧(type_of% @l0q∧type_of% @o0s))∧((type_of% @p0f∧type_of% @r0Z)∧(type_of% @r0v∧type_of% @h0I)))∧(((type_of% @g0n∧type_of% @l0o)∧(type_of% @l0V∧type_of% @l0a))∧((type_of% @m0i∧type_of% @m0z)∧(type_of% @l0k∧type_of% @l0W))))))∧(((((type_of% @k0x∧(type_of% @m0x∧type_of% @l0L))∧((type_of% @k0y∧type_of% @l0r)∧(type_of% @p0c∧type_of% @s0J)))∧(((type_of% @v0R∧type_of% @t0x)∧(type_of% @m0f∧type_of% @m0B))∧((type_of% @m0E∧type_of% @m0s)∧(type_of% @l0M∧type_of% @l0d))))∧((((type_of% @l0g∧type_of% @l0F)∧(type_of% @k0O∧type_of% @k0R))∧((type_of% @m0a∧type_of% @l0U)∧(type_of% @j0S∧type_of% @j0d)))∧(((type_of% @q0j∧type_of% @c1G)∧(type_of% @u0N∧type_of% @w0t))∧((type_of% @p0a∧type_of% @w0Q)∧(type_of% @o0e∧type_of% @o0x)))))∧(((((type_of% @l0Q∧type_of% @e1D)∧(type_of% @a1L∧type_of% @z0p))∧((type_of% @a1G∧type_of% @y0q)∧(type_of% @o0o∧type_of% @z0k)))∧(((type_of% @a1q∧type_of% @c1K)∧(type_of% @z0A∧type_of% @w0u))∧((type_of% @j0q∧type_of% @h0C)∧(type_of% @h0J∧type_of% @k0B))))∧((((type_of% @h0G∧type_of% @e1O)∧(type_of% @d1o∧type_of% @b1Q))∧((type_of% @f0U∧type_of% @e1U)∧(type_of% @e1T∧type_of% @l0J)))∧(((type_of% @k0Y∧type_of% @p0h)∧(type_of% @u0X∧type_of% @l0N))∧((type_of% @m0l∧type_of% @m0W)∧(type_of% @n0D∧type_of% @m0b)))))))):=(.intro (.intro (.intro (.intro (.intro (.intro (.intro @ev_t (.intro @ev_c @e1o)) (.intro (.intro @u0Q @z0U) (.intro @a1x @r0G))) (.intro (.intro (.intro @u0x @y0z) (.intro @p0L @u0t)) (.intro (.intro @y0f @p0x) (.intro @v0B @a1I)))) (.intro (.intro (.intro (.intro @s0M @v0d) (.intro @b1g @p0m)) (.intro (.intro @u0C @a1u) (.intro @p0g @v0r))) (.intro (.intro (.intro @v0w @u0f) (.intro @n0A @k0N)) (.intro (.intro @i0t @v0o) (.intro @l0B @i0e))))) (.intro (.intro (.intro (.intro @j0R (.intro @z0m @y0m)) (.intro (.intro @b1X @b1r) (.intro @u0m @v0g))) (.intro (.intro (.intro @u0y @a1v) (.intro @m0e @n0i)) (.intro (.intro @p0Q @n0K) (.intro @r0b @v0L)))) (.intro (.intro (.intro (.intro @y0o @a1O) (.intro @e1f @a1R)) (.intro (.intro @y0V @b1l) (.intro @y0l @d1j))) (.intro (.intro (.intro @e1j @u0Y) (.intro @e1b @c1R)) (.intro (.intro @r0r @q0L) (.intro @r0R @z0y)))))) (.intro (.intro (.intro (.intro (.intro @v0i (.intro @w0o @w0q)) (.intro (.intro @v0Z @b1y) (.intro @r0o @p0n))) (.intro (.intro (.intro @k0z @d1q) (.intro @v0p @b1i)) (.intro (.intro @h1K @h1T) (.intro @d1r @s0H)))) (.intro (.intro (.intro (.intro @m0y @n0R) (.intro @w0N @q0G)) (.intro (.intro @h0Z @d1v) (.intro @c1E @m0h))) (.intro (.intro (.intro @t0v @t0u) (.intro @r0U @k0W)) (.intro (.intro @k0b @p0t) (.intro @v0X @r0A))))) (.intro (.intro (.intro (.intro (.intro @Dint @h1U) (.intro @Dv @e1R)) (.intro (.intro @a1E @e1p) (.intro @z0g @a1f))) (.intro (.intro (.intro @b1W @z0T) (.intro @a1M @b1f)) (.intro (.intro @z0L @u0S) (.intro @p0u @p0k)))) (.intro (.intro (.intro (.intro @w0h @s0B) (.intro @j0I @g0r)) (.intro (.intro @r0e @o0p) (.intro @l0X @v0q))) (.intro (.intro (.intro @b1n @y0b) (.intro @a1r @m0v)) (.intro (.intro @v0l @u0g) (.intro @m0k @l0t))))))) (.intro (.intro (.intro (.intro (.intro (.intro @i0w (.intro @i0C @p0s)) (.intro (.intro @q0I @i0I) (.intro @j0C @k0C))) (.intro (.intro (.intro @k0L @i0K) (.intro @i0J @m0Q)) (.intro (.intro @m0H @q0F) (.intro @r0W @l0H)))) (.intro (.intro (.intro (.intro @m0r @n0N) (.intro @m0q @q0M)) (.intro (.intro @s0F @o0q) (.intro @p0U @q0m))) (.intro (.intro (.intro @r0J @r0S) (.intro @r0O @m0I)) (.intro (.intro @l0I @q0C) (.intro @p0o @m0w))))) (.intro (.intro (.intro (.intro (.intro @m0m @v0y) (.intro @v0F @i0s)) (.intro (.intro @i0l @f0w) (.intro @f0p @q0N))) (.intro (.intro (.intro @p0b @q0e) (.intro @r0s @q0Z)) (.intro (.intro @r0f @m0n) (.intro @m0G @m0R)))) (.intro (.intro (.intro (.intro @n0O @l0i) (.intro @l0q @o0s)) (.intro (.intro @p0f @r0Z) (.intro @r0v @h0I))) (.intro (.intro (.intro @g0n @l0o) (.intro @l0V @l0a)) (.intro (.intro @m0i @m0z) (.intro @l0k @l0W)))))) (.intro (.intro (.intro (.intro (.intro @k0x (.intro @m0x @l0L)) (.intro (.intro @k0y @l0r) (.intro @p0c @s0J))) (.intro (.intro (.intro @v0R @t0x) (.intro @m0f @m0B)) (.intro (.intro @m0E @m0s) (.intro @l0M @l0d)))) (.intro (.intro (.intro (.intro @l0g @l0F) (.intro @k0O @k0R)) (.intro (.intro @m0a @l0U) (.intro @j0S @j0d))) (.intro (.intro (.intro @q0j @c1G) (.intro @u0N @w0t)) (.intro (.intro @p0a @w0Q) (.intro @o0e @o0x))))) (.intro (.intro (.intro (.intro (.intro @l0Q @e1D) (.intro @a1L @z0p)) (.intro (.intro @a1G @y0q) (.intro @o0o @z0k))) (.intro (.intro (.intro @a1q @c1K) (.intro @z0A @w0u)) (.intro (.intro @j0q @h0C) (.intro @h0J @k0B)))) (.intro (.intro (.intro (.intro @h0G @e1O) (.intro @d1o @b1Q)) (.intro (.intro @f0U @e1U) (.intro @e1T @l0J))) (.intro (.intro (.intro @k0Y @p0h) (.intro @u0X @l0N)) (.intro (.intro @m0l @m0W) (.intro @n0D @m0b))))))))
theorem LS:(((((type_of% @y0U∧(type_of% @g1h∧type_of% @g1Z))∧(type_of% @g1V∧(type_of% @c0n∧type_of% @b0g)))∧((type_of% @g0V∧(type_of% @p0X∧type_of% @u0s))∧((type_of% @List.set_cons_succ.{0}∧type_of% @List.set_cons_zero.{0})∧(type_of% @List.getElem?_cons_succ.{0}∧type_of% @List.getElem?_cons_zero.{0}))))∧(((type_of% @List.length_cons.{0}∧(type_of% @List.length_nil.{0}∧type_of% @List.cons_append.{0}))∧((type_of% @List.nil_append.{0}∧type_of% @List.map_cons.{0,0})∧(type_of% @List.map_nil.{0,0}∧type_of% @List.take_succ_cons.{0})))∧((type_of% @List.take_zero.{0}∧(type_of% @List.drop_succ_cons.{0}∧type_of% @List.drop_zero.{0}))∧((type_of% @Option.map_some.{0,0}∧type_of% @Option.map_none.{0,0})∧(type_of% @Nat.add_zero∧type_of% @Nat.zero_add)))))∧((((type_of% @Nat.mul_one∧(type_of% @Int.toNat_natCast∧type_of% @Nat.mul_zero))∧(type_of% @Nat.zero_mul∧(type_of% @true_and∧type_of% @and_true)))∧((type_of% @t0G∧(type_of% @List.getElem?_drop.{0}∧type_of% @List.getElem?_map.{0,0}))∧((type_of% @List.length_map.{0,0}∧type_of% @Int.natCast_nonneg)∧(type_of% @getElem?_some_of∧type_of% @Bool.false_eq_true))))∧(((type_of% @decide_true∧(type_of% @decide_false∧type_of% @Bool.not_true))∧((type_of% @Bool.not_false∧type_of% @and_self)∧(type_of% @eq_self.{0}∧type_of% @false_implies)))∧((type_of% @or_self∧(type_of% @Bool.and_self∧type_of% @false_or))∧((type_of% @or_false∧type_of% @Bool.false_and)∧(type_of% @Bool.true_beq∧type_of% @Bool.false_beq)))))):=(.intro (.intro (.intro (.intro (.intro @y0U (.intro @g1h @g1Z)) (.intro @g1V (.intro @c0n @b0g))) (.intro (.intro @g0V (.intro @p0X @u0s)) (.intro (.intro @List.set_cons_succ.{0} @List.set_cons_zero.{0}) (.intro @List.getElem?_cons_succ.{0} @List.getElem?_cons_zero.{0})))) (.intro (.intro (.intro @List.length_cons.{0} (.intro @List.length_nil.{0} @List.cons_append.{0})) (.intro (.intro @List.nil_append.{0} @List.map_cons.{0,0}) (.intro @List.map_nil.{0,0} @List.take_succ_cons.{0}))) (.intro (.intro @List.take_zero.{0} (.intro @List.drop_succ_cons.{0} @List.drop_zero.{0})) (.intro (.intro @Option.map_some.{0,0} @Option.map_none.{0,0}) (.intro @Nat.add_zero @Nat.zero_add))))) (.intro (.intro (.intro (.intro @Nat.mul_one (.intro @Int.toNat_natCast @Nat.mul_zero)) (.intro @Nat.zero_mul (.intro @true_and @and_true))) (.intro (.intro @t0G (.intro @List.getElem?_drop.{0} @List.getElem?_map.{0,0})) (.intro (.intro @List.length_map.{0,0} @Int.natCast_nonneg) (.intro @getElem?_some_of @Bool.false_eq_true)))) (.intro (.intro (.intro @decide_true (.intro @decide_false @Bool.not_true)) (.intro (.intro @Bool.not_false @and_self) (.intro @eq_self.{0} @false_implies))) (.intro (.intro @or_self (.intro @Bool.and_self @false_or)) (.intro (.intro @or_false @Bool.false_and) (.intro @Bool.true_beq @Bool.false_beq))))))
end Go.Proofs.YthjgmldnegaaiaaGreatDoor.Mir
