/- Lemmas for the proof. No condition. -/
import Derived.Test.YthjgmldnegaaiaaGreatDoorQf05
set_option linter.unusedVariables false
set_option linter.unusedSimpArgs false
namespace Go.Proofs.YthjgmldnegaaiaaGreatDoor.Mir
open Go Go.RowKit
def SOp.vs:SOp→List SV
 | .mv x=>[x]
 | .pick c a b=>[c,a,b]
 | .alloc _ _=>[]
 | .box _ x=>[x]
 | .load1 a=>[a]
 | .loadA _ a=>[a]
 | .store _ a x=>[a,x]
 | .nilc x=>[x]
 | .off _ a=>[a]
 | .fld1 _ x=>[x]
 | .fldA _ _ x=>[x]
 | .idx _ x i=>[x,i]
 | .arr _ _ x i=>[x,i]
 | .ext _ x=>[x]
 | .bin _ x y=>[x,y]
 | .binb _ x y=>[x,y]
 | .aeq _ _ x y=>[x,y]
 | .aidx _ _ x i=>[x,i]
 | .nilq _ _ x y=>[x,y]
 | .unot x=>[x]
 | .fn _ caps=>caps
 | .mkmap=>[]
 | .mkslice _ _ _ _ l c=>[l,c]
 | .bld _ ps=>ps.map fun p=>p.2.2
 | .bsl _ _ _ _ ps=>ps.map fun p=>p.2
 | .app _ _ _ s x=>[s,x]
 | .slen x=>[x]
 | .mlen x=>[x]
 | .sub _ _ x lo hi mx=>x :: (lo.toList++hi.toList++mx.toList)
 | .conv _ x=>[x]
 | .s2b x=>[x]
 | .b2s x=>[x]
 | .strlen x=>[x]
 | .sidx x i=>[x,i]
 | .mm _ x y=>[x,y]
 | .ssub x lo hi=>x :: (lo.toList++hi.toList)
 | .look _ _ _ m k=>[m,k]
 | .mput _ m k x=>[m,k,x]
 | .mdel _ m k=>[m,k]
 | .clr _ x=>[x]
 | .call f args=>f :: args
 | .raw _=>[]
def SOp.looks:SOp→Bool
 | .load1 _|.loadA _ _|.store _ _ _|.bsl _ _ _ _ _|.app _ _ _ _ _|.mlen _|.sub _ _ _ _ _ _|.b2s _|.look _ _ _ _ _|.mput _ _ _ _|.mdel _ _ _|.clr _ _|.call _ _|.raw _=>true
 | _=>false
def SOp.turns:SOp→Bool
 | .store _ _ _|.bsl _ _ _ _ _|.app _ _ _ _ _|.mput _ _ _ _|.mdel _ _ _|.clr _ _|.call _ _|.raw _=>true
 | _=>false
def dedN:List Nat→List Nat
 | []=>[]
 | x :: xs=>if xs.contains x then dedN xs else x :: dedN xs
def b0f:List D→List Nat
 | []=>[]
 | d :: ds=>d.refs++b0f ds
def d0w (o:Option Row):List Nat:=match o with
 | some row=>row.refs
 | none=>[]
def lvl (H:List Row):List Nat→List Nat
 | []=>[]
 | r :: rs=>r :: (d0w H[r]?++lvl H rs)
def a0Y (ts:List D)(H:List Row)(o:SOp):List Nat :=
 match o with
 | .call f args=>dedN (lvl H (lvl H (lvl H (b0f (args.map (SV.ev ts))++(f.ev ts).refs))))
 | o=>if o.looks then dedN (b0f (o.vs.map (SV.ev ts))) else []
def effS (w:Bool)(V:List Nat)(n:Nat)(d:D)(H':List Row):Eff:=⟨d,if w then V.map fun r=>(r,H'.getD r .dead) else [],H'.drop n⟩
def chkS (n0:Nat)(own:List Nat)(m:Nat)(V:List Nat)(ds:List D)(M:List Row)(e:Eff)(log:List (List Nat × List Nat)):Bool :=
 V.all (f0f n0 own m)&&(ds.all fun d=>d.refs.all (f0f n0 own m))&&(M.all fun r=>r.refs.all (f0f n0 own m))&&y0b n0 own m M.length e&&(e.upd.all fun p=>V.contains p.1&&decide (p.1<M.length))&&g0Q m V (e.upd.map (·.1)) 0 log
def Chk (b:Bool):Prop:=b=true
def c1s (P:Program)(fd:D)(args:List D)(H:List Row)(K:D→List Row→Prop):Prop :=
 ∃ g caps d0 H0,fd = .fn g caps∧Con P g (args++caps) H (fun d H'=>d=d0∧H'=H0)∧K d0 H0
def e0C (P:Program)(ts:List D)(H:List Row)(o:SOp)(K:D→List Row→Prop):Prop :=
 match o with
 | .call f args=>c1s P (f.ev ts) (args.map (SV.ev ts)) H K
 | .nilq _ _ _ _=>False
 | .raw _=>False
 | o=>a0T P ts H o K
def a0k (P:Program)(fd:D)(args:List D)(H:List Row)(K:Bool→D→List Row→Prop):Prop:=∃ w,c1s P fd args H (K w)
def a0S (P:Program)(ts:List D)(H:List Row)(o:SOp)(K:Bool→D→List Row→Prop):Prop :=
 match o with
 | .call f args=>a0k P (f.ev ts) (args.map (SV.ev ts)) H K
 | .nilq _ _ _ _=>False
 | .raw _=>False
 | o=>a0T P ts H o (K o.turns)
def wpDr (P:Program)(b:List Nat)(n0:Nat):List SI→Nat→List Nat→List (List Nat × List Nat)→St→(St→Prop)→Prop
 | [],_,_,_,s,K=>K ⟨s.ts,s.H,[]⟩
 | o :: rest,i,own,log,s,K =>
  c1A s.ts o.guard
   (a0S P s.ts (b0g (a0Y s.ts s.H o.op) s.H) o.op fun w d H' =>
    H'=(effS w (a0Y s.ts s.H o.op) s.H.length d H').heap (b0g (a0Y s.ts s.H o.op) s.H) ∧
    Chk (chkS n0 own (b.getD i 0) (a0Y s.ts s.H o.op) (o.op.vs.map (SV.ev s.ts)) (b0g (a0Y s.ts s.H o.op) s.H) (effS w (a0Y s.ts s.H o.op) s.H.length d H') log) ∧
    wpDr P b n0 rest (i+1) (own++(effS w (a0Y s.ts s.H o.op) s.H.length d H').news.map fun _=>i) (log++[(a0Y s.ts s.H o.op,(effS w (a0Y s.ts s.H o.op) s.H.length d H').upd.map (·.1))])
     ⟨putD! s.ts o.dst d,(effS w (a0Y s.ts s.H o.op) s.H.length d H').heap s.H,[]⟩ K)
   (wpDr P b n0 rest (i+1) own (log++[([],[])]) ⟨putD! s.ts o.dst D.undef,s.H,[]⟩ K)
section
variable {P:Program}
theorem n0k:∀ {xs:List Operand} {ys:List SV},svs xs=some ys→∀ x∈xs,∃ y∈ys,sv x=some y
 | [],_,_,x,hx=>by simp at hx
 | z :: xs,ys,h,x,hx=>by
  simp only [svs] at h
  split at h
  ·rename_i y ys' hy hys
   injection h with h
   subst h
   rcases List.mem_cons.1 hx with rfl|hx
   ·exact ⟨y,List.mem_cons_self,hy⟩
   ·obtain ⟨q,h1,h2⟩:=n0k hys x hx
    exact ⟨q,List.mem_cons_of_mem _ h1,h2⟩
  ·cases h
theorem l0s {fs:Array Go.Field}:∀ {l:List (Nat × Operand)} {ys:List (Nat × Nat × SV)},e0h P fs l=some ys→∀ p∈l,∃ y∈ys.map (fun p=>p.2.2),sv p.2=some y
 | [],_,_,p,hp=>by simp at hp
 | (i,x) :: l,ys,h,p,hp=>by
  simp only [e0h] at h
  split at h
  ·rename_i f y ys' hfi hx hl
   split at h
   ·injection h with h
    subst h
    rcases List.mem_cons.1 hp with rfl|hp
    ·exact ⟨y,by simp,hx⟩
    ·obtain ⟨q,h1,h2⟩:=l0s hl p hp
     exact ⟨q,by rw [List.map_cons];exact List.mem_cons_of_mem _ h1,h2⟩
   ·cases h
  ·cases h
theorem g0A {sz:Nat}:∀ {l:List (Nat × Operand)} {ys:List (Nat × SV)},e0J sz l=some ys→∀ p∈l,∃ y∈ys.map (fun p=>p.2),sv p.2=some y
 | [],_,_,p,hp=>by simp at hp
 | (i,x) :: l,ys,h,p,hp=>by
  simp only [e0J] at h
  split at h
  ·rename_i y ys' hx hl
   injection h with h
   subst h
   rcases List.mem_cons.1 hp with rfl|hp
   ·exact ⟨y,by simp,hx⟩
   ·obtain ⟨q,h1,h2⟩:=g0A hl p hp
    exact ⟨q,by rw [List.map_cons];exact List.mem_cons_of_mem _ h1,h2⟩
  ·cases h
theorem b1B {q:Option Operand}{r:Option SV}(h:svo q=some r):∀ x∈q.toList,∃ y∈r.toList,sv x=some y:=by
 intro x hx
 cases q with
 | none=>simp at hx
 | some z =>
  simp at hx
  subst hx
  simp only [svo,Option.map_eq_some_iff] at h
  obtain ⟨y,hy,rfl⟩:=h
  exact ⟨y,by simp,hy⟩
theorem f1r {o:Oper}{so:SOp}(h:resOp? P o=some so):∀ x∈o.op.operands,∃ v∈so.vs,sv x=some v:=by
 obtain ⟨dst,op,ty,pos,after,guard⟩:=o
 unfold resOp? at h
 intro x hx
 have one:∀ {f:SV→SOp} {z:Operand},(sv z).map f=some so→x=z→(∀ y,y∈(f y).vs)→∃ v∈so.vs,sv x=some v:=by
  intro f z h e hf
  rw [Option.map_eq_some_iff] at h
  obtain ⟨y,hy,rfl⟩:=h
  exact ⟨y,hf y,by rw [e];exact hy⟩
 cases op<;>dsimp only at h hx
 case move z=>exact one h (by simpa [Op.operands] using hx) (by simp [SOp.vs])
 case assign z=>exact one h (by simpa [Op.operands] using hx) (by simp [SOp.vs])
 case box T z=>exact one h (by simpa [Op.operands] using hx) (by simp [SOp.vs])
 case nilCheck z=>exact one h (by simpa [Op.operands] using hx) (by simp [SOp.vs])
 case extract z i=>exact one h (by simpa [Op.operands] using hx) (by simp [SOp.vs])
 case unOp op T z=>cases op<;>dsimp only at h<;>first|cases h|exact one h (by simpa [Op.operands] using hx) (by simp [SOp.vs])
 case alloc T=>simp [Op.operands] at hx
 case pick c p q =>
  split at h
  ·rename_i c' p' q' h1 h2 h3
   injection h with h
   subst h
   simp [Op.operands] at hx
   rcases hx with rfl|rfl|rfl
   ·exact ⟨c',by simp [SOp.vs],h1⟩
   ·exact ⟨p',by simp [SOp.vs],h2⟩
   ·exact ⟨q',by simp [SOp.vs],h3⟩
  ·cases h
 case load T z =>
  simp [Op.operands] at hx
  subst hx
  split at h
  ·rename_i y _ hy;injection h with h;subst h;exact ⟨y,by simp [SOp.vs],hy⟩
  ·rename_i n b z y _ _ hy;injection h with h;subst h;exact ⟨y,by simp [SOp.vs],hy⟩
  ·cases h
 case store T p q =>
  split at h
  ·rename_i n b z p' q' _ h1 h2
   injection h with h
   subst h
   simp [Op.operands] at hx
   rcases hx with rfl|rfl
   ·exact ⟨p',by simp [SOp.vs],h1⟩
   ·exact ⟨q',by simp [SOp.vs],h2⟩
  ·cases h
 case fieldAddr T z f =>
  simp [Op.operands] at hx
  subst hx
  split at h
  ·rename_i o U y _ hy
   split at h
   ·split at h
    ·cases h
    ·injection h with h;subst h;exact ⟨y,by simp [SOp.vs],hy⟩
   ·cases h
  ·cases h
 case field T z f =>
  simp [Op.operands] at hx
  subst hx
  split at h
  ·rename_i o U y _ hy
   split at h
   ·injection h with h;subst h;exact ⟨y,by simp [SOp.vs],hy⟩
   ·injection h with h;subst h;exact ⟨y,by simp [SOp.vs],hy⟩
   ·cases h
  ·cases h
 case indexAddr T p q =>
  simp [Op.operands] at hx
  split at h
  ·rename_i E p' q' _ h1 h2
   split at h
   ·split at h
    ·injection h with h
     subst h
     rcases hx with rfl|rfl
     ·exact ⟨p',by simp [SOp.vs],h1⟩
     ·exact ⟨q',by simp [SOp.vs],h2⟩
    ·cases h
   ·cases h
  ·rename_i n E p' q' _ h1 h2
   split at h
   ·injection h with h
    subst h
    rcases hx with rfl|rfl
    ·exact ⟨p',by simp [SOp.vs],h1⟩
    ·exact ⟨q',by simp [SOp.vs],h2⟩
   ·cases h
  ·cases h
 case index T p q =>
  simp [Op.operands] at hx
  split at h
  ·rename_i p' q' _ h1 h2
   injection h with h
   subst h
   rcases hx with rfl|rfl
   ·exact ⟨p',by simp [SOp.vs],h1⟩
   ·exact ⟨q',by simp [SOp.vs],h2⟩
  ·rename_i p' q' _ h1 h2
   split at h
   ·injection h with h
    subst h
    rcases hx with rfl|rfl
    ·exact ⟨p',by simp [SOp.vs],h1⟩
    ·exact ⟨q',by simp [SOp.vs],h2⟩
   ·cases h
  ·cases h
 case binOp op T p q U =>
  simp [Op.operands] at hx
  split at h
  ·rename_i p' q' h1 h2
   have fin:p'∈so.vs→q'∈so.vs→∃ v∈so.vs,sv x=some v:=by
    intro g1 g2
    rcases hx with rfl|rfl
    ·exact ⟨p',g1,h1⟩
    ·exact ⟨q',g2,h2⟩
   split at h
   ·cases op<;>dsimp only at h<;>first|(injection h with h;subst h;exact fin (by simp [SOp.vs]) (by simp [SOp.vs]))|cases h
   ·split at h<;>first|(injection h with h;subst h;exact fin (by simp [SOp.vs]) (by simp [SOp.vs]))|cases h|(split at h;(· split at h<;>first|(injection h with h;subst h;exact fin (by simp [SOp.vs]) (by simp [SOp.vs]))|cases h);(· cases h))
  ·cases h
 case makeFunc fn first caps =>
  cases fn with
  | func f =>
   dsimp only at h
   split at h
   ·rename_i hf
    rw [Option.map_eq_some_iff] at h
    obtain ⟨ys,hys,rfl⟩:=h
    have hf':first = #[]:=by simpa using hf
    subst hf'
    simp [Op.operands] at hx
    obtain ⟨y,h1,h2⟩:=n0k hys x (by simpa using hx)
    exact ⟨y,h1,h2⟩
   ·cases h
  | _=>cases h
 case makeMap T r =>
  cases r<;>dsimp only at h<;>first|cases h|skip
  simp [Op.operands] at hx
 case makeSlice T p q =>
  simp [Op.operands] at hx
  split at h
  ·rename_i E sz b z p' q' _ h1 h2
   injection h with h
   subst h
   rcases hx with rfl|rfl
   ·exact ⟨p',by simp [SOp.vs],h1⟩
   ·exact ⟨q',by simp [SOp.vs],h2⟩
  ·cases h
 case build T ps =>
  simp [Op.operands] at hx
  split at h
  ·split at h
   ·rw [Option.map_eq_some_iff] at h
    obtain ⟨ys,hys,rfl⟩:=h
    obtain ⟨i,hi⟩:=hx
    obtain ⟨y,h1,h2⟩:=l0s hys (i,x) (by simpa using hi)
    exact ⟨y,h1,h2⟩
   ·cases h
  ·split at h
   ·rw [Option.map_eq_some_iff] at h
    obtain ⟨ys,hys,rfl⟩:=h
    obtain ⟨i,hi⟩:=hx
    obtain ⟨y,h1,h2⟩:=g0A hys (i,x) (by simpa using hi)
    exact ⟨y,by simp only [SOp.vs,List.map_map] at h1 ⊢;exact h1,h2⟩
   ·cases h
  ·cases h
 case buildSlice T n ps =>
  simp [Op.operands] at hx
  split at h
  ·split at h
   ·rw [Option.map_eq_some_iff] at h
    obtain ⟨ys,hys,rfl⟩:=h
    obtain ⟨i,hi⟩:=hx
    obtain ⟨y,h1,h2⟩:=g0A hys (i,x) (by simpa using hi)
    exact ⟨y,h1,h2⟩
   ·cases h
  ·cases h
 case slice T z lo hi mx =>
  split at h
  ·rename_i E sz b zz z' lo' hi' mx' _ h1 h2 h3 h4
   injection h with h
   subst h
   simp [Op.operands] at hx
   have opt:∀ {q:Option Operand} {r:Option SV},svo q=some r→q=some x→∃ y∈r.toList,sv x=some y:=fun hq e=>b1B hq x (by rw [e];simp)
   rcases hx with rfl|hx|hx|hx
   ·exact ⟨z',by simp [SOp.vs],h1⟩
   ·obtain ⟨y,g1,g2⟩:=opt h2 hx;exact ⟨y,by simp [SOp.vs] at g1 ⊢;simp [g1],g2⟩
   ·obtain ⟨y,g1,g2⟩:=opt h3 hx;exact ⟨y,by simp [SOp.vs] at g1 ⊢;simp [g1],g2⟩
   ·obtain ⟨y,g1,g2⟩:=opt h4 hx;exact ⟨y,by simp [SOp.vs] at g1 ⊢;simp [g1],g2⟩
  ·rename_i z' lo' hi' _ h1 h2 h3 h4
   split at h
   ·injection h with h
    subst h
    have hmn:mx=none:=by
     cases mx with
     | none=>rfl
     | some v=>simp [svo] at h4
    subst hmn
    simp [Op.operands] at hx
    have opt:∀ {q:Option Operand} {r:Option SV},svo q=some r→q=some x→∃ y∈r.toList,sv x=some y:=fun hq e=>b1B hq x (by rw [e];simp)
    rcases hx with rfl|hx|hx
    ·exact ⟨z',by simp [SOp.vs],h1⟩
    ·obtain ⟨y,g1,g2⟩:=opt h2 hx;exact ⟨y,by simp [SOp.vs] at g1 ⊢;simp [g1],g2⟩
    ·obtain ⟨y,g1,g2⟩:=opt h3 hx;exact ⟨y,by simp [SOp.vs] at g1 ⊢;simp [g1],g2⟩
   ·cases h
  ·cases h
 case lookup T m k ok =>
  split at h
  ·rename_i K E m' k' hu hm hk
   split at h
   ·injection h with h
    subst h
    simp [Op.operands] at hx
    rcases hx with rfl|rfl
    ·exact ⟨m',by simp [SOp.vs],hm⟩
    ·exact ⟨k',by simp [SOp.vs],hk⟩
   ·cases h
  ·cases h
 case mapUpdate T m k z =>
  split at h
  ·rename_i K E m' k' z' hu hm hk hz
   injection h with h
   subst h
   simp [Op.operands] at hx
   rcases hx with rfl|rfl|rfl
   ·exact ⟨m',by simp [SOp.vs],hm⟩
   ·exact ⟨k',by simp [SOp.vs],hk⟩
   ·exact ⟨z',by simp [SOp.vs],hz⟩
  ·cases h
 case insert T m k z =>
  split at h
  ·rename_i K E m' k' z' hu hm hk hz
   injection h with h
   subst h
   simp [Op.operands] at hx
   rcases hx with rfl|rfl|rfl
   ·exact ⟨m',by simp [SOp.vs],hm⟩
   ·exact ⟨k',by simp [SOp.vs],hk⟩
   ·exact ⟨z',by simp [SOp.vs],hz⟩
  ·cases h
 case convert p q z =>
  simp [Op.operands] at hx
  subst hx
  split at h
  ·rename_i y _ _ hy;injection h with h;subst h;exact ⟨y,by simp [SOp.vs],hy⟩
  ·rename_i E y _ _ hy
   split at h
   ·injection h with h;subst h;exact ⟨y,by simp [SOp.vs],hy⟩
   ·cases h
  ·rename_i E y _ _ hy
   split at h
   ·injection h with h;subst h;exact ⟨y,by simp [SOp.vs],hy⟩
   ·cases h
  ·cases h
 case call c =>
  obtain ⟨callee,args,argTypes⟩:=c
  simp only [Op.operands,Call.operands] at hx
  have bi:∀ {b:Builtin} {ys:List SV},callee = .builtin b→svs args.toList=some ys→(∀ y∈ys,y∈so.vs)→∃ v∈so.vs,sv x=some v:=by
   rintro b ys rfl hys hall
   obtain ⟨y,h1,h2⟩:=n0k hys x (by simpa using hx)
   exact ⟨y,hall y h1,h2⟩
  split at h
  ·rename_i p q t u hca hl hty
   split at h
   ·injection h with h;subst h;exact bi hca hl (by simp [SOp.vs])
   ·cases h
  ·rename_i p t hca hl hty
   injection h with h;subst h;exact bi hca hl (by simp [SOp.vs])
  ·rename_i p q t u hca hl hty
   split at h
   ·split at h
    ·split at h
     ·injection h with h;subst h;exact bi hca hl (by simp [SOp.vs])
     ·cases h
    ·cases h
   ·cases h
  ·rename_i p t hca hl hty
   split at h<;>first|(injection h with h;subst h;exact bi hca hl (by simp [SOp.vs]))|cases h
  ·rename_i p q hca hl
   injection h with h;subst h;exact bi hca hl (by simp [SOp.vs])
  ·rename_i p q hca hl
   injection h with h;subst h;exact bi hca hl (by simp [SOp.vs])
  ·rename_i f xs hca hl
   simp only at hca hl
   split at h
   ·rename_i f' hf
    injection h with h
    subst h
    subst hca
    simp at hx
    rcases hx with rfl|hx
    ·exact ⟨f',by simp [SOp.vs],hf⟩
    ·obtain ⟨y,h1,h2⟩:=n0k hl x (by simpa using hx)
     exact ⟨y,by simp [SOp.vs,h1],h2⟩
   ·cases h
  ·cases h
 all_goals cases h
theorem h0a:∀ {xs:List Operand} {ys:List SV},svs xs=some ys→∀ y∈ys,∃ x∈xs,sv x=some y
 | [],ys,h,y,hy=>by simp [svs] at h;subst h;simp at hy
 | z :: xs,ys,h,y,hy=>by
  simp only [svs] at h
  split at h
  ·rename_i y' ys' hz hys
   injection h with h
   subst h
   rcases List.mem_cons.1 hy with rfl|hy
   ·exact ⟨z,List.mem_cons_self,hz⟩
   ·obtain ⟨q,h1,h2⟩:=h0a hys y hy
    exact ⟨q,List.mem_cons_of_mem _ h1,h2⟩
  ·cases h
theorem j0C {fs:Array Go.Field}:∀ {l:List (Nat × Operand)} {ys:List (Nat × Nat × SV)},e0h P fs l=some ys→∀ y∈ys.map (fun p=>p.2.2),∃ p∈l,sv p.2=some y
 | [],ys,h,y,hy=>by simp [e0h] at h;subst h;simp at hy
 | (i,x) :: l,ys,h,y,hy=>by
  simp only [e0h] at h
  split at h
  ·rename_i f y' ys' hfi hx hl
   split at h
   ·injection h with h
    subst h
    rw [List.map_cons] at hy
    rcases List.mem_cons.1 hy with rfl|hy
    ·exact ⟨(i,x),List.mem_cons_self,hx⟩
    ·obtain ⟨q,h1,h2⟩:=j0C hl y hy
     exact ⟨q,List.mem_cons_of_mem _ h1,h2⟩
   ·cases h
  ·cases h
theorem e0t {sz:Nat}:∀ {l:List (Nat × Operand)} {ys:List (Nat × SV)},e0J sz l=some ys→∀ y∈ys.map (fun p=>p.2),∃ p∈l,sv p.2=some y
 | [],ys,h,y,hy=>by simp [e0J] at h;subst h;simp at hy
 | (i,x) :: l,ys,h,y,hy=>by
  simp only [e0J] at h
  split at h
  ·rename_i y' ys' hx hl
   injection h with h
   subst h
   rw [List.map_cons] at hy
   rcases List.mem_cons.1 hy with rfl|hy
   ·exact ⟨(i,x),List.mem_cons_self,hx⟩
   ·obtain ⟨q,h1,h2⟩:=e0t hl y hy
    exact ⟨q,List.mem_cons_of_mem _ h1,h2⟩
  ·cases h
theorem e1M {o:Oper}{so:SOp}(h:resOp? P o=some so):∀ v∈so.vs,∃ x∈o.op.operands,sv x=some v:=by
 obtain ⟨dst,op,ty,pos,after,guard⟩:=o
 unfold resOp? at h
 intro v hv
 have one:∀ {f:SV→SOp} {z:Operand},(sv z).map f=some so→(∀ y,∀ v∈(f y).vs,v=y)→z∈op.operands→∃ x∈op.operands,sv x=some v:=by
  intro f z h hf hz
  rw [Option.map_eq_some_iff] at h
  obtain ⟨y,hy,rfl⟩:=h
  exact ⟨z,hz,by rw [hf y v hv];exact hy⟩
 cases op<;>dsimp only at h ⊢
 case move z=>exact one h (by simp [SOp.vs]) (by simp [Op.operands])
 case assign z=>exact one h (by simp [SOp.vs]) (by simp [Op.operands])
 case box T z=>exact one h (by simp [SOp.vs]) (by simp [Op.operands])
 case nilCheck z=>exact one h (by simp [SOp.vs]) (by simp [Op.operands])
 case extract z i=>exact one h (by simp [SOp.vs]) (by simp [Op.operands])
 case unOp op T z=>cases op<;>dsimp only at h<;>first|cases h|exact one h (by simp [SOp.vs]) (by simp [Op.operands])
 case alloc T =>
  split at h
  ·injection h with h;subst h;simp [SOp.vs] at hv
  ·cases h
 case pick c p q =>
  split at h
  ·rename_i c' p' q' h1 h2 h3
   injection h with h
   subst h
   simp [SOp.vs] at hv
   rcases hv with rfl|rfl|rfl
   ·exact ⟨c,by simp [Op.operands],h1⟩
   ·exact ⟨p,by simp [Op.operands],h2⟩
   ·exact ⟨q,by simp [Op.operands],h3⟩
  ·cases h
 case load T z =>
  split at h
  ·rename_i y _ hy;injection h with h;subst h;simp [SOp.vs] at hv;subst hv;exact ⟨z,by simp [Op.operands],hy⟩
  ·rename_i n b zz y _ _ hy;injection h with h;subst h;simp [SOp.vs] at hv;subst hv;exact ⟨z,by simp [Op.operands],hy⟩
  ·cases h
 case store T p q =>
  split at h
  ·rename_i n b z p' q' _ h1 h2
   injection h with h
   subst h
   simp [SOp.vs] at hv
   rcases hv with rfl|rfl
   ·exact ⟨p,by simp [Op.operands],h1⟩
   ·exact ⟨q,by simp [Op.operands],h2⟩
  ·cases h
 case fieldAddr T z f =>
  split at h
  ·rename_i o U y _ hy
   split at h
   ·split at h
    ·cases h
    ·injection h with h;subst h;simp [SOp.vs] at hv;subst hv;exact ⟨z,by simp [Op.operands],hy⟩
   ·cases h
  ·cases h
 case field T z f =>
  split at h
  ·rename_i o U y _ hy
   split at h
   ·injection h with h;subst h;simp [SOp.vs] at hv;subst hv;exact ⟨z,by simp [Op.operands],hy⟩
   ·injection h with h;subst h;simp [SOp.vs] at hv;subst hv;exact ⟨z,by simp [Op.operands],hy⟩
   ·cases h
  ·cases h
 case indexAddr T p q =>
  have fin:∀ {p' q':SV},sv p=some p'→sv q=some q'→(v=p'∨v=q')→∃ x∈(Op.indexAddr T p q).operands,sv x=some v:=by
   rintro p' q' h1 h2 (rfl|rfl)
   ·exact ⟨p,by simp [Op.operands],h1⟩
   ·exact ⟨q,by simp [Op.operands],h2⟩
  split at h
  ·rename_i E p' q' _ h1 h2
   split at h
   ·split at h
    ·injection h with h;subst h;exact fin h1 h2 (by simpa [SOp.vs] using hv)
    ·cases h
   ·cases h
  ·rename_i n E p' q' _ h1 h2
   split at h
   ·injection h with h;subst h;exact fin h1 h2 (by simpa [SOp.vs] using hv)
   ·cases h
  ·cases h
 case index T p q =>
  split at h
  ·rename_i p' q' _ h1 h2
   injection h with h
   subst h
   simp [SOp.vs] at hv
   rcases hv with rfl|rfl
   ·exact ⟨p,by simp [Op.operands],h1⟩
   ·exact ⟨q,by simp [Op.operands],h2⟩
  ·rename_i p' q' _ h1 h2
   split at h
   ·injection h with h
    subst h
    simp [SOp.vs] at hv
    rcases hv with rfl|rfl
    ·exact ⟨p,by simp [Op.operands],h1⟩
    ·exact ⟨q,by simp [Op.operands],h2⟩
   ·cases h
  ·cases h
 case binOp op T p q U =>
  split at h
  ·rename_i p' q' h1 h2
   have fin:(v=p'∨v=q')→∃ x∈(Op.binOp op T p q U).operands,sv x=some v:=by
    rintro (rfl|rfl)
    ·exact ⟨p,by simp [Op.operands],h1⟩
    ·exact ⟨q,by simp [Op.operands],h2⟩
   split at h
   ·cases op<;>dsimp only at h<;>first|(injection h with h;subst h;exact fin (by simpa [SOp.vs] using hv))|cases h
   ·split at h<;>first|(injection h with h;subst h;exact fin (by simpa [SOp.vs] using hv))|cases h|(split at h;(· split at h<;>first|(injection h with h;subst h;exact fin (by simpa [SOp.vs] using hv))|cases h);(· cases h))
  ·cases h
 case makeFunc fn first caps =>
  cases fn with
  | func f =>
   dsimp only at h
   split at h
   ·rw [Option.map_eq_some_iff] at h
    obtain ⟨ys,hys,rfl⟩:=h
    obtain ⟨x,h1,h2⟩:=h0a hys v hv
    exact ⟨x,by simp [Op.operands];right;simpa using h1,h2⟩
   ·cases h
  | _=>cases h
 case makeMap T r =>
  cases r<;>dsimp only at h<;>first|cases h|skip
  simp [SOp.vs] at hv
 case makeSlice T p q =>
  split at h
  ·rename_i E sz b z p' q' _ h1 h2
   injection h with h
   subst h
   simp [SOp.vs] at hv
   rcases hv with rfl|rfl
   ·exact ⟨p,by simp [Op.operands],h1⟩
   ·exact ⟨q,by simp [Op.operands],h2⟩
  ·cases h
 case build T ps =>
  split at h
  ·split at h
   ·rw [Option.map_eq_some_iff] at h
    obtain ⟨ys,hys,rfl⟩:=h
    obtain ⟨q,h1,h2⟩:=j0C hys v hv
    exact ⟨q.2,by simp [Op.operands];exact ⟨q.1,by simpa using h1⟩,h2⟩
   ·cases h
  ·split at h
   ·rw [Option.map_eq_some_iff] at h
    obtain ⟨ys,hys,rfl⟩:=h
    obtain ⟨q,h1,h2⟩:=e0t hys v (by simp only [SOp.vs,List.map_map] at hv ⊢;exact hv)
    exact ⟨q.2,by simp [Op.operands];exact ⟨q.1,by simpa using h1⟩,h2⟩
   ·cases h
  ·cases h
 case buildSlice T n ps =>
  split at h
  ·split at h
   ·rw [Option.map_eq_some_iff] at h
    obtain ⟨ys,hys,rfl⟩:=h
    obtain ⟨q,h1,h2⟩:=e0t hys v hv
    exact ⟨q.2,by simp [Op.operands];exact ⟨q.1,by simpa using h1⟩,h2⟩
   ·cases h
  ·cases h
 case slice T z lo hi mx =>
  split at h
  ·rename_i E sz b zz z' lo' hi' mx' _ h1 h2 h3 h4
   injection h with h
   subst h
   have opt:∀ {q:Option Operand} {r:Option SV},svo q=some r→r=some v→∃ x,q=some x∧sv x=some v:=by
    intro q r hq e
    subst e
    cases q with
    | none=>simp [svo] at hq
    | some x=>simp only [svo,Option.map_eq_some_iff] at hq;obtain ⟨y,hy,e⟩:=hq;injection e with e;subst e;exact ⟨x,rfl,hy⟩
   simp [SOp.vs] at hv
   rcases hv with rfl|hv|hv|hv
   ·exact ⟨z,by simp [Op.operands],h1⟩
   ·obtain ⟨x,g1,g2⟩:=opt h2 hv;exact ⟨x,by simp [Op.operands,g1],g2⟩
   ·obtain ⟨x,g1,g2⟩:=opt h3 hv;exact ⟨x,by simp [Op.operands,g1],g2⟩
   ·obtain ⟨x,g1,g2⟩:=opt h4 hv;exact ⟨x,by simp [Op.operands,g1],g2⟩
  ·rename_i z' lo' hi' _ h1 h2 h3 h4
   split at h
   ·injection h with h
    subst h
    have opt:∀ {q:Option Operand} {r:Option SV},svo q=some r→r=some v→∃ x,q=some x∧sv x=some v:=by
     intro q r hq e
     subst e
     cases q with
     | none=>simp [svo] at hq
     | some x=>simp only [svo,Option.map_eq_some_iff] at hq;obtain ⟨y,hy,e⟩:=hq;injection e with e;subst e;exact ⟨x,rfl,hy⟩
    simp [SOp.vs] at hv
    rcases hv with rfl|hv|hv
    ·exact ⟨z,by simp [Op.operands],h1⟩
    ·obtain ⟨x,g1,g2⟩:=opt h2 hv;exact ⟨x,by simp [Op.operands,g1],g2⟩
    ·obtain ⟨x,g1,g2⟩:=opt h3 hv;exact ⟨x,by simp [Op.operands,g1],g2⟩
   ·cases h
  ·cases h
 case lookup T m k ok =>
  split at h
  ·rename_i K E m' k' hu hm hk
   split at h
   ·injection h with h
    subst h
    simp [SOp.vs] at hv
    rcases hv with rfl|rfl
    ·exact ⟨m,by simp [Op.operands],hm⟩
    ·exact ⟨k,by simp [Op.operands],hk⟩
   ·cases h
  ·cases h
 case mapUpdate T m k z =>
  split at h
  ·rename_i K E m' k' z' hu hm hk hz
   injection h with h
   subst h
   simp [SOp.vs] at hv
   rcases hv with rfl|rfl|rfl
   ·exact ⟨m,by simp [Op.operands],hm⟩
   ·exact ⟨k,by simp [Op.operands],hk⟩
   ·exact ⟨z,by simp [Op.operands],hz⟩
  ·cases h
 case insert T m k z =>
  split at h
  ·rename_i K E m' k' z' hu hm hk hz
   injection h with h
   subst h
   simp [SOp.vs] at hv
   rcases hv with rfl|rfl|rfl
   ·exact ⟨m,by simp [Op.operands],hm⟩
   ·exact ⟨k,by simp [Op.operands],hk⟩
   ·exact ⟨z,by simp [Op.operands],hz⟩
  ·cases h
 case convert p q z =>
  have fin:∀ {y:SV},sv z=some y→v=y→∃ x∈(Op.convert p q z).operands,sv x=some v:=by
   rintro y hy rfl
   exact ⟨z,by simp [Op.operands],hy⟩
  split at h
  ·rename_i y _ _ hy;injection h with h;subst h;exact fin hy (by simpa [SOp.vs] using hv)
  ·rename_i E y _ _ hy
   split at h
   ·injection h with h;subst h;exact fin hy (by simpa [SOp.vs] using hv)
   ·cases h
  ·rename_i E y _ _ hy
   split at h
   ·injection h with h;subst h;exact fin hy (by simpa [SOp.vs] using hv)
   ·cases h
  ·cases h
 case call c =>
  obtain ⟨callee,args,argTypes⟩:=c
  have bi:∀ {b:Builtin} {ys:List SV},callee = .builtin b→svs args.toList=some ys→(v∈ys)→∃ x∈(Op.call ⟨callee,args,argTypes⟩).operands,sv x=some v:=by
   rintro b ys rfl hys hall
   obtain ⟨x,h1,h2⟩:=h0a hys v hall
   exact ⟨x,by simpa [Op.operands,Call.operands] using h1,h2⟩
  split at h
  ·rename_i p q t u hca hl hty
   split at h
   ·injection h with h;subst h;exact bi hca hl (by simpa [SOp.vs] using hv)
   ·cases h
  ·rename_i p t hca hl hty
   injection h with h;subst h;exact bi hca hl (by simpa [SOp.vs] using hv)
  ·rename_i p q t u hca hl hty
   split at h
   ·split at h
    ·split at h
     ·injection h with h;subst h;exact bi hca hl (by simpa [SOp.vs] using hv)
     ·cases h
    ·cases h
   ·cases h
  ·rename_i p t hca hl hty
   split at h<;>first|(injection h with h;subst h;exact bi hca hl (by simpa [SOp.vs] using hv))|cases h
  ·rename_i p q hca hl
   injection h with h;subst h;exact bi hca hl (by simpa [SOp.vs] using hv)
  ·rename_i p q hca hl
   injection h with h;subst h;exact bi hca hl (by simpa [SOp.vs] using hv)
  ·rename_i f xs hca hl
   simp only at hca hl
   split at h
   ·rename_i f' hf
    injection h with h
    subst h
    subst hca
    simp [SOp.vs] at hv
    rcases hv with rfl|hv
    ·exact ⟨f,by simp [Op.operands,Call.operands],hf⟩
    ·obtain ⟨x,h1,h2⟩:=h0a hl v hv
     exact ⟨x,by simp [Op.operands,Call.operands];right;simpa using h1,h2⟩
   ·cases h
  ·cases h
 all_goals cases h
theorem w0N {ops:List Oper}{o:Oper}{i:SI}(hr:resI P ops o=some i){ts:List D}{p q:Prop}(h:c1A ts i.guard p q):∃ b,b0a ops ts o=some b∧(if b then p else q):=by
 unfold resI at hr
 unfold b0a
 split at hr
 ·rename_i hg
  injection hr with hr
  subst hr
  simp only [hg]
  exact ⟨true,rfl,h⟩
 ·rename_i j w hg
  split at hr
  ·rename_i o' ho
   split at hr
   ·rename_i t ht
    injection hr with hr
    subst hr
    simp only [hg,ho,ht]
    unfold c1A at h
    dsimp only at h
    split at h
    ·rename_i b hb
     simp only [hb]
     refine ⟨_,rfl,?_⟩
     cases w<;>cases b<;>simp [Bsel] at h ⊢<;>exact h
    ·rename_i xs hb
     simp only [hb]
     exact ⟨false,rfl,by simpa using h⟩
    ·exact h.elim
   ·cases hr
  ·cases hr
theorem m0s {ops:List Oper}{o:Oper}{i:SI}(hr:resI P ops o=some i):i.dst=o.dst∧i.op=s0p P o:=by
 unfold resI at hr
 split at hr
 ·injection hr with hr;subst hr;exact ⟨rfl,rfl⟩
 ·split at hr
  ·split at hr
   ·injection hr with hr;subst hr;exact ⟨rfl,rfl⟩
   ·cases hr
  ·cases hr
theorem p0u {ts ts':List D}{H:List Row}{so:SOp}{K:D→List Row→Prop}(hv:∀ v∈so.vs,v.ev ts'=v.ev ts):e0C P ts' H so K=e0C P ts H so K:=by
 cases so<;>simp only [e0C,a0T,SOp.vs,List.mem_cons,List.not_mem_nil,or_false,forall_eq_or_imp,forall_eq,List.mem_append,Option.mem_toList] at hv ⊢
 case pick=>rw [hv.1,hv.2.1,hv.2.2]
 case bin=>rw [hv.1,hv.2]
 case binb=>rw [hv.1,hv.2]
 case aeq=>rw [hv.1,hv.2]
 case aidx=>rw [hv.1,hv.2]
 case store=>rw [hv.1,hv.2]
 case idx=>rw [hv.1,hv.2]
 case arr=>rw [hv.1,hv.2]
 case mkslice=>rw [hv.1,hv.2]
 case app=>rw [hv.1,hv.2]
 case sidx=>rw [hv.1,hv.2]
 case mm=>rw [hv.1,hv.2]
 case ssub x lo hi =>
  have e1:=hv.1
  have e2:∀ v,lo=some v→v.ev ts'=v.ev ts:=fun v h=>hv.2 v (.inl h)
  have e3:∀ v,hi=some v→v.ev ts'=v.ev ts:=fun v h=>hv.2 v (.inr h)
  rw [e1]
  cases lo<;>cases hi<;>simp only [Option.some.injEq,forall_eq',reduceCtorEq,false_implies,implies_true] at e2 e3<;>simp only [Option.map_some,Option.map_none,e2,e3]
 case look=>rw [hv.1,hv.2]
 case mput=>rw [hv.1,hv.2.1,hv.2.2]
 case mdel=>rw [hv.1,hv.2]
 case clr=>rw [hv]
 case fn caps =>
  have:caps.map (SV.ev ts')=caps.map (SV.ev ts):=List.map_congr_left hv
  rw [this]
 case call f args =>
  have:args.map (SV.ev ts')=args.map (SV.ev ts):=List.map_congr_left fun v hm=>hv.2 v hm
  rw [this,hv.1]
 case bld z ps =>
  have:(ps.map fun p=>(p.1,p.2.1,p.2.2.ev ts'))=ps.map fun p=>(p.1,p.2.1,p.2.2.ev ts):=List.map_congr_left fun q hq=>by
   rw [hv q.2.2 (List.mem_map.2 ⟨q,hq,rfl⟩)]
  rw [this]
 case bsl T sz len z ps =>
  have:(ps.map fun p=>(p.1,sz,p.2.ev ts'))=ps.map fun p=>(p.1,sz,p.2.ev ts):=List.map_congr_left fun q hq=>by
   rw [hv q.2 (List.mem_map.2 ⟨q,hq,rfl⟩)]
  rw [this]
 case sub sz E x lo hi mx =>
  have e1:=hv.1
  have e2:∀ v,lo=some v→v.ev ts'=v.ev ts:=fun v h=>hv.2 v (.inl (.inl h))
  have e3:∀ v,hi=some v→v.ev ts'=v.ev ts:=fun v h=>hv.2 v (.inl (.inr h))
  have e4:∀ v,mx=some v→v.ev ts'=v.ev ts:=fun v h=>hv.2 v (.inr h)
  rw [e1]
  cases lo<;>cases hi<;>cases mx<;>simp only [Option.some.injEq,forall_eq',reduceCtorEq,false_implies,implies_true] at e2 e3 e4<;>simp only [e2,e3,e4]
 all_goals first|rfl|rw [hv]
theorem g1U {op:BinOp}{k:IntKind}{a b:Int}{H:List Row}{K:D→List Row→Prop}(h:intS op k a b fun d=>K d H):∃ d H',K d H'∧intS op k a b fun d1=>d1=d∧H=H':=by
 have two:∀ {c:Prop} {x y:D},Two c (K x H) (K y H)→∃ d H',K d H'∧Two c (x=d∧H=H') (y=d∧H=H'):=by
  intro c x y h
  rcases c0L h with ⟨hc,hg⟩|⟨hc,hg⟩
  ·exact ⟨x,H,hg,fun _=>⟨rfl,rfl⟩,fun h=>absurd hc h⟩
  ·exact ⟨y,H,hg,fun h=>absurd h hc,fun _=>⟨rfl,rfl⟩⟩
 cases op<;>simp only [intS] at h ⊢
 case shl=>exact ⟨_,_,h.2,h.1,rfl,rfl⟩
 case shr=>exact ⟨_,_,h.2,h.1,rfl,rfl⟩
 case and=>exact ⟨_,_,h,rfl,rfl⟩
 case or=>exact ⟨_,_,h,rfl,rfl⟩
 case xor=>exact ⟨_,_,h,rfl,rfl⟩
 case add=>exact ⟨_,_,h,rfl,rfl⟩
 case sub=>exact ⟨_,_,h,rfl,rfl⟩
 case mul=>exact ⟨_,_,h,rfl,rfl⟩
 case quo=>exact ⟨_,_,h.2,h.1,rfl,rfl⟩
 case rem=>exact ⟨_,_,h.2,h.1,rfl,rfl⟩
 all_goals exact two h
theorem g1F {op:BinOp}{a b:ByteArray}{H:List Row}{K:D→List Row→Prop}(h:strS op a b fun d=>K d H):∃ d H',K d H'∧strS op a b fun d1=>d1=d∧H=H':=by
 have two:∀ {c:Prop} {x y:D},Two c (K x H) (K y H)→∃ d H',K d H'∧Two c (x=d∧H=H') (y=d∧H=H'):=by
  intro c x y h
  rcases c0L h with ⟨hc,hg⟩|⟨hc,hg⟩
  ·exact ⟨x,H,hg,fun _=>⟨rfl,rfl⟩,fun h=>absurd hc h⟩
  ·exact ⟨y,H,hg,fun h=>absurd h hc,fun _=>⟨rfl,rfl⟩⟩
 cases op<;>simp only [strS] at h ⊢
 case add=>exact ⟨_,_,h.2,h.1,rfl,rfl⟩
 all_goals exact two h
theorem x0l {ts:List D}{H:List Row}{so:SOp}{K:D→List Row→Prop}(h:e0C P ts H so K):∃ d H',K d H'∧e0C P ts H so fun d1 H1=>d1=d∧H1=H':=by
 have bnd:∀ {α:Type} {o:Option α} {f:α→D} {g:α→List Row},a0D o (fun a=>K (f a) (g a))→∃ d H',K d H'∧a0D o fun a=>f a=d∧g a=H':=by
  intro α o f g h
  obtain ⟨a,ha,h1⟩:=a0E h
  exact ⟨_,_,h1,by rw [ha];exact ⟨rfl,rfl⟩⟩
 cases so<;>simp only [e0C,a0T] at h ⊢
 case mv=>exact ⟨_,_,h,rfl,rfl⟩
 case alloc=>exact ⟨_,_,h,rfl,rfl⟩
 case fn=>exact ⟨_,_,h,rfl,rfl⟩
 case mkmap=>exact ⟨_,_,h,rfl,rfl⟩
 case pick c p q =>
  unfold k0i at h ⊢
  split at h
  ·rename_i t ht
   cases t
   ·rw [b0y] at h;exact ⟨_,_,h,by rw [b0y];exact ⟨rfl,rfl⟩⟩
   ·rw [c0n] at h;exact ⟨_,_,h,by rw [c0n];exact ⟨rfl,rfl⟩⟩
  ·exact h.elim
 case idx sz x i =>
  unfold idxS at h ⊢
  split at h
  ·split at h
   ·exact ⟨_,_,h.2,h.1,rfl,rfl⟩
   ·exact ⟨_,_,h.2,h.1,rfl,rfl⟩
   ·exact h.elim
  ·exact h.elim
 case arr sz n x i =>
  unfold arrS at h ⊢
  split at h
  ·split at h
   ·exact ⟨_,_,h.2,h.1,rfl,rfl⟩
   ·exact h.elim
  ·exact h.elim
 case bin op x y =>
  unfold binS at h ⊢
  split at h
  ·obtain ⟨d,H',h1,h2⟩:=g1U h.2
   exact ⟨d,H',h1,h.1,h2⟩
  ·exact g1F h
  ·exact h.elim
 case aidx sz n x i =>
  unfold w0e at h ⊢
  split at h
  ·obtain ⟨d,h1,h2⟩:=a0E h.2
   exact ⟨_,_,h2,h.1,by rw [h1];exact ⟨rfl,rfl⟩⟩
  ·exact h.elim
 case aeq eq ks x y =>
  unfold aeqS at h ⊢
  split at h
  ·obtain ⟨b,hb,h⟩:=a0E h
   exact ⟨_,_,h,b0d hb ⟨rfl,rfl⟩⟩
  ·exact h.elim
 case binb op x y =>
  unfold q0Q at h ⊢
  split at h
  ·cases op<;>simp only [s0c] at h ⊢<;>exact ⟨_,_,h,rfl,rfl⟩
  ·exact h.elim
 case mkslice T sz b z l c =>
  obtain ⟨p,hp,h⟩:=a0E h
  obtain ⟨q,hq,h⟩:=a0E h
  exact ⟨_,_,h.2,b0d hp (b0d hq ⟨h.1,rfl,rfl⟩)⟩
 case bsl T sz len z ps =>
  obtain ⟨p,hp,h⟩:=a0E h
  obtain ⟨q,hq,h⟩:=a0E h
  exact ⟨_,_,h,b0d hp (b0d hq ⟨rfl,rfl⟩)⟩
 case app T sz b s x =>
  unfold appS at h ⊢
  obtain ⟨⟨m,ys⟩,hp,h⟩:=a0E h
  dsimp only at h
  rw [hp]
  show ∃ d H',K d H'∧_
  simp only [c0Y]
  split at h
  ·rcases c0L h with ⟨hc,hg⟩|⟨hc,hg⟩
   ·exact ⟨_,_,hg,fun _=>⟨rfl,rfl⟩,fun h=>absurd hc h⟩
   ·exact ⟨_,_,hg.2.2.2,fun h=>absurd h hc,fun _=>⟨hg.1,hg.2.1,hg.2.2.1,rfl,rfl⟩⟩
  ·rcases c0L h with ⟨hc,hg⟩|⟨hc,hg⟩
   ·exact ⟨_,_,hg,fun _=>⟨rfl,rfl⟩,fun h=>absurd hc h⟩
   ·exact ⟨_,_,hg.2.2.2,fun h=>absurd h hc,fun _=>⟨hg.1,hg.2.1,hg.2.2.1,rfl,rfl⟩⟩
  ·rcases c0L h with ⟨hc,hg⟩|⟨hc,hg⟩
   ·exact ⟨_,_,hg,fun _=>⟨rfl,rfl⟩,fun h=>absurd hc h⟩
   ·split at hg
    ·exact ⟨_,_,hg.2.2.2.2.2,fun h=>absurd h hc,fun _=>⟨hg.1,hg.2.1,hg.2.2.1,hg.2.2.2.1,hg.2.2.2.2.1,rfl,rfl⟩⟩
    ·exact hg.elim
  ·exact ⟨_,_,h.2,h.1,rfl,rfl⟩
  ·exact h.elim
 case sub sz E x lo hi mx =>
  obtain ⟨n,hn,h⟩:=a0E h
  obtain ⟨l,hl,h⟩:=a0E h
  obtain ⟨u,hu,h⟩:=a0E h
  rw [hn]
  simp only [c0Y]
  rw [hl]
  simp only [c0Y]
  rw [hu]
  simp only [c0Y]
  cases mx with
  | none =>
   obtain ⟨d,hd,h2⟩:=a0E h.2
   exact ⟨_,_,h2,h.1,by show a0D _ _;rw [hd];exact ⟨rfl,rfl⟩⟩
  | some v=>exact ⟨_,_,h.2.2,h.1,h.2.1,rfl,rfl⟩
 case s2b x =>
  obtain ⟨p,hp,h⟩:=a0E h
  exact ⟨_,_,h.2,by rw [hp];exact ⟨h.1,rfl,rfl⟩⟩
 case b2s x =>
  obtain ⟨p,hp,h⟩:=a0E h
  obtain ⟨q,hq,h⟩:=a0E h
  exact ⟨_,_,h.2,b0d hp (b0d hq ⟨h.1,rfl,rfl⟩)⟩
 case sidx x i =>
  obtain ⟨p,hp,h⟩:=a0E h
  obtain ⟨q,hq,h⟩:=a0E h
  obtain ⟨r,hr,h⟩:=a0E h
  exact ⟨_,_,h,b0d hp (b0d hq (b0d hr ⟨rfl,rfl⟩))⟩
 case mm m x y =>
  obtain ⟨p,hp,h⟩:=a0E h
  obtain ⟨q,hq,h⟩:=a0E h
  exact ⟨_,_,h,b0d hp (b0d hq ⟨rfl,rfl⟩)⟩
 case call f args =>
  obtain ⟨g,caps,d0,H0,h1,h2,h3⟩:=h
  exact ⟨d0,H0,h3,g,caps,d0,H0,h1,h2,rfl,rfl⟩
 all_goals first|exact bnd h|exact h.elim
theorem t0E {ts:List D}{H:List Row}{so:SOp}{K:D→List Row→Prop}(h:e0C P ts H so K):a0T P ts H so K:=by
 cases so<;>simp only [e0C] at h
 case call f args =>
  obtain ⟨g,caps,d0,H0,h1,h2,h3⟩:=h
  exact ⟨g,caps,h1,h2.mono fun d H' ⟨e1,e2⟩=>by rw [e1,e2];exact h3⟩
 all_goals first|exact h|exact h.elim
theorem x0M {ts:List D}{H:List Row}{so:SOp}{K:Bool→D→List Row→Prop}(h:a0S P ts H so K):∃ w d H',K w d H'∧e0C P ts H so fun d1 H1=>d1=d∧H1=H':=by
 have e:∃ w,e0C P ts H so (K w):=by
  cases so
  case call f args=>exact h
  all_goals first|exact ⟨false,h⟩|exact ⟨true,h⟩
 obtain ⟨w,h⟩:=e
 exact ⟨w,x0l h⟩
theorem y0V {w w':World}{φ:Nat→Nat × Nat}{X:Nat→Prop}{M H':List Row}{d:D}{v:Value}{e:Eff}(h:LeavesW P w φ X M v w' d H')(hd:e.res=d)(hH:H'=e.heap M):Leaves P w φ X M e v w':=by
 obtain ⟨φ',ons,hh,hr⟩:=h
 subst hd;subst hH
 exact ⟨φ',ons.same,hh,hr,ons.keep,ons.fresh⟩
theorem g1N {V:List Nat}{H:List Row}:(b0g V H).length=H.length:=f0l
theorem s0L (hP:Good P){ops:List Oper}{b:List Nat}{n0:Nat}{K:St→Prop}:∀ (rest:List Oper) (is:List SI) (i:Nat) (pre:List Rec) (own:List Nat) (s:St),k0c P ops rest=some is→wpDr P b n0 is i own (pre.map fun r=>(r.view,r.upd.map (·.1))) s K →
  ∃ recs s',Tr P ops b n0 rest i pre own s recs s'∧K ⟨s'.ts,s'.H,[]⟩
 | [],is,i,pre,own,s,hi,h=>by
  simp [k0c] at hi
  subst hi
  exact ⟨[],s,.nil,h⟩
 | o :: rest,is,i,pre,own,s,hi,h=>by
  simp only [k0c] at hi
  split at hi
  ·rename_i it is' h1 h2
   injection hi with hi
   subst hi
   obtain ⟨e1,e2⟩:=m0s h1
   simp only [wpDr] at h
   obtain ⟨bb,hb,h⟩:=w0N h1 h
   cases bb with
   | false =>
    rw [if_neg (by simp)] at h
    rw [e1] at h
    obtain ⟨recs,s',htr,hk⟩:=s0L hP rest is' (i+1) (pre++[⟨D.undef,[],[],s.H.length,[]⟩]) own ⟨putD! s.ts o.dst D.undef,s.H,s.dirty⟩ h2 (by simpa using wpDr_dirty h)
    exact ⟨⟨D.undef,[],[],s.H.length,[]⟩ :: recs,s',.cons (r:=⟨D.undef,[],[],s.H.length,[]⟩) ⟨rfl,.inl ⟨hb,rfl,rfl,rfl,rfl⟩⟩ (by simpa [a0B] using htr),hk⟩
   | true =>
    rw [if_pos rfl] at h
    obtain ⟨w,d,H',⟨hH,hchk,hk⟩,hdet⟩:=x0M h
    obtain ⟨V,hV⟩:∃ V,V=a0Y s.ts s.H it.op:=⟨_,rfl⟩
    rw [←hV] at hH hchk hk hdet
    obtain ⟨e,he⟩:∃ e,e=effS w V s.H.length d H':=⟨_,rfl⟩
    rw [←he] at hH hchk hk
    have hres:e.res=d:=by rw [he];rfl
    unfold Chk chkS at hchk
    simp only [Bool.and_eq_true,List.all_eq_true,decide_eq_true_eq] at hchk
    obtain ⟨⟨⟨⟨⟨c1,c2⟩,c3⟩,c4⟩,c5⟩,c6⟩:=hchk
    rw [g1N] at c4
    have hraw:∃ so,resOp? P o=some so∧it.op=so:=by
     rw [e2]
     unfold s0p
     cases hr:resOp? P o with
     | some so=>exact ⟨so,rfl,rfl⟩
     | none =>
      exfalso
      rw [e2] at hdet
      unfold s0p at hdet
      rw [hr] at hdet
      exact hdet
    obtain ⟨so,hso,hop⟩:=hraw
    rw [hop] at hdet c2
    have step:StepOk P s.ts (b0g V s.H) o ⟨e.res,e.upd,e.news⟩:=by
     intro ts' heq w φ X a hM hts
     have hv:∀ v∈so.vs,v.ev ts'=v.ev s.ts:=vs_same hso heq
     have h3:e0C P ts' (b0g V s.H) so fun d1 H1=>d1=d∧H1=H':=by rw [p0u hv];exact hdet
     have h4:=v0h hP hM hts hso (t0E h3)
     refine OpOk.mono h4 ?_
     rintro v w' ⟨d1,H1,⟨rfl,rfl⟩,hl⟩
     exact y0V hl hres hH
    have hin:inOk n0 own (b.getD i 0) s.ts (b0g V s.H) o=true:=by
     unfold inOk
     rw [Bool.and_eq_true]
     refine ⟨?_,List.all_eq_true.2 fun r hr=>List.all_eq_true.2 (c3 r hr)⟩
     simp only [List.all_eq_true]
     intro x hx q hq
     obtain ⟨v,hv,hsv⟩:=f1r hso x (by simpa using hx)
     rw [←a0Q hsv] at hq
     exact c2 _ (List.mem_map.2 ⟨v,hv,rfl⟩) q hq
    obtain ⟨recs,s',htr,hk'⟩:=s0L hP rest is' (i+1) (pre++[⟨e.res,e.upd,e.news,s.H.length,V⟩]) (own++e.news.map fun _=>i) ⟨putD! s.ts o.dst e.res,a0B s.H e.upd++e.news,e.upd.map (·.1)++s.dirty⟩ h2 (by
     rw [hres,←e1]
     simpa [Eff.heap] using wpDr_dirty hk)
    refine ⟨_,s',.cons ⟨rfl,.inr ⟨hb,step,c1,fun p hp=>?_,fun j q hq=>?_,hin,c4⟩⟩ htr,hk'⟩
    ·have:=c5 p hp
     rw [g1N] at this
     exact ⟨by simpa using this.1,this.2⟩
    ·have:=e0E c6 j (q.view,q.upd.map (·.1)) (by rw [List.getElem?_map,hq];rfl)
     rw [Nat.zero_add] at this
     refine this.imp id (fun ⟨g1,g2⟩=>⟨fun p hp=>g1 p.1 (List.mem_map.2 ⟨p,hp,rfl⟩),fun p hp=>g2 p.1 (List.mem_map.2 ⟨p,hp,rfl⟩)⟩)
  ·cases hi
where
 wpDr_dirty {P:Program} {b:List Nat} {n0:Nat} {K:St→Prop} {is:List SI} {i:Nat} {own:List Nat} {log:List (List Nat × List Nat)} {ts:List D} {H:List Row} {d1 d2:List Nat} (h:wpDr P b n0 is i own log ⟨ts,H,d1⟩ K):wpDr P b n0 is i own log ⟨ts,H,d2⟩ K:=by
  cases is with
  | nil=>exact h
  | cons o rest=>simpa only [wpDr] using h
 vs_same {P:Program} {o:Oper} {so:SOp} (h:resOp? P o=some so) {ts ts':List D} (heq:∀ x∈o.op.operands,eval ts' x=eval ts x):∀ v∈so.vs,v.ev ts'=v.ev ts:=by
  intro v hv
  obtain ⟨x,hx,hsv⟩:=e1M h v hv
  rw [a0Q hsv,a0Q hsv,heq x hx]
theorem e1A (hP:Good P){X:Nat→Prop}{id:Nat}{ops:Array Oper}{is:List SI}{Q:Exit→Act→World→Prop}{w0 w:World}{φ0 φ:Nat→Nat × Nat}{H0:List Row}{s:St}{a:Act}{K:St→Prop}
  (hi:k0c P ops.toList ops.toList=some is) (hd:f0h ops.toList (Region.before ops).toList=true) (hw:wpDr P (Region.before ops).toList s.H.length is 0 [] [] s K) (h:RunW P X w0 φ0 H0 w φ s a)
  (hQ:∀ s' a' w' φ',K s'→RunW P X w0 φ0 H0 w' φ' s' a'→Q .normal a' w'):(Code.region id ops true).wp P Q a w:=by
 obtain ⟨recs,s',htr,hk⟩:=s0L hP ops.toList is 0 [] [] s hi hw
 refine b1h (X:=X) hP hd htr ⟨h.sim,Ons.refl _ _ _ _,fun r row hr=>(h.sim.heap.rows r row hr).isLow,fun _ _ _=>rfl⟩ (fun a' w' φ' hr=>hQ ⟨s'.ts,s'.H,[]⟩ a' w' φ' hk ⟨⟨hr.sim.heap,hr.sim.tmps,hr.sim.defers⟩,h.ons.trans hr.ons⟩)
end
end Go.Proofs.YthjgmldnegaaiaaGreatDoor.Mir
namespace Go.Proofs.YthjgmldnegaaiaaGreatDoor.Mir
open Go Go.RowKit
inductive SCode where
 | ops (l:List SI)
 | drw (l:List SI) (b:List Nat)
 | seq (a b:SCode)
 | cond (c:SV) (a b:SCode)
 | block (id:Nat) (a:SCode)
 | loop (a:SCode)
 | exit (id:Nat)
 | ret
 | skip
 | other (c:Code)
def SI.a (t:Nat)(o:SOp):SI:=⟨some t,o,none⟩
def SI.n (o:SOp):SI:=⟨none,o,none⟩
def SI.g (d:Option Nat)(o:SOp)(t:Nat)(w:Bool):SI:=⟨d,o,some (t,w)⟩
theorem b1I {P:Program}{s:St}{K:St→Prop}:wpS P [] s K=K s:=id rfl
theorem g1J {P:Program}{t:Nat}{o:SOp}{l:List SI}{ts:List D}{H:List Row}{dr:List Nat}{K:St→Prop}:wpS P (.a t o :: l) ⟨ts,H,dr⟩ K=a0T P ts H o fun d H'=>wpS P l ⟨ts.set t d,H',[]⟩ K:=id rfl
theorem f1w {P:Program}{o:SOp}{l:List SI}{ts:List D}{H:List Row}{dr:List Nat}{K:St→Prop}:wpS P (.n o :: l) ⟨ts,H,dr⟩ K=a0T P ts H o fun d H'=>wpS P l ⟨ts,H',[]⟩ K:=id rfl
def r0V (d:Option D)(w:Bool)(p q:Prop):Prop:=match d with
 | some (.f (.v (.bool b)))=>if w then Bsel b p q else Bsel b q p
 | some (.tp _)=>q
 | _=>False
@[congr] theorem wantV_congr {d d':Option D} {w:Bool} {p q:Prop} (h:d=d'):r0V d w p q=r0V d' w p q:=by rw [h]
theorem f1b {P:Program}{d:Option Nat}{o:SOp}{t:Nat}{w:Bool}{l:List SI}{ts:List D}{H:List Row}{dr:List Nat}{K:St→Prop}:wpS P (.g d o t w :: l) ⟨ts,H,dr⟩ K=r0V ts[t]? w (a0T P ts H o fun r H'=>wpS P l ⟨putD! ts d r,H',[]⟩ K) (wpS P l ⟨putD! ts d D.undef,H,[]⟩ K):=id rfl
@[congr] theorem wpS_congr {P:Program} {l:List SI} {s s':St} {K:St→Prop} (h:s=s'):wpS P l s K=wpS P l s' K:=by rw [h]
@[congr] theorem binS_congr {op:BinOp} {a a' b b':D} {K:D→Prop} (h:a=a') (g:b=b'):binS op a b K=binS op a' b' K:=by rw [h,g]
@[congr] theorem aeqS_congr {eq:Bool} {ks:List Nat} {a a' b b':D} {K:D→Prop} (h:a=a') (g:b=b'):aeqS eq ks a b K=aeqS eq ks a' b' K:=by rw [h,g]
@[congr] theorem binbS_congr {op:BinOp} {a a' b b':D} {K:D→Prop} (h:a=a') (g:b=b'):q0Q op a b K=q0Q op a' b' K:=by rw [h,g]
@[congr] theorem idxS_congr {sz:Nat} {a a' b b':D} {K:D→Prop} (h:a=a') (g:b=b'):idxS sz a b K=idxS sz a' b' K:=by rw [h,g]
@[congr] theorem pickS_congr {a a':D} {p q:Prop} (h:a=a'):k0i a p q=k0i a' p q:=by rw [h]
@[congr] theorem appS_congr {H H':List Row} {T:TypeId} {sz b:Nat} {s s' x x':D} {K:D→List Row→Prop} (h:H=H') (g:s=s') (k:x=x'):appS H T sz b s x K=appS H' T sz b s' x' K:=by rw [h,g,k]
def a0p (P:Program):Code→SCode
 | .region id ops false=>match k0c P ops.toList ops.toList with
  | some l=>.ops l
  | none=>.other (.region id ops false)
 | .region id ops true=>match k0c P ops.toList ops.toList with
  | some l=>if f0h ops.toList (Region.before ops).toList=true then .drw l (Region.before ops).toList else .other (.region id ops true)
  | none=>.other (.region id ops true)
 | .seq a b=>.seq (a0p P a) (a0p P b)
 | .cond c a b=>match sv c with
  | some v=>.cond v (a0p P a) (a0p P b)
  | none=>.other (.cond c a b)
 | .block id a=>.block id (a0p P a)
 | .loop a=>.loop (a0p P a)
 | .exit id=>.exit id
 | .ret=>.ret
 | .skip=>.skip
 | .label _=>.skip
 | c=>.other c
section
variable {P:Program}
theorem a1d (hP:Good P){X:Nat→Prop}{ops:Array Oper}{Q:Exit→Act→World→Prop}{w0:World}{φ0:Nat→Nat × Nat}{H0:List Row}{K:St→Prop}:∀ (rest:List Oper) (is:List SI) (k:Nat) (s:St) (w:World) (φ:Nat→Nat × Nat) (a:Act),(∀ j,rest[j]?=ops[k+j]?) →
  k0c P ops.toList rest=some is→wpS P is s K→RunW P X w0 φ0 H0 w φ s a→(∀ s' a' w' φ',K s'→RunW P X w0 φ0 H0 w' φ' s' a'→Q .normal a' w')→wpOps P ops Q (List.range' k rest.length) a w
 | [],is,k,s,w,φ,a,_,hi,hr,hs,hQ=>by
  simp [k0c] at hi
  subst hi
  exact hQ s a w φ hr hs
 | o :: rest,is,k,s,w,φ,a,hk,hi,hr,hs,hQ=>by
  simp only [k0c] at hi
  split at hi
  ·rename_i i is' h1 h2
   injection hi with hi
   subst hi
   have ho:ops[k]?=some o:=by have:=hk 0;simpa using this.symm
   have hk':∀ j,rest[j]?=ops[k+1+j]?:=fun j=>by have:=hk (j+1);simpa [Nat.add_assoc,Nat.add_comm 1 j] using this
   simp only [List.length_cons,List.range'_succ,wpOps,ho]
   obtain ⟨e1,e2⟩:=m0s h1
   simp only [wpS] at hr
   obtain ⟨b,hb,hr⟩:=w0N h1 hr
   rw [d0p hs.sim.tmps hb]
   cases b with
   | true =>
    rw [if_pos rfl] at hr ⊢
    rw [e1,e2] at hr
    refine .inl (c1M hP hs.sim.heap hs.sim.tmps hr _ _ ?_)
    rintro v w' ⟨d,H',h3,h4⟩
    obtain ⟨φ',h5⟩:=hs.step h4 o.dst
    exact a1d hP rest is' (k+1) _ w' φ' _ hk' h2 h3 h5 hQ
   | false =>
    rw [if_neg (by simp)] at hr ⊢
    rw [e1] at hr
    exact a1d hP rest is' (k+1) _ w φ _ hk' h2 hr (hs.skip o.dst) hQ
  ·cases hi
def HS (P:Program)(n0:Nat)(c:SCode)(s:St)(Q:Out→St→Prop):Prop:=∀ k,a0p P k=c→HC P n0 k s Q
@[congr] theorem HS_congr {n0:Nat} {c:SCode} {s s':St} {Q:Out→St→Prop} (h:s=s'):HS P n0 c s Q=HS P n0 c s' Q:=by rw [h]
variable {n0:Nat}{s:St}{Q:Out→St→Prop}
theorem HS.ops (hP:Good P){l:List SI}(h:wpS P l s (Q .normal)):HS P n0 (.ops l) s Q:=by
 intro k hk X w0 φ0 H0 w φ a K _ hr hK
 cases k with
 | region id ops draw =>
  cases draw with
  | true=>simp only [a0p] at hk;split at hk<;>first|cases hk|(split at hk<;>cases hk)
  | false =>
   simp only [a0p] at hk
   split at hk
   ·rename_i l' hl
    injection hk with hk
    subst hk
    refine wp_region ?_
    rw [List.range_eq_range',←Array.length_toList]
    exact a1d hP ops.toList l' 0 s w φ a (fun j=>by simp) hl h hr (fun s' a' w' φ' hq hr'=>hK .normal s' w' φ' a' hq hr')
   ·cases hk
 | cond c a b=>simp only [a0p] at hk;split at hk<;>cases hk
 | _=>simp [a0p] at hk
theorem HS.drw (hP:Good P){l:List SI}{b:List Nat}(h:∀ K:St→Prop,(∀ s',Q .normal s'→K s')→wpDr P b s.H.length l 0 [] [] s K):HS P n0 (.drw l b) s Q:=by
 intro k hk X w0 φ0 H0 w φ a K _ hr hK
 cases k with
 | region id ops draw =>
  cases draw with
  | false=>simp only [a0p] at hk;split at hk<;>cases hk
  | true =>
   simp only [a0p] at hk
   split at hk
   ·rename_i l' hl
    split at hk
    ·rename_i hd
     injection hk with h1 h2
     subst h1;subst h2
     exact e1A hP hl hd (h (Q .normal) fun _ h=>h) hr (fun s' a' w' φ' hq hr'=>hK .normal s' w' φ' a' hq hr')
    ·cases hk
   ·cases hk
 | cond c a b=>simp only [a0p] at hk;split at hk<;>cases hk
 | _=>simp [a0p] at hk
theorem HS.seq {x y:SCode}(h:HS P n0 x s (h0V (fun s'=>HS P n0 y s' Q) Q)):HS P n0 (.seq x y) s Q:=by
 intro k hk
 cases k with
 | seq a b =>
  simp only [a0p] at hk
  injection hk with h1 h2
  refine HC.seq ((h a h1).mono ?_)
  intro o s' hq
  cases o with
  | normal=>exact hq b h2
  | exit i=>exact hq
  | ret=>exact hq
 | region id ops draw=>cases draw<;>simp only [a0p] at hk<;>first|(split at hk<;>first|cases hk|(split at hk<;>cases hk))|cases hk
 | cond c a b=>simp only [a0p] at hk;split at hk<;>cases hk
 | _=>simp [a0p] at hk
theorem HS.block {id:Nat}{x:SCode}(h:HS P n0 x s (d0K id Q)):HS P n0 (.block id x) s Q:=by
 intro k hk
 cases k with
 | block i a =>
  simp only [a0p] at hk
  injection hk with h1 h2
  subst h1
  exact HC.block (h a h2)
 | region id ops draw=>cases draw<;>simp only [a0p] at hk<;>first|(split at hk<;>first|cases hk|(split at hk<;>cases hk))|cases hk
 | cond c a b=>simp only [a0p] at hk;split at hk<;>cases hk
 | _=>simp [a0p] at hk
theorem HS.cond {c:SV}{x y:SCode}(h:c1R (c.ev s.ts) (HS P n0 x s Q) (HS P n0 y s Q)):HS P n0 (.cond c x y) s Q:=by
 intro k hk
 cases k with
 | cond c' a b =>
  simp only [a0p] at hk
  split at hk
  ·rename_i v hv
   injection hk with h1 h2 h3
   subst h1
   refine HC.cond ?_
   rw [←a0Q hv]
   unfold c1R at h ⊢
   split at h
   ·exact ⟨fun e=>h.1 e a h2,fun e=>h.2 e b h3⟩
   ·exact h.elim
  ·cases hk
 | region id ops draw=>cases draw<;>simp only [a0p] at hk<;>first|(split at hk<;>first|cases hk|(split at hk<;>cases hk))|cases hk
 | _=>simp [a0p] at hk
theorem HS.exit {id:Nat}(h:Q (.exit id) s):HS P n0 (.exit id) s Q:=by
 intro k hk
 cases k with
 | exit i=>simp only [a0p] at hk;injection hk with h1;subst h1;exact HC.exit h
 | region id ops draw=>cases draw<;>simp only [a0p] at hk<;>first|(split at hk<;>first|cases hk|(split at hk<;>cases hk))|cases hk
 | cond c a b=>simp only [a0p] at hk;split at hk<;>cases hk
 | _=>simp [a0p] at hk
theorem HS.ret (h:Q .ret s):HS P n0 .ret s Q:=by
 intro k hk
 cases k with
 | ret=>exact HC.ret h
 | region id ops draw=>cases draw<;>simp only [a0p] at hk<;>first|(split at hk<;>first|cases hk|(split at hk<;>cases hk))|cases hk
 | cond c a b=>simp only [a0p] at hk;split at hk<;>cases hk
 | _=>simp [a0p] at hk
theorem HS.skip (h:Q .normal s):HS P n0 .skip s Q:=by
 intro k hk
 cases k with
 | skip=>exact HC.skip h
 | label l=>exact HC.label h
 | region id ops draw=>cases draw<;>simp only [a0p] at hk<;>first|(split at hk<;>first|cases hk|(split at hk<;>cases hk))|cases hk
 | cond c a b=>simp only [a0p] at hk;split at hk<;>cases hk
 | _=>simp [a0p] at hk
theorem HS.view {c:SCode}{s':St}(hv:View P n0 s s')(h:HS P n0 c s' Q):HS P n0 c s Q:=fun k hk=>(h k hk).view hv
theorem HS.mono {c:SCode}{Q':Out→St→Prop}(h:HS P n0 c s Q)(hq:∀ o s',Q o s'→Q' o s'):HS P n0 c s Q':=fun k hk=>(h k hk).mono hq
end
end Go.Proofs.YthjgmldnegaaiaaGreatDoor.Mir
namespace Go.Proofs.YthjgmldnegaaiaaGreatDoor.Mir
open Go Go.RowKit
def renE (ρ:Nat→Nat):D→D
 | .f x=>.f x
 | .sl r o n=>.sl (ρ r) o n
 | .pt r o=>.pt (ρ r) o
 | .mp r=>.mp (ρ r)
 | .rf xs=>.rf xs
 | .ag ds=>.ag (go ρ ds)
 | .tp ds=>.tp (go ρ ds)
 | .fn f ds=>.fn f (go ρ ds)
 | .junk=>.junk
where
 go (ρ:Nat→Nat):List D→List D
  | []=>[]
  | d :: ds=>renE ρ d :: go ρ ds
theorem c0N (ρ:Nat→Nat)(ds:List D):renE.go ρ ds=ds.map (renE ρ):=by
 induction ds with
 | nil=>rfl
 | cons d ds ih=>simp [renE.go,ih]
def renR (ρ:Nat→Nat):Row→Row
 | .box T ds=>.box T (ds.map (renE ρ))
 | r=>r
theorem a0c (ρ:Nat→Nat)(row:Row):(renR ρ row).live=row.live:=by cases row<;>rfl
def ren (ι:List Nat)(N:Nat)(r:Nat):Nat:=match ι[r]? with
 | some x=>x
 | none=>N+(r-ι.length)
theorem e1O {ι:List Nat}{N r:Nat}(h:r<ι.length):ι[r]?=some (ren ι N r):=by
 unfold ren
 rw [List.getElem?_eq_getElem h]
theorem y0O {ι:List Nat}{N r:Nat}(h:ι.length≤r):ren ι N r=N+(r-ι.length):=by
 unfold ren
 rw [List.getElem?_eq_none h]
def b0Z (ρ:Nat→Nat):List Nat→List Row→List Row→List Row
 | r :: ι,row :: rows,H=>b0Z ρ ι rows (H.set r (renR ρ row))
 | _,_,H=>H
theorem c0e (ρ:Nat→Nat):∀ (ι:List Nat) (rows H:List Row),(b0Z ρ ι rows H).length=H.length
 | [],_,_=>rfl
 | _ :: _,[],_=>rfl
 | r :: ι,row :: rows,H=>by simp [b0Z,c0e ρ ι rows]
theorem d0T (ρ:Nat→Nat):∀ (ι:List Nat) (rows H:List Row) (r:Nat),r ∉ ι→(b0Z ρ ι rows H)[r]?=H[r]?
 | [],_,_,_,_=>rfl
 | _ :: _,[],_,_,_=>rfl
 | i :: ι,row :: rows,H,r,h=>by
  rw [List.mem_cons,not_or] at h
  simp only [b0Z]
  rw [d0T ρ ι rows _ r h.2,List.getElem?_set_ne (Ne.symm h.1)]
theorem i0x (ρ:Nat→Nat):∀ (ι:List Nat) (rows H:List Row) (i r:Nat) (row:Row),ι.Nodup→ι[i]?=some r→rows[i]?=some row→r<H.length→(b0Z ρ ι rows H)[r]?=some (renR ρ row)
 | [],_,_,_,_,_,_,h,_,_=>by simp at h
 | _ :: _,[],_,_,_,_,_,_,h,_=>by simp at h
 | j :: ι,row :: rows,H,0,r,row',hn,h1,h2,hlt=>by
  simp at h1 h2
  subst h1;subst h2
  simp only [b0Z]
  rw [d0T ρ ι rows _ j (List.nodup_cons.1 hn).1,List.getElem?_set_self hlt]
 | j :: ι,row :: rows,H,i+1,r,row',hn,h1,h2,hlt=>by
  simp only [b0Z]
  exact i0x ρ ι rows _ i r row' (List.nodup_cons.1 hn).2 (by simpa using h1) (by simpa using h2) (by simpa using hlt)
section
variable {P:Program}{w:World}{φ φ':Nat→Nat × Nat}{A A':Nat→Prop}{N N':Nat}
theorem R.emb {ρ:Nat→Nat}{d:D}{u:Value}(h:R P w φ A N d u)(hρ:∀ r,r<N→φ' (ρ r)=φ r∧ρ r<N')(ha:∀ b,A' b→A b):R P w φ' A' N' (renE ρ d) u:=by
 induction h with
 | f h=>exact .f (h.less ha)
 | sl hp hr hn hb hi hc =>
  rw [←(hρ _ hr).1] at hb hc ⊢
  exact .sl hp (hρ _ hr).2 hn hb hi hc
 | sl0 hr=>exact .sl0 (hρ _ hr).2
 | pt hr=>rw [←(hρ _ hr).1];exact .pt (hρ _ hr).2
 | rf cs hlen hc hr=>exact .rf cs hlen (fun i u hu=>⟨(hc i u hu).1,fun h=>(hc i u hu).2 (ha _ h)⟩) (fun i x u hx hu=>(hr i x u hx hu).less ha)
 | ag hs _ h1 ih =>
  simp only [renE,c0N]
  refine .ag (by simpa using hs) (fun i d u hd hu=>?_) h1
  rw [List.getElem?_map,Option.map_eq_some_iff] at hd
  obtain ⟨d0,hd0,rfl⟩:=hd
  exact ih i d0 u hd0 hu
 | tp hs _ ih =>
  simp only [renE,c0N]
  refine .tp (by simpa using hs) (fun i d u hd hu=>?_)
  rw [List.getElem?_map,Option.map_eq_some_iff] at hd
  obtain ⟨d0,hd0,rfl⟩:=hd
  exact ih i d0 u hd0 hu
 | fn hs _ ih =>
  simp only [renE,c0N]
  refine .fn (by simpa using hs) (fun i d u hd hu=>?_)
  rw [List.getElem?_map,Option.map_eq_some_iff] at hd
  obtain ⟨d0,hd0,rfl⟩:=hd
  exact ih i d0 u hd0 hu
 | mp hr=>simp only [renE];rw [←(hρ _ hr).1];exact .mp (hρ _ hr).2
 | junk=>exact .junk
theorem R.unemb {ρ:Nat→Nat}{d:D}{u:Value}(h:R P w φ A N d u)(hρ:∀ r,r<N'→φ' r=φ (ρ r))(ha:∀ b,A' b→A b):∀ d0,d=renE ρ d0→Low (· < N') d0→R P w φ' A' N' d0 u:=by
 induction h with
 | f h =>
  intro d0 e hl
  cases d0<;>simp [renE] at e
  subst e
  exact .f (h.less ha)
 | sl hp hr hn hb hi hc =>
  intro d0 e hl
  cases d0<;>simp [renE] at e
  obtain ⟨rfl,rfl,rfl⟩:=e
  cases hl with|sl hl =>
  rw [←hρ _ hl] at hb hc ⊢
  exact .sl hp hl hn hb hi hc
 | sl0 hr =>
  intro d0 e hl
  cases d0<;>simp [renE] at e
  obtain ⟨rfl,rfl,rfl⟩:=e
  cases hl with|sl hl=>exact .sl0 hl
 | pt hr =>
  intro d0 e hl
  cases d0<;>simp [renE] at e
  obtain ⟨rfl,rfl⟩:=e
  cases hl with|pt hl =>
  rw [←hρ _ hl]
  exact .pt hl
 | rf cs hlen hc hr =>
  intro d0 e hl
  cases d0<;>simp [renE] at e
  subst e
  exact .rf cs hlen (fun i u hu=>⟨(hc i u hu).1,fun h=>(hc i u hu).2 (ha _ h)⟩) (fun i x u hx hu=>(hr i x u hx hu).less ha)
 | ag hs _ h1 ih =>
  intro d0 e hl
  cases d0<;>simp [renE,c0N] at e
  subst e
  cases hl with|ag hl =>
  exact .ag (by simpa using hs) (fun i d u hd hu=>ih i (renE ρ d) u (by simp [hd]) hu d rfl (hl i d hd)) h1
 | tp hs _ ih =>
  intro d0 e hl
  cases d0<;>simp [renE,c0N] at e
  subst e
  cases hl with|tp hl =>
  exact .tp (by simpa using hs) (fun i d u hd hu=>ih i (renE ρ d) u (by simp [hd]) hu d rfl (hl i d hd))
 | fn hs _ ih =>
  intro d0 e hl
  cases d0<;>simp [renE,c0N] at e
  obtain ⟨rfl,rfl⟩:=e
  cases hl with|fn hl =>
  exact .fn (by simpa using hs) (fun i d u hd hu=>ih i (renE ρ d) u (by simp [hd]) hu d rfl (hl i d hd))
 | mp hr =>
  intro d0 e hl
  cases d0<;>simp [renE] at e
  subst e
  cases hl with|mp hl =>
  rw [←hρ _ hl]
  exact .mp hl
 | junk =>
  intro d0 e hl
  cases d0<;>simp [renE] at e
  exact .junk
theorem R.free_any {d:D}{u:Value}(h:R P w φ A N d u)(hf:Free d)(ha:∀ b,A' b→A b):R P w φ' A' N' d u:=by
 exact (h.lower (S:=fun _=>False) (n:=0) (ψ:=φ') (fun _ h=>h.elim) ha (low_free hf)).upper (Nat.zero_le _)
where
 low_free:∀ {d:D},Free d→Low (fun _=>False) d:=fun h=>by
  induction h with
  | f=>exact .f
  | ag _ ih=>exact .ag ih
theorem RowOk.emb {ρ:Nat→Nat}{r r':Nat}{row:Row}(h:RowOk P w φ A N r row)(hr:φ' r'=φ r)(hρ:∀ r,r<N→φ' (ρ r)=φ r∧ρ r<N')(ha:∀ b,A' b→A b):RowOk P w φ' A' N' r' (renR ρ row):=by
 cases row with
 | dead=>trivial
 | box T ds =>
  obtain ⟨h0,cs,h1,h2,h3⟩:=h
  refine ⟨by rw [hr];exact h0,cs,by rw [hr];exact h1,⟨by simpa using h2.1,fun i d u hd hu=>?_⟩,h3⟩
  rw [List.getElem?_map,Option.map_eq_some_iff] at hd
  obtain ⟨d0,hd0,rfl⟩:=hd
  exact (h2.2 i d0 u hd0 hu).emb hρ ha
 | data T xs =>
  intro hne
  obtain ⟨pre,us,post,h1,h2,h3⟩:=h hne
  exact ⟨pre,us,post,by rw [hr] ;exact h1,by rw [hr];exact h2,h3.1,fun i x u hx hu=>(h3.2 i x u hx hu).less ha⟩
 | froz T xs =>
  obtain ⟨h0,pre,us,post,fr,h1,h2,h3⟩:=h
  exact ⟨by rw [hr];exact fun h=>h0 (ha _ h),pre,us,post,fr,by rw [hr];exact h1,by rw [hr];exact h2,h3.1,fun i x u hx hu=>(h3.2 i x u hx hu).less ha⟩
 | map es =>
  obtain ⟨en,clock,h1,h0,h2,h3⟩:=h
  exact ⟨en,clock,by rw [hr];exact h1,h0,h2,fun i k d m hd hm=>⟨(h3 i k d m hd hm).1,(h3 i k d m hd hm).2.1.free_any (h3 i k d m hd hm).2.2 ha,(h3 i k d m hd hm).2.2⟩⟩
theorem RowOk.unemb {ρ:Nat→Nat}{r r':Nat}{row:Row}(h:RowOk P w φ A N r (renR ρ row))(hr:φ' r'=φ r)(hρ:∀ r,r<N'→φ' r=φ (ρ r))(ha:∀ b,A' b→A b)(hl:RowLow (· < N') row):RowOk P w φ' A' N' r' row:=by
 cases row with
 | dead=>trivial
 | box T ds =>
  obtain ⟨h0,cs,h1,h2,h3⟩:=h
  refine ⟨by rw [hr];exact h0,cs,by rw [hr];exact h1,⟨by simpa using h2.1,fun i d u hd hu=>?_⟩,h3⟩
  exact (h2.2 i (renE ρ d) u (by simp [hd]) hu).unemb hρ ha d rfl (hl d (List.mem_of_getElem? hd))
 | data T xs =>
  intro hne
  obtain ⟨pre,us,post,h1,h2,h3⟩:=h hne
  exact ⟨pre,us,post,by rw [hr] ;exact h1,by rw [hr];exact h2,h3.1,fun i x u hx hu=>(h3.2 i x u hx hu).less ha⟩
 | froz T xs =>
  obtain ⟨h0,pre,us,post,fr,h1,h2,h3⟩:=h
  exact ⟨by rw [hr];exact fun h=>h0 (ha _ h),pre,us,post,fr,by rw [hr];exact h1,by rw [hr];exact h2,h3.1,fun i x u hx hu=>(h3.2 i x u hx hu).less ha⟩
 | map es =>
  obtain ⟨en,clock,h1,h0,h2,h3⟩:=h
  exact ⟨en,clock,by rw [hr];exact h1,h0,h2,fun i k d m hd hm=>⟨(h3 i k d m hd hm).1,(h3 i k d m hd hm).2.1.free_any (h3 i k d m hd hm).2.2 ha,(h3 i k d m hd hm).2.2⟩⟩
end
theorem o0u {α:Type}:∀ {l:List α} {i j:Nat} {x:α},l.Nodup→l[i]?=some x→l[j]?=some x→i=j
 | [],_,_,_,_,h,_=>by simp at h
 | y :: l,0,0,_,_,_,_=>rfl
 | y :: l,0,j+1,x,hn,h1,h2=>by
  simp at h1 h2
  subst h1
  exact absurd (List.mem_of_getElem? h2) (List.nodup_cons.1 hn).1
 | y :: l,i+1,0,x,hn,h1,h2=>by
  simp at h1 h2
  subst h2
  exact absurd (List.mem_of_getElem? h1) (List.nodup_cons.1 hn).1
 | y :: l,i+1,j+1,x,hn,h1,h2=>by
  exact congrArg (· + 1) (o0u (i:=i) (j:=j) (x:=x) (List.nodup_cons.1 hn).2 (by simpa using h1) (by simpa using h2))
section
variable {P:Program}
theorem Con.embed {f:FuncId}{args0:List D}{H0:List Row}{Q:D→List Row→Prop}(h:Con P f args0 H0 Q){ι:List Nat}{H:List Row}{args:List D}(hlen:ι.length=H0.length)(hnd:ι.Nodup)
  (hargs:args=args0.map (renE (ren ι H.length))) (hlow:∀ d∈args0,Low (· < H0.length) d)
  (hrows:∀ (i:Nat) (row:Row),H0[i]?=some row→RowLow (· < H0.length) row∧∃ r:Nat,ι[i]?=some r∧H[r]?=some (renR (ren ι H.length) row)) :
  Con P f args H fun d H'=>∃ d0 H0',Q d0 H0'∧H0.length≤H0'.length∧d=renE (ren ι H.length) d0∧H'=b0Z (ren ι H.length) ι H0' H++(H0'.drop H0.length).map (renR (ren ι H.length)):=by
 refine ⟨h.1,fun w φ X vs hH hvs=>?_⟩
 obtain ⟨ρ,hρ⟩:∃ ρ:Nat→Nat,ρ=ren ι H.length:=⟨_,rfl⟩
 rw [←hρ] at hargs hrows ⊢
 have ρold:∀ r,r<H0.length→ι[r]?=some (ρ r):=fun r hr=>by rw [hρ];exact e1O (by omega)
 have ρnew:∀ r,H0.length≤r→ρ r=H.length+(r-H0.length):=fun r hr=>by rw [hρ,y0O (by omega),hlen]
 have get0:∀ (i:Nat) (row:Row),H0[i]?=some row→RowLow (· < H0.length) row∧H[ρ i]?=some (renR ρ row):=by
  intro i row hi
  obtain ⟨h1,r,h2,h3⟩:=hrows i row hi
  have hlt:=(List.getElem?_eq_some_iff.1 hi).1
  rw [ρold i hlt] at h2
  injection h2 with h2
  subst h2
  exact ⟨h1,h3⟩
 have ρlt:∀ r,r<H0.length→ρ r<H.length:=by
  intro r hr
  obtain ⟨_,h2⟩:=get0 r H0[r] (by simp [hr])
  exact (List.getElem?_eq_some_iff.1 h2).1
 let φ0:Nat→Nat × Nat:=fun r=>φ (ρ r)
 let X0:Nat→Prop:=fun b=>X b∨∃ (x:Nat) (row:Row),H[x]?=some row∧row.live=true∧x ∉ ι∧(φ x).1=b
 have live0:∀ b,Live φ0 H0 b→Live φ H b:=by
  rintro b ⟨i,row,hi,hl,rfl⟩
  exact ⟨ρ i,_,(get0 i row hi).2,by rw [a0c];exact hl,rfl⟩
 have mem_ι:∀ i,i<H0.length→ρ i∈ι:=fun i hi=>List.mem_of_getElem? (ρold i hi)
 have ρinj:∀ i j,i<H0.length→j<H0.length→ρ i=ρ j→i=j:=by
  intro i j hi hj e
  have h1:=ρold i hi
  have h2:=ρold j hj
  rw [←e] at h2
  exact o0u hnd h1 h2
 have hH0:HR P w φ0 X0 H0:=by
  refine ⟨fun i row hi=>?_,fun i j row row' hi hj l1 l2 e=>?_,fun i row hi hl=>?_,fun b hb=>?_,fun p hp=>?_⟩
  ·obtain ⟨h1,h2⟩:=get0 i row hi
   refine (hH.rows _ _ h2).unemb rfl (fun r _=>rfl) (fun b hb=>?_) h1
   rcases hb with (hb|⟨x,row',hx,hl,_,rfl⟩)|hb
   ·exact .inl hb
   ·exact .inr ⟨x,row',hx,hl,rfl⟩
   ·exact .inr (live0 b hb)
  ·exact ρinj i j (List.getElem?_eq_some_iff.1 hi).1 (List.getElem?_eq_some_iff.1 hj).1 (hH.apart _ _ _ _ (get0 i row hi).2 (get0 j row' hj).2 (by rw [a0c];exact l1) (by rw [a0c];exact l2) e)
  ·rintro (hb|⟨x,row',hx,hl',hni,e⟩)
   ·exact hH.off _ _ (get0 i row hi).2 (by rw [a0c];exact hl) hb
   ·have:=hH.apart x (ρ i) row' _ hx (get0 i row hi).2 hl' (by rw [a0c];exact hl) e
    subst this
    exact hni (mem_ι i (List.getElem?_eq_some_iff.1 hi).1)
  ·rcases hb with hb|⟨x,row',hx,hl,_,rfl⟩
   ·exact hH.old b hb
   ·exact hH.blk hx hl
  ·refine (hH.gl p hp).thin fun b hb=>?_
   rcases hb with (hb|⟨x,row',hx,hl,_,rfl⟩)|hb
   ·exact .inl hb
   ·exact .inr ⟨x,row',hx,hl,rfl⟩
   ·exact .inr (live0 b hb)
 have hvs0:Rs P w φ0 (Av X0 φ0 H0) H0.length args0 vs.toList:=by
  refine ⟨by rw [hvs.1,hargs];simp,fun i d u hd hu=>?_⟩
  refine (hvs.2 i (renE ρ d) u (by rw [hargs];simp [hd]) hu).unemb (fun r _=>rfl) (fun b hb=>?_) d rfl (hlow d (List.mem_of_getElem? hd))
  rcases hb with (hb|⟨x,row',hx,hl,_,rfl⟩)|hb
  ·exact .inl hb
  ·exact .inr ⟨x,row',hx,hl,rfl⟩
  ·exact .inr (live0 b hb)
 refine (h.2 w φ0 X0 vs hH0 hvs0).mono ?_
 rintro en w' ⟨v,d0,H0',rfl,hq,φ1,ons,hH1,hd0⟩
 refine ⟨v,_,_,rfl,⟨d0,H0',hq,ons.len,rfl,rfl⟩,?_⟩
 let φ':Nat→Nat × Nat:=fun r=>if r<H.length then φ r else φ1 (H0.length+(r-H.length))
 obtain ⟨H',hH'⟩:∃ H':List Row,H'=b0Z ρ ι H0' H++(H0'.drop H0.length).map (renR ρ):=⟨_,rfl⟩
 rw [←hH']
 have hN':H'.length=H.length+(H0'.length-H0.length):=by rw [hH'];simp [c0e]
 have φρ:∀ r,r<H0'.length→φ' (ρ r)=φ1 r∧ρ r<H'.length:=by
  intro r hr
  by_cases hlt:r<H0.length
  ·refine ⟨?_,by rw [hN'];have:=ρlt r hlt;omega⟩
   show (if ρ r<H.length then _ else _)=_
   rw [if_pos (ρlt r hlt),ons.same r hlt]
  ·rw [ρnew r (by omega)]
   refine ⟨?_,by rw [hN'];omega⟩
   show (if H.length+(r-H0.length)<H.length then _ else _)=_
   rw [if_neg (by omega)]
   congr 1
   omega
 have from_:∀ (x:Nat) (row:Row),H'[x]?=some row→(x<H.length∧x ∉ ι∧H[x]?=some row)∨∃ j row0,H0'[j]?=some row0∧x=ρ j∧row=renR ρ row0:=by
  intro x row hx
  rw [hH'] at hx
  by_cases hlt:x<H.length
  ·rw [List.getElem?_append_left (by rw [c0e];exact hlt)] at hx
   by_cases hm:x∈ι
   ·obtain ⟨i,hi⟩:=List.getElem?_of_mem hm
    have hil:i<H0.length:=by rw [←hlen];exact (List.getElem?_eq_some_iff.1 hi).1
    have hi2:i<H0'.length:=Nat.lt_of_lt_of_le hil ons.len
    rw [i0x ρ ι H0' H i x H0'[i] hnd hi (by simp [hi2]) hlt] at hx
    injection hx with hx
    refine .inr ⟨i,H0'[i],by simp [hi2],?_,hx.symm⟩
    have:=ρold i hil
    rw [hi] at this
    injection this
   ·rw [d0T ρ ι H0' H x hm] at hx
    exact .inl ⟨hlt,hm,hx⟩
  ·rw [List.getElem?_append_right (by rw [c0e];omega),c0e,List.getElem?_map,List.getElem?_drop,Option.map_eq_some_iff] at hx
   obtain ⟨row0,h1,rfl⟩:=hx
   refine .inr ⟨_,row0,h1,?_,rfl⟩
   rw [ρnew _ (by omega)];omega
 have φold:∀ x,x<H.length→φ' x=φ x:=fun x hx=>if_pos hx
 have av1:∀ b,Av X φ' H' b→Av X0 φ1 H0' b:=by
  rintro b (hb|⟨x,row,hx,hl,rfl⟩)
  ·exact .inl (.inl hb)
  ·rcases from_ x row hx with ⟨g1,g2,g3⟩|⟨j,row0,g1,rfl,rfl⟩
   ·exact .inl (.inr ⟨x,row,g3,hl,g2,by rw [φold x g1]⟩)
   ·exact .inr ⟨j,row0,g1,by rw [a0c] at hl;exact hl,by rw [(φρ j (List.getElem?_eq_some_iff.1 g1).1).1]⟩
 have fresh:∀ b,Live φ' H' b→Live φ H b∨w.heap.size≤b:=by
  rintro b ⟨x,row,hx,hl,rfl⟩
  rcases from_ x row hx with ⟨g1,g2,g3⟩|⟨j,row0,g1,rfl,rfl⟩
  ·rw [φold x g1];exact .inl ⟨x,row,g3,hl,rfl⟩
  ·rw [(φρ j (List.getElem?_eq_some_iff.1 g1).1).1]
   rcases ons.fresh _ ⟨j,row0,g1,by rw [a0c] at hl;exact hl,rfl⟩ with h1|h1
   ·exact .inl (live0 _ h1)
   ·exact .inr h1
 have av0:∀ b,b<w.heap.size→Av X φ' H' b→Av X φ H b:=by
  rintro b hb (hx|hx)
  ·exact .inl hx
  ·rcases fresh b hx with h1|h1
   ·exact .inr h1
   ·omega
 have notL:∀ (x:Nat) (row:Row),H[x]?=some row→row.live=true→x ∉ ι→¬ Live φ0 H0 (φ x).1:=by
  rintro x row hx hl hni ⟨i,row0,hi,hl0,e⟩
  have:=hH.apart (ρ i) x _ row (get0 i row0 hi).2 hx (by rw [a0c];exact hl0) hl e
  subst this
  exact hni (mem_ι i (List.getElem?_eq_some_iff.1 hi).1)
 refine ⟨φ',⟨by rw [hN'];omega,fun r hr=>φold r hr,ons.keep.mono (fun b _ hb=>live0 b hb),fresh⟩,⟨fun x row hx=>?_,fun x y r1 r2 hx hy l1 l2 e=>?_,fun x row hx hl=>?_,fun b hb=>Nat.lt_of_lt_of_le (hH.old b hb) ons.keep.size,fun p hp=>(hH.gl p hp).keep ons.keep (fun b hb=>.inr (live0 b hb)) av0⟩,hd0.emb φρ av1⟩
 ·rcases from_ x row hx with ⟨g1,g2,g3⟩|⟨j,row0,g1,rfl,rfl⟩
  ·have hok:=hH.rows x row g3
   refine hok.keep ons.keep (fun b hb=>.inr (live0 b hb)) av0 (fun r hr=>φold r hr) (by rw [hN'];omega) g1 ?_
   cases row with
   | dead=>exact .inl rfl
   | box T ds=>obtain ⟨_,cs,g,_⟩:=hok;exact .inr (ons.keep.block _ (a0g g) (notL x _ g3 rfl g2)).symm
   | data T xs=>cases xs with|nil=>exact .inl rfl|cons y ys=>obtain ⟨_,_,_,g,_⟩:=hok (List.cons_ne_nil _ _);exact .inr (ons.keep.block _ (a0g g) (notL x _ g3 rfl g2)).symm
   | froz T xs=>obtain ⟨g0,_,_,_,_,g,_⟩:=hok;exact .inr (ons.keep.block _ (a0g g) (fun hl=>g0 (.inr (live0 _ hl)))).symm
   | map es=>obtain ⟨_,_,g,_⟩:=hok;exact .inr (ons.keep.block _ (a0g g) (notL x _ g3 rfl g2)).symm
  ·exact (hH1.rows j row0 g1).emb (φρ j (List.getElem?_eq_some_iff.1 g1).1).1 φρ av1
 ·rcases from_ x r1 hx with ⟨g1,g2,g3⟩|⟨j,row0,g1,rfl,rfl⟩
  ·rw [φold x g1] at e
   rcases from_ y r2 hy with ⟨k1,k2,k3⟩|⟨i,row1,k1,rfl,rfl⟩
   ·rw [φold y k1] at e
    exact hH.apart x y r1 r2 g3 k3 l1 l2 e
   ·rw [(φρ i (List.getElem?_eq_some_iff.1 k1).1).1] at e
    exact absurd (.inr ⟨x,r1,g3,l1,g2,e⟩) (hH1.off i row1 k1 (by rw [a0c] at l2;exact l2))
  ·rw [(φρ j (List.getElem?_eq_some_iff.1 g1).1).1] at e
   rcases from_ y r2 hy with ⟨k1,k2,k3⟩|⟨i,row1,k1,rfl,rfl⟩
   ·rw [φold y k1] at e
    exact absurd (.inr ⟨y,r2,k3,l2,k2,e.symm⟩) (hH1.off j row0 g1 (by rw [a0c] at l1;exact l1))
   ·rw [(φρ i (List.getElem?_eq_some_iff.1 k1).1).1] at e
    have:=hH1.apart j i row0 row1 g1 k1 (by rw [a0c] at l1;exact l1) (by rw [a0c] at l2;exact l2) e
    rw [this]
 ·rcases from_ x row hx with ⟨g1,g2,g3⟩|⟨j,row0,g1,rfl,rfl⟩
  ·rw [φold x g1];exact hH.off x row g3 hl
  ·rw [(φρ j (List.getElem?_eq_some_iff.1 g1).1).1]
   exact fun hX=>hH1.off j row0 g1 (by rw [a0c] at hl;exact hl) (.inl hX)
end
inductive PlainF:F→Prop
 | v {x:Value}:PlainF (.v x)
 | s {n:Nat}:PlainF (.s [] n)
 | e:PlainF .e
inductive PlainD:D→Prop
 | f {x:F}:PlainF x→PlainD (.f x)
 | sl {r o n:Nat}:PlainD (.sl r o n)
 | pt {r o:Nat}:PlainD (.pt r o)
 | ag {ds:List D}:(∀ d∈ds,PlainD d)→PlainD (.ag ds)
 | tp {ds:List D}:(∀ d∈ds,PlainD d)→PlainD (.tp ds)
 | fn {f:FuncId} {ds:List D}:(∀ d∈ds,PlainD d)→PlainD (.fn f ds)
 | mp {r:Nat}:PlainD (.mp r)
 | junk:PlainD .junk
def m0c:Row→Prop
 | .dead=>True
 | .box _ ds=>∀ d∈ds,PlainD d
 | .data _ xs=>∀ x∈xs,PlainF x
 | .froz _ _=>False
 | .map es=>∀ p∈es,PlainD p.2
inductive Vw (H:List Row):D→D→Prop
 | f {x:F}:Vw H (.f x) (.f x)
 | sl {r off n:Nat} {T:TypeId} {xs:List F}:H[r]?=some (.data T xs)→(n=0→xs.drop off=[])→Vw H (.sl r off n) (.f (.s (xs.drop off) n))
 | fz {r off n:Nat} {T:TypeId} {xs:List F}:H[r]?=some (.froz T xs)→(n=0→xs.drop off=[])→Vw H (.sl r off n) (.f (.s (xs.drop off) n))
 | pt {r off:Nat} {T:TypeId} {ds:List D} {fs:List F}:H[r]?=some (.box T ds)→ds.length=fs.length→(∀ (i:Nat) (d:D) (x:F),ds[i]?=some d→fs[i]?=some x→Vw H d (.f x))→Vw H (.pt r off) (.rf (fs.drop off))
 | ptd {r off:Nat} {T:TypeId} {xs:List F}:H[r]?=some (.data T xs)→Vw H (.pt r off) (.rf (xs.drop off))
 | rf {xs:List F}:Vw H (.rf xs) (.rf xs)
 | ag {ds es:List D}:ds.length=es.length→(∀ (i:Nat) (d e:D),ds[i]?=some d→es[i]?=some e→Vw H d e)→Vw H (.ag ds) (.ag es)
 | tp {ds es:List D}:ds.length=es.length→(∀ (i:Nat) (d e:D),ds[i]?=some d→es[i]?=some e→Vw H d e)→Vw H (.tp ds) (.tp es)
 | fn {f:FuncId} {ds es:List D}:ds.length=es.length→(∀ (i:Nat) (d e:D),ds[i]?=some d→es[i]?=some e→Vw H d e)→Vw H (.fn f ds) (.fn f es)
 | junk {d:D}:Vw H d .junk
 | nil:Vw H (.f (.v (.slice none 0 0))) (.f (.s [] 0))
 | e:Vw H (.f .e) (.f (.s [] 0))
inductive Vws (H:List Row):List D→List D→Prop
 | nil:Vws H [] []
 | cons {d e:D} {ds es:List D}:Vw H d e→Vws H ds es→Vws H (d :: ds) (e :: es)
theorem Vws.len {H:List Row}{ds es:List D}(h:Vws H ds es):ds.length=es.length:=by
 induction h with
 | nil=>rfl
 | cons _ _ ih=>simp [ih]
theorem Vws.get {H:List Row}{ds es:List D}(h:Vws H ds es):∀ (i:Nat) (d e:D),ds[i]?=some d→es[i]?=some e→Vw H d e:=by
 induction h with
 | nil=>intro i d e h;simp at h
 | cons h1 _ ih =>
  intro i d e hd he
  cases i with
  | zero=>simp at hd he;subst hd;subst he;exact h1
  | succ i=>exact ih i d e (by simpa using hd) (by simpa using he)
theorem Vw.ags {H:List Row}{ds es:List D}(h:Vws H ds es):Vw H (.ag ds) (.ag es):=.ag h.len h.get
theorem Vw.tps {H:List Row}{ds es:List D}(h:Vws H ds es):Vw H (.tp ds) (.tp es):=.tp h.len h.get
section
variable {P:Program}{w:World}{φ φ':Nat→Nat × Nat}{X:Nat→Prop}{H:List Row}
theorem RF.plain {A A':Nat→Prop}{x:F}{u:Value}(h:RF w A x u)(hp:PlainF x):RF w A' x u:=by
 cases hp with
 | v=>cases h with|v h=>exact .v h
 | s =>
  cases h with
  | s cs h1 h2 h3 h4 =>
   have:cs=[]:=List.eq_nil_of_length_eq_zero (by simpa using h2)
   subst this
   exact .s [] h1 rfl (fun i u hu=>by simp at hu) (fun i x u hx=>by simp at hx)
  | s0=>exact .s0
 | e=>cases h with|e=>exact .e
theorem R.plain {A A':Nat→Prop}{N:Nat}{d:D}{u:Value}(h:R P w φ A N d u):PlainD d→R P w φ A' N d u:=by
 induction h with
 | f h=>intro hp;cases hp with|f hp=>exact .f (h.plain hp)
 | sl h0 h1 h2 h3 h4 h5=>exact fun _=>.sl h0 h1 h2 h3 h4 h5
 | sl0 h=>exact fun _=>.sl0 h
 | pt h=>exact fun _=>.pt h
 | rf=>intro hp;cases hp
 | ag hs _ h1 ih=>intro hp;cases hp with|ag hp=>exact .ag hs (fun i d u hd hu=>ih i d u hd hu (hp d (List.mem_of_getElem? hd))) h1
 | tp hs _ ih=>intro hp;cases hp with|tp hp=>exact .tp hs (fun i d u hd hu=>ih i d u hd hu (hp d (List.mem_of_getElem? hd)))
 | fn hs _ ih=>intro hp;cases hp with|fn hp=>exact .fn hs (fun i d u hd hu=>ih i d u hd hu (hp d (List.mem_of_getElem? hd)))
 | mp h=>exact fun _=>.mp h
 | junk=>exact fun _=>.junk
theorem RowOk.plain {A A':Nat→Prop}{N r:Nat}{row:Row}(h:RowOk P w φ A N r row)(hp:m0c row):RowOk P w φ A' N r row:=by
 cases row with
 | dead=>trivial
 | box T ds =>
  obtain ⟨h0,cs,h1,h2,h3⟩:=h
  exact ⟨h0,cs,h1,⟨h2.1,fun i d u hd hu=>(h2.2 i d u hd hu).plain (hp d (List.mem_of_getElem? hd))⟩,h3⟩
 | data T xs =>
  intro hne
  obtain ⟨pre,us,post,h1,h2,h3⟩:=h hne
  exact ⟨pre,us,post,h1,h2,h3.1,fun i x u hx hu=>(h3.2 i x u hx hu).plain (hp x (List.mem_of_getElem? hx))⟩
 | froz T xs=>exact hp.elim
 | map es =>
  obtain ⟨en,clock,h1,h0,h2,h3⟩:=h
  exact ⟨en,clock,h1,h0,h2,fun i k d m hd hm=>⟨(h3 i k d m hd hm).1,(h3 i k d m hd hm).2.1.plain (hp _ (List.mem_of_getElem? hd)),(h3 i k d m hd hm).2.2⟩⟩
theorem n0B {ρ:Nat→Nat}{d:D}(h:PlainD d):PlainD (renE ρ d):=by
 induction h with
 | f h=>exact .f h
 | sl=>exact .sl
 | pt=>exact .pt
 | ag _ ih =>
  simp only [renE,c0N]
  exact .ag (fun d hd=>by obtain ⟨d0,h0,rfl⟩:=List.mem_map.1 hd;exact ih d0 h0)
 | tp _ ih =>
  simp only [renE,c0N]
  exact .tp (fun d hd=>by obtain ⟨d0,h0,rfl⟩:=List.mem_map.1 hd;exact ih d0 h0)
 | fn _ ih =>
  simp only [renE,c0N]
  exact .fn (fun d hd=>by obtain ⟨d0,h0,rfl⟩:=List.mem_map.1 hd;exact ih d0 h0)
 | mp=>exact .mp
 | junk=>exact .junk
theorem w0f {ρ:Nat→Nat}{row:Row}(h:m0c row):m0c (renR ρ row):=by
 cases row with
 | box T ds=>exact fun d hd=>by obtain ⟨d0,h0,rfl⟩:=List.mem_map.1 hd;exact n0B (h d0 h0)
 | _=>exact h
theorem Vw.ok (h:HR P w φ X H){A0:Nat→Prop}(hA:∀ b,A0 b→X b){d d0:D}(hv:Vw H d d0):∀ (v:Value),R P w φ (Av X φ H) H.length d v→R P w φ' A0 0 d0 v:=by
 have cellsOf:∀ {r off:Nat} {T:TypeId} {xs:List F} {pre us post:List Value} {fr:Nat × Nat},w.heap[(φ r).1]?=some (.cells (pre++us++post).toArray T fr)→pre.length=(φ r).2→us.length=xs.length→(xs.drop off).length≠0∨True →
   ∀ (i:Nat) (u:Value),(us.drop off)[i]?=some u→w.cell? (Addr.add ⟨(φ r).1,(φ r).2+off,none⟩ i)=some u:=by
  intro r off T xs pre us post fr hb hp hl _ i u hu
  rw [add_lit]
  rw [List.getElem?_drop] at hu
  rw [k0V hb]
  have hlt:=(List.getElem?_eq_some_iff.1 hu).1
  simp only [List.getElem?_toArray]
  rw [List.append_assoc,List.getElem?_append_right (by omega),List.getElem?_append_left (by omega),←hu]
  congr 1
  omega
 induction hv with
 | f=>intro v hd;cases hd with|f hd=>exact .f (hd.less (fun b hb=>.inl (hA b hb)))
 | sl hr hz =>
  rename_i r off n T xs
  intro v hd
  have hok:=hH_row h hr
  cases hd with
  | sl hp hlt hn hb hi hc =>
   by_cases hne:xs=[]
   ·subst hne
    rw [List.drop_nil]
    exact .f (.s [] hn rfl (fun i u hu=>by simp at hu) (fun i x u hx=>by simp at hx))
   obtain ⟨pre,us,post,h1,h2,h3⟩:=hok hne
   have hx:¬ A0 (φ r).1:=fun hb=>h.off _ _ hr (a0j hne) (hA _ hb)
   refine .f (.s (us.drop off) hn (by simp [h3.1]) (fun i u hu=>⟨cellsOf (xs:=xs) h1 h2 h3.1 (.inr trivial) i u hu,hx⟩) (fun i x u hx hu=>?_))
   rw [List.getElem?_drop] at hx hu
   exact (h3.2 _ x u hx hu).less (fun b hb=>.inl (hA b hb))
  | @sl0 _ _ a hlt =>
   rw [hz rfl]
   cases a with
   | none=>exact .f .s0
   | some a=>exact .f (.s [] (Nat.le_refl _) rfl (fun i u hu=>by simp at hu) (fun i x u hx=>by simp at hx) )
 | fz hr hz =>
  rename_i r off n T xs
  intro v hd
  have hok:=hH_row h hr
  obtain ⟨h0,pre,us,post,fr,h1,h2,h3⟩:=hok
  have hx:¬ A0 (φ r).1:=fun hX=>h0 (.inl (hA _ hX))
  cases hd with
  | sl hp hlt hn hb hi hc =>
   refine .f (.s (us.drop off) hn (by simp [h3.1]) (fun i u hu=>⟨cellsOf (xs:=xs) h1 h2 h3.1 (.inr trivial) i u hu,hx⟩) (fun i x u hx hu=>?_))
   rw [List.getElem?_drop] at hx hu
   exact (h3.2 _ x u hx hu).less (fun b hb=>.inl (hA b hb))
  | @sl0 _ _ a hlt =>
   rw [hz rfl]
   cases a with
   | none=>exact .f .s0
   | some a=>exact .f (.s [] (Nat.le_refl _) rfl (fun i u hu=>by simp at hu) (fun i x u hx=>by simp at hx) )
 | pt hr hlen hcell ih =>
  rename_i r off T ds fs
  intro v hd
  have hok:=hH_row h hr
  obtain ⟨h0,cs,h1,h2,h3⟩:=hok
  have hx:¬ A0 (φ r).1:=fun hb=>h.off _ _ hr rfl (hA _ hb)
  cases hd with
  | pt hlt =>
   refine .rf (cs.toList.drop off) (by simp [h2.1,hlen]) (fun i u hu=>⟨?_,hx⟩) (fun i x u hx hu=>?_)
   ·rw [add_lit,h0,Nat.zero_add]
    rw [List.getElem?_drop] at hu
    rw [k0V h1]
    simpa using hu
   ·rw [List.getElem?_drop] at hx hu
    obtain ⟨d,hd⟩:∃ d,ds[off+i]?=some d:=by
     have:=(List.getElem?_eq_some_iff.1 hx).1
     exact ⟨ds[off+i],by simp [hlen,this]⟩
    have:=ih _ d x hd hx u (h2.2 _ d u hd hu)
    cases this with|f h=>exact h
 | ptd hr =>
  rename_i r off T xs
  intro v hd
  have hok:=hH_row h hr
  cases hd with
  | pt hlt =>
   by_cases hne:xs=[]
   ·subst hne
    rw [List.drop_nil]
    exact .rf [] rfl (fun i u hu=>by simp at hu) (fun i x u hx=>by simp at hx)
   obtain ⟨pre,us,post,h1,h2,h3⟩:=hok hne
   have hx:¬ A0 (φ r).1:=fun hb=>h.off _ _ hr (a0j hne) (hA _ hb)
   refine .rf (us.drop off) (by simp [h3.1]) (fun i u hu=>⟨cellsOf (xs:=xs) h1 h2 h3.1 (.inr trivial) i u hu,hx⟩) (fun i x u hx hu=>?_)
   rw [List.getElem?_drop] at hx hu
   exact (h3.2 _ x u hx hu).less (fun b hb=>.inl (hA b hb))
 | rf =>
  intro v hd
  cases hd with
  | rf cs h1 h2 h3=>exact .rf cs h1 (fun i u hu=>⟨(h2 i u hu).1,fun hb=>(h2 i u hu).2 (.inl (hA _ hb))⟩) (fun i x u hx hu=>(h3 i x u hx hu).less (fun b hb=>.inl (hA b hb)))
 | ag hl _ ih =>
  intro v hd
  cases hd with
  | ag hs hr h1 =>
   refine .ag (by rw [hs,hl]) (fun i e u he hu=>?_) h1
   obtain ⟨d,hd⟩:∃ d,_[i]?=some d:=⟨_,List.getElem?_eq_getElem (by rw [hl];exact (List.getElem?_eq_some_iff.1 he).1)⟩
   exact ih i d e hd he u (hr i d u hd hu)
 | tp hl _ ih =>
  intro v hd
  cases hd with
  | tp hs hr =>
   refine .tp (by rw [hs,hl]) (fun i e u he hu=>?_)
   obtain ⟨d,hd⟩:∃ d,_[i]?=some d:=⟨_,List.getElem?_eq_getElem (by rw [hl];exact (List.getElem?_eq_some_iff.1 he).1)⟩
   exact ih i d e hd he u (hr i d u hd hu)
 | fn hl _ ih =>
  intro v hd
  cases hd with
  | fn hs hr =>
   refine .fn (by rw [hs,hl]) (fun i e u he hu=>?_)
   obtain ⟨d,hd⟩:∃ d,_[i]?=some d:=⟨_,List.getElem?_eq_getElem (by rw [hl];exact (List.getElem?_eq_some_iff.1 he).1)⟩
   exact ih i d e hd he u (hr i d u hd hu)
 | junk=>intro v hd;exact .junk
 | nil =>
  intro v hd
  cases hd with|f h=>cases h with|v _=>exact .f .s0
 | e =>
  intro v hd
  cases hd with
  | f h =>
   cases h with
   | e =>
    rename_i a
    cases a with
    | none=>exact .f .s0
    | some a=>exact .f (.s [] (Nat.le_refl _) rfl (fun i u hu=>by simp at hu) (fun i x u hx=>by simp at hx))
where
 hH_row {P:Program} {w:World} {φ:Nat→Nat × Nat} {X:Nat→Prop} {H:List Row} (h:HR P w φ X H) {r:Nat} {row:Row} (hr:H[r]?=some row):RowOk P w φ (Av X φ H) H.length r row:=h.rows r row hr
theorem Con.peek {f:FuncId}{args0:List D}{Q:D→List Row→Prop}(h:Con P f args0 [] Q){H:List Row}{args:List D}(hv:Vws H args args0)(hp:∀ d H',Q d H'→PlainD d∧∀ row∈H',m0c row) :
  Con P f args H fun d H'=>∃ d0 H0',Q d0 H0'∧d=renE (ren [] H.length) d0∧H'=H++H0'.map (renR (ren [] H.length)):=by
 refine ⟨h.1,fun w φ X vs hH hvs=>?_⟩
 have hH0:HR P w φ X []:=⟨fun r row hr=>by simp at hr,fun r s x y hr=>by simp at hr,fun r row hr=>by simp at hr,hH.old,fun p hp=>(hH.gl p hp).thin fun b hb=>by
  rcases hb with hb|⟨x,row,hx,_⟩
  ·exact .inl hb
  ·simp at hx⟩
 have e0:∀ b,Av X φ [] b→X b:=by
  rintro b (hb|⟨x,row,hx,_⟩)
  ·exact hb
  ·simp at hx
 have hvs0:Rs P w φ (Av X φ []) 0 args0 vs.toList:=by
  refine ⟨by rw [hvs.1,hv.len],fun i e u he hu=>?_⟩
  obtain ⟨d,hd⟩:∃ d,args[i]?=some d:=⟨_,List.getElem?_eq_getElem (by rw [hv.len];exact (List.getElem?_eq_some_iff.1 he).1)⟩
  exact (hv.get i d e hd he).ok hH e0 u (hvs.2 i d u hd hu)
 refine (h.2 w φ X vs hH0 hvs0).mono ?_
 rintro en w' ⟨v,d0,H0',rfl,hq,φ1,ons,hH1,hd0⟩
 obtain ⟨hpd,hpr⟩:=hp d0 H0' hq
 refine ⟨v,_,_,rfl,⟨d0,H0',hq,rfl,rfl⟩,?_⟩
 have ρnew:∀ r,ren [] H.length r=H.length+r:=fun r=>by rw [y0O (by simp)];simp
 let φ':Nat→Nat × Nat:=fun r=>if r<H.length then φ r else φ1 (r-H.length)
 obtain ⟨H',hH'⟩:∃ H':List Row,H'=H++H0'.map (renR (ren [] H.length)):=⟨_,rfl⟩
 rw [←hH']
 have hN':H'.length=H.length+H0'.length:=by rw [hH'];simp
 have φρ:∀ r,r<H0'.length→φ' (ren [] H.length r)=φ1 r∧ren [] H.length r<H'.length:=by
  intro r hr
  rw [ρnew]
  refine ⟨?_,by omega⟩
  show (if H.length+r<H.length then _ else _)=_
  rw [if_neg (by omega),Nat.add_sub_cancel_left]
 have φold:∀ x,x<H.length→φ' x=φ x:=fun x hx=>if_pos hx
 have from_:∀ (x:Nat) (row:Row),H'[x]?=some row→(x<H.length∧H[x]?=some row)∨∃ j row0,H0'[j]?=some row0∧x=ren [] H.length j∧row=renR (ren [] H.length) row0:=by
  intro x row hx
  rw [hH'] at hx
  by_cases hlt:x<H.length
  ·rw [List.getElem?_append_left hlt] at hx
   exact .inl ⟨hlt,hx⟩
  ·rw [List.getElem?_append_right (by omega),List.getElem?_map,Option.map_eq_some_iff] at hx
   obtain ⟨row0,h1,rfl⟩:=hx
   exact .inr ⟨_,row0,h1,by rw [ρnew];omega,rfl⟩
 have new:∀ j row0,H0'[j]?=some row0→row0.live=true→w.heap.size≤(φ1 j).1:=by
  intro j row0 hj hl
  rcases ons.fresh _ ⟨j,row0,hj,hl,rfl⟩ with ⟨x,row,hx,_⟩|h1
  ·simp at hx
  ·exact h1
 have fresh:∀ b,Live φ' H' b→Live φ H b∨w.heap.size≤b:=by
  rintro b ⟨x,row,hx,hl,rfl⟩
  rcases from_ x row hx with ⟨g1,g2⟩|⟨j,row0,g1,rfl,rfl⟩
  ·rw [φold x g1];exact .inl ⟨x,row,g2,hl,rfl⟩
  ·rw [(φρ j (List.getElem?_eq_some_iff.1 g1).1).1]
   exact .inr (new j row0 g1 (by rw [a0c] at hl;exact hl))
 have av0:∀ b,b<w.heap.size→Av X φ' H' b→Av X φ H b:=by
  rintro b hb (hx|hx)
  ·exact .inl hx
  ·rcases fresh b hx with h1|h1
   ·exact .inr h1
   ·omega
 have nol:∀ b,¬ Live φ [] b:=by
  rintro b ⟨x,row,hx,_⟩
  simp at hx
 refine ⟨φ',⟨by omega,fun r hr=>φold r hr,ons.keep.mono (fun b _ hb=>absurd hb (nol b)),fresh⟩,⟨fun x row hx=>?_,fun x y r1 r2 hx hy l1 l2 e=>?_,fun x row hx hl=>?_,fun b hb=>Nat.lt_of_lt_of_le (hH.old b hb) ons.keep.size,fun p hp=>(hH.gl p hp).keep ons.keep (fun b hb=>absurd hb (nol b)) av0⟩,?_⟩
 ·rcases from_ x row hx with ⟨g1,g3⟩|⟨j,row0,g1,rfl,rfl⟩
  ·have hok:=hH.rows x row g3
   refine hok.keep ons.keep (fun b hb=>absurd hb (nol b)) av0 (fun r hr=>φold r hr) (by omega) g1 ?_
   cases row with
   | dead=>exact .inl rfl
   | box T ds=>obtain ⟨_,cs,g,_⟩:=hok;exact .inr (ons.keep.block _ (a0g g) (nol _)).symm
   | data T xs=>cases xs with|nil=>exact .inl rfl|cons y ys=>obtain ⟨_,_,_,g,_⟩:=hok (List.cons_ne_nil _ _);exact .inr (ons.keep.block _ (a0g g) (nol _)).symm
   | froz T xs=>obtain ⟨g0,_,_,_,_,g,_⟩:=hok;exact .inr (ons.keep.block _ (a0g g) (nol _)).symm
   | map es=>obtain ⟨_,_,g,_⟩:=hok;exact .inr (ons.keep.block _ (a0g g) (nol _)).symm
  ·have hok:=hH1.rows j row0 g1
   have h1:RowOk P w' φ1 (fun _=>False) H0'.length j row0:=by
    have:=hpr row0 (List.mem_of_getElem? g1)
    exact hok.plain this
   have h2:=h1.emb (φ':=φ') (A':=fun _=>False) (φρ j (List.getElem?_eq_some_iff.1 g1).1).1 φρ (fun _ h=>h)
   exact h2.plain (w0f (hpr row0 (List.mem_of_getElem? g1)))
 ·rcases from_ x r1 hx with ⟨g1,g3⟩|⟨j,row0,g1,rfl,rfl⟩
  ·rw [φold x g1] at e
   rcases from_ y r2 hy with ⟨k1,k3⟩|⟨i,row1,k1,rfl,rfl⟩
   ·rw [φold y k1] at e
    exact hH.apart x y r1 r2 g3 k3 l1 l2 e
   ·rw [(φρ i (List.getElem?_eq_some_iff.1 k1).1).1] at e
    have h1:=new i row1 k1 (by rw [a0c] at l2;exact l2)
    have h2:=hH.blk g3 l1
    omega
  ·rw [(φρ j (List.getElem?_eq_some_iff.1 g1).1).1] at e
   rcases from_ y r2 hy with ⟨k1,k3⟩|⟨i,row1,k1,rfl,rfl⟩
   ·rw [φold y k1] at e
    have h1:=new j row0 g1 (by rw [a0c] at l1;exact l1)
    have h2:=hH.blk k3 l2
    omega
   ·rw [(φρ i (List.getElem?_eq_some_iff.1 k1).1).1] at e
    have:=hH1.apart j i row0 row1 g1 k1 (by rw [a0c] at l1;exact l1) (by rw [a0c] at l2;exact l2) e
    rw [this]
 ·rcases from_ x row hx with ⟨g1,g3⟩|⟨j,row0,g1,rfl,rfl⟩
  ·rw [φold x g1];exact hH.off x row g3 hl
  ·rw [(φρ j (List.getElem?_eq_some_iff.1 g1).1).1]
   have h1:=new j row0 g1 (by rw [a0c] at hl;exact hl)
   exact fun hX=>by have:=hH.old _ hX;omega
 ·have h1:R P w' φ1 (fun _=>False) H0'.length d0 v:=hd0.plain hpd
  exact (h1.emb (φ':=φ') (A':=fun _=>False) φρ (fun _ h=>h)).plain (n0B hpd)
end
end Go.Proofs.YthjgmldnegaaiaaGreatDoor.Mir
