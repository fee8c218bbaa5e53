/- Lemmas for the proof. No condition. -/
import Derived.Test.YthjgmldnegaaiaaGreatDoorQg03
import Derived.LoopN
import Derived.Scope
import Derived.Test.YthjgmldnegaaiaaGreatDoorRows
import Derived.KernelRfl
set_option linter.unusedVariables false
set_option linter.unusedSimpArgs false
namespace Go.Proofs.YthjgmldnegaaiaaGreatDoor.Mir
open Go Go.RowKit
theorem d0l {ops:List Oper}{b:List Nat}(h:g0I ops b=true){i:Nat}{o:Oper}(ho:ops[i]?=some o):b.getD i 0<2 ^ i∧∀ j q t,ops[j]?=some q→q.dst=some t→(t∈e0Y ops o→(b.getD i 0).testBit j=true∨(b.getD j 0).testBit i=true∨i=j)∧(i=j∨o.dst≠some t):=by
 unfold g0I at h
 have h1:=List.all_eq_true.1 h (o,i) (by rw [List.mem_zipIdx_iff_getElem?];exact ho)
 simp only [Bool.and_eq_true,decide_eq_true_eq] at h1
 refine ⟨h1.1,fun j q t hq ht=>?_⟩
 have h2:=List.all_eq_true.1 h1.2 (q,j) (by rw [List.mem_zipIdx_iff_getElem?];exact hq)
 simp only [ht,Bool.and_eq_true,Bool.or_eq_true,Bool.not_eq_true',beq_iff_eq,bne_iff_ne] at h2
 refine ⟨fun hm=>?_,h2.2⟩
 rcases h2.1 with ((h3|h3)|h3)|h3
 ·have:(e0Y ops o).contains t=true:=by simpa using hm
  rw [this] at h3;cases h3
 ·exact .inl h3
 ·exact .inr (.inl h3)
 ·exact .inr (.inr h3)
def o0e (p:Nat→Bool)(ts:List D):List D:=ts.zipIdx.map fun q=>if p q.2 then q.1 else .junk
theorem f0o {p:Nat→Bool}{ts:List D}{t:Nat}:(o0e p ts)[t]?=(ts[t]?).map fun d=>if p t then d else .junk:=by
 unfold o0e
 rw [List.getElem?_map,List.getElem?_zipIdx]
 cases ts[t]?<;>simp
theorem c1J {p:Nat→Bool}{ts:List D}{x:Operand}(h:∀ t,x = .tmp t→p t=true):eval (o0e p ts) x=eval ts x:=by
 cases x with
 | tmp t =>
  simp only [eval,List.getD]
  rw [f0o,h t rfl]
  cases ts[t]?<;>simp
 | _=>rfl
theorem u0W {p:Nat→Bool}{ops:List Oper}{ts:List D}{o:Oper}(h:∀ t∈e0Y ops o,p t=true):b0X ops (o0e p ts) o=b0X ops ts o:=by
 unfold b0X
 cases hg:o.guard with
 | none=>rfl
 | some q =>
  obtain ⟨j,want⟩:=q
  dsimp only
  cases hj:ops[j]? with
  | none=>rfl
  | some q =>
   dsimp only
   cases ht:q.dst with
   | none=>rfl
   | some t =>
    dsimp only
    rw [f0o,h t (by unfold e0Y;rw [hg];simp [hj,ht])]
    cases ts[t]?<;>rfl
section
variable {P:Program}{X:Nat→Prop}{ops:Array Oper}{n0:Nat}{s0 s':St}{recs:List Rec}
structure Known (P:Program)(ops:Array Oper)(s0 s':St)(recs:List Rec):Prop where
 draw:g0I ops.toList (Region.before ops).toList=true
 len:recs.length=ops.toList.length
 fin:∃ own,At s0.H.length s0 ops.toList recs own s'
 fact:∀ k o,ops.toList[k]?=some o→∃ r own s1,recs[k]?=some r∧At s0.H.length s0 (ops.toList.take k) (recs.take k) own s1∧Fact P ops.toList (Region.before ops).toList s0.H.length k (recs.take k) own s1 o r
def bit (ops:Array Oper)(k j:Nat):Bool:=((Region.before ops).toList.getD k 0).testBit j
def d0V (s0:St)(recs:List Rec)(E:Nat→Bool)(x:Nat):Option Row:=cont E (recs.map (wr x)) 0 s0.H[x]?
def l0J (ops:Array Oper)(s0:St)(recs:List Rec)(E:Nat→Bool)(t:Nat):Option D:=cont E ((ops.toList.zip recs).map (sw t)) 0 s0.ts[t]?
def b0j (s0 s':St)(recs:List Rec)(E:Nat→Bool):List Row:=(List.range s'.H.length).map fun x=>(d0V s0 recs E x).getD .dead
def RealE (s0:St)(recs:List Rec)(E:Nat→Bool)(r:Nat):Prop:=r<s0.H.length∨∃ (k:Nat) (rc:Rec),E k=true∧recs[k]?=some rc∧rc.base≤r∧r<rc.base+rc.news.length
structure Sch (P:Program)(X:Nat→Prop)(ops:Array Oper)(s0 s':St)(recs:List Rec)(ws:World)(φs:Nat→Nat × Nat)(E:Nat→Bool)(a:Act)(w:World)(φ:Nat→Nat × Nat):Prop where
 down:∀ k,E k=true→∀ j,bit ops k j=true→E j=true
 heap:HR P w φ X (b0j s0 s' recs E)
 low:∀ x row,d0V s0 recs E x=some row→RowLow (RealE s0 recs E) row
 tsz:a.tmps.size=s0.ts.length
 slots:∀ (t:Nat) (d:D) (u:Value),l0J ops s0 recs E t=some d→a.tmps[t]?=some u→R P w φ (Av X φ (b0j s0 s' recs E)) s'.H.length d u∧Low (RealE s0 recs E) d
 defers:a.defers=[]
 same:∀ r,r<s0.H.length→φ r=φs r
 keep:Keep (Live φs s0.H) ws w
 fresh:∀ b,Live φ (b0j s0 s' recs E) b→Live φs s0.H b∨ws.heap.size≤b
theorem Known.bases (h:Known P ops s0 s' recs){q:Nat}{r:Rec}(hr:recs[q]?=some r):s0.H.length≤r.base∧r.base+r.news.length≤s'.H.length:=by
 obtain ⟨own,hf⟩:=h.fin
 exact hf.bases q r hr
theorem Known.mono (h:Known P ops s0 s' recs){j q:Nat}{rj rq:Rec}(hj:recs[j]?=some rj)(hq:recs[q]?=some rq)(hjq:j<q):rj.base+rj.news.length≤rq.base:=by
 have hlt:q<ops.toList.length:=by rw [←h.len];exact (List.getElem?_eq_some_iff.1 hq).1
 obtain ⟨r,own,s1,h1,h2,h3⟩:=h.fact q ops.toList[q] (by simp [hlt])
 rw [hq] at h1
 injection h1 with h1
 subst h1
 rw [h3.base]
 exact (h2.bases j rj (by rw [List.getElem?_take,if_pos hjq];exact hj)).2
theorem Known.op (h:Known P ops s0 s' recs){q:Nat}{r:Rec}(hr:recs[q]?=some r):∃ o own s1,ops.toList[q]?=some o∧At s0.H.length s0 (ops.toList.take q) (recs.take q) own s1∧Fact P ops.toList (Region.before ops).toList s0.H.length q (recs.take q) own s1 o r:=by
 have hlt:q<ops.toList.length:=by rw [←h.len];exact (List.getElem?_eq_some_iff.1 hr).1
 obtain ⟨r',own,s1,h1,h2,h3⟩:=h.fact q ops.toList[q] (by simp [hlt])
 rw [hr] at h1
 injection h1 with h1
 subst h1
 exact ⟨_,own,s1,by simp [hlt],h2,h3⟩
theorem d0m {x:Nat}{r:Rec}{y:Row}(h:wr x r=some y):(r.base≤x∧x<r.base+r.news.length∧r.news[x-r.base]?=some y)∨(x<r.base∧(x,y)∈r.upd∧k0j r.upd x=some y):=by
 unfold wr at h
 split at h
 ·rename_i hb
  have:=(List.getElem?_eq_some_iff.1 h).1
  exact .inl ⟨hb,by omega,h⟩
 ·rename_i hb
  exact .inr ⟨by omega,q0N h,h⟩
theorem d1r (h:Known P ops s0 s' recs){E:Nat→Bool}{x:Nat}{row:Row}(hr:d0V s0 recs E x=some row):x<s'.H.length:=by
 by_cases hx:x<s'.H.length
 ·exact hx
 ·exfalso
  have hn:∀ j y,(recs.map (wr x))[j]?=some (some y)→E (0+j)=false:=by
   intro j y hy
   rw [List.getElem?_map] at hy
   cases hj:recs[j]? with
   | none=>rw [hj] at hy;simp at hy
   | some r =>
    rw [hj] at hy
    simp at hy
    have hb:=h.bases hj
    rcases d0m hy with ⟨h1,h2,_⟩|⟨h1,_⟩<;>omega
  unfold d0V at hr
  rw [d0R hn] at hr
  obtain ⟨own,hf⟩:=h.fin
  have:=(List.getElem?_eq_some_iff.1 hr).1
  have:=hf.len
  omega
theorem p0x (h:Known P ops s0 s' recs){E:Nat→Bool}{x:Nat}{row:Row}(hr:d0V s0 recs E x=some row):(b0j s0 s' recs E)[x]?=some row:=by
 unfold b0j
 rw [List.getElem?_map,List.getElem?_range (d1r h hr)]
 simp [hr]
theorem w0c {E:Nat→Bool}{x:Nat}{row:Row}(hr:(b0j s0 s' recs E)[x]?=some row):x<s'.H.length∧(row = .dead∨d0V s0 recs E x=some row):=by
 unfold b0j at hr
 have hx:x<s'.H.length:=by have:=(List.getElem?_eq_some_iff.1 hr).1;simpa using this
 rw [List.getElem?_map,List.getElem?_range hx] at hr
 simp at hr
 refine ⟨hx,?_⟩
 cases hc:d0V s0 recs E x with
 | none=>rw [hc] at hr;exact .inl hr.symm
 | some y=>rw [hc] at hr;simp at hr;exact .inr (by rw [hr])
theorem f0c {E:Nat→Bool}:(b0j s0 s' recs E).length=s'.H.length:=by simp [b0j]
theorem d1k (h:Known P ops s0 s' recs){E:Nat→Bool}(hdown:∀ k,E k=true→∀ j,bit ops k j=true→E j=true){i:Nat}{own:List Nat}{s1:St}{r:Rec}(hri:recs[i]?=some r)(hat:At s0.H.length s0 (ops.toList.take i) (recs.take i) own s1)(hbase:r.base=s1.H.length)(hEi:E i=false)(hready:∀ j,bit ops i j=true→E j=true)
  (hview:∀ x∈r.view,f0e s0.H.length own ((Region.before ops).toList.getD i 0) x=true) (hpair:∀ j q,(recs.take i)[j]?=some q→((Region.before ops).toList.getD i 0).testBit j=true∨((∀ p∈q.upd,p.1 ∉ r.view)∧∀ p∈r.upd,p.1 ∉ q.view)) {x:Nat} {row:Row}
  (hx:(b0k r.view s1.H)[x]?=some row):row = .dead∨d0V s0 recs E x=some row:=by
 rcases g0B hx with hd|⟨h1,h2⟩
 ·exact .inl hd
 refine .inr ?_
 have hxb:x<r.base:=by rw [hbase];exact (List.getElem?_eq_some_iff.1 h1).1
 rw [hat.rows x] at h1
 unfold d0V
 rw [x0L (i:=i)]
 ·rw [←List.map_take];exact h1
 ·intro j y hj hy
  rw [List.getElem?_map] at hy
  cases hrj:recs[j]? with
  | none=>rw [hrj] at hy;simp at hy
  | some rj =>
   rw [hrj] at hy
   simp at hy
   have hbj:=h.bases hrj
   rcases d0m hy with ⟨g1,g2,_⟩|⟨g1,g2,_⟩
   ·have hv:=hview x h2
    unfold f0e at hv
    rw [Bool.or_eq_true] at hv
    rcases hv with hv|hv
    ·have:x<s0.H.length:=by simpa using hv
     omega
    ·split at hv
     ·rename_i q hq1
      obtain ⟨rq,k1,k2,k3⟩:=hat.own _ q hq1
      have hqi:q<i:=by have:=(List.getElem?_eq_some_iff.1 k1).1;simp at this;omega
      rw [List.getElem?_take,if_pos hqi] at k1
      have hjq:j=q:=by
       rcases Nat.lt_trichotomy j q with hlt|he|hgt
       ·have:=h.mono hrj k1 hlt;omega
       ·exact he
       ·have:=h.mono k1 hrj hgt;omega
      subst hjq
      exact hready j hv
     ·cases hv
   ·rcases hpair j rj (by rw [List.getElem?_take,if_pos hj];exact hrj) with g3|⟨g3,_⟩
    ·exact hready j g3
    ·exact absurd h2 (g3 _ g2)
 ·intro j y hj hy
  rw [List.getElem?_map] at hy
  cases hrj:recs[j]? with
  | none=>rw [hrj] at hy;simp at hy
  | some rj =>
   rw [hrj] at hy
   simp at hy
   by_cases hji:j=i
   ·rw [hji];exact hEi
   have hij:i<j:=by omega
   have hm:=h.mono hri hrj hij
   rcases d0m hy with ⟨g1,g2,_⟩|⟨g1,g2,_⟩
   ·omega
   ·obtain ⟨oj,ownj,sj,_,_,hfj⟩:=h.op hrj
    rcases hfj.how with ⟨_,_,hu',_⟩|⟨_,_,_,_,hpj,_⟩
    ·rw [hu'] at g2;simp at g2
    ·rcases hpj i r (by rw [List.getElem?_take,if_pos hij];exact hri) with g3|⟨_,g3⟩
     ·cases hE:E j with
      | false=>rfl
      | true =>
       have:=hdown j hE i g3
       rw [hEi] at this;cases this
     ·exact absurd h2 (g3 _ g2)
theorem h0H (h:Known P ops s0 s' recs){E:Nat→Bool}(hdown:∀ k,E k=true→∀ j,bit ops k j=true→E j=true){i:Nat}{r:Rec}(hri:recs[i]?=some r)(hEi:E i=false){x:Nat}{y:Row}(hy:wr x r=some y){j:Nat}{z:Row}(hj:i<j)(hz:(recs.map (wr x))[j]?=some (some z)):E j=false:=by
 rw [List.getElem?_map] at hz
 cases hrj:recs[j]? with
 | none=>rw [hrj] at hz;simp at hz
 | some rj =>
  rw [hrj] at hz
  simp at hz
  have hm:=h.mono hri hrj hj
  rcases d0m hz with ⟨g1,g2,_⟩|⟨g1,g2,_⟩
  ·rcases d0m hy with ⟨k1,k2,_⟩|⟨k1,_⟩<;>omega
  ·have hbit:bit ops j i=true:=by
    obtain ⟨oj,own,s1,e1,hat,hf⟩:=h.op hrj
    rcases hf.how with ⟨_,_,hu',_⟩|⟨_,_,hview,hupd,hpair,_⟩
    ·rw [hu'] at g2;simp at g2
    ·have hxv:=(hupd _ g2).1
     rcases d0m hy with ⟨k1,k2,_⟩|⟨k1,k2,_⟩
     ·have hv:=hview x hxv
      unfold f0e at hv
      rw [Bool.or_eq_true] at hv
      rcases hv with hv|hv
      ·have:x<s0.H.length:=by simpa using hv
       have:=h.bases hri
       omega
      ·split at hv
       ·rename_i q hq1
        obtain ⟨rq,c1,c2,c3⟩:=hat.own _ q hq1
        have hqj:q<j:=by have:=(List.getElem?_eq_some_iff.1 c1).1;simp at this;omega
        rw [List.getElem?_take,if_pos hqj] at c1
        have:=h.bases hri
        have hiq:i=q:=by
         rcases Nat.lt_trichotomy i q with hlt'|he|hgt
         ·have:=h.mono hri c1 hlt';omega
         ·exact he
         ·have:=h.mono c1 hri hgt;omega
        subst hiq
        exact hv
       ·cases hv
     ·rcases hpair i r (by rw [List.getElem?_take,if_pos hj];exact hri) with g3|⟨g3,_⟩
      ·exact g3
      ·exact absurd hxv (g3 (x,y) k2)
   cases hE:E j with
   | false=>rfl
   | true =>
    have:=hdown j hE i hbit
    rw [hEi] at this;cases this
def ins (E:Nat→Bool)(i:Nat):Nat→Bool:=fun k=>if k=i then true else E k
theorem f0t {E:Nat→Bool}{i:Nat}:ins E i i=true:=if_pos rfl
theorem s0n {E:Nat→Bool}{i k:Nat}(h:k≠i):ins E i k=E k:=if_neg h
theorem w0e {E:Nat→Bool}{i k:Nat}(h:E k=true):ins E i k=true:=by unfold ins;split<;>simp [*]
theorem RealE.up {E:Nat→Bool}{i r:Nat}(h:RealE s0 recs E r):RealE s0 recs (ins E i) r:=by
 rcases h with h|⟨k,rc,h1,h2⟩
 ·exact .inl h
 ·exact .inr ⟨k,rc,w0e h1,h2⟩
theorem g0Z {E:Nat→Bool}{i x:Nat}{r:Rec}(hri:recs[i]?=some r)(hw:wr x r=none):d0V s0 recs (ins E i) x=d0V s0 recs E x:=by
 unfold d0V
 refine c0d (fun j y hy=>?_)
 rw [Nat.zero_add]
 by_cases hj:j=i
 ·subst hj
  rw [List.getElem?_map,hri] at hy
  simp [hw] at hy
 ·exact s0n hj
theorem z0b (h:Known P ops s0 s' recs){E:Nat→Bool}{i:Nat}{o:Oper}{own:List Nat}{s1:St}(ho:ops.toList[i]?=some o)(hat:At s0.H.length s0 (ops.toList.take i) (recs.take i) own s1)(hready:∀ j,bit ops i j=true→E j=true)(hdown:∀ k,E k=true→∀ j,bit ops k j=true→E j=true)(hEi:E i=false){t:Nat}(ht:t∈e0Y ops.toList o)(htl:t<s0.ts.length):s1.ts[t]?=l0J ops s0 recs E t:=by
 obtain ⟨hb,hd⟩:=d0l h.draw ho
 have hz:((ops.toList.take i).zip (recs.take i)).map (sw t)=((ops.toList.zip recs).map (sw t)).take i:=by
  rw [←List.map_take];simp only [List.zip,List.take_zipWith]
 have key:∀ j y,((ops.toList.zip recs).map (sw t))[j]?=some (some y)→bit ops i j=true∨(i≤j∧E j=false):=by
  intro j y hy
  rw [List.getElem?_map] at hy
  cases hp:(ops.toList.zip recs)[j]? with
  | none=>rw [hp] at hy;simp at hy
  | some p =>
   rw [hp] at hy
   rw [List.getElem?_zip_eq_some] at hp
   simp [sw] at hy
   rcases (hd j p.1 t hp.1 hy.1).1 ht with h1|h1|h1
   ·exact .inl h1
   ·refine .inr ⟨?_,?_⟩
    ·have h2:=Nat.ge_two_pow_of_testBit h1
     have h3:=(d0l h.draw hp.1).1
     rcases Nat.lt_or_ge j i with h4|h4
     ·have:2 ^ j≤2 ^ i:=Nat.pow_le_pow_right (by omega) (Nat.le_of_lt h4)
      omega
     ·exact h4
    ·cases hE:E j with
     | false=>rfl
     | true=>have:=hdown j hE i h1;rw [hEi] at this;cases this
   ·subst h1;exact .inr ⟨Nat.le_refl _,hEi⟩
 rw [hat.slots t htl,hz]
 unfold l0J
 refine (x0L (i:=i) ?_ ?_).symm
 ·intro j y hj hy
  rcases key j y hy with h1|⟨h1,_⟩
  ·exact hready j h1
  ·omega
 ·intro j y hj hy
  rcases key j y hy with h1|⟨_,h1⟩
  ·have h2:=Nat.ge_two_pow_of_testBit h1
   have h3:2 ^ i≤2 ^ j:=Nat.pow_le_pow_right (by omega) hj
   omega
  ·exact h1
theorem m0B {E:Nat→Bool}{i t:Nat}{o:Oper}(ho:ops.toList[i]?=some o)(hd:o.dst≠some t):l0J ops s0 recs (ins E i) t=l0J ops s0 recs E t:=by
 unfold l0J
 refine c0d (fun j y hy=>?_)
 rw [Nat.zero_add]
 by_cases hj:j=i
 ·subst hj
  rw [List.getElem?_map] at hy
  cases hp:(ops.toList.zip recs)[j]? with
  | none=>rw [hp] at hy;simp at hy
  | some p =>
   rw [hp] at hy
   rw [List.getElem?_zip_eq_some] at hp
   rw [ho] at hp
   simp [sw] at hy
   have e:=hp.1
   injection e with e
   rw [←e] at hy
   exact absurd hy.1 hd
 ·exact s0n hj
theorem s0G (h:Known P ops s0 s' recs){E:Nat→Bool}{i t:Nat}{o:Oper}{r:Rec}(ho:ops.toList[i]?=some o)(hri:recs[i]?=some r)(hd:o.dst=some t):l0J ops s0 recs (ins E i) t=some r.res:=by
 obtain ⟨_,hdr⟩:=d0l h.draw ho
 unfold l0J
 refine o0K (i:=i) ?_ f0t ?_
 ·rw [List.getElem?_map]
  have:(ops.toList.zip recs)[i]?=some (o,r):=List.getElem?_zip_eq_some.2 ⟨ho,hri⟩
  rw [this]
  simp [sw,hd]
 ·intro j y hj hy
  exfalso
  rw [List.getElem?_map] at hy
  cases hp:(ops.toList.zip recs)[j]? with
  | none=>rw [hp] at hy;simp at hy
  | some p =>
   rw [hp] at hy
   rw [List.getElem?_zip_eq_some] at hp
   simp [sw] at hy
   rcases (hdr j p.1 t hp.1 hy.1).2 with e|e
   ·omega
   ·exact e hd
theorem b1o {a:Act}{dst:Option Tmp}{v u:Value}{t:Nat}(h:(a.put dst v).tmps[t]?=some u):(dst=some t∧u=v)∨(dst≠some t∧a.tmps[t]?=some u):=by
 cases dst with
 | none=>exact .inr ⟨by simp,h⟩
 | some d =>
  simp only [Act.put,Array.getElem?_setIfInBounds] at h
  by_cases e:d=t
  ·rw [if_pos e] at h
   split at h
   ·injection h with h;exact .inl ⟨by rw [e],h.symm⟩
   ·cases h
  ·rw [if_neg e] at h
   exact .inr ⟨fun e'=>e (by injection e'),h⟩
theorem w0W {a:Act}{dst:Option Tmp}{v:Value}:(a.put dst v).tmps.size=a.tmps.size:=by cases dst<;>simp [Act.put]
theorem e1b (h:Known P ops s0 s' recs){ws w:World}{φs φ:Nat→Nat × Nat}{E:Nat→Bool}{a:Act}(hs:Sch P X ops s0 s' recs ws φs E a w φ){i:Nat}{o:Oper}(ho:ops.toList[i]?=some o)(hEi:E i=false)(hready:∀ j,bit ops i j=true→E j=true){Q:Exit→Act→World→Prop}{K:Act→World→Prop}
  (hK:∀ a' w' φ',Sch P X ops s0 s' recs ws φs (ins E i) a' w' φ'→K a' w'):wpOp P ops Q i K a w:=by
 obtain ⟨r,own,s1,hri,hat,hf⟩:=h.fact i o ho
 have ho':ops[i]?=some o:=by simpa using ho
 have hdown':∀ k,ins E i k=true→∀ j,bit ops k j=true→ins E i j=true:=by
  intro k hk j hj
  by_cases hki:k=i
  ·subst hki;exact w0e (hready j hj)
  ·rw [s0n hki] at hk;exact w0e (hs.down k hk j hj)
 have hbase:=h.bases hri
 have hN:(b0j s0 s' recs E).length=s'.H.length:=f0c
 have mrs:∀ (p:Nat→Bool),(∀ t,p t=true→t∈e0Y ops.toList o)→Rs P w φ (Av X φ (b0j s0 s' recs E)) s'.H.length (o0e p s1.ts) a.tmps.toList:=by
  intro p hp
  refine ⟨by have:=hs.tsz;have:=hat.tlen;simp [o0e];omega,fun t d u hd hu=>?_⟩
  rw [f0o] at hd
  cases hx:s1.ts[t]? with
  | none=>rw [hx] at hd;simp at hd
  | some x =>
   rw [hx] at hd
   simp at hd
   subst hd
   split
   ·rename_i hpt
    have htl:t<s0.ts.length:=by rw [←hat.tlen];exact (List.getElem?_eq_some_iff.1 hx).1
    have:=z0b h (E:=E) ho hat hready hs.down hEi (hp t hpt) htl
    rw [hx] at this
    exact (hs.slots t x u this.symm (by simpa using hu)).1
   ·exact .junk
 have hwd:b0X ops.toList (o0e (fun t=>(e0Y ops.toList o).contains t) s1.ts) o=b0X ops.toList s1.ts o:=u0W (fun t ht=>by simpa using ht)
 unfold wpOp
 rw [ho']
 dsimp only
 rcases hf.how with ⟨hw,hres,hupd,hnews,_⟩|⟨hw,hstep,hview,hupdv,hpair,hin,heff⟩
 ·have hwant:=e0Q (mrs (fun t=>(e0Y ops.toList o).contains t) (fun t ht=>by simpa using ht)) (ops:=ops) (hwd.trans hw)
  rw [hwant,if_neg (by simp)]
  have hrows:∀ x,d0V s0 recs (ins E i) x=d0V s0 recs E x:=fun x=>g0Z hri (by unfold wr;rw [hnews,hupd];split<;>simp [k0j])
  have hheap:b0j s0 s' recs (ins E i)=b0j s0 s' recs E:=by unfold b0j;simp only [hrows]
  refine hK _ w φ ⟨hdown',by rw [hheap];exact hs.heap,fun x row hx=>?_,by rw [w0W];exact hs.tsz,fun t d u hd hu=>?_,by rw [c0c];exact hs.defers,hs.same,hs.keep,by rw [hheap];exact hs.fresh⟩
  ·rw [hrows] at hx
   exact (hs.low x row hx).mono (fun r hr=>hr.up)
  ·rw [hheap]
   rcases b1o hu with ⟨hdst,rfl⟩|⟨hdst,hu'⟩
   ·rw [s0G h ho hri hdst] at hd
    injection hd with hd
    subst hd
    rw [hres]
    exact ⟨R.undef,b0Q (fun r hr=>by simp [D.undef,D.refs,D.refs.go] at hr)⟩
   ·rw [m0B ho hdst] at hd
    obtain ⟨g1,g2⟩:=hs.slots t d u hd hu'
    exact ⟨g1,g2.mono (fun r hr=>hr.up)⟩
 ·have hwant:=e0Q (mrs (fun t=>(e0Y ops.toList o).contains t) (fun t ht=>by simpa using ht)) (ops:=ops) (hwd.trans hw)
  rw [hwant,if_pos rfl]
  refine .inl ?_
  obtain ⟨M,hMdef⟩:∃ M,M=b0k r.view s1.H:=⟨_,rfl⟩
  have hMl:M.length=s1.H.length:=by rw [hMdef];exact g0A
  rw [←hMdef] at hstep hin
  have hMbase:M.length=r.base:=by rw [hMl,hf.base]
  have hrefin:∀ q,f0e s0.H.length own ((Region.before ops).toList.getD i 0) q=true→RealE s0 recs E q∧q<M.length:=by
   intro q hq
   unfold f0e at hq
   rw [Bool.or_eq_true] at hq
   rcases hq with hq|hq
   ·have hq':q<s0.H.length:=by simpa using hq
    exact ⟨.inl hq',by omega⟩
   ·by_cases hq0:q<s0.H.length
    ·exact ⟨.inl hq0,by omega⟩
    split at hq
    ·rename_i k hk
     obtain ⟨rk,g1,g2,g3⟩:=hat.own _ k hk
     have hki:k<i:=by have:=(List.getElem?_eq_some_iff.1 g1).1;simp at this;omega
     rw [List.getElem?_take,if_pos hki] at g1
     have:=h.mono g1 hri hki
     exact ⟨.inr ⟨k,rk,hready k hq,g1,by omega,by omega⟩,by omega⟩
    ·cases hq
  have hsub:∀ (x:Nat) (row:Row),M[x]?=some row→row = .dead∨((b0j s0 s' recs E)[x]?=some row∧RowLow (fun q=>RealE s0 recs E q∧q<M.length) row):=by
   intro x row hx
   have hx':=hx
   rw [hMdef] at hx'
   rcases d1k h hs.down hri hat hf.base hEi hready hview hpair hx' with hd|hd
   ·exact .inl hd
   ·refine .inr ⟨p0x h hd,c0E (fun q hq=>hrefin q ?_)⟩
    unfold inOk at hin
    rw [Bool.and_eq_true] at hin
    have:=List.all_eq_true.1 hin.2 row (List.mem_of_getElem? hx)
    exact List.all_eq_true.1 this q hq
  have hpart:=hs.heap.part (S:=fun q=>RealE s0 recs E q∧q<M.length) (fun q hq=>hq.2) hsub
  have hsub':∀ (x:Nat) (row:Row),M[x]?=some row→row = .dead∨(b0j s0 s' recs E)[x]?=some row:=fun x row hx=>(hsub x row hx).imp id And.left
  have avM:∀ b,Av (Rest X φ (b0j s0 s' recs E) M) φ M b→Av X φ (b0j s0 s' recs E) b:=by
   rintro b ((hx|⟨x,row,hx,hl,_,rfl⟩)|⟨x,row,hx,hl,rfl⟩)
   ·exact .inl hx
   ·exact .inr ⟨x,row,hx,hl,rfl⟩
   ·rcases hsub' x row hx with rfl|h1
    ·simp [Row.live] at hl
    ·exact .inr ⟨x,row,h1,hl,rfl⟩
  let isOp:Nat→Bool:=fun t=>o.op.operands.toList.any fun x=>match x with|.tmp q=>q==t|_=>false
  have isOp_of:∀ t,(Operand.tmp t)∈o.op.operands→isOp t=true:=fun t ht=>List.any_eq_true.2 ⟨.tmp t,by simpa using ht,by simp⟩
  have of_isOp:∀ t,isOp t=true→(Operand.tmp t)∈o.op.operands:=by
   intro t ht
   obtain ⟨x,hx,hx2⟩:=List.any_eq_true.1 ht
   cases x with
   | tmp q=>simp at hx2;subst hx2;simpa using hx
   | _=>simp at hx2
  have hcong:∀ x∈o.op.operands,eval (o0e isOp s1.ts) x=eval s1.ts x:=by
   refine fun x hx=>c1J (fun t ht=>?_)
   subst ht
   exact isOp_of t hx
  have hrs:Rs P w φ (Av (Rest X φ (b0j s0 s' recs E) M) φ M) M.length (o0e isOp s1.ts) a.tmps.toList:=by
   have h1:=mrs isOp (fun t ht=>by
    unfold e0Y
    refine List.mem_append.2 (.inl (List.mem_filterMap.2 ⟨.tmp t,by simpa using of_isOp t ht,rfl⟩)))
   refine ⟨h1.1,fun t d u hd hu=>?_⟩
   have h2:=h1.2 t d u hd hu
   rw [f0o] at hd
   cases hx:s1.ts[t]? with
   | none=>rw [hx] at hd;simp at hd
   | some x =>
    rw [hx] at hd
    simp at hd
    subst hd
    by_cases hp:isOp t=true
    ·rw [if_pos hp] at h2 ⊢
     refine h2.lower (S:=fun q=>RealE s0 recs E q∧q<M.length) (fun q hq=>⟨rfl,hq.2⟩) avM (b0Q (fun q hq=>hrefin q ?_))
     unfold inOk at hin
     rw [Bool.and_eq_true] at hin
     have h3:=List.all_eq_true.1 hin.1 (.tmp t) (by simpa using of_isOp t hp)
     have e1:eval s1.ts (.tmp t)=x:=by simp [eval,List.getD,hx]
     rw [e1] at h3
     exact List.all_eq_true.1 h3 q hq
    ·rw [if_neg hp];exact .junk
  refine hstep _ hcong w φ _ a hpart hrs K Q (fun v w' hl=>?_)
  obtain ⟨φ1,post⟩:=hl
  have hNn:M.length+r.news.length≤(b0j s0 s' recs E).length:=by rw [hN,hMbase];exact hbase.2
  have hreal:∀ q,RealE s0 recs E q→q<(b0j s0 s' recs E).length∧¬ (M.length≤q∧q<M.length+r.news.length):=by
   rintro q (hq|⟨k,rk,hEk,hrk,hq1,hq2⟩)
   ·exact ⟨by rw [hN];omega,by omega⟩
   ·have hbk:=h.bases hrk
    refine ⟨by rw [hN];omega,fun hc=>?_⟩
    have hki:k≠i:=fun e=>by rw [e,hEi] at hEk;cases hEk
    rcases Nat.lt_or_gt_of_ne hki with hlt|hgt
    ·have:=h.mono hrk hri hlt;omega
    ·have:=h.mono hri hrk hgt;omega
  have hel:(Eff.heap ⟨r.res,r.upd,r.news⟩ M).length=M.length+r.news.length:=f0K _ _
  have hrow:∀ (x:Nat) (row:Row),(b0j s0 s' recs (ins E i))[x]?=some row→row = .dead∨(Eff.heap ⟨r.res,r.upd,r.news⟩ M)[x]?=some row∨((b0j s0 s' recs E)[x]?=some row∧M[x]?≠some row∧RowLow (RealE s0 recs E) row∧¬ (M.length≤x∧x<M.length+r.news.length)):=by
   intro x row hx
   obtain ⟨hxl,hx'⟩:=w0c hx
   rcases hx' with hd|hx'
   ·exact .inl hd
   cases hwx:wr x r with
   | some y =>
    have hhit:d0V s0 recs (ins E i) x=some y:=by
     unfold d0V
     refine o0K (i:=i) (by rw [List.getElem?_map,hri];simp [hwx]) f0t (fun j z hj hz=>?_)
     rw [s0n (by omega)]
     exact h0H h hs.down hri hEi hwx hj hz
    rw [hhit] at hx'
    injection hx' with hx'
    subst hx'
    refine .inr (.inl ?_)
    unfold Eff.heap
    dsimp only
    rcases d0m hwx with ⟨g1,g2,g3⟩|⟨g1,g2,g3⟩
    ·rw [List.getElem?_append_right (by rw [a0G,hMbase];exact g1),a0G,hMbase]
     exact g3
    ·rw [List.getElem?_append_left (by rw [a0G,hMbase];exact g1),c0L _ _ _ (by rw [hMbase];exact g1),g3]
     rfl
   | none =>
    rw [g0Z hri hwx] at hx'
    by_cases hMx:M[x]?=some row
    ·have hxM:x<M.length:=(List.getElem?_eq_some_iff.1 hMx).1
     refine .inr (.inl ?_)
     unfold Eff.heap
     dsimp only
     have hlu:k0j r.upd x=none:=by
      unfold wr at hwx
      rw [if_neg (by omega)] at hwx
      exact hwx
     rw [List.getElem?_append_left (by rw [a0G];exact hxM),c0L _ _ _ hxM,hlu]
     exact hMx
    ·refine .inr (.inr ⟨p0x h hx',hMx,hs.low x row hx',fun hc=>?_⟩)
     unfold wr at hwx
     rw [if_pos (by omega)] at hwx
     have:=List.getElem?_eq_none_iff.1 hwx
     omega
  obtain ⟨m1,m2,m3,m4,m5⟩:=hs.heap.merge (S:=fun _=>True) hpart hsub' post (by rw [f0c,f0c]) hNn hreal hrow
  have liveM:∀ b,Live φ M b→Live φ (b0j s0 s' recs E) b:=by
   rintro b ⟨x,row,hx,hl,rfl⟩
   rcases hsub' x row hx with rfl|h1
   ·simp [Row.live] at hl
   ·exact ⟨x,row,h1,hl,rfl⟩
  have hrefeff:∀ q,o0T s0.H.length own ((Region.before ops).toList.getD i 0) s1.H.length q=true→q<M.length+r.news.length→RealE s0 recs (ins E i) q:=by
   intro q hq hlt
   by_cases hqb:M.length≤q
   ·exact .inr ⟨i,r,f0t,hri,by omega,by omega⟩
   ·unfold o0T at hq
    rw [Bool.or_eq_true,Bool.or_eq_true] at hq
    rcases hq with (hq|hq)|hq
    ·exact .inl (by simpa using hq)
    ·have:s1.H.length≤q:=by simpa using hq
     omega
    ·refine (hrefin q ?_).1.up
     unfold f0e
     rw [hq];simp
  unfold c1p at heff
  rw [Bool.and_eq_true,Bool.and_eq_true] at heff
  obtain ⟨⟨he1,he2⟩,he3⟩:=heff
  have hlowd:∀ d,(∀ q∈d.refs,o0T s0.H.length own ((Region.before ops).toList.getD i 0) s1.H.length q=true)→Low (fun q=>q<M.length+r.news.length) d→Low (RealE s0 recs (ins E i)) d:=by
   intro d h1 h2
   exact ((b0Q (S:=fun q=>o0T s0.H.length own ((Region.before ops).toList.getD i 0) s1.H.length q=true) h1).and h2).mono (fun q hq=>hrefeff q hq.1 hq.2)
  have eq1:∀ q,q<M.length+r.news.length→mix φ φ1 M.length r.news.length q=φ1 q:=by
   intro q hq
   unfold mix
   by_cases hb:M.length≤q
   ·rw [if_pos ⟨hb,hq⟩]
   ·rw [if_neg (fun h=>hb h.1),post.same q (by omega)]
  refine hK _ w' (mix φ φ1 M.length r.news.length) ⟨hdown',m1,fun x row hx=>?_,by rw [w0W];exact hs.tsz,fun t d u hd hu=>?_,by rw [c0c];exact hs.defers,fun q hq=>?_,hs.keep.trans m2 (fun b hb hl=>?_),fun b hb=>?_⟩
  ·cases hwx:wr x r with
   | some y =>
    have hhit:d0V s0 recs (ins E i) x=some y:=by
     unfold d0V
     refine o0K (i:=i) (by rw [List.getElem?_map,hri];simp [hwx]) f0t (fun j z hj hz=>?_)
     rw [s0n (by omega)]
     exact h0H h hs.down hri hEi hwx hj hz
    rw [hhit] at hx
    injection hx with hx
    subst hx
    have hy:(Eff.heap ⟨r.res,r.upd,r.news⟩ M)[x]?=some y:=by
     unfold Eff.heap
     dsimp only
     rcases d0m hwx with ⟨g1,g2,g3⟩|⟨g1,g2,g3⟩
     ·rw [List.getElem?_append_right (by rw [a0G,hMbase];exact g1),a0G,hMbase]
      exact g3
     ·rw [List.getElem?_append_left (by rw [a0G,hMbase];exact g1),c0L _ _ _ (by rw [hMbase];exact g1),g3]
      rfl
    have hlow:=(post.heap.rows x y hy).isLow
    rw [hel] at hlow
    have href:∀ q∈y.refs,o0T s0.H.length own ((Region.before ops).toList.getD i 0) s1.H.length q=true:=by
     rcases d0m hwx with ⟨g1,g2,g3⟩|⟨g1,g2,g3⟩
     ·exact fun q hq=>List.all_eq_true.1 (List.all_eq_true.1 he3 y (List.mem_of_getElem? g3)) q hq
     ·exact fun q hq=>List.all_eq_true.1 (List.all_eq_true.1 he2 (x,y) g2) q hq
    exact ((c0E (S:=fun q=>o0T s0.H.length own ((Region.before ops).toList.getD i 0) s1.H.length q=true) href).and hlow).mono (fun q hq=>hrefeff q hq.1 hq.2)
   | none =>
    rw [g0Z hri hwx] at hx
    exact (hs.low x row hx).mono (fun q hq=>hq.up)
  ·rcases b1o hu with ⟨hdst,rfl⟩|⟨hdst,hu'⟩
   ·rw [s0G h ho hri hdst] at hd
    injection hd with hd
    subst hd
    have hr:=post.res
    have hlow:=hr.isLow
    rw [hel] at hlow
    refine ⟨hr.lower (S:=fun q=>q<M.length+r.news.length) (fun q hq=>⟨eq1 q hq,by rw [hN] at hNn;omega⟩) m5 hlow,hlowd _ (fun q hq=>List.all_eq_true.1 he1 q hq) hlow⟩
   ·rw [m0B ho hdst] at hd
    obtain ⟨g1,g2⟩:=hs.slots t d u hd hu'
    have g3:=g1.keep (φ':=φ) (N':=s'.H.length) (A':=Av X (mix φ φ1 M.length r.news.length) (b0j s0 s' recs (ins E i))) post.keep (fun b hb=>.inr (liveM b hb)) m4 (fun _ _=>rfl) (Nat.le_refl _)
    refine ⟨g3.lower (S:=RealE s0 recs E) (fun q hq=>⟨if_neg (hreal q hq).2,by have:=(hreal q hq).1;rw [hN] at this;exact this⟩) (fun _ h=>h) g2,g2.mono (fun q hq=>hq.up)⟩
  ·have:mix φ φ1 M.length r.news.length q=φ q:=if_neg (by omega)
   rw [this]
   exact hs.same q hq
  ·rcases hs.fresh b hl with h1|h1
   ·exact h1
   ·omega
  ·rcases m3 b hb with h1|h1
   ·exact hs.fresh b h1
   ·exact .inr (Nat.le_trans hs.keep.size h1)
theorem q0c {p p':Nat→Bool}:∀ {l:List Nat} {i:Nat},(∀ x∈l,p' x=true→p x=true)→i∈l→p i=true→p' i=false→l.countP p'<l.countP p
 | y :: l,i,hm,hi,h1,h2=>by
  have hrest:l.countP p'≤l.countP p:=List.countP_mono_left (fun x hx=>hm x (List.mem_cons_of_mem _ hx))
  rcases List.mem_cons.1 hi with rfl|hi
  ·rw [List.countP_cons,List.countP_cons,h1,h2];simp;omega
  ·have ih:=q0c (fun x hx=>hm x (List.mem_cons_of_mem _ hx)) hi h1 h2
   rw [List.countP_cons,List.countP_cons]
   have:=hm y List.mem_cons_self
   cases hp':p' y with
   | false=>simp;omega
   | true=>rw [this hp'];simp;omega
theorem g0K {listed:Array Bool}(hl:listed.size=ops.size){i:Nat}:i∈Region.ready .any ops listed↔∃ o,ops.toList[i]?=some o∧listed.getD i false=false∧∀ e∈o.after,Region.binds .any e=true→listed.getD e.on false=true:=by
 unfold Region.ready
 rw [List.mem_filter,List.mem_range]
 constructor
 ·rintro ⟨h1,h2⟩
  rw [Bool.and_eq_true,Bool.not_eq_true'] at h2
  have ho:ops[i]?=some ops[i]:=Array.getElem?_eq_getElem h1
  refine ⟨ops[i],by simp [h1],?_,fun e he hb=>?_⟩
  ·have:=h2.1
   rw [Array.getD_eq_getD_getElem?,Array.getElem?_eq_getElem (by omega)] at this ⊢
   simpa using this
  ·have h3:=h2.2
   rw [ho] at h3
   simp only [Option.map_some,Option.getD_some] at h3
   have h4:=Array.all_eq_true_iff_forall_mem.1 h3 e he
   rw [hb] at h4
   simpa using h4
 ·rintro ⟨o,ho,h1,h2⟩
  have hlt:i<ops.size:=by have:=(List.getElem?_eq_some_iff.1 ho).1;simpa using this
  have ho':ops[i]?=some o:=by simpa using ho
  refine ⟨hlt,?_⟩
  rw [Bool.and_eq_true,Bool.not_eq_true']
  refine ⟨?_,?_⟩
  ·rw [Array.getD_eq_getD_getElem?,Array.getElem?_eq_getElem (by omega)] at h1 ⊢
   simpa using h1
  ·rw [ho']
   simp only [Option.map_some,Option.getD_some]
   refine Array.all_eq_true_iff_forall_mem.2 (fun e he=>?_)
   cases hb:Region.binds .any e with
   | false=>simp
   | true=>simp [h2 e he hb]
theorem x0V {i:Nat}{o:Oper}(ho:ops.toList[i]?=some o):(∀ j,bit ops i j=true→∃ e∈o.after,Region.binds .any e=true∧(e.on=j∨bit ops e.on j=true))∧∀ e∈o.after,Region.binds .any e=true→bit ops i e.on=true:=by
 obtain ⟨_,h2,h3⟩:=r0g ops.toList
 have e1:∀ k,(Region.before ops).toList.getD k 0=(b0A ops.toList).getD k 0:=by
  intro k
  rw [a1n,List.getD,Array.getD_eq_getD_getElem?,Array.getElem?_toList]
 unfold bit
 simp only [e1]
 exact ⟨fun j hj=>h2 i o j ho hj,fun e he hb=>h3 i o e ho he hb⟩
theorem h1H (h:Known P ops s0 s' recs){ws:World}{φs:Nat→Nat × Nat}{Q:Exit→Act→World→Prop}(hQ:∀ a w φ,Sch P X ops s0 s' recs ws φs (fun k=>decide (k<ops.size)) a w φ→Q .normal a w) :
  ∀ (fuel:Nat) (listed:Array Bool) (a:Act) (w:World) (φ:Nat→Nat × Nat),listed.size=ops.size→(List.range ops.size).countP (fun k=>!listed.getD k false)≤fuel→Sch P X ops s0 s' recs ws φs (fun k=>listed.getD k false) a w φ→wpAny P .any ops Q fuel listed a w:=by
 have done:∀ (listed:Array Bool) (a:Act) (w:World) (φ:Nat→Nat × Nat),listed.size=ops.size→Sch P X ops s0 s' recs ws φs (fun k=>listed.getD k false) a w φ→Region.ready .any ops listed=[]→Q .normal a w:=by
  intro listed a w φ hl hs hr
  have hall:∀ k,k<ops.size→listed.getD k false=true:=by
   intro k
   induction k using Nat.strongRecOn with
   | _ k ih =>
    intro hk
    cases hb:listed.getD k false with
    | true=>rfl
    | false =>
     exfalso
     have ho:ops.toList[k]?=some ops[k]:=by simp [hk]
     have hmem:k∈Region.ready .any ops listed:=(g0K hl).2 ⟨ops[k],ho,hb,fun e he hbe=>by
      have h1:=(x0V ho).2 e he hbe
      have h2:=Nat.ge_two_pow_of_testBit h1
      have h3:=(d0l h.draw ho).1
      have hek:e.on<k:=by
       rcases Nat.lt_or_ge e.on k with h4|h4
       ·exact h4
       ·have:2 ^ k≤2 ^ e.on:=Nat.pow_le_pow_right (by omega) h4
        omega
      exact ih e.on hek (by omega)⟩
     rw [hr] at hmem
     cases hmem
  refine hQ a w φ ?_
  have e1:(fun k=>listed.getD k false)=fun k=>decide (k<ops.size):=by
   funext k
   by_cases hk:k<ops.size
   ·rw [hall k hk];simp [hk]
   ·rw [Array.getD_eq_getD_getElem?,Array.getElem?_eq_none (by omega)]
    simp [hk]
  rw [←e1]
  exact hs
 intro fuel
 induction fuel with
 | zero =>
  intro listed a w φ hl hc hs
  have hr:Region.ready .any ops listed=[]:=by
   cases hr:Region.ready .any ops listed with
   | nil=>rfl
   | cons i l =>
    have hi:i∈Region.ready .any ops listed:=by rw [hr];exact List.mem_cons_self
    obtain ⟨o,ho,hb,_⟩:=(g0K hl).1 hi
    have hlt:i<ops.size:=by have:=(List.getElem?_eq_some_iff.1 ho).1;simpa using this
    have:0<(List.range ops.size).countP (fun k=>!listed.getD k false):=List.countP_pos_iff.2 ⟨i,by simpa using hlt,by rw [hb];rfl⟩
    omega
  exact ⟨hr,done listed a w φ hl hs hr⟩
 | succ fuel ih =>
  intro listed a w φ hl hc hs
  refine ⟨fun hr=>done listed a w φ hl hs hr,fun i hi=>?_⟩
  obtain ⟨o,ho,hb,he⟩:=(g0K hl).1 hi
  have hlt:i<ops.size:=by have:=(List.getElem?_eq_some_iff.1 ho).1;simpa using this
  have hset:∀ k,(listed.setIfInBounds i true).getD k false=ins (fun k=>listed.getD k false) i k:=by
   intro k
   unfold ins
   by_cases hk:k=i
   ·subst hk
    rw [if_pos rfl,Array.getD_eq_getD_getElem?,Array.getElem?_setIfInBounds_self]
    simp [hl,hlt]
   ·rw [if_neg hk,Array.getD_eq_getD_getElem?,Array.getElem?_setIfInBounds_ne (fun e=>hk e.symm),←Array.getD_eq_getD_getElem?]
  have hready:∀ j,bit ops i j=true→listed.getD j false=true:=by
   intro j hj
   obtain ⟨e,h1,h2,h3⟩:=(x0V ho).1 j hj
   have h4:=he e h1 h2
   rcases h3 with rfl|h3
   ·exact h4
   ·exact hs.down e.on h4 j h3
  refine e1b h hs ho hb hready (fun a' w' φ' hs'=>ih _ a' w' φ' (by simpa using hl) ?_ ?_)
  ·have:(List.range ops.size).countP (fun k=>!(listed.setIfInBounds i true).getD k false)<(List.range ops.size).countP (fun k=>!listed.getD k false):=by
    refine q0c (i:=i) (fun x _ hx=>?_) (by simpa using hlt) (by rw [hb];rfl) (by rw [hset,f0t];rfl)
    rw [hset] at hx
    cases hx':listed.getD x false with
    | false=>rfl
    | true=>rw [w0e hx'] at hx;cases hx
   omega
  ·have e1:(fun k=>(listed.setIfInBounds i true).getD k false)=ins (fun k=>listed.getD k false) i:=funext hset
   rw [e1]
   exact hs'
theorem d1g {b:List Nat}{L:List Oper}:∀ {rest:List Oper} {i:Nat} {pre:List Rec} {own:List Nat} {s s':St} {recs:List Rec},Tr P L b n0 rest i pre own s recs s'→∀ r,r<s.H.length→r ∉ s'.dirty→r ∉ s.dirty∧s'.H[r]?=s.H[r]?:=by
 intro rest i pre own s s' recs h
 induction h with
 | nil=>exact fun r _ hn=>⟨hn,rfl⟩
 | cons hf ht ih =>
  intro r hr hn
  obtain ⟨h1,h2⟩:=ih r (by simp [a0G];omega) hn
  dsimp only at h1 h2
  rw [List.mem_append,not_or] at h1
  refine ⟨h1.2,?_⟩
  rw [h2,List.getElem?_append_left (by rw [a0G];exact hr),d0B _ _ r (fun p hp e=>h1.1 (List.mem_map.2 ⟨p,hp,e⟩))]
theorem c1Z (hP:Good P){id:Nat}{Q:Exit→Act→World→Prop}{w0 w:World}{φ0 φ:Nat→Nat × Nat}{H0:List Row}{s s':St}{recs:List Rec}{a:Act}
  (hd:g0I ops.toList (Region.before ops).toList=true) (htr:Tr P ops.toList (Region.before ops).toList s.H.length ops.toList 0 [] [] s recs s') (h:Run P X w0 φ0 H0 w φ s a) (hQ:∀ a' w' φ',Run P X w0 φ0 H0 w' φ' s' a'→Q .normal a' w'):(Code.region id ops true).wp P Q a w:=by
 have hat0:At s.H.length s [] [] [] s:=⟨rfl,by simp,fun x=>rfl,rfl,fun t _=>rfl,fun j q hq=>by simp at hq,fun q r hq=>by simp at hq,fun q r p hq=>by simp at hq⟩
 obtain ⟨f1,⟨own',f2⟩,f3⟩:=v0O ops.toList [] [] recs [] s s' hat0 htr
 have known:Known P ops s s' recs:=⟨hd,f1,⟨own',by simpa using f2⟩,fun k o ho=>by
  obtain ⟨r,own2,s1,g1,g2,g3⟩:=f3 k o ho
  exact ⟨r,own2,s1,g1,by simpa using g2,by simpa using g3⟩⟩
 have hfin:At s.H.length s ops.toList recs own' s':=by simpa using f2
 refine wp_region_any hP.mixed (h1H (X:=X) known (ws:=w) (φs:=φ) (fun a' w' φ' hs=>?_) ops.size _ a _ φ (by simp) ?_ ?_)
 ·
  have hrows:∀ x,d0V s recs (fun k=>decide (k<ops.size)) x=s'.H[x]?:=by
   intro x
   rw [hfin.rows x]
   refine c0d (fun j y hy=>?_)
   have h1:=(List.getElem?_eq_some_iff.1 hy).1
   simp [f1] at h1
   simp [h1]
  have hheap:b0j s s' recs (fun k=>decide (k<ops.size))=s'.H:=by
   apply List.ext_getElem?
   intro x
   unfold b0j
   by_cases hx:x<s'.H.length
   ·rw [List.getElem?_map,List.getElem?_range hx]
    simp [hrows,hx]
   ·rw [List.getElem?_eq_none (by simp;omega),List.getElem?_eq_none (by omega)]
  have hslots:∀ t,t<s.ts.length→l0J ops s recs (fun k=>decide (k<ops.size)) t=s'.ts[t]?:=by
   intro t ht
   rw [hfin.slots t ht]
   refine c0d (fun j y hy=>?_)
   have h1:=(List.getElem?_eq_some_iff.1 hy).1
   simp [f1] at h1
   simp [h1]
  refine hQ a' w' φ' ⟨⟨by rw [←hheap];exact hs.heap,⟨by have:=hs.tsz;have:=hfin.tlen;simp;omega,fun t d u hd' hu=>?_⟩,hs.defers⟩,h.ons.trans ⟨by have:=hfin.len;omega,hs.same,hs.keep,by rw [←hheap];exact hs.fresh⟩,h.low,fun r hr' hnd=>?_⟩
  ·have ht:t<s.ts.length:=by rw [←hfin.tlen];exact (List.getElem?_eq_some_iff.1 hd').1
   have:=(hs.slots t d u (by rw [hslots t ht];exact hd') (by simpa using hu)).1
   rw [hheap] at this
   exact this
  ·have hlt:r<s.H.length:=Nat.lt_of_lt_of_le hr' h.ons.len
   obtain ⟨g1,g2⟩:=d1g htr r hlt hnd
   rw [g2]
   exact h.clean r hr' g1
 ·refine Nat.le_trans List.countP_le_length ?_
  simp
 ·
  have hE:(fun k=>(Array.replicate ops.size false).getD k false)=fun _=>false:=by
   funext k
   rw [Array.getD_eq_getD_getElem?,Array.getElem?_replicate]
   split<;>rfl
  rw [hE]
  have hrows:∀ x,d0V s recs (fun _=>false) x=s.H[x]?:=fun x=>d0R (fun _ _ _=>rfl)
  have hslots:∀ t,l0J ops s recs (fun _=>false) t=s.ts[t]?:=fun t=>d0R (fun _ _ _=>rfl)
  have hle:s.H.length≤s'.H.length:=by have:=hfin.len;omega
  have hget:∀ (x:Nat) (row:Row),(b0j s s' recs (fun _=>false))[x]?=some row→row = .dead∨s.H[x]?=some row:=by
   intro x row hx
   obtain ⟨_,h1⟩:=w0c hx
   rcases h1 with h1|h1
   ·exact .inl h1
   ·rw [hrows] at h1;exact .inr h1
  have live:∀ b,Live φ (b0j s s' recs (fun _=>false)) b→Live φ s.H b:=by
   rintro b ⟨x,row,hx,hl,rfl⟩
   rcases hget x row hx with rfl|h1
   ·simp [Row.live] at hl
   ·exact ⟨x,row,h1,hl,rfl⟩
  have hk:Keep (Live φ s.H) w { w with drawn:=w.drawn+1 }:=⟨Nat.le_refl _,fun _ _ _=>rfl,fun b cs T fr h=>⟨cs,fr,h,rfl⟩,rfl,rfl,rfl⟩
  have av:∀ b,Av X φ (b0j s s' recs (fun _=>false)) b→Av X φ s.H b:=fun b hb=>hb.imp (fun x=>x) (live b)
  have hk0:Keep (fun _=>False) w { w with drawn:=w.drawn+1 }:=⟨Nat.le_refl _,fun _ _ _=>rfl,fun b cs T fr h=>⟨cs,fr,h,rfl⟩,rfl,rfl,rfl⟩
  have hsim:=h.sim
  refine ⟨fun k hk=>by simp at hk,⟨fun x row hx=>?_,fun x y r1 r2 hx hy l1 l2 e=>?_,fun x row hx hl=>?_,hsim.heap.old,fun p hp=>(hsim.heap.gl p hp).keep hk0 (fun _ h=>h.elim) (fun b _=>av b)⟩,fun x row hx=>?_,by have:=hsim.tmps.1;simpa using this,fun t d u hd' hu=>?_,hsim.defers,fun _ _=>rfl,hk,fun b hb=>.inl (live b hb)⟩
  ·rw [f0c]
   rcases hget x row hx with rfl|h1
   ·trivial
   ·have hok:=hsim.heap.rows x row h1
    have hxl:x<s.H.length:=(List.getElem?_eq_some_iff.1 h1).1
    have h2:=hok.keep (φ':=φ) (A':=Av X φ (b0j s s' recs (fun _=>false))) (N':=s'.H.length) hk0 (fun _ h=>h.elim) (fun b _ hb=>av b hb) (fun _ _=>rfl) hle hxl (.inr rfl)
    exact h2
  ·rcases hget x r1 hx with rfl|h1
   ·simp [Row.live] at l1
   rcases hget y r2 hy with rfl|h2
   ·simp [Row.live] at l2
   exact hsim.heap.apart x y r1 r2 h1 h2 l1 l2 e
  ·rcases hget x row hx with rfl|h1
   ·simp [Row.live] at hl
   exact hsim.heap.off x row h1 hl
  ·rw [hrows] at hx
   exact ((hsim.heap.rows x row hx).isLow).mono (fun r hr=>.inl hr)
  ·rw [hslots] at hd'
   have h1:=hsim.tmps.2 t d u hd' (by simpa using hu)
   refine ⟨?_,h1.isLow.mono (fun r hr=>.inl hr)⟩
   exact h1.keep hk0 (fun _ h=>h.elim) (fun b _ hb=>av b hb) (fun _ _=>rfl) hle
theorem f1w (hP:Good P){call:a0w}(hcall:∀ f,e0o P f (call f)){id:Nat}{Q:Exit→Act→World→Prop}{w0 w:World}{φ0 φ:Nat→Nat × Nat}{H0:List Row}{s:St}{p:St × List Nat}{a:Act}
  (hd:g0I ops.toList (Region.before ops).toList=true) (hr:d0h P call ops.toList (Region.before ops).toList s.H.length ops.toList 0 [] [] s=some p) (h:Run P X w0 φ0 H0 w φ s a) (hQ:∀ a' w' φ',Run P X w0 φ0 H0 w' φ' p.1 a'→Q .normal a' w'):(Code.region id ops true).wp P Q a w:=by
 obtain ⟨recs,htr⟩:=j0c hP hcall ops.toList 0 [] [] s p hr
 exact c1Z hP hd htr h hQ
end
end Go.Proofs.YthjgmldnegaaiaaGreatDoor.Mir
namespace Go.Proofs.YthjgmldnegaaiaaGreatDoor.Mir
open Go Go.RowKit
theorem f0g:∀ (us:List (Nat × Row)) (H:List Row) (r:Nat) (row:Row),(a0B H us)[r]?=some row→(r,row)∈us∨(H[r]?=some row∧∀ p∈us,p.1≠r)
 | [],H,r,row,h=>.inr ⟨h,fun p hp=>by simp at hp⟩
 | (i,x) :: us,H,r,row,h=>by
  rcases f0g us (H.set i x) r row h with h1|⟨h1,h2⟩
  ·exact .inl (List.mem_cons_of_mem _ h1)
  ·rw [List.getElem?_set] at h1
   split at h1
   ·rename_i e
    split at h1
    ·injection h1 with h1
     subst e;subst h1
     exact .inl List.mem_cons_self
    ·cases h1
   ·rename_i e
    exact .inr ⟨h1,fun p hp=>by
     rcases List.mem_cons.1 hp with rfl|hp
     ·exact e
     ·exact h2 p hp⟩
theorem f0F {n0:Nat}{seen:List Nat}{H:List Row}:∀ {l:List Nat} {us:List (Nat × Row)},m0d n0 seen H l=some us →
  (∀ i x,(i,x)∈us→i<n0∧i∈l∧∃ row,H[i]?=some row∧d0S n0 seen row=some x)∧∀ i,i∈l→i<n0→∃ x,(i,x)∈us
 | [],us,h=>by simp [m0d] at h;subst h;exact ⟨fun i x h=>by simp at h,fun i h=>by simp at h⟩
 | j :: l,us,h=>by
  simp only [m0d] at h
  split at h
  ·rename_i hj
   split at h
   ·rename_i row hrow
    split at h
    ·rename_i x xs hx hxs
     injection h with h
     subst h
     obtain ⟨h1,h2⟩:=f0F hxs
     refine ⟨fun i y hy=>?_,fun i hi hlt=>?_⟩
     ·rcases List.mem_cons.1 hy with e|hy
      ·injection e with e1 e2
       subst e1;subst e2
       exact ⟨hj,List.mem_cons_self,row,hrow,hx⟩
      ·obtain ⟨g1,g2,g3⟩:=h1 i y hy
       exact ⟨g1,List.mem_cons_of_mem _ g2,g3⟩
     ·rcases List.mem_cons.1 hi with rfl|hi
      ·exact ⟨x,List.mem_cons_self⟩
      ·obtain ⟨y,hy⟩:=h2 i hi hlt
       exact ⟨y,List.mem_cons_of_mem _ hy⟩
    ·cases h
   ·cases h
  ·rename_i hj
   obtain ⟨h1,h2⟩:=f0F h
   refine ⟨fun i y hy=>?_,fun i hi hlt=>?_⟩
   ·obtain ⟨g1,g2,g3⟩:=h1 i y hy
    exact ⟨g1,List.mem_cons_of_mem _ g2,g3⟩
   ·rcases List.mem_cons.1 hi with rfl|hi
    ·exact absurd hlt hj
    ·exact h2 i hi hlt
theorem f0v:∀ {l:List Nat} {x:Nat},x∈l→x∈n0u l
 | y :: ys,x,h=>by
  simp only [n0u]
  split
  ·rename_i hc
   rcases List.mem_cons.1 h with rfl|h
   ·exact f0v (by simpa using hc)
   ·exact f0v h
  ·rcases List.mem_cons.1 h with rfl|h
   ·exact List.mem_cons_self
   ·exact List.mem_cons_of_mem _ (f0v h)
section
variable {P:Program}{X:Nat→Prop}
theorem d0n {w:World}{φ:Nat→Nat × Nat}{H B:List Row}(h:HR P w φ X H){n0:Nat}(hn:n0≤H.length)(hB:B.length=n0){d:D}{v:Value}(hd:R P w φ (Av X φ H) H.length d v){dirty:List Nat}
  (hlow:∀ r row,r<n0→r ∉ dirty→B[r]?=some row→H[r]?=some row∧RowLow (· < n0) row) {e:Eff} (he:gather n0 d dirty H=some e) :
  ∃ ψ,(∀ r,r<n0→ψ r=φ r)∧HR P w ψ X (a0B B e.upd++e.news)∧R P w ψ (Av X ψ (a0B B e.upd++e.news)) (a0B B e.upd++e.news).length e.res v∧(∀ b,Live ψ (a0B B e.upd++e.news) b→Live φ H b)∧(∀ p∈e.upd,p.1∈dirty):=by
 unfold gather at he
 dsimp only at he
 split at he
 ·rename_i hc
  rw [Bool.and_eq_true] at hc
  obtain ⟨hnd,hall⟩:=hc
  split at he
  ·rename_i x us ns hx hus hns
   injection he with he
   subst he
   generalize a1s H n0 (1000+4*H.length) (d.refs++((n0u dirty).filter (· < n0)).flatMap fun i=>((H[i]?).map Row.refs).getD []) []=seen at *
   obtain ⟨u1,u2⟩:=f0F hus
   obtain ⟨r1,r2⟩:=g0z hns
   have hge:∀ (i r:Nat),seen[i]?=some r→n0≤r:=fun i r hi=>by
    have:=List.all_eq_true.1 hall r (List.mem_of_getElem? hi)
    simpa using this
   let ψ:Nat→Nat × Nat:=fun r'=>if r'<n0 then φ r' else φ (seen.getD (r'-n0) 0)
   have hlen:(a0B B us++ns).length=n0+seen.length:=by simp [a0G,hB,r1]
   have hψ:∀ r r',renN n0 seen r=some r'→ψ r'=φ r∧r'<(a0B B us++ns).length:=by
    intro r r' hr
    unfold renN at hr
    split at hr
    ·rename_i hlt
     injection hr with hr
     subst hr
     exact ⟨if_pos hlt,by rw [hlen];omega⟩
    ·rw [Option.map_eq_some_iff] at hr
     obtain ⟨i,hi,rfl⟩:=hr
     have hi':=h0l hi
     refine ⟨?_,by rw [hlen];have:=(List.getElem?_eq_some_iff.1 hi').1;omega⟩
     show (if n0+i<n0 then _ else _)=_
     rw [if_neg (by omega),Nat.add_sub_cancel_left,List.getD,hi']
     rfl
   have hψ0:∀ r,r<n0→ψ r=φ r:=fun r hr=>if_pos hr
   have from_:∀ r row,(a0B B us++ns)[r]?=some row→∃ r0 row0,H[r0]?=some row0∧ψ r=φ r0∧row.live=row0.live∧(r<n0→r0=r)∧(¬ r<n0→seen[r-n0]?=some r0)∧(d0S n0 seen row0=some row∨(r<n0∧row=row0∧RowLow (· < n0) row)):=by
    intro r row hr
    by_cases hlt:r<n0
    ·rw [List.getElem?_append_left (by rw [a0G,hB];exact hlt)] at hr
     rcases f0g us B r row hr with h1|⟨h1,h2⟩
     ·obtain ⟨_,_,row0,h3,h4⟩:=u1 r row h1
      exact ⟨r,row0,h3,hψ0 r hlt,k0I h4,fun _=>rfl,fun h=>absurd hlt h,.inl h4⟩
     ·have hnd':r ∉ dirty:=fun hm=>by
       obtain ⟨x,hx⟩:=u2 r (List.mem_filter.2 ⟨f0v hm,by simpa using hlt⟩) hlt
       exact h2 _ hx rfl
      obtain ⟨h3,h4⟩:=hlow r row hlt hnd' h1
      exact ⟨r,row,h3,hψ0 r hlt,rfl,fun _=>rfl,fun h=>absurd hlt h,.inr ⟨hlt,rfl,h4⟩⟩
    ·rw [List.getElem?_append_right (by rw [a0G,hB];omega),a0G,hB] at hr
     obtain ⟨r0,row0,g1,g2,g3⟩:=r2 _ _ hr
     refine ⟨r0,row0,g2,?_,k0I g3,fun h=>absurd h hlt,fun _=>g1,.inl g3⟩
     show (if r<n0 then _ else _)=_
     rw [if_neg hlt,List.getD,g1]
     rfl
   have hliv:∀ b,Live ψ (a0B B us++ns) b→Live φ H b:=by
    rintro b ⟨r,row,hr,hl,rfl⟩
    obtain ⟨r0,row0,g1,g2,g3,_⟩:=from_ r row hr
    exact ⟨r0,row0,g1,by rw [←g3];exact hl,by rw [g2]⟩
   have hav:∀ b,Av X ψ (a0B B us++ns) b→Av X φ H b:=fun b hb=>hb.imp id (hliv b)
   refine ⟨ψ,hψ0,⟨?_,?_,?_,h.old,fun p hp=>(h.gl p hp).thin hav⟩,hd.ren hav hψ hx,hliv,fun p hp=>?_⟩
   ·intro r row hr
    obtain ⟨r0,row0,g1,g2,g3,_,_,g6⟩:=from_ r row hr
    have hok:=h.rows r0 row0 g1
    rcases g6 with g6|⟨hlt,rfl,g6⟩
    ·exact hok.ren hav hψ g2 g6
    ·exact (hok.lower (n:=n0) g2 (fun r hr=>⟨hψ0 r hr,hr⟩) hav g6).upper (by rw [hlen];omega)
   ·intro r s x y hr hs hlx hly heq
    obtain ⟨r0,row0,g1,g2,g3,g4,g5,_⟩:=from_ r x hr
    obtain ⟨s0,sow0,k1,k2,k3,k4,k5,_⟩:=from_ s y hs
    have h0:=h.apart r0 s0 row0 sow0 g1 k1 (by rw [←g3];exact hlx) (by rw [←k3];exact hly) (by rw [←g2,←k2];exact heq)
    subst h0
    by_cases hr':r<n0<;>by_cases hs':s<n0
    ·rw [←g4 hr',←k4 hs']
    ·have:=hge _ _ (k5 hs')
     have:=g4 hr'
     omega
    ·have:=hge _ _ (g5 hr')
     have:=k4 hs'
     omega
    ·have:=l0h hnd _ _ _ (g5 hr') (k5 hs')
     omega
   ·intro r row hr hl
    obtain ⟨r0,row0,g1,g2,g3,_⟩:=from_ r row hr
    rw [g2]
    exact h.off r0 row0 g1 (by rw [←g3];exact hl)
   ·obtain ⟨_,h2,_⟩:=u1 p.1 p.2 hp
    have:=(List.mem_filter.1 h2).1
    exact dedup_sub this
  ·cases he
 ·cases he
where
 dedup_sub:∀ {l:List Nat} {x:Nat},x∈n0u l→x∈l
  | y :: ys,x,h=>by
   simp only [n0u] at h
   split at h
   ·exact List.mem_cons_of_mem _ (dedup_sub h)
   ·rcases List.mem_cons.1 h with rfl|h
    ·exact List.mem_cons_self
    ·exact List.mem_cons_of_mem _ (dedup_sub h)
theorem b1n {w0 w:World}{φ0 φ:Nat→Nat × Nat}{H0:List Row}{s:St}{a:Act}(h:Run P X w0 φ0 H0 w φ s a){d:D}{v:Value}(hd:R P w φ (Av X φ s.H) s.H.length d v){e:Eff}(he:gather H0.length d s.dirty s.H=some e):Leaves P w0 φ0 X H0 e v w:=by
 obtain ⟨ψ,h1,h2,h3,h4,_⟩:=d0n h.sim.heap h.ons.len rfl hd (fun r row hr hnd hrow=>⟨by rw [h.clean r hr hnd];exact hrow,h.low r row hrow⟩) he
 exact ⟨ψ,fun r hr=>(h1 r hr).trans (h.ons.same r hr),h2,h3,h.ons.keep,fun b hb=>h.ons.fresh b (h4 b hb)⟩
theorem d1b {w0 w:World}{φ0 φ:Nat→Nat × Nat}{H0:List Row}{s s':St}{a:Act}{keep:List Nat}(h:Run P X w0 φ0 H0 w φ s a)(he:sweep H0.length keep s=some s'):∃ ψ,Run P X w0 φ0 H0 w ψ s' a:=by
 unfold sweep at he
 dsimp only at he
 split at he
 ·rename_i ts' us ns hg
  injection he with he
  subst he
  have hts:R P w φ (Av X φ s.H) s.H.length (.tp (s.ts.zipIdx.map fun p=>if keep.contains p.2 then p.1 else .junk)) (.tuple a.tmps):=by
   refine .tp (by have:=h.sim.tmps.1;simpa using this) (fun i d u hd hu=>?_)
   rw [List.getElem?_map,List.getElem?_zipIdx] at hd
   cases hx:s.ts[i]? with
   | none=>rw [hx] at hd;simp at hd
   | some x =>
    rw [hx] at hd
    simp at hd
    subst hd
    split
    ·exact h.sim.tmps.2 i x u hx (by simpa using hu)
    ·exact .junk
  have hlt:(s.H.take H0.length).length=H0.length:=by rw [List.length_take];have:=h.ons.len;omega
  obtain ⟨ψ,h1,h2,h3,h4,h5⟩:=d0n h.sim.heap h.ons.len hlt hts (fun r row hr hnd hrow=>by
   rw [List.getElem?_take,if_pos hr] at hrow
   exact ⟨hrow,h.low r row (by rw [←h.clean r hr hnd];exact hrow)⟩) hg
  refine ⟨ψ,⟨h2,?_,h.sim.defers⟩,⟨by simp [a0G,hlt],fun r hr=>(h1 r hr).trans (h.ons.same r hr),h.ons.keep,fun b hb=>h.ons.fresh b (h4 b hb)⟩,h.low,fun r hr hnd=>?_⟩
  ·cases h3 with
   | tp hs hr=>exact ⟨by simpa using hs,fun i d u hd hu=>hr i d u hd (by simpa using hu)⟩
  ·dsimp only at hnd ⊢
   rw [List.getElem?_append_left (by rw [a0G,hlt];exact hr)]
   have key:∀ (us:List (Nat × Row)) (B:List Row),(∀ p∈us,p.1≠r)→(a0B B us)[r]?=B[r]?:=by
    intro us
    induction us with
    | nil=>intros;rfl
    | cons p us ih =>
     intro B hp
     obtain ⟨i,x⟩:=p
     show (a0B (B.set i x) us)[r]?=_
     rw [ih _ (fun p hp'=>hp p (List.mem_cons_of_mem _ hp')),List.getElem?_set_ne (hp (i,x) List.mem_cons_self)]
   rw [key us _ (fun p hp e=>hnd (by rw [←e];exact h5 p hp)),List.getElem?_take,if_pos hr]
   exact h.clean r hr hnd
 ·cases he
def Out.to:Out→Exit
 | .normal=>.normal
 | .exit id=>.exit id
 | .ret=>.ret
theorem g1L {w0 w:World}{φ0 φ:Nat→Nat × Nat}{H0:List Row}{s s':St}{a:Act}{keep:List Nat}(h:Run P X w0 φ0 H0 w φ s a)(he:tidy H0.length keep s=some s'):∃ ψ,Run P X w0 φ0 H0 w ψ s' a:=by
 unfold tidy at he
 cases hb:Nat.ble s.H.length (H0.length+40) with
 | true=>rw [hb] at he;cases he;exact ⟨φ,h⟩
 | false=>rw [hb] at he;exact d1b h he
theorem z0c (hP:Good P){call:a0w}(hcall:∀ f,e0o P f (call f)){w0:World}{φ0:Nat→Nat × Nat}{H0:List Row}{keep:List Nat}:∀ (n:Nat),
  (∀ (c:Code) (s s':St) (out:Out) (w:World) (φ:Nat→Nat × Nat) (a:Act) (Q:Exit→Act→World→Prop),exec P call H0.length keep n c s=some (out,s')→Run P X w0 φ0 H0 w φ s a→(∀ a' w' φ',Run P X w0 φ0 H0 w' φ' s' a'→Q out.to a' w')→c.wp P Q a w) ∧
  (∀ (c:Code) (s s':St) (out:Out) (w:World) (φ:Nat→Nat × Nat) (a:Act) (Q:Exit→Act→World→Prop),exec P call H0.length keep n (.loop c) s=some (out,s')→Run P X w0 φ0 H0 w φ s a→(∀ a' w' φ',Run P X w0 φ0 H0 w' φ' s' a'→Q out.to a' w')→Code.rounds P c Q n a w)
 | 0=>⟨fun _ _ _ _ _ _ _ _ h=>by simp [exec] at h,fun _ _ _ _ _ _ _ _ h=>by simp [exec] at h⟩
 | n+1=>by
  obtain ⟨ihA,ihB⟩:=z0c hP hcall (w0:=w0) (φ0:=φ0) (H0:=H0) (keep:=keep) n
  have loop:∀ (c:Code) (s s':St) (out:Out) (w:World) (φ:Nat→Nat × Nat) (a:Act) (Q:Exit→Act→World→Prop),exec P call H0.length keep (n+1) (.loop c) s=some (out,s')→Run P X w0 φ0 H0 w φ s a→(∀ a' w' φ',Run P X w0 φ0 H0 w' φ' s' a'→Q out.to a' w')→Code.rounds P c Q (n+1) a w:=by
   intro c s s' out w φ a Q h hr hQ
   rw [rounds_succ]
   simp only [exec] at h
   split at h
   ·rename_i s1 h1
    refine ihA c s s1 .normal w φ a _ h1 hr (fun a1 w1 φ1 hr1=>?_)
    split at h
    ·rename_i s2 h2
     obtain ⟨ψ,hr2⟩:=g1L hr1 h2
     exact ihB c s2 s' out w1 ψ a1 Q h hr2 hQ
    ·cases h
   ·rename_i hne
    refine ihA c s s' out w φ a _ h hr (fun a1 w1 φ1 hr1=>?_)
    cases out with
    | normal=>exact absurd h (hne s')
    | exit id=>exact hQ a1 w1 φ1 hr1
    | ret=>exact hQ a1 w1 φ1 hr1
  refine ⟨?_,loop⟩
  intro c s s' out w φ a Q h hr hQ
  cases c with
  | skip=>simp only [exec] at h;injection h with h;injection h with h1 h2;subst h1;subst h2;exact wp_skip (hQ a w φ hr)
  | label l=>simp only [exec] at h;injection h with h;injection h with h1 h2;subst h1;subst h2;exact wp_label (hQ a w φ hr)
  | ret=>simp only [exec] at h;injection h with h;injection h with h1 h2;subst h1;subst h2;exact wp_ret (hQ a w φ hr)
  | exit id=>simp only [exec] at h;injection h with h;injection h with h1 h2;subst h1;subst h2;exact wp_exit (hQ a w φ hr)
  | region id ops draw =>
   cases draw with
   | false =>
    simp only [exec] at h
    rw [Option.map_eq_some_iff] at h
    obtain ⟨s1,h1,h2⟩:=h
    injection h2 with h3 h4
    subst h3;subst h4
    refine wp_region ?_
    rw [List.range_eq_range',←Array.length_toList]
    exact k0H hP hcall ops.toList 0 s s1 w φ a (fun j=>by simp) h1 hr hQ
   | true =>
    simp only [exec] at h
    split at h
    ·rename_i hd
     rw [Option.map_eq_some_iff] at h
     obtain ⟨p,h1,h2⟩:=h
     injection h2 with h3 h4
     subst h3;subst h4
     exact f1w hP hcall hd h1 hr hQ
    ·cases h
  | seq x y =>
   simp only [exec] at h
   refine wp_seq ?_
   split at h
   ·rename_i s1 h1
    exact ihA x s s1 .normal w φ a _ h1 hr (fun a1 w1 φ1 hr1=>ihA y s1 s' out w1 φ1 a1 Q h hr1 hQ)
   ·rename_i hne
    refine ihA x s s' out w φ a _ h hr (fun a1 w1 φ1 hr1=>?_)
    cases out with
    | normal=>exact absurd h (hne s')
    | exit id=>exact hQ a1 w1 φ1 hr1
    | ret=>exact hQ a1 w1 φ1 hr1
  | cond c x y =>
   simp only [exec] at h
   split at h
   ·rename_i t hc
    have h1:=R.eval hr.sim.tmps c
    rw [hc] at h1
    have h2:a.eval c = .bool t:=by
     generalize a.eval c=u at h1
     cases h1 with|f h1=>cases h1 with|v _=>rfl
    exact wp_cond h2 (ihA _ s s' out w φ a Q h hr hQ)
   ·cases h
  | block id x =>
   simp only [exec] at h
   refine wp_block ?_
   split at h
   ·rename_i id' s1 h1
    refine ihA x s s1 (.exit id') w φ a _ h1 hr (fun a1 w1 φ1 hr1=>?_)
    split at h
    ·rename_i hid
     injection h with h
     injection h with h2 h3
     subst h2;subst h3
     show (if id'=id then _ else _)
     rw [if_pos hid]
     exact hQ a1 w1 φ1 hr1
    ·rename_i hid
     injection h with h
     injection h with h2 h3
     subst h2;subst h3
     show (if id'=id then _ else _)
     rw [if_neg hid]
     exact hQ a1 w1 φ1 hr1
   ·rename_i hne
    refine ihA x s s' out w φ a _ h hr (fun a1 w1 φ1 hr1=>?_)
    cases out with
    | normal=>exact hQ a1 w1 φ1 hr1
    | exit id'=>exact absurd h (hne id' s')
    | ret=>exact hQ a1 w1 φ1 hr1
  | loop x=>exact wp_loop_rounds (n+1) (loop x s s' out w φ a Q h hr hQ)
  | scope x=>simp only [exec] at h;cases h
  | rangeFunc f ps x y=>simp only [exec] at h;cases h
  | goto l=>simp only [exec] at h;cases h
  | refuse y=>simp only [exec] at h;cases h
theorem e0b {w:World}{φ:Nat→Nat × Nat}{H:List Row}(h:HR P w φ X H){ts:List D}{a:Act}(hts:Rs P w φ (Av X φ H) H.length ts a.tmps.toList):∀ (rs:List ResultVar) (ds:List D),c0A P H ts rs=some ds →
  ∃ vs:List Value,(rs.mapM fun (r:ResultVar)=>(match r with|.tmp t=>(pure (a.tmps.getD t Go.undef):Sem Value)|.cell b t=>do loadVar t (←asAddr (a.tmps.getD b Go.undef)))).run P w = .ok vs w∧Rs P w φ (Av X φ H) H.length ds vs
 | [],ds,he=>by simp [c0A] at he;subst he;exact ⟨[],by simp,Rs.nil⟩
 | .tmp t :: rs,ds,he=>by
  simp only [c0A] at he
  rw [Option.map_eq_some_iff] at he
  obtain ⟨ds',hds,rfl⟩:=he
  obtain ⟨vs,h1,h2⟩:=e0b h hts rs ds' hds
  refine ⟨a.tmps.getD t Go.undef :: vs,?_,Rs.cons (R.eval hts (.tmp t)) h2⟩
  rw [List.mapM_cons]
  simp only [Sem.run_bind,Sem.run_pure,Result.andThen_ok,h1]
 | .cell b T :: rs,ds,he=>by
  simp only [c0A] at he
  split at he
  ·rename_i d ds' hd hds
   injection he with he
   subst he
   obtain ⟨vs,h1,h2⟩:=e0b h hts rs ds' hds
   have hb:=R.eval hts (.tmp b)
   obtain ⟨v,h3,h4⟩:=b1a h hb hd
   refine ⟨v :: vs,?_,Rs.cons h4 h2⟩
   have e1:a.eval (.tmp b)=a.tmps.getD b Go.undef:=rfl
   rw [e1] at h3
   have h5:(do loadVar T (←asAddr (a.tmps.getD b Go.undef)):Sem Value).run P w = .ok v w:=by
    cases hv:a.tmps.getD b Go.undef with
    | pointer q =>
     rw [hv] at h3
     cases q with
     | some q=>simpa [Instr.loadAt,Instr.sureAddr,asAddr] using h3
     | none=>simp [Instr.loadAt,Instr.sureAddr,stuck] at h3
    | _=>rw [hv] at h3;simp [Instr.loadAt,Instr.sureAddr,stuck] at h3
   rw [List.mapM_cons]
   simp only [Sem.run_bind] at h5 ⊢
   rw [h5]
   simp only [Result.andThen_ok,Sem.run_bind,h1,Sem.run_pure]
  ·cases he
theorem c1n (hP:Good P){ext:Ext}(hext:∀ f g,ext f=some g→e0o P f g):∀ (n:Nat) (f:FuncId),e0o P f (run P ext n f)
 | 0,f=>fun args H e he=>by simp [run] at he
 | n+1,f=>fun args H e he=>by
  intro w φ X vs hH hargs
  simp only [run] at he
  split at he
  ·rename_i g hg
   exact hext f g hg args H e he w φ X vs hH hargs
  ·split at he
   ·rename_i fn hfn
    split at he
    ·rename_i c hc
     have hlen:vs.size=args.length:=by have:=hargs.1;simpa using this
     have hinit:Run P X w φ H w φ ⟨args++List.replicate (fn.ntmps-args.length) D.undef,H,[]⟩ { tmps:=vs++Array.replicate (fn.ntmps-vs.size) Go.undef,defers:=[] }:=by
      refine ⟨⟨hH,?_,rfl⟩,Ons.refl _ _ _ _,fun r row hr=>(hH.rows r row hr).isLow,fun _ _ _=>rfl⟩
      rw [Array.toList_append,Array.toList_replicate,hlen]
      refine hargs.append ⟨by simp,fun i d u hd hu=>?_⟩
      rw [List.getElem?_replicate] at hd hu
      split at hd
      ·rename_i hi
       rw [if_pos hi] at hu
       injection hd with hd;injection hu with hu
       subst hd;subst hu
       exact R.undef
      ·cases hd
     have fin:∀ (s:St) (ds:List D),c0A P s.H s.ts fn.results.toList=some ds→gather H.length (one ds) s.dirty s.H=some e→∀ a' w' φ',Run P X w φ H w' φ' s a'→a'.defers=[]∧∃ v,(results fn a'.tmps).run P w' = .ok v w'∧∃ v',Ending.returned v = .returned v'∧Leaves P w φ X H e v' w':=by
      intro s ds hds hg a' w' φ' hr
      refine ⟨hr.sim.defers,?_⟩
      obtain ⟨us,h1,h2⟩:=e0b hr.sim.heap hr.sim.tmps _ _ hds
      have hone:∃ v,(results fn a'.tmps).run P w' = .ok v w'∧R P w' φ' (Av X φ' s.H) s.H.length (one ds) v:=by
       refine ⟨if h:us.toArray.size=1 then us.toArray[0] else .tuple us.toArray,?_,?_⟩
       ·unfold results
        rw [Array.mapM_eq_mapM_toList]
        simp at h1
        simp
        exact congrArg (fun r:Result (List Value)=>r.andThen fun a w'=>Result.ok (if h:a.length=1 then a[0] else Value.tuple a.toArray) w') h1
       ·match ds,us,h2 with
        | [],[],_=>exact .tp rfl (fun i d u hd=>by simp at hd)
        | [d],[u],h2=>exact h2.2 0 d u (by simp) (by simp)
        | d :: d2 :: ds,u :: u2 :: us,h2=>exact .tp (by have:=h2.1;simpa using this) (fun i d' u' hd hu=>h2.2 i d' u' hd (by simpa using hu))
        | [],_ :: _,h2=>have:=h2.1;simp at this
        | _ :: _,[],h2=>have:=h2.1;simp at this
        | [_],_ :: _ :: _,h2=>have:=h2.1;simp at this
        | _ :: _ :: _,[_],h2=>have:=h2.1;simp at this
      obtain ⟨v,h3,h4⟩:=hone
      exact ⟨v,h3,v,rfl,b1n hr h4 hg⟩
     refine calls_of_wp hfn hc ?_
     split at he
     ·cases he
     ·rename_i out s hne hex
      have h1:=(z0c (X:=X) hP (fun g=>c1n hP hext n g) (w0:=w) (φ0:=φ) (H0:=H) (keep:=b1F fn c) 20000).1 c _ s out w φ _ (bodyPost P fn fun en w'=>∃ v,en = .returned v∧Leaves P w φ X H e v w') hex hinit
      split at he
      ·rename_i ds hds
       refine h1 (fun a' w' φ' hr=>?_)
       cases out with
       | normal=>exact fin s ds hds he a' w' φ' hr
       | ret=>exact fin s ds hds he a' w' φ' hr
       | exit id=>exact absurd rfl (hne id)
      ·cases he
     ·cases he
    ·cases he
   ·cases he
end
end Go.Proofs.YthjgmldnegaaiaaGreatDoor.Mir
namespace Go.Proofs.YthjgmldnegaaiaaGreatDoor.Mir
open Go Go.RowKit
def v0o:Option Eff→Bool
 | some ⟨.f (.v (.bool true)),[],[]⟩=>true
 | _=>false
theorem q0v {o:Option Eff}(h:v0o o=true):o=some ⟨.f (.v (.bool true)),[],[]⟩:=by
 unfold v0o at h
 split at h
 ·rfl
 ·cases h
theorem good:Good Tryz.prog:=by
 have h1 : (Tryz.prog.funcs.toList.all fun fn => !(fn.name == "runtime.NumGoroutine")) = true := by kernel_rfl
 refine ⟨fun f fn hf=>?_,by kernel_rfl⟩
 have:=List.all_eq_true.1 h1 fn (by
  have h2:Tryz.prog.funcs.toList[f]?=some fn:=by simpa using hf
  exact List.mem_of_getElem? h2)
 simpa using this
theorem closed {P:Program}(hg:glTab=[])(hP:Good P){ext:Ext}(hext:∀ f g,ext f=some g→e0o P f g){n:Nat}{f:FuncId}(h:v0o (run P ext n f [] [])=true)(w:World):Calls P f #[] w fun e w'=>e = .returned (.bool true)∧Ch (fun _=>False) w w':=by
 have h0:HR P w (fun _=>(0,0)) (fun _=>False) []:=⟨fun r x hx=>by simp at hx,fun r s x y hx=>by simp at hx,fun r x hx=>by simp at hx,fun b hb=>hb.elim,fun p hp=>by rw [hg] at hp;cases hp⟩
 refine (c1n hP hext n f [] [] _ (q0v h) w (fun _=>(0,0)) (fun _=>False) #[] h0 ⟨rfl,fun i d u hd=>by simp at hd⟩).mono ?_
 rintro e w' ⟨v,rfl,φ',h1,h2,h3,h4,h5⟩
 cases h3 with|f h3=>cases h3 with|v _ =>
 refine ⟨rfl,h4.os,h4.tape,h4.output,h4.size,fun k hk _=>h4.block k hk ?_⟩
 rintro ⟨r,x,hx,_⟩
 simp at hx
end Go.Proofs.YthjgmldnegaaiaaGreatDoor.Mir
namespace Go.Proofs.YthjgmldnegaaiaaGreatDoor.Mir
open Go
noncomputable section
def nth {α:Type}(l:List α):Nat→Option α:=List.rec (fun _=>none) (fun a _ ih n=>Nat.rec (some a) (fun m _=>ih m) n) l
theorem n0n {α:Type}(l:List α)(n:Nat):nth l n=l[n]?:=by
 induction l generalizing n with
 | nil=>simp [nth]
 | cons a l ih =>
  cases n with
  | zero=>rfl
  | succ m=>exact (ih m).trans (by simp)
def upd {α:Type}(l:List α)(v:α):Nat→List α:=List.rec (fun _=>[]) (fun a r ih n=>Nat.rec (v :: r) (fun m _=>a :: ih m) n) l
theorem h1b {α:Type}(l:List α)(v:α)(n:Nat):upd l v n=l.set n v:=by
 induction l generalizing n with
 | nil=>simp [upd]
 | cons a l ih =>
  cases n with
  | zero=>rfl
  | succ m=>exact congrArg (a :: ·) (ih m) |>.trans (by simp)
def appL {α:Type}(l m:List α):List α:=List.rec m (fun a _ ih=>a :: ih) l
theorem h1N {α:Type}(l m:List α):appL l m=l++m:=by
 induction l with
 | nil=>rfl
 | cons a l ih=>exact congrArg (a :: ·) ih
def app0 {α:Type}(l m:List α):List α:=List.casesOn m l (fun a t=>appL l (a :: t))
theorem c1X {α:Type}(l m:List α):app0 l m=l++m:=by
 cases m with
 | nil=>simp [app0]
 | cons a t=>exact h1N l (a :: t)
def hasN (l:List Nat)(x:Nat):Bool:=List.rec false (fun a _ ih=>bif Nat.beq x a then true else ih) l
theorem g1M (l:List Nat)(x:Nat):hasN l x=l.contains x:=by
 induction l with
 | nil=>rfl
 | cons a l ih =>
  show (bif Nat.beq x a then true else hasN l x)=_
  rw [ih,List.contains_cons]
  cases h:Nat.beq x a with
  | true=>simp [Nat.eq_of_beq_eq_true h]
  | false=>simp [Nat.ne_of_beq_eq_false h]
def fL {α β:Type}(l:List α):(List α→β)→β:=List.rec (motive:=fun _=>(List α→β)→β) (fun k=>k []) (fun a _ ih k=>ih (fun t=>k (a :: t))) l
theorem h1x {α β:Type}(l:List α)(k:List α→β):fL l k=k l:=by
 induction l generalizing k with
 | nil=>rfl
 | cons a l ih=>exact ih _
def fN {β:Type}(n:Nat)(k:Nat→β):β:=Nat.rec (k 0) (fun m _=>k (Nat.succ m)) n
theorem y0R {β:Type}(n:Nat)(k:Nat→β):fN n k=k n:=by cases n<;>rfl
def fD {β:Type}(d:D)(k:D→β):β:=D.casesOn (motive_1:=fun _=>β) d
 (fun x=>F.casesOn (motive_1:=fun _=>β) x (fun v=>k (.f (.v v))) (fun xs n=>k (.f (.s xs n))) (k (.f .e)))
 (fun r o n=>fN r fun r=>fN o fun o=>fN n fun n=>k (.sl r o n)) (fun r o=>fN r fun r=>fN o fun o=>k (.pt r o)) (fun xs=>k (.rf xs)) (fun xs=>k (.ag xs)) (fun xs=>k (.tp xs)) (fun f xs=>k (.fn f xs)) (fun r=>fN r fun r=>k (.mp r)) (k .junk)
theorem h1q {β:Type}(d:D)(k:D→β):fD d k=k d:=by
 cases d with
 | f x=>cases x<;>rfl
 | sl r o n=>show fN r (fun r=>fN o fun o=>fN n fun n=>k (.sl r o n))=_;rw [y0R,y0R,y0R]
 | pt r o=>show fN r (fun r=>fN o fun o=>k (.pt r o))=_;rw [y0R,y0R]
 | mp r=>show fN r (fun r=>k (.mp r))=_;rw [y0R]
 | _=>rfl
def b0I (ts:List D)(x:Operand):D :=
 match x with
 | .tmp t=>(nth ts t).getD D.undef
 | .const v=>D.of v
 | .global _=>.junk
 | .func f=>.fn f []
theorem a0z (ts:List D):b0I ts=eval ts:=by
 funext x
 cases x<;>simp [b0I,eval,n0n,List.getD_eq_getElem?_getD]
section
variable (P:Program)
def x0i (T:TypeId)(xs:List D)(off:Nat):Option D :=
 match e0L P T,inf P T with
 | some true,some (n,_,_)=>bif Nat.ble (off+n) xs.length then some (.ag ((xs.drop off).take n)) else none
 | some false,_=>nth xs off
 | _,_=>none
theorem g1b {α:Type}(a b:Nat)(x y:α):(bif Nat.ble a b then x else y)=if a≤b then x else y:=by
 cases hb:Nat.ble a b with
 | true=>rw [if_pos (Nat.le_of_ble_eq_true hb)];rfl
 | false=>rw [if_neg (fun h=>by rw [Nat.ble_eq_true_of_le h] at hb;cases hb)];rfl
theorem c1I:x0i P=e0n P:=by
 funext T xs off
 unfold x0i e0n
 simp only [n0n,g1b]
 rfl
def f1q (H:List Row)(T:TypeId)(a:D):Option D :=
 match a with
 | .pt r off=>match nth H r with
  | some row=>match row.cells with
   | some xs=>x0i P T xs off
   | none=>none
  | none=>none
 | .rf xs=>x0i P T (xs.map .f) 0
 | _=>none
theorem d1h:f1q P=h0u P:=by
 funext H T a
 cases a<;>simp only [f1q,h0u,n0n,c1I]<;>rfl
def intB (op:BinOp)(k:IntKind)(a b:Int):Option Value :=
 match op with
 | .add=>some (.int k (k.wrap (a+b)))
 | .sub=>some (.int k (k.wrap (a-b)))
 | .mul=>some (.int k (k.wrap (a*b)))
 | .eql=>some (.bool (a==b))
 | .neq=>some (.bool (a != b))
 | .lss=>some (.bool (a<b))
 | .leq=>some (.bool (a≤b))
 | .gtr=>some (.bool (a > b))
 | .geq=>some (.bool (a ≥ b))
 | _=>none
def e1a (op:BinOp)(x y:D):Option D :=
 match x with
 | .f (.v (.int k a))=>match y with
  | .f (.v (.int k' b))=>if k=k' then (intB op k a b).map .v else none
  | _=>none
 | _=>none
theorem i1I {T:TypeId}{k:IntKind}{a b:Int}{op:BinOp}{v:Value}(h:intB op k a b=some v):Go.binOp op T (.int k a) (.int k b)=Sem.pure v:=by
 cases op<;>simp [intB] at h<;>subst h<;>simp [Go.binOp,Op.intArith,Op.intCmp]<;>rfl
theorem w0H {op:BinOp}{T:TypeId}{x y:Operand}{k k':IntKind}{a b:Int}:eqGuard op T x y (.int k a) (.int k' b)=Sem.pure ():=by
 unfold eqGuard
 cases op<;>rfl
theorem e1M {P:Program}{ts:List D}{o:Oper}{op:BinOp}{T U:TypeId}{x y:Operand}{d:D}(ho:o.op = .binOp op T x y U)(h:e1a op (eval ts x) (eval ts y)=some d):f0i P ts o=some d:=by
 unfold e1a at h
 split at h
 ·rename_i k a hx
  split at h
  ·rename_i k' b hy
   split at h
   ·rename_i hk
    subst hk
    cases hv:intB op k a b with
    | none=>rw [hv] at h;cases h
    | some v =>
     rw [hv] at h
     injection h with h
     have hv':D.of v=d:=by
      subst h
      cases op<;>simp [intB] at hv<;>subst hv<;>rfl
     have h2:execOp (fun z=>((eval ts z).val?).getD Go.undef) o=Sem.pure (.value v):=by
      unfold execOp
      rw [ho]
      simp only [hx,hy,D.val?,Option.getD_some,w0H,i1I hv]
      rfl
     have hx':(eval ts x).val?=some (.int k a):=by rw [hx];rfl
     have hy':(eval ts y).val?=some (.int k b):=by rw [hy];rfl
     have hc:(d0T o.op&&o.op.operands.toList.all fun x=>((eval ts x).val?).isSome)=true:=by
      rw [ho];simp [Op.operands,d0T,hx',hy']
     unfold f0i
     dsimp only
     rw [if_pos hc,h2]
     simp only [d0e,hv']
   ·cases h
  ·cases h
 ·cases h
def valD (d:Option D):Option Eff:=Option.rec none (fun d=>some ⟨d,[],[]⟩) d
theorem f0O (d:Option D):valD d=d.map fun d=>(⟨d,[],[]⟩:Eff):=by cases d<;>rfl
def f1H (ts:List D)(c a b:Operand):Option Eff:=match b0I ts c with
  | .f (.v (.bool t))=>some ⟨if t then b0I ts a else b0I ts b,[],[]⟩
  | _=>none
def g1n (H:List Row)(T:TypeId):Option Eff:=match inf P T with
  | some (_,_,z)=>some ⟨.pt H.length 0,[],[.box T (z.map .v)]⟩
  | none=>none
def i1T (H:List Row)(T:TypeId)(x:D):Option Eff:=if b0L x then some ⟨.pt H.length 0,[],[.box T x.cells]⟩ else none
def i1Y (x:D):Option Eff:=match x with
  | .pt r off=>some ⟨.pt r off,[],[]⟩
  | .rf xs=>some ⟨.rf xs,[],[]⟩
  | .fn f cs=>some ⟨.fn f cs,[],[]⟩
  | _=>none
def n0Y (ts:List D)(c:Fn)(first captured:Array Operand)(z:Option Eff):Option Eff:=match c with
 | .func f=>if first.size=0 then some ⟨.fn f (captured.toList.map (b0I ts)),[],[]⟩ else none
 | _=>z
def r0a (H:List Row)(r:Option Operand)(z:Option Eff):Option Eff:=match r with
 | none=>some ⟨.mp H.length,[],[.map []]⟩
 | _=>z
def s0O (x:D)(i:Nat):Option Eff:=match x with
  | .tp ds=>(nth ds i).map fun d=>⟨d,[],[]⟩
  | _=>none
def o0W (ts:List D)(ps:Array (Nat × Operand)):List (Nat × D):=ps.toList.map fun p=>(p.1,b0I ts p.2)
def h1V (ts:List D)(o:Oper)(op:BinOp)(T:TypeId)(x y:D):Option Eff :=
 match e1a op x y with
 | some d=>some ⟨d,[],[]⟩
 | none=>match f0i P ts o with
  | some d=>some ⟨d,[],[]⟩
  | none=>match op with
   | .eql=>(p0B P T x y).map fun b=>⟨D.bool b,[],[]⟩
   | .neq=>(p0B P T x y).map fun b=>⟨D.bool (!b),[],[]⟩
   | _=>none
def allV (ts:List D)(o:Oper):Bool:=o.op.operands.toList.all fun x=>((b0I ts x).val?).isSome
theorem y0n {P:Program}{ts:List D}{o:Oper}(h:allV ts o=false):f0i P ts o=none:=by
 unfold allV at h
 rw [a0z] at h
 unfold f0i
 dsimp only
 rw [if_neg]
 rw [h,Bool.and_false]
 exact Bool.false_ne_true
def f1z (call:a0w)(ts:List D)(H:List Row)(c:Call):Option Eff :=
 match c.callee,c.args.toList.map (b0I ts),c.argTypes.toList with
 | .builtin .append,[s,x],[t,u]=>if t=u then d0C P H t s x else none
 | .builtin .len,[x],[t]=>(lenD P H t x).map fun (n:Nat)=>⟨D.int (n:Int),[],[]⟩
 | .builtin .delete,[m,k],[t,_]=>g0Q P H t m k
 | .builtin .clear,[x],[t]=>h0f P H t x
 | .value f,args,_=>match b0I ts f with
  | .fn g caps=>match nth P.funcs.toList g with
   | some fn=>if fn.body.isSome then call g (args++caps) H else none
   | none=>none
  | _=>none
 | _,_,_=>none
theorem d1s:f1z P=r0C P:=by
 funext call ts H c
 unfold f1z r0C
 simp only [a0z,n0n,Array.getElem?_toList]
 rfl
def j0Q (ts:List D)(o:Oper)(a b:Option Eff):Option Eff:=bif allV ts o then a else b
def c1a (call:a0w)(ts:List D)(H:List Row)(o:Oper):Option Eff :=
 match o.op with
 | .move x=>some ⟨b0I ts x,[],[]⟩
 | .assign x=>some ⟨b0I ts x,[],[]⟩
 | .pick c a b=>f1H ts c a b
 | .alloc T=>g1n P H T
 | .box T x=>i1T H T (b0I ts x)
 | .load T a=>valD (f1q P H T (b0I ts a))
 | .store T a x=>m0a P H T (b0I ts a) (b0I ts x)
 | .nilCheck x=>i1Y (b0I ts x)
 | .makeFunc c first captured=>n0Y ts c first captured (a0x P call ts H o)
 | .makeMap _ r=>r0a H r (a0x P call ts H o)
 | .makeSlice T l c=>d0O P H T (b0I ts l) (b0I ts c)
 | .fieldAddr T x f=>valD (c0e P T (b0I ts x) f)
 | .indexAddr T x i=>valD (c0C P T (b0I ts x) (b0I ts i))
 | .buildSlice T n ps=>b0x P H T n (o0W ts ps)
 | .mapUpdate T m k x=>e0D P H T (b0I ts m) (b0I ts k) (b0I ts x)
 | .insert T m k x=>e0D P H T (b0I ts m) (b0I ts k) (b0I ts x)
 | .lookup T m k ok=>valD (g0W P H T (b0I ts m) (b0I ts k) ok)
 | .extract x i=>s0O (b0I ts x) i
 | .binOp op T x y _=>h1V P ts o op T (b0I ts x) (b0I ts y)
 | .call c=>j0Q ts o (a0x P call ts H o) (f1z P call ts H c)
 | .slice T x lo hi mx=>j0Q ts o (a0x P call ts H o) (valD (e0N P H T (b0I ts x) (lo.map (b0I ts)) (hi.map (b0I ts)) (mx.map (b0I ts))))
 | .field T x f=>j0Q ts o (a0x P call ts H o) (valD (i0g P T (b0I ts x) f))
 | .build T ps=>j0Q ts o (a0x P call ts H o) (valD (p0U P T (o0W ts ps)))
 | .convert a b x=>j0Q ts o (a0x P call ts H o) (c0z P H a b (b0I ts x))
 | _=>a0x P call ts H o
theorem e0R {ts:List D}{o:Oper}{a b:Option Eff}(h:f0i P ts o=none→b=a):j0Q ts o a b=a:=by
 unfold j0Q
 cases hv:allV ts o with
 | true=>rfl
 | false=>exact h (y0n hv)
theorem v0b:c1a P=a0x P:=by
 funext call ts H o
 obtain ⟨dst,op,ty,pos,after,guard⟩:=o
 unfold c1a
 cases op with
 | binOp op T x y U =>
  simp only [h1V,a0z]
  unfold a0x
  cases hf:e1a op (eval ts x) (eval ts y) with
  | some d=>simp only [e1M (P:=P) (o:=⟨dst,.binOp op T x y U,ty,pos,after,guard⟩) rfl hf]
  | none =>
   dsimp only
   generalize f0i P ts _=q
   cases q with
   | some d=>rfl
   | none=>cases op<;>rfl
 | makeFunc c f g =>
  simp only [n0Y,a0z]
  cases c<;>rfl
 | makeMap T r =>
  simp only [r0a]
  cases r<;>rfl
 | call c=>exact e0R P fun h=>by unfold a0x;dsimp only;rw [h,d1s]
 | slice T x lo hi mx=>exact e0R P fun h=>by unfold a0x;dsimp only;rw [h,a0z,f0O]
 | field T x f=>exact e0R P fun h=>by unfold a0x;dsimp only;rw [h,a0z,f0O]
 | build T ps=>exact e0R P fun h=>by unfold a0x;dsimp only;rw [h,f0O];simp only [o0W,a0z]
 | convert c d x=>exact e0R P fun h=>by unfold a0x;dsimp only;rw [h,a0z]
 | load T a=>simp only [a0z,d1h,f0O];rfl
 | fieldAddr T x f=>simp only [a0z,f0O];rfl
 | indexAddr T x f=>simp only [a0z,f0O];rfl
 | lookup T x f=>simp only [a0z,f0O];rfl
 | extract x i=>simp only [a0z,s0O,n0n];rfl
 | buildSlice T n ps=>simp only [a0z,o0W];rfl
 | pick c a b=>simp only [a0z,f1H];rfl
 | _=>simp only [a0z]<;>rfl
def putF (ts:List D)(dst:Option Tmp)(d:D):List D:=match dst with
 | some t=>upd ts d t
 | none=>ts
theorem z0R:putF=putD!:=by
 funext ts dst d
 cases dst<;>simp [putF,putD!,h1b]
def seqF (call:a0w)(ops:List Oper)(l:List Oper):St→Option St :=
 List.rec (motive:=fun _=>St→Option St) (fun s=>some s) (fun o _ ih s =>
  match b0X ops s.ts o with
  | some true=>match c1a P call s.ts s.H o with
   | some ⟨r,[],[]⟩=>fD r fun r=>ih ⟨putF s.ts o.dst r,s.H,s.dirty⟩
   | some ⟨r,u,n⟩=>fD r fun r=>fL (app0 (a0B s.H u) n) fun H=>ih ⟨putF s.ts o.dst r,H,app0 (u.map Prod.fst) s.dirty⟩
   | none=>none
  | some false=>ih ⟨putF s.ts o.dst D.undef,s.H,s.dirty⟩
  | none=>none) l
theorem g1i:seqF P=h0E P:=by
 funext call ops l
 induction l with
 | nil=>rfl
 | cons o l ih =>
  funext s
  unfold h0E
  rw [←ih]
  show (match b0X ops s.ts o with
  | some true=>match c1a P call s.ts s.H o with
   | some ⟨r,[],[]⟩=>fD r fun r=>seqF P call ops l ⟨putF s.ts o.dst r,s.H,s.dirty⟩
   | some ⟨r,u,n⟩=>fD r fun r=>fL (app0 (a0B s.H u) n) fun H=>seqF P call ops l ⟨putF s.ts o.dst r,H,app0 (u.map Prod.fst) s.dirty⟩
   | none=>none
  | some false=>seqF P call ops l ⟨putF s.ts o.dst D.undef,s.H,s.dirty⟩
  | none=>none)=_
  simp only [v0b,h1q,h1x,z0R,c1X]
  split<;>rename_i hw<;>simp only [hw]
  cases hs:a0x P call s.ts s.H o with
  | none=>rfl
  | some e =>
   obtain ⟨r,u,n⟩:=e
   cases u<;>cases n<;>simp [Eff.heap,a0B]
def g1z (V:List Nat)(H:List Row):Nat→List Row:=List.rec (motive:=fun _=>Nat→List Row) (fun _=>[]) (fun a _ ih i=>(bif hasN V i then a else .dead) :: ih (i+1)) H
theorem d1Y (V:List Nat)(H:List Row)(i:Nat):g1z V H i=(H.zipIdx i).map (fun (p:Row × Nat)=>if V.contains p.2 then p.1 else Row.dead):=by
 induction H generalizing i with
 | nil=>rfl
 | cons a H ih =>
  show (bif hasN V i then a else Row.dead) :: g1z V H (i+1)=_
  rw [ih,g1M]
  simp [cond_eq_ite]
def a1L (call:a0w)(ops:List Oper)(b:List Nat)(n0:Nat):List Oper→Nat→List Nat→List (List Nat × List Nat)→St→Option (St × List Nat)
 | [],_,own,_,s=>some (s,own)
 | o :: rest,i,own,log,s =>
  match b0X ops s.ts o with
  | some true =>
   let m:=b.getD i 0
   let V:=v0D s.ts s.H o
   let M:=g1z V s.H 0
   match c1a P call s.ts M o with
   | some e =>
    if V.all (f0e n0 own m)&&inOk n0 own m s.ts M o&&c1p n0 own m s.H.length e&&(e.upd.all fun p=>V.contains p.1&&decide (p.1<s.H.length))&&g0P m V (e.upd.map (·.1)) 0 log then
     fD e.res fun r=>fL (putF s.ts o.dst r) fun ts=>fL (app0 (a0B s.H e.upd) e.news) fun H=>a1L call ops b n0 rest (i+1) (own++e.news.map fun _=>i) (log++[(V,e.upd.map (·.1))]) ⟨ts,H,app0 (e.upd.map (·.1)) s.dirty⟩
    else none
   | none=>none
  | some false=>a1L call ops b n0 rest (i+1) own (log++[([],[])]) ⟨putF s.ts o.dst D.undef,s.H,s.dirty⟩
  | none=>none
theorem d1t (call:a0w)(ops:List Oper)(b:List Nat)(n0:Nat)(l:List Oper):a1L P call ops b n0 l=d0h P call ops b n0 l:=by
 induction l with
 | nil=>rfl
 | cons o l ih =>
  funext i own log s
  unfold a1L d0h
  rw [ih]
  simp only [v0b,h1q,h1x,z0R,c1X,d1Y]
  rfl
def o0U (call:a0w)(n0:Nat)(keep:List Nat):Nat→Code→St→Option (Out × St)
 | 0,_,_=>none
 | n+1,c,s =>
  match c with
  | .skip=>some (.normal,s)
  | .label _=>some (.normal,s)
  | .region _ ops d=>bif d then
    let b:=(Region.before ops).toList
    if g0I ops.toList b then (a1L P call ops.toList b s.H.length ops.toList 0 [] [] s).map fun p=>(.normal,p.1) else none
   else (seqF P call ops.toList ops.toList s).map fun s=>(.normal,s)
  | .seq x y=>match o0U call n0 keep n x s with
   | some (.normal,s')=>o0U call n0 keep n y s'
   | r=>r
  | .cond c x y=>match b0I s.ts c with
   | .f (.v (.bool t))=>o0U call n0 keep n (if t then x else y) s
   | _=>none
  | .block id x=>match o0U call n0 keep n x s with
   | some (.exit id',s')=>if id'=id then some (.normal,s') else some (.exit id',s')
   | r=>r
  | .loop x=>match o0U call n0 keep n x s with
   | some (.normal,s')=>match tidy n0 keep s' with
    | some s''=>o0U call n0 keep n (.loop x) s''
    | none=>none
   | r=>r
  | .exit id=>some (.exit id,s)
  | .ret=>some (.ret,s)
  | _=>none
theorem e1K (call:a0w)(n0:Nat)(keep:List Nat)(n:Nat):o0U P call n0 keep n=exec P call n0 keep n:=by
 induction n with
 | zero=>rfl
 | succ n ih =>
  funext c s
  unfold o0U exec
  cases c with
  | region id ops d=>cases d<;>simp only [g1i,d1t]<;>rfl
  | _=>simp only [ih,a0z]<;>rfl
def runF (ext:Ext):Nat→a0w
 | 0,_,_,_=>none
 | n+1,f,args,H =>
  match ext f with
  | some g=>g args H
  | none=>match nth P.funcs.toList f with
   | some fn=>match fn.body with
    | some c =>
     match o0U P (runF ext n) H.length (b1F fn c) 20000 c ⟨args++List.replicate (fn.ntmps-args.length) D.undef,H,[]⟩ with
     | some (.exit _,_)=>none
     | some (_,s)=>match c0A P s.H s.ts fn.results.toList with
      | some ds=>gather H.length (one ds) s.dirty s.H
      | none=>none
     | none=>none
    | none=>none
   | none=>none
theorem g1t (ext:Ext)(n:Nat):runF P ext n=run P ext n:=by
 induction n with
 | zero=>rfl
 | succ n ih =>
  funext f args H
  unfold runF run
  simp only [ih,e1K,n0n,Array.getElem?_toList]
  rfl
end
end
end Go.Proofs.YthjgmldnegaaiaaGreatDoor.Mir
namespace Go.Proofs.YthjgmldnegaaiaaGreatDoor.Mir
open Go Go.RowKit
structure RunW (P:Program)(X:Nat→Prop)(w0:World)(φ0:Nat→Nat × Nat)(H0:List Row)(w:World)(φ:Nat→Nat × Nat)(s:St)(a:Act):Prop where
 sim:Sim P X w φ s a
 ons:Ons X w0 φ0 H0 w φ s.H
def HC (P:Program)(n0:Nat)(c:Code)(s:St)(Q:Out→St→Prop):Prop :=
 ∀ (X:Nat→Prop) (w0:World) (φ0:Nat→Nat × Nat) (H0:List Row) (w:World) (φ:Nat→Nat × Nat) (a:Act) (K:Exit→Act→World→Prop),H0.length=n0→RunW P X w0 φ0 H0 w φ s a →
  (∀ (out:Out) (s':St) (w':World) (φ':Nat→Nat × Nat) (a':Act),Q out s'→RunW P X w0 φ0 H0 w' φ' s' a'→K out.to a' w')→c.wp P K a w
def LeavesW (P:Program)(w:World)(φ:Nat→Nat × Nat)(X:Nat→Prop)(H:List Row)(v:Value)(w':World)(d:D)(H':List Row):Prop :=
 ∃ φ',Ons X w φ H w' φ' H'∧HR P w' φ' X H'∧R P w' φ' (Av X φ' H') H'.length d v
def Con (P:Program)(f:FuncId)(args:List D)(H:List Row)(Q:D→List Row→Prop):Prop :=
 (∃ fn,P.funcs[f]?=some fn∧fn.body.isSome=true)∧∀ (w:World) (φ:Nat→Nat × Nat) (X:Nat→Prop) (vs:Array Value),HR P w φ X H→Rs P w φ (Av X φ H) H.length args vs.toList →
  Calls P f vs w fun en w'=>∃ v d H',en = .returned v∧Q d H'∧LeavesW P w φ X H v w' d H'
theorem Con.mono {P:Program}{f:FuncId}{args:List D}{H:List Row}{Q Q':D→List Row→Prop}(h:Con P f args H Q)(hq:∀ d H',Q d H'→Q' d H'):Con P f args H Q' :=
 ⟨h.1,fun w φ X vs hH ha=>(h.2 w φ X vs hH ha).mono fun _ _ ⟨v,d,H',h1,h2,h3⟩=>⟨v,d,H',h1,hq d H' h2,h3⟩⟩
def a0E {α:Type}(o:Option α)(K:α→Prop):Prop:=match o with|some a=>K a|none=>False
@[congr] theorem bind'_congr {α:Type} {o o':Option α} {K:α→Prop} (h:o=o'):a0E o K=a0E o' K:=by rw [h]
theorem c0f {α:Type}{a:α}{K:α→Prop}:a0E (some a) K=K a:=id rfl
theorem b0e {α:Type}{o:Option α}{a:α}{K:α→Prop}(h:o=some a)(k:K a):a0E o K:=by rw [h];exact k
def Bsel (b:Bool)(p q:Prop):Prop:=(b=true→p)∧(b=false→q)
theorem c0r {p q:Prop}:Bsel true p q=p:=by simp [Bsel]
theorem b0z {p q:Prop}:Bsel false p q=q:=by simp [Bsel]
def Two (c p q:Prop):Prop:=(c→p)∧(¬ c→q)
@[congr] theorem Two_congr {c c' p q:Prop} (h:c=c'):Two c p q=Two c' p q:=by rw [h]
theorem Two.mk' {c p q:Prop}(h1:c→p)(h2:¬ c→q):Two c p q:=⟨h1,h2⟩
theorem w0d {p q:Prop}:Two True p q=p:=by simp [Two]
theorem s0W {p q:Prop}:Two False p q=q:=by simp [Two]
def d0Q:a0w:=fun _ _ _=>none
theorem h0j (P:Program):∀ f,e0o P f (d0Q f):=fun _ _ _ _ h=>by simp [d0Q] at h
def a0T (P:Program)(fd:D)(args:List D)(H:List Row)(K:D→List Row→Prop):Prop :=
 ∃ g caps,fd = .fn g caps∧Con P g (args++caps) H K
@[congr] theorem callW_congr {P:Program} {fd fd':D} {args args':List D} {H H':List Row} {K:D→List Row→Prop} (h:fd=fd') (ha:args=args') (hh:H=H'):a0T P fd args H K=a0T P fd' args' H' K:=by rw [h,ha,hh]
def d1W (P:Program)(ts:List D)(H:List Row)(o:Oper)(K:D→List Row→Prop):Prop :=
 match o.op with
 | .call c=>match c.callee with
  | .value f=>a0T P (eval ts f) (c.args.toList.map (eval ts)) H K
  | _=>a0E (a0x P d0Q ts H o) fun e=>K e.res (e.heap H)
 | _=>a0E (a0x P d0Q ts H o) fun e=>K e.res (e.heap H)
section
variable {P:Program}{X:Nat→Prop}{w:World}{φ:Nat→Nat × Nat}{H:List Row}
theorem LeavesW.of {w':World}{e:Eff}{v:Value}(h:Leaves P w φ X H e v w'):LeavesW P w φ X H v w' e.res (e.heap H):=by
 obtain ⟨φ',h1,h2,h3⟩:=h.ext
 exact ⟨φ',h1,h2,h3⟩
theorem x0g (hP:Good P)(h:HR P w φ X H){ts:List D}{a:Act}(hts:Rs P w φ (Av X φ H) H.length ts a.tmps.toList){o:Oper}{K:D→List Row→Prop}(hs:d1W P ts H o K) :
  OpOk P o a w fun v w'=>∃ d H',K d H'∧LeavesW P w φ X H v w' d H':=by
 have plain:a0E (a0x P d0Q ts H o) (fun e=>K e.res (e.heap H))→OpOk P o a w fun v w'=>∃ d H',K d H'∧LeavesW P w φ X H v w' d H':=by
  intro hb
  unfold a0E at hb
  split at hb
  ·rename_i e he
   intro K' Q hK
   exact o0w hP (h0j P) h hts he K' Q (fun v w' hl=>hK v w' ⟨_,_,hb,LeavesW.of hl⟩)
  ·exact hb.elim
 unfold d1W at hs
 split at hs
 ·rename_i c hop
  split at hs
  ·rename_i f hca
   obtain ⟨g,caps,hf,⟨fn,hfn,hbody⟩,hcon⟩:=hs
   obtain ⟨callee,args,argTypes⟩:=c
   simp only at hca hcon
   have hr:=R.eval hts f
   rw [hf] at hr
   cases hev:a.eval f with
   | func fn' first captured =>
    rw [hev] at hr
    cases hr with
    | fn hs hrr =>
     have hargs:=t0G hts args
     refine OpOk.enter (f:=g) (args:=args.map a.eval++captured) (w':=w) ?_ ?_
     ·unfold execOp
      simp only [hop,resolve,hca,Deferred.ofValue,hev,invoke,Sem.run_bind,Sem.run_pure,Result.andThen_ok]
      have:=h0b (w:=w) hP hfn hbody (args.map a.eval++captured)
      simpa using this
     ·have h1:=hcon w φ X (args.map a.eval++captured) h (by
       rw [Array.toList_append]
       exact hargs.append ⟨by simpa using hs,fun i x y hx hy=>hrr i x y hx (by simpa using hy)⟩)
      refine h1.mono ?_
      rintro en w' ⟨v,d,H',rfl,h3,h4⟩
      exact ⟨v,rfl,d,H',h3,h4⟩
   | _=>rw [hev] at hr;cases hr
  ·exact plain hs
 ·exact plain hs
theorem RunW.step {w0:World}{φ0:Nat→Nat × Nat}{H0:List Row}{s:St}{a:Act}(h:RunW P X w0 φ0 H0 w φ s a){w':World}{d:D}{H':List Row}{v:Value}(hl:LeavesW P w φ X s.H v w' d H')(dst:Option Tmp) :
  ∃ φ',RunW P X w0 φ0 H0 w' φ' ⟨putD! s.ts dst d,H',[]⟩ (a.put dst v):=by
 obtain ⟨φ',h1,h2,h3⟩:=hl
 exact ⟨φ',⟨h2,(h1.rs h.sim.tmps).put h3 dst,by rw [c0c];exact h.sim.defers⟩,h.ons.trans h1⟩
theorem RunW.skip {w0:World}{φ0:Nat→Nat × Nat}{H0:List Row}{s:St}{a:Act}(h:RunW P X w0 φ0 H0 w φ s a)(dst:Option Tmp) :
  RunW P X w0 φ0 H0 w φ ⟨putD! s.ts dst D.undef,s.H,[]⟩ (a.put dst Go.undef) :=
 ⟨⟨h.sim.heap,h.sim.tmps.put R.undef dst,by rw [c0c];exact h.sim.defers⟩,h.ons⟩
variable {n0:Nat}{s:St}{Q:Out→St→Prop}
def h0t (next:St→Prop)(Q:Out→St→Prop):Out→St→Prop
 | .normal,s=>next s
 | .exit i,s=>Q (.exit i) s
 | .ret,s=>Q .ret s
def d0J (id:Nat)(Q:Out→St→Prop):Out→St→Prop
 | .normal,s=>Q .normal s
 | .exit i,s=>if i=id then Q .normal s else Q (.exit i) s
 | .ret,s=>Q .ret s
theorem f0I {id i:Nat}:d0J id Q (.exit i) s=if i=id then Q .normal s else Q (.exit i) s:=rfl
theorem HC.mono {c:Code}{Q':Out→St→Prop}(h:HC P n0 c s Q)(hq:∀ o s',Q o s'→Q' o s'):HC P n0 c s Q' :=
 fun X w0 φ0 H0 w φ a K hn hr hK=>h X w0 φ0 H0 w φ a K hn hr (fun o s' w' φ' a' q=>hK o s' w' φ' a' (hq o s' q))
theorem HC.skip (h:Q .normal s):HC P n0 .skip s Q:=fun _ _ _ _ w φ a _ _ hr hK=>wp_skip (hK _ s w φ a h hr)
theorem HC.label {l:Nat}(h:Q .normal s):HC P n0 (.label l) s Q:=fun _ _ _ _ w φ a _ _ hr hK=>wp_label (hK _ s w φ a h hr)
theorem HC.ret (h:Q .ret s):HC P n0 .ret s Q:=fun _ _ _ _ w φ a _ _ hr hK=>wp_ret (hK _ s w φ a h hr)
theorem HC.exit {id:Nat}(h:Q (.exit id) s):HC P n0 (.exit id) s Q:=fun _ _ _ _ w φ a _ _ hr hK=>wp_exit (hK _ s w φ a h hr)
theorem HC.seq {x y:Code}(h:HC P n0 x s (h0t (fun s'=>HC P n0 y s' Q) Q)):HC P n0 (.seq x y) s Q:=by
 intro X w0 φ0 H0 w φ a K hn hr hK
 refine wp_seq (h X w0 φ0 H0 w φ a _ hn hr ?_)
 intro out s' w' φ' a' hq hr'
 cases out with
 | normal=>exact hq X w0 φ0 H0 w' φ' a' K hn hr' hK
 | exit i=>exact hK _ s' w' φ' a' hq hr'
 | ret=>exact hK _ s' w' φ' a' hq hr'
theorem HC.block {id:Nat}{x:Code}(h:HC P n0 x s (d0J id Q)):HC P n0 (.block id x) s Q:=by
 intro X w0 φ0 H0 w φ a K hn hr hK
 refine wp_block (h X w0 φ0 H0 w φ a _ hn hr ?_)
 intro out s' w' φ' a' hq hr'
 cases out with
 | normal=>exact hK _ s' w' φ' a' hq hr'
 | exit i =>
  rw [f0I] at hq
  show (if i=id then _ else _)
  by_cases e:i=id
  ·rw [if_pos e] at hq ⊢;exact hK .normal s' w' φ' a' hq hr'
  ·rw [if_neg e] at hq ⊢;exact hK (.exit i) s' w' φ' a' hq hr'
 | ret=>exact hK _ s' w' φ' a' hq hr'
def e1J (d:D)(p q:Prop):Prop:=match d with
 | .f (.v (.bool t))=>Bsel t p q
 | _=>False
theorem HC.cond {c:Operand}{x y:Code}(h:e1J (eval s.ts c) (HC P n0 x s Q) (HC P n0 y s Q)):HC P n0 (.cond c x y) s Q:=by
 intro X w0 φ0 H0 w φ a K hn hr hK
 have h1:=R.eval hr.sim.tmps c
 unfold e1J at h
 split at h
 ·rename_i t hc
  rw [hc] at h1
  have h2:a.eval c = .bool t:=by
   generalize a.eval c=u at h1
   cases h1 with|f h1=>cases h1 with|v _=>rfl
  cases t with
  | true=>rw [c0r] at h;exact wp_cond h2 (h X w0 φ0 H0 w φ a K hn hr hK)
  | false=>rw [b0z] at h;exact wp_cond h2 (h X w0 φ0 H0 w φ a K hn hr hK)
 ·exact h.elim
def View (P:Program)(n0:Nat)(s s':St):Prop :=
 ∀ (X:Nat→Prop) (w0:World) (φ0:Nat→Nat × Nat) (H0:List Row) (w:World) (φ:Nat→Nat × Nat) (a:Act),H0.length=n0→RunW P X w0 φ0 H0 w φ s a→∃ φ',RunW P X w0 φ0 H0 w φ' s' a
theorem HC.view {c:Code}{s':St}(hv:View P n0 s s')(h:HC P n0 c s' Q):HC P n0 c s Q:=by
 intro X w0 φ0 H0 w φ a K hn hr hK
 obtain ⟨φ',hr'⟩:=hv X w0 φ0 H0 w φ a hn hr
 exact h X w0 φ0 H0 w φ' a K hn hr' hK
theorem View.trans {s1 s2 s3:St}(h:View P n0 s1 s2)(k:View P n0 s2 s3):View P n0 s1 s3:=fun X w0 φ0 H0 w φ a hn hr=>by
 obtain ⟨φ1,h1⟩:=h X w0 φ0 H0 w φ a hn hr
 exact k X w0 φ0 H0 w φ1 a hn h1
def o0X (keep:List Nat):Nat→List D→List D
 | _,[]=>[]
 | i,d :: ds=>(if keep.contains i then d else .junk) :: o0X keep (i+1) ds
theorem r0j (keep:List Nat):∀ (ts:List D) (i j:Nat),(o0X keep i ts)[j]?=(ts[j]?).map fun d=>if keep.contains (i+j) then d else .junk
 | [],_,_=>by simp [o0X]
 | d :: ds,i,0=>by simp [o0X]
 | d :: ds,i,j+1=>by simp only [o0X,List.getElem?_cons_succ];rw [r0j keep ds (i+1) j,Nat.add_assoc,Nat.add_comm 1 j]
theorem q0h (keep:List Nat):∀ (ts:List D) (i:Nat),(o0X keep i ts).length=ts.length
 | [],_=>rfl
 | d :: ds,i=>by simp [o0X,q0h keep ds]
def j0B (n0:Nat)(keep:List Nat)(s:St):Option St :=
 match gather n0 (.tp (o0X keep 0 s.ts)) (List.range n0) s.H with
 | some ⟨.tp ts',us,ns⟩=>some ⟨ts',a0B (s.H.take n0) us++ns,[]⟩
 | _=>none
theorem View.sweep {keep:List Nat}{s':St}(h:j0B n0 keep s=some s'):View P n0 s s':=by
 intro X w0 φ0 H0 w φ a hn hr
 subst hn
 unfold j0B at h
 split at h
 ·rename_i ts' us ns hg
  injection h with h
  subst h
  have hts:R P w φ (Av X φ s.H) s.H.length (.tp (o0X keep 0 s.ts)) (.tuple a.tmps):=by
   refine .tp (by rw [q0h];have:=hr.sim.tmps.1;simpa using this) (fun i d u hd hu=>?_)
   rw [r0j] at hd
   cases hx:s.ts[i]? with
   | none=>rw [hx] at hd;simp at hd
   | some x =>
    rw [hx] at hd
    simp at hd
    subst hd
    split
    ·exact hr.sim.tmps.2 i x u hx (by simpa using hu)
    ·exact .junk
  have hlt:(s.H.take H0.length).length=H0.length:=by rw [List.length_take];have:=hr.ons.len;omega
  obtain ⟨ψ,h1,h2,h3,h4,h5⟩:=d0n hr.sim.heap hr.ons.len hlt hts (fun r row hr hnd hrow=>absurd (List.mem_range.2 hr) hnd) hg
  refine ⟨ψ,⟨h2,?_,hr.sim.defers⟩,⟨by simp [a0G,hlt],fun r hr'=>(h1 r hr').trans (hr.ons.same r hr'),hr.ons.keep,fun b hb=>hr.ons.fresh b (h4 b hb)⟩⟩
  cases h3 with
  | tp hs hr=>exact ⟨by simpa using hs,fun i d u hd hu=>hr i d u hd (by simpa using hu)⟩
 ·cases h
end
end Go.Proofs.YthjgmldnegaaiaaGreatDoor.Mir
namespace Go.Proofs.YthjgmldnegaaiaaGreatDoor.Mir
open Go Go.RowKit
variable {P:Program}{W:World}{A:Nat→Prop}
theorem RFs.nil:RFs W A [] []:=⟨rfl,fun i x u hx=>by simp at hx⟩
theorem RFs.flat {α:Type}{f:α→List Value}{g:α→List F}:∀ (l:List α),(∀ x∈l,RFs W A (g x) (f x))→RFs W A (l.flatMap g) (l.flatMap f)
 | [],_=>RFs.nil
 | x :: l,h=>by
  rw [List.flatMap_cons,List.flatMap_cons]
  exact (h x (by simp)).append (RFs.flat l fun y hy=>h y (by simp [hy]))
theorem rf_in {α:Type}{f:α→List Value}{g:α→List F}{good:α→Prop}{B:Nat}{a:Option Addr}{c:Nat}{xs:List α}(h:InS f good B W a c xs)(hA:∀ b,¬ A b)(hfg:∀ x,good x→RFs W A (g x) (f x)) :
  RF W A (.s (xs.flatMap g) xs.length) (.slice a xs.length c):=by
 have hall:=RFs.flat xs fun x hx=>hfg x (h.ok x hx)
 cases a with
 | none =>
  have h1:=h.nil rfl
  have h2:=h.lc
  obtain rfl:xs=[]:=List.eq_nil_of_length_eq_zero (by omega)
  subst h1
  exact .s0
 | some a =>
  refine .s (xs.flatMap f) h.lc hall.1 (fun i u hu=>⟨?_,hA _⟩) hall.2
  rcases h.rd with h1|⟨a',h1,h2⟩
  ·rw [h1] at hu;simp at hu
  ·cases h1
   exact h2 i u hu
theorem rf_ints {good:Int→Prop}{B:Nat}{a:Option Addr}{c:Nat}{xs:List Int}(h:InS (fun n:Int=>[Value.int .i64 n]) good B W a c xs)(hA:∀ b,¬ A b):RF W A (.s (xs.map fun n=>F.v (.int .i64 n)) xs.length) (.slice a xs.length c):=by
 have:=rf_in (A:=A) (g:=fun n=>[F.v (.int .i64 n)]) h hA fun x _=>RFs.cons (.v rfl) RFs.nil
 have e:xs.flatMap (fun n=>[F.v (.int .i64 n)])=xs.map fun n=>F.v (.int .i64 n):=by
  clear this h
  induction xs with
  | nil=>rfl
  | cons x xs ih=>rw [List.flatMap_cons,ih];rfl
 rw [e] at this
 exact this
theorem Rs.one {N:Nat}{φ:Nat→Nat × Nat}{d:D}{u:Value}{ds:List D}{us:List Value}(h:R P W φ A N d u)(k:Rs P W φ A N ds us):Rs P W φ A N (d :: ds) (u :: us):=by
 refine ⟨by simp [k.1],fun i y v hy hv=>?_⟩
 cases i with
 | zero=>cases hy;cases hv;exact h
 | succ i=>exact k.2 i y v hy hv
theorem Rs.none {N:Nat}{φ:Nat→Nat × Nat}:Rs P W φ A N [] []:=⟨rfl,fun i d u hd=>by simp at hd⟩
theorem Con.calls {f:FuncId}{args:List D}(h:Con P f args [] fun r H'=>r = .f (.v (.bool true))∧H'=[])(hg:∀ p∈glTab,RF W (fun _=>False) p.1 p.2){vs:Array Value}(ha:∀ A:Nat→Prop,(∀ b,¬ A b)→Rs P W (fun _=>(0,0)) A 0 args vs.toList) :
  Calls P f vs W fun e w'=>e = .returned (.bool true)∧Below W.heap.size W w':=by
 have h0:HR P W (fun _=>(0,0)) (fun _=>False) []:=⟨fun r x hx=>by simp at hx,fun r s x y hx=>by simp at hx,fun r x hx=>by simp at hx,fun b hb=>hb.elim,fun p hp=>(hg p hp).thin fun b hb=>by
  rcases hb with hb|⟨r,x,hx,_⟩
  ·exact hb
  ·simp at hx⟩
 have hA:∀ b,¬ Av (fun _=>False) (fun _=>(0,0)) ([]:List Row) b:=by
  rintro b (hb|⟨r,x,hx,_⟩)
  ·exact hb
  ·simp at hx
 refine (h.2 W (fun _=>(0,0)) (fun _=>False) vs h0 (ha _ hA)).mono ?_
 rintro e w' ⟨v,d,H',rfl,⟨rfl,rfl⟩,φ',ho,_,hr⟩
 cases hr with|f hr=>cases hr with|v _ =>
 refine ⟨rfl,ho.keep.os,ho.keep.tape,ho.keep.output,ho.keep.size,fun k hk=>ho.keep.block k hk ?_⟩
 rintro ⟨r,x,hx,_⟩
 simp at hx
end Go.Proofs.YthjgmldnegaaiaaGreatDoor.Mir
