/- Lemmas for the proof. No condition. -/
import Derived.Test.YthjgmldnegaaiaaGreatDoorQg01
import Derived.Laws.MakeOwn
import Derived.Laws.IdiomStrings
import Derived.Great.BuildSlice
import Derived.Great.FillDense
import Derived.Laws.StructEq
set_option linter.unusedVariables false
set_option linter.unusedSimpArgs false
namespace Go.Proofs.YthjgmldnegaaiaaGreatDoor.Mir
open Go Go.RowKit
section
variable {P:Program}{w:World}{φ:Nat→Nat × Nat}{X:Nat→Prop}{H:List Row}
theorem v0G (h:HR P w φ X H){T:TypeId}{d:D}{u:Value}{m:Nat}{cs:List D}(hd:R P w φ (Av X φ H) H.length d u)(he:g0j P H T d=some (m,cs)) :
  ∃ a c,u = .slice a m c∧m≤c∧(m=0∨∃ ad,a=some ad∧CR P w φ (Av X φ H) H.length ad cs):=by
 cases hd with
 | f hx =>
  cases hx with
  | v hx =>
   have key:g0j P H T (.f (.v u))=some (m,cs)→u = .slice none 0 0∧m=0:=by
    intro he
    unfold g0j at he
    split at he
    ·rename_i e
     injection e with e
     injection e with e
     injection he with he
     injection he with he1 he2
     exact ⟨e,he1.symm⟩
    ·rename_i e;injection e with e;cases e
    ·rename_i e;injection e with e;cases e
    ·rename_i e;cases e
    ·cases he
   obtain ⟨rfl,rfl⟩:=key he
   exact ⟨_,_,rfl,Nat.le_refl _,.inl rfl⟩
  | s vs hn h1 h2 h3 =>
   simp [g0j] at he
   obtain ⟨rfl,rfl⟩:=he
   exact ⟨_,_,rfl,hn,.inr ⟨_,rfl,h1d h1 h2 h3⟩⟩
  | s0 =>
   simp [g0j] at he
   obtain ⟨rfl,rfl⟩:=he
   exact ⟨_,_,rfl,Nat.le_refl _,.inl rfl⟩
  | e =>
   simp [g0j] at he
   obtain ⟨rfl,rfl⟩:=he
   exact ⟨_,_,rfl,Nat.le_refl _,.inl rfl⟩
 | sl0 hr =>
  simp [g0j] at he
  obtain ⟨rfl,rfl⟩:=he
  exact ⟨_,_,rfl,Nat.le_refl _,.inl rfl⟩
 | @sl r off n cap _ _ _ _ hp hr hn hb hi hc =>
  simp only [g0j] at he
  split at he
  ·rename_i h0
   simp at he
   obtain ⟨rfl,rfl⟩:=he
   subst h0
   exact ⟨_,_,rfl,Nat.zero_le _,.inl rfl⟩
  ·split at he
   ·rename_i row sz by_ z hrow hinf
    split at he
    ·rename_i xs hxs
     split at he
     ·simp at he
      obtain ⟨rfl,rfl⟩:=he
      refine ⟨_,_,rfl,hn,.inr ⟨_,rfl,?_⟩⟩
      have h1:=((f1V h hrow hxs).drop off).take (n*sz)
      rw [add_lit] at h1
      exact h1
     ·cases he
    ·cases he
   ·cases he
 | _=>simp [g0j] at he
theorem g1J {A:Nat→Prop}{N:Nat}{cs:List D}{ys:List F}{us:List Value}(h:Rs P w φ A N cs us)(hf:fs? cs=some ys):RFs w A ys us:=by
 induction cs generalizing ys us with
 | nil =>
  simp [fs?] at hf
  subst hf
  have:us=[]:=List.eq_nil_of_length_eq_zero h.1
  subst this
  exact ⟨rfl,fun i x u hx=>by simp at hx⟩
 | cons d cs ih =>
  cases us with
  | nil=>have:=h.1;simp at this
  | cons u us =>
   have h0:=h.2 0 d u (by simp) (by simp)
   have h1:Rs P w φ A N cs us:=⟨by have:=h.1;simpa using this,fun i x y hx hy=>h.2 (i+1) x y (by simpa using hx) (by simpa using hy)⟩
   cases d with
   | f x =>
    simp only [fs?] at hf
    cases hg:fs? cs with
    | none=>rw [hg] at hf;simp at hf
    | some l =>
     rw [hg] at hf
     simp at hf
     subst hf
     cases h0 with
     | f h0=>exact RFs.cons h0 (ih h1 hg)
   | _=>simp [fs?] at hf
theorem i0h {t e ty:TypeId}{sz by_:Nat}{z:List Value}(ht:P.underlying t=some (.slice e))(hi:inf P e=some (sz,by_,z))(a b:Option Addr)(n c c':Nat)(hn:n≤c) :
  (Builtin.append_ #[t,t] ty #[.slice a n c,.slice b 0 c']).run P w = .ok (.slice a n c) w:=by
 obtain ⟨i,zz,h1,h2,h3,h4,h5⟩:=b0O hi
 have hl:∀ (x:Addr),(loadCells x 0).run P w = .ok #[] w:=fun x=>by simpa using run_loadCells_list (P:=P) w x [] (by simp)
 cases b<;>cases a<;>simp [Builtin.append_,run_underlying ht,sizeOf,typeInfo,h1,Builtin.lenOf,Builtin.firstCells,hn,hl,storeCells]
theorem o0L {t e ty:TypeId}{sz by_:Nat}{z:List Value}(ht:P.underlying t=some (.slice e))(hi:inf P e=some (sz,by_,z)){g off n cap:Nat}{cur:Array Value}{T:TypeId}(hg:w.heap[g]?=some (.cells cur T (0,0)))
  {a:Addr} {m c:Nat} {news:List Value} (hl:news.length=m*sz) (hnews:∀ j u,news[j]?=some u→w.cell? (a.add j)=some u) (h1:∀ u∈news,u.oneCell'=true) (hroom:n+m≤cap) (hfit:off+n*sz+news.length≤cur.size) :
  (Builtin.append_ #[t,t] ty #[.slice (some ⟨g,off,none⟩) n cap,.slice (some a) m c]).run P w =
   .ok (.slice (some ⟨g,off,none⟩) (n+m) cap) (w.setRow g (cur.toList.take (off+n*sz)++news++cur.toList.drop (off+n*sz+news.length)).toArray):=by
 obtain ⟨i,zz,hi1,hi2,hi3,hi4,hi5⟩:=b0O hi
 subst hi3
 have hf:=run_firstCells_some (P:=P) w i.size m a m c news hl hnews
 have hst:=run_storeCells_at P g (off+n*i.size) T news 0 cur w hg (by simpa using hfit) h1
 simp only [Nat.add_zero] at hst
 simp [Builtin.append_,run_underlying ht,sizeOf,typeInfo,hi1,Builtin.lenOf,hroom,hf,add_lit,hst]
theorem t0w {n m sz by_ cap:Nat}(h:(n+m)*by_≤most)(hg:cap<n+m):Builtin.nextslicecap (n+m) cap*by_≤281474976710656 :=
 growslice_fits hg h
theorem o0u {T:TypeId}{sz by_:Nat}{z:List Value}(hi:inf P T=some (sz,by_,z))(hz:z.length=sz){N n cap:Nat}{olds news:List Value}{xs ys:List F}{A:Nat→Prop}{zz:Value}(hzz:zz.cells.toList=z){ψ:Nat→Nat × Nat}(hψ:ψ N=(w.heap.size,0))(hn0:0<n)
  (h1:RFs (w.drew.alloc (.cells (olds.toArray++news.toArray++Builtin.zeroCells zz.cells (cap-n)) T)) A xs olds) (h2:RFs (w.drew.alloc (.cells (olds.toArray++news.toArray++Builtin.zeroCells zz.cells (cap-n)) T)) A ys news) (hlen:olds.length+news.length=n*sz) (hc:n≤cap) :
  RowOk P (w.drew.alloc (.cells (olds.toArray++news.toArray++Builtin.zeroCells zz.cells (cap-n)) T)) ψ A (N+1) N (.data T (xs++ys)) ∧
  R P (w.drew.alloc (.cells (olds.toArray++news.toArray++Builtin.zeroCells zz.cells (cap-n)) T)) ψ A (N+1) (.sl N 0 n) (.slice (some ⟨w.heap.size,0,none⟩) n cap):=by
 have hb:(w.drew.alloc (.cells (olds.toArray++news.toArray++Builtin.zeroCells zz.cells (cap-n)) T)).heap[w.heap.size]?=some (.cells (olds.toArray++news.toArray++Builtin.zeroCells zz.cells (cap-n)) T (0,0)):=heap_alloc_new w.drew _
 refine ⟨fun _=>⟨[],olds++news,(Builtin.zeroCells zz.cells (cap-n)).toList,?_,by rw [hψ];rfl,h1.append h2⟩,?_⟩
 ·rw [hψ]
  rw [hb]
  congr 2
  apply Array.ext'
  simp
 ·obtain ⟨i,z',h3,h4,h5,h6,h7⟩:=b0O hi
  have hzs:zz.cells.size=sz:=by rw [←Array.length_toList,hzz,hz]
  have:=R.sl (P:=P) (w:=w.drew.alloc (.cells (olds.toArray++news.toArray++Builtin.zeroCells zz.cells (cap-n)) T)) (φ:=ψ) (A:=A) (N:=N+1) (r:=N) (off:=0) (n:=n) (cap:=cap) (cs:=olds.toArray++news.toArray++Builtin.zeroCells zz.cells (cap-n)) (T:=T) (fr:=(0,0)) (i:=i) hn0 (by omega) hc (by rw [hψ];exact hb) h3 (by
   rw [hψ,h5]
   simp only [Array.size_append,List.size_toArray,size_zeroCells,hzs,hlen,←Nat.add_mul]
   rw [show n+(cap-n)=cap by omega];simp)
  rw [hψ] at this
  simpa using this
theorem e0a (w:World)(o:Obj):Keep (fun _=>False) w (w.drew.alloc o):=by
 have:=(Keep.refl (fun _=>False) w).drew.trans (Keep.alloc (fun _=>False) w.drew o) (fun _ _ h=>h)
 exact this
theorem i0s (h:HR P w φ X H){st ty:TypeId}{s x:D}{us ux:Value}{e:Eff}(hs:R P w φ (Av X φ H) H.length s us)(hx:R P w φ (Av X φ H) H.length x ux)(he:d0C P H st s x=some e) :
  ∃ v w',(Builtin.append_ #[st,st] ty #[us,ux]).run P w = .ok v w'∧Leaves P w φ X H e v w':=by
 unfold d0C at he
 split at he
 ·rename_i T hst
  split at he
  ·rename_i sz by_ z m cs hinf hel
   obtain ⟨ax,cx,rfl,hmx,hcx⟩:=v0G h hx hel
   split at he
   ·rename_i hm
    subst hm
    have key:∀ a n c,us = .slice a n c→n≤c→e=⟨s,[],[]⟩→∃ v w',(Builtin.append_ #[st,st] ty #[us,.slice ax 0 cx]).run P w = .ok v w'∧Leaves P w φ X H e v w':=by
     rintro a n c rfl hn rfl
     exact ⟨_,_,i0h hst hinf a ax n c cx hn,Leaves.quiet h hs⟩
    split at he
    ·injection he with he
     cases hs with|f hs=>cases hs with|v hv=>exact key _ _ _ rfl (Nat.le_refl _) he.symm
    ·injection he with he
     cases hs with|f hs=>cases hs with|e=>exact key _ _ _ rfl (Nat.le_refl _) he.symm
    ·injection he with he
     cases hs with
     | f hs =>
      cases hs with
      | s cs' hn _ _ _=>exact key _ _ _ rfl hn he.symm
      | s0=>exact key _ _ _ rfl (Nat.le_refl _) he.symm
    ·injection he with he
     cases hs with
     | sl p a b c d f=>exact key _ _ _ rfl b he.symm
     | sl0 a=>exact key _ _ _ rfl (Nat.le_refl _) he.symm
    ·cases he
   ·rename_i hm
    obtain ⟨ad,rfl,hcr⟩:=hcx.resolve_left hm
    split at he
    ·rename_i ys hfs
     split at he
     ·rename_i hlen
      obtain ⟨hlen,hsz⟩:=hlen
      obtain ⟨news,hn1,hn2,hn3⟩:=hcr.list
      have hys:=g1J hn1 hfs
      have hnl:news.length=m*sz:=by rw [hys.1];exact hlen
      obtain ⟨i,zz,hi1,hi2,hi3,hi4,hi5⟩:=b0O hinf
      have news_only:∀ a0,us = .slice a0 0 0→m*by_≤most→m≤most→z.length=sz→e=⟨.sl H.length 0 m,[],[.data T ys]⟩→∃ v w',(Builtin.append_ #[st,st] ty #[us,.slice (some ad) m cx]).run P w = .ok v w'∧Leaves P w φ X H e v w':=by
       rintro a0 rfl hb hb2 hz rfl
       have h63:(m:Int)≤9223372036854775807:=by unfold most at hb2;omega
       have hrun:(Builtin.append_ #[st,st] ty #[.slice a0 0 0,.slice (some ad) m cx]).run P w = .ok (.slice (some ⟨w.heap.size,0,none⟩) m (grownCap w m 0 T)) (w.drew.alloc (.cells (([]:List Value).toArray++news.toArray++Builtin.zeroCells zz.cells (grownCap w m 0 T-m)) T)):=by
        cases a0 with
        | none =>
         rw [run_append_nil (P:=P) w st ty T i zz hst hi1 hi2 ad m cx news (by rw [hi3];exact hnl) hn2 (by omega) h63 (by rw [hi4];unfold most at hb;omega)]
         simp
        | some ab =>
         have:=run_append_grow (P:=P) w st ty T i zz hst hi1 hi2 ab 0 0 [] (by simp) (by simp) ad m cx news (by rw [hi3];exact hnl) hn2 (by omega) (by simpa using h63) (by rw [hi4];exact t0w (sz:=sz) (by simpa using hb) (by omega))
         simpa using this
       refine ⟨_,_,hrun,?_⟩
       have hge:=grownCap_ge w m 0 T
       have hk:=e0a w (.cells (([]:List Value).toArray++news.toArray++Builtin.zeroCells zz.cells (grownCap w m 0 T-m)) T)
       have hg:∀ A,RFs (w.drew.alloc (.cells (([]:List Value).toArray++news.toArray++Builtin.zeroCells zz.cells (grownCap w m 0 T-m)) T)) A ys news→_:=fun A hA =>
        o0u (P:=P) (w:=w) (A:=A) hinf hz (N:=H.length) (n:=m) (cap:=grownCap w m 0 T) (olds:=[]) (news:=news) (xs:=[]) (ys:=ys) (zz:=zz) hi5 (ψ:=ext1 φ H.length (w.heap.size,0)) a0L (by omega) ⟨rfl,fun i x u hx=>by simp at hx⟩ hA (by simpa using hnl) hge
       obtain ⟨r1,r2,r3⟩:=h.more hk w.heap.size 0 (.data T ys) (Nat.le_refl _) (fun hav=>by
        have:=(hg _ (hys.keep hk (fun _ h=>h.elim) hav)).1
        simpa using this)
       refine ⟨ext1 φ H.length (w.heap.size,0),fun r hr=>a0l hr,by simpa [Eff.heap,a0B] using r1,?_,hk.mono (fun _ _ h=>h.elim),by simpa [Eff.heap,a0B] using r2⟩
       have:=(hg _ (hys.keep hk (fun _ h=>h.elim) r3)).2
       simpa [Eff.heap,a0B] using this
      split at he
      ·split at he
       ·rename_i hb
        injection he with he
        cases hs with|f hs=>cases hs with|v hv=>exact news_only _ rfl hb.1 hb.2.1 hb.2.2 he.symm
       ·cases he
      ·split at he
       ·rename_i hb
        injection he with he
        cases hs with|f hs=>cases hs with|e=>exact news_only _ rfl hb.1 hb.2.1 hb.2.2 he.symm
       ·cases he
      ·rename_i r off n
       split at he
       ·rename_i U xs hrow
        split at he
        ·rename_i hb
         obtain ⟨rfl,hxl,hb1,hb2,hz⟩:=hb
         injection he with he
         subst he
         by_cases hn0:n=0
         ·subst hn0
          have hxo:xs.drop off=[]:=by rw [List.drop_eq_nil_iff];omega
          obtain ⟨a0,rfl⟩:∃ a0,us = .slice a0 0 0:=by
           cases hs with
           | sl hp=>omega
           | sl0 hr=>exact ⟨_,rfl⟩
          obtain ⟨s1,s2,s3⟩:=h.turn (row':=.dead) hrow (Keep.refl _ w) (by simp [Row.live]) (fun _=>trivial)
          have h63:(m:Int)≤9223372036854775807:=by unfold most at hb2;omega
          have hb1':m*by_≤most:=by simpa using hb1
          have hrun:(Builtin.append_ #[st,st] ty #[.slice a0 0 0,.slice (some ad) m cx]).run P w = .ok (.slice (some ⟨w.heap.size,0,none⟩) m (grownCap w m 0 U)) (w.drew.alloc (.cells (([]:List Value).toArray++news.toArray++Builtin.zeroCells zz.cells (grownCap w m 0 U-m)) U)):=by
           cases a0 with
           | none =>
            rw [run_append_nil (P:=P) w st ty U i zz hst hi1 hi2 ad m cx news (by rw [hi3];exact hnl) hn2 (by omega) h63 (by rw [hi4];unfold most at hb1';omega)]
            simp
           | some ab =>
            have:=run_append_grow (P:=P) w st ty U i zz hst hi1 hi2 ab 0 0 [] (by simp) (by simp) ad m cx news (by rw [hi3];exact hnl) hn2 (by omega) (by simpa using h63) (by rw [hi4];exact t0w (sz:=sz) (by simpa using hb1') (by omega))
            simpa using this
          refine ⟨_,_,hrun,?_⟩
          have hge:=grownCap_ge w m 0 U
          have hk:=e0a w (.cells (([]:List Value).toArray++news.toArray++Builtin.zeroCells zz.cells (grownCap w m 0 U-m)) U)
          have hg:∀ A,RFs (w.drew.alloc (.cells (([]:List Value).toArray++news.toArray++Builtin.zeroCells zz.cells (grownCap w m 0 U-m)) U)) A ys news→_:=fun A hA =>
           o0u (P:=P) (w:=w) (A:=A) hinf hz (N:=H.length) (n:=m) (cap:=grownCap w m 0 U) (olds:=[]) (news:=news) (xs:=[]) (ys:=ys) (zz:=zz) hi5 (ψ:=ext1 φ H.length (w.heap.size,0)) a0L (by omega) ⟨rfl,fun i x u hx=>by simp at hx⟩ hA (by simpa using hnl) hge
          have hlen':(H.set r .dead).length=H.length:=List.length_set
          have hys':RFs w (Av X φ (H.set r .dead)) ys news:=hys.keep (L:=fun _=>False) (Keep.refl _ w) (fun _ h=>h.elim) s3
          obtain ⟨r1,r2,r3⟩:=s1.more hk w.heap.size 0 (.data U ys) (Nat.le_refl _) (fun hav=>by
           have:=(hg _ (hys'.keep hk (fun _ h=>h.elim) hav)).1
           rw [hlen']
           simpa [hlen'] using this)
          rw [hlen'] at r1 r2 r3
          refine ⟨ext1 φ H.length (w.heap.size,0),fun r hr=>a0l hr,by simpa [Eff.heap,a0B,hxo] using r1,?_,hk.mono (fun _ _ h=>h.elim),fun b hb=>?_⟩
          ·have:=(hg _ (hys'.keep hk (fun _ h=>h.elim) r3)).2
           simpa [Eff.heap,a0B,hxo] using this
          ·rcases r2 b (by simpa [Eff.heap,a0B,hxo] using hb) with h'|h'
           ·exact s2 b h'
           ·exact .inr h'
         have hne:xs≠[]:=fun e=>by
          have:0<n*sz:=Nat.mul_pos (by omega) hsz
          subst e
          simp at hxl
          omega
         obtain ⟨pre,vs,post,g1,g2,g3⟩:=h.rows r _ hrow hne
         have hvl:=g3.1
         have h63:((n+m:Nat):Int)≤9223372036854775807:=by unfold most at hb2;omega
         have grows:∀ ab cap,(us = .slice (some ab) n cap)→(n=0∨ab=⟨(φ r).1,(φ r).2+off,none⟩)→cap<n+m→∃ v w',(Builtin.append_ #[st,st] ty #[us,.slice (some ad) m cx]).run P w = .ok v w'∧Leaves P w φ X H ⟨.sl H.length 0 (n+m),[(r,.dead)],[.data U (xs.drop off++ys)]⟩ v w':=by
          rintro ab cap rfl hab hcap
          have holds:∀ j u,(vs.drop off)[j]?=some u→w.cell? (ab.add j)=some u:=by
           intro j u hu
           rw [List.getElem?_drop] at hu
           have hj:off+j<vs.length:=(List.getElem?_eq_some_iff.1 hu).1
           rcases hab with rfl|rfl
           ·rw [hvl,hxl] at hj;simp at hj;omega
           ·rw [add_lit,g0l g1,←g2]
            simp only [List.getElem?_toArray]
            rw [List.append_assoc,List.getElem?_append_right (by omega),List.getElem?_append_left (by omega),show pre.length+off+j-pre.length=off+j by omega]
            exact hu
          have hol:(vs.drop off).length=n*i.size:=by rw [hi3];simp [hvl,hxl]
          have hrun:=run_append_grow (P:=P) w st ty U i zz hst hi1 hi2 ab n cap (vs.drop off) hol holds ad m cx news (by rw [hi3];exact hnl) hn2 hcap h63 (by rw [hi4];exact t0w (sz:=sz) hb1 hcap)
          refine ⟨_,_,hrun,?_⟩
          have hge:=grownCap_ge w (n+m) cap U
          have hk:=e0a w (.cells ((vs.drop off).toArray++news.toArray++Builtin.zeroCells zz.cells (grownCap w (n+m) cap U-(n+m))) U)
          have hg:=fun A a1 a2=>o0u (P:=P) (w:=w) (A:=A) hinf hz (N:=H.length) (n:=n+m) (cap:=grownCap w (n+m) cap U) (olds:=vs.drop off) (news:=news) (xs:=xs.drop off) (ys:=ys) (zz:=zz) hi5 (ψ:=ext1 φ H.length (w.heap.size,0)) a0L (by omega) a1 a2 (by rw [hol,hnl,hi3,Nat.add_mul]) hge
          obtain ⟨r1,r2,r3⟩:=h.moved hrow (a0j hne) (hk.mono (fun _ _ h=>h.elim)) w.heap.size 0 (.data U (xs.drop off++ys)) (.inl (Nat.le_refl _)) (fun hav=>(hg _ ((g3.drop off).keep hk (fun _ h=>h.elim) hav) (hys.keep hk (fun _ h=>h.elim) hav)).1)
          refine ⟨ext1 φ H.length (w.heap.size,0),fun r hr=>a0l hr,by simpa [Eff.heap,a0B] using r1,?_,hk.mono (fun _ _ h=>h.elim),by simpa [Eff.heap,a0B] using r2⟩
          have:=(hg _ ((g3.drop off).keep hk (fun _ h=>h.elim) r3) (hys.keep hk (fun _ h=>h.elim) r3)).2
          simpa [Eff.heap,a0B] using this
         cases hs with
         | sl0 hr=>exact absurd rfl hn0
         | @sl _ _ _ cap cs0 T0 fr0 i0 hp hr hn hbk hi0 hc0 =>
          by_cases hroom:n+m≤cap
          ·rw [g1] at hbk
           injection hbk with hbk
           injection hbk with e1 e2 e3
           subst e1;subst e2;subst e3
           rw [hi1] at hi0
           injection hi0 with hi0
           subst hi0
           rw [hi3] at hc0
           have hmul:(n+m)*sz≤cap*sz:=Nat.mul_le_mul_right _ hroom
           rw [Nat.add_mul] at hmul
           have hrun:=o0L (P:=P) (ty:=ty) hst hinf (n:=n) (off:=(φ r).2+off) g1 hnl hn2 (fun u hu=>(hn3 u hu)) hroom (c:=cx) (by rw [hnl];omega)
           refine ⟨_,_,hrun,?_⟩
           have hnew:((pre++vs++post).toArray.toList.take ((φ r).2+off+n*sz)++news++(pre++vs++post).toArray.toList.drop ((φ r).2+off+n*sz+news.length))=(pre++vs.take off)++(vs.drop off++news)++(pre++vs++post).drop ((φ r).2+off+n*sz+news.length):=by
            have hpv:(φ r).2+off+n*sz=(pre++vs).length:=by rw [List.length_append,hvl,hxl,g2];omega
            rw [hpv,List.take_left]
            simp only [List.append_assoc]
            rw [←List.append_assoc (vs.take off),List.take_append_drop]
           rw [hnew]
           have hsize:((pre++vs.take off)++(vs.drop off++news)++(pre++vs++post).drop ((φ r).2+off+n*sz+news.length)).toArray.size=(pre++vs++post).toArray.size:=by
            simp [hvl,hxl,hnl] at hc0 ⊢
            omega
           have hk:Keep (fun b=>b=(φ r).1) w (w.setRow (φ r).1 ((pre++vs.take off)++(vs.drop off++news)++(pre++vs++post).drop ((φ r).2+off+n*sz+news.length)).toArray):=b0l g1 hsize
           have hlv:∀ b,b=(φ r).1→Av X φ H b:=fun b e=>by subst e;exact .inr (b0H hrow (a0j hne))
           have hblk:=setRow_heap w (φ r).1 _ ((pre++vs.take off)++(vs.drop off++news)++(pre++vs++post).drop ((φ r).2+off+n*sz+news.length)).toArray _ _ g1
           obtain ⟨r1,r2,r3⟩:=h.moved hrow (a0j hne) hk (φ r).1 ((φ r).2+off) (.data U (xs.drop off++ys)) (.inr rfl) (fun hav=>by
            refine fun _=>⟨pre++vs.take off,vs.drop off++news,_,by rw [a0L];exact hblk,by rw [a0L];simp [hvl,hxl,g2],?_⟩
            exact ((g3.drop off).keep hk hlv hav).append (hys.keep hk hlv hav))
           refine ⟨ext1 φ H.length ((φ r).1,(φ r).2+off),fun r hr=>a0l hr,by simpa [Eff.heap,a0B] using r1,?_,hk.mono (fun b _ e=>by subst e;exact b0H hrow (a0j hne)),by simpa [Eff.heap,a0B] using r2⟩
           have:=R.sl (P:=P) (w:=w.setRow (φ r).1 ((pre++vs.take off)++(vs.drop off++news)++(pre++vs++post).drop ((φ r).2+off+n*sz+news.length)).toArray) (φ:=ext1 φ H.length ((φ r).1,(φ r).2+off)) (A:=Av X (ext1 φ H.length ((φ r).1,(φ r).2+off)) (H.set r .dead++[.data U (xs.drop off++ys)])) (N:=H.length+1) (r:=H.length) (off:=0) (n:=n+m) (cap:=cap) (i:=i) (by omega) (by omega) hroom (by rw [a0L];exact hblk) hi1 (by rw [a0L,hi3,hsize];simpa using hc0)
           rw [a0L] at this
           simpa [Eff.heap,a0B] using this
          ·exact grows _ _ rfl (.inr rfl) (by omega)
        ·cases he
       ·cases he
      ·cases he
     ·cases he
    ·cases he
  ·cases he
 ·cases he
end
end Go.Proofs.YthjgmldnegaaiaaGreatDoor.Mir
namespace Go.Proofs.YthjgmldnegaaiaaGreatDoor.Mir
open Go Go.RowKit
section
variable {P:Program}{w:World}{φ:Nat→Nat × Nat}{X:Nat→Prop}{H:List Row}
theorem c0h (h:HR P w φ X H)(o:Obj)(row:Row)(d:D)(v:Value)
  (hrow:∀ (A:Nat→Prop),(∀ c,c<w.heap.size→A c→Av X φ H c)→Keep (fun _=>False) w (w.alloc o)→RowOk P (w.alloc o) (ext1 φ H.length (w.heap.size,0)) A (H.length+1) H.length row∧R P (w.alloc o) (ext1 φ H.length (w.heap.size,0)) A (H.length+1) d v) :
  Leaves P w φ X H ⟨d,[],[row]⟩ v (w.alloc o):=by
 have hk:=Keep.alloc (fun _=>False) w o
 obtain ⟨r1,r2,r3⟩:=h.more hk w.heap.size 0 row (Nat.le_refl _) (fun hav=>(hrow _ hav hk).1)
 refine ⟨ext1 φ H.length (w.heap.size,0),fun r hr=>a0l hr,by simpa [Eff.heap,a0B] using r1,?_,hk.mono (fun _ _ h=>h.elim),by simpa [Eff.heap,a0B] using r2⟩
 have:=(hrow _ r3 hk).2
 simpa [Eff.heap,a0B] using this
theorem f0w (w:World)(o:Obj):(w.alloc o).heap[w.heap.size]?=some o:=heap_alloc_new w o
theorem a1I {T:TypeId}{ds:List D}{cs:Array Value}{A:Nat→Prop}{N:Nat}(h:Rs P (w.alloc (.cells cs T)) (ext1 φ N (w.heap.size,0)) A (N+1) ds cs.toList)(h1:∀ u∈cs.toList,u.oneCell'=true) :
  RowOk P (w.alloc (.cells cs T)) (ext1 φ N (w.heap.size,0)) A (N+1) N (.box T ds)∧R P (w.alloc (.cells cs T)) (ext1 φ N (w.heap.size,0)) A (N+1) (.pt N 0) (.pointer (some ⟨w.heap.size,0,none⟩)):=by
 refine ⟨⟨by rw [a0L],cs,by rw [a0L];exact f0w w _,h,h1⟩,?_⟩
 have:=R.pt (P:=P) (w:=w.alloc (.cells cs T)) (φ:=ext1 φ N (w.heap.size,0)) (A:=A) (N:=N+1) (r:=N) (off:=0) (by omega)
 rw [a0L] at this
 exact this
theorem d1U (h:HR P w φ X H){T:TypeId}{n b:Nat}{z:List Value}(hi:inf P T=some (n,b,z))(o:Value) :
  ∃ v w',(Instr.alloc T true o).run P w = .ok v w'∧Leaves P w φ X H ⟨.pt H.length 0,[],[.box T (z.map .v)]⟩ v w':=by
 obtain ⟨i,zz,h1,h2,h3,h4,h5⟩:=b0O hi
 obtain ⟨_,h6⟩:=e0c hi
 refine ⟨.pointer (some ⟨w.heap.size,0,none⟩),w.alloc (.cells zz.cells T),?_,?_⟩
 ·cases o<;>simp [Instr.alloc,zeroValue,typeInfo,h1,h2,newVar,newRow]
 ·refine c0h h _ _ _ _ (fun A hA hk=>?_)
  refine a1I ?_ (by rw [h5];exact h6)
  rw [h5]
  exact Rs.vs h6
theorem i1H (h:HR P w φ X H){T:TypeId}{d:D}{u:Value}(hd:R P w φ (Av X φ H) H.length d u)(ho:b0L d=true) :
  ∃ v w',(Instr.box T u).run P w = .ok v w'∧Leaves P w φ X H ⟨.pt H.length 0,[],[.box T d.cells]⟩ v w':=by
 obtain ⟨hj,ht⟩:=f0s ho
 obtain ⟨hcs,h1⟩:=e0Z hd hj ht
 refine ⟨.pointer (some ⟨w.heap.size,0,none⟩),w.alloc (.cells u.cells T),by simp [Instr.box,newVar,newRow],?_⟩
 refine c0h h _ _ _ _ (fun A hA hk=>a1I ?_ h1)
 exact hcs.keep hk (fun _ h=>h.elim) hA (fun r hr=>a0l hr) (by omega)
theorem y0A (h:HR P w φ X H)(T:TypeId) :
  ∃ v w',(Instr.makeMap T none).run P w = .ok v w'∧Leaves P w φ X H ⟨.mp H.length,[],[.map []]⟩ v w':=by
 refine ⟨.map (some w.heap.size),w.alloc (.map #[] 0),by simp [Instr.makeMap],?_⟩
 refine c0h h _ _ _ _ (fun A hA hk=>⟨⟨#[],0,by rw [a0L];exact f0w w _,MapKept.stamped_empty 0,rfl,fun i k d m hd=>by simp at hd⟩,?_⟩)
 have:=R.mp (P:=P) (w:=w.alloc (.map #[] 0)) (φ:=ext1 φ H.length (w.heap.size,0)) (A:=A) (N:=H.length+1) (r:=H.length) (by omega)
 rw [a0L] at this
 exact this
theorem h0R {A:Nat→Prop}{N:Nat}{d:D}{u:Value}{k:Nat}(hd:R P w φ A N d u)(h:nat? d=some k):∃ q,u = .int q k:=by
 unfold nat? at h
 split at h
 ·rename_i q n
  split at h
  ·injection h with h
   cases hd with
   | f hd =>
    cases hd with
    | v hd=>exact ⟨q,by rw [←h];congr 1;omega⟩
  ·cases h
 ·cases h
theorem p0t {A:Nat→Prop}{N:Nat}{T:TypeId}{f:Nat}{x d:D}{u:Value}(hx:R P w φ A N x u)(he:c0e P T x f=some d):∃ v,(Instr.fieldAt T u f).run P w = .ok v w∧R P w φ A N d v:=by
 unfold c0e at he
 split at he
 ·rename_i o U hf
  split at he
  ·rename_i sz by_ z hinf
   split at he
   ·cases he
   ·rename_i hsz
    unfold e0e at hf
    split at hf
    ·rename_i fs hu
     cases hff:fs[f]? with
     | none=>rw [hff] at hf;simp at hf
     | some fd =>
      rw [hff] at hf
      simp at hf
      obtain ⟨rfl,rfl⟩:=hf
      have run:∀ a:Addr,(Instr.fieldAt T (.pointer (some a)) f).run P w = .ok (.pointer (some (a.add fd.offset))) w:=by
       intro a
       simp only [Instr.fieldAt,Sem.run_bind,run_underlying hu,Result.andThen_ok,hff,Instr.sureAddr,Sem.run_pure,fieldPlace,c0D hinf,hsz,if_false]
      split at he
      ·injection he with he
       subst he
       cases hx with
       | pt hr =>
        refine ⟨_,run _,?_⟩
        rw [add_lit,Nat.add_assoc]
        exact .pt hr
      ·injection he with he
       subst he
       cases hx with
       | @rf xs a cs h1 h2 h3 =>
        refine ⟨_,run _,.rf (cs.drop fd.offset) (by simp [h1]) (fun i u hu=>?_) (fun i x u hx hu=>?_)⟩
        ·rw [List.getElem?_drop] at hu
         rw [add_add,g0J]
         exact h2 _ u hu
        ·rw [List.getElem?_drop] at hx hu
         exact h3 _ x u hx hu
      ·cases he
    ·cases hf
  ·cases he
 ·cases he
theorem r0O {A:Nat→Prop}{N:Nat}{T:TypeId}{x i d:D}{u ui:Value}(hx:R P w φ A N x u)(hi:R P w φ A N i ui)(he:c0C P T x i=some d):∃ v,(Instr.indexAt T u ui).run P w = .ok v w∧R P w φ A N d v:=by
 unfold c0C at he
 split at he
 ·rename_i E k hu hk
  obtain ⟨q,rfl⟩:=h0R hi hk
  split at he
  ·rename_i sz by_ z hinf
   have run:∀ (a:Addr) (n c:Nat),k<n→(Instr.indexAt T (.slice (some a) n c) (.int q k)).run P w = .ok (.pointer (some (a.add (k*sz)))) w:=by
    intro a n c hkn
    have h2:(0:Int)≤(k:Int)∧(k:Int)<(n:Int):=⟨by omega,by omega⟩
    simp [Instr.indexAt,asIntOf,run_underlying hu,h2,c0D hinf,hkn]
   split at he
   ·split at he
    ·rename_i hkn
     injection he with he
     subst he
     cases hx with
     | sl hp hr hn hb hii hc =>
      refine ⟨_,run _ _ _ hkn,?_⟩
      rw [add_lit,Nat.add_assoc]
      exact .pt hr
     | sl0 hr=>omega
    ·cases he
   ·split at he
    ·rename_i hkn
     injection he with he
     subst he
     cases hx with
     | f hx =>
      cases hx with
      | s cs h0 h1 h2 h3 =>
       refine ⟨_,run _ _ _ hkn.1,.rf (cs.drop (k*sz)) (by simp [h1]) (fun i u hu=>?_) (fun i x u hx hu=>?_)⟩
       ·rw [List.getElem?_drop] at hu
        rw [add_add,g0J]
        exact h2 _ u hu
       ·rw [List.getElem?_drop] at hx hu
        exact h3 _ x u hx hu
      | s0=>omega
    ·cases he
   ·cases he
  ·cases he
 ·rename_i n E k hu hk
  obtain ⟨q,rfl⟩:=h0R hi hk
  split at he
  ·rename_i sz by_ z hinf
   split at he
   ·split at he
    ·rename_i hkn
     injection he with he
     subst he
     cases hx with
     | pt hr =>
      have h2:(0:Int)≤(k:Int)∧(k:Int)<(n:Int):=⟨by omega,by omega⟩
      refine ⟨_,?_,.pt hr⟩
      simp [Instr.indexAt,asIntOf,run_underlying hu,h2,c0D hinf,Instr.sureAddr,add_lit,Nat.add_assoc,hkn]
    ·cases he
   ·cases he
  ·cases he
 ·cases he
theorem n0I {A:Nat→Prop}{N:Nat}{T:TypeId}{ds:List D}{vs:Array Value}{off:Nat}{d:D}(hds:Rs P w φ A N ds vs.toList)(h1:∀ u∈vs.toList,u.oneCell'=true)(h:e0n P T ds off=some d):∃ v,(part T vs off).run P w = .ok v w∧R P w φ A N d v:=by
 unfold e0n at h
 split at h
 ·rename_i n _ _ hb hi
  split at h
  ·rename_i hle
   injection h with h
   subst h
   refine ⟨.agg (vs.extract off (off+n)),?_,?_⟩
   ·unfold part
    simp [f0u hb,c0D hi]
   ·have h2:=(hds.drop off).take n
    have h3:(vs.extract off (off+n)).toList=(vs.toList.drop off).take n:=by simp
    refine .ag (by have:=h2.1;rw [←h3,Array.length_toList] at this;exact this) (fun i d u hd hu=>h2.2 i d u hd (by rw [←h3,Array.getElem?_toList];exact hu)) (fun u hu=>?_)
    rw [h3] at hu
    exact h1 u (List.mem_of_mem_drop (List.mem_of_mem_take hu))
  ·cases h
 ·rename_i _ hb
  obtain ⟨u,hu,hr⟩:=hds.get h
  refine ⟨u,?_,hr⟩
  have hu':vs[off]?=some u:=by simpa using hu
  unfold part
  simp [f0u hb,hu']
 ·cases h
theorem v0X {A:Nat→Prop}{N:Nat}{T:TypeId}{x d:D}{f:Nat}{u:Value}(hx:R P w φ A N x u)(he:i0g P T x f=some d):∃ v,(Instr.field T u f).run P w = .ok v w∧R P w φ A N d v:=by
 unfold i0g at he
 split at he
 ·rename_i o U ds hf
  unfold e0e at hf
  split at hf
  ·rename_i fs hu
   cases hff:fs[f]? with
   | none=>rw [hff] at hf;simp at hf
   | some fd =>
    rw [hff] at hf
    simp at hf
    obtain ⟨rfl,rfl⟩:=hf
    cases hx with
    | ag hs hr h1 =>
     obtain ⟨v,h2,h3⟩:=n0I (P:=P) ⟨by simpa using hs,fun i x y hx hy=>hr i x y hx (by simpa using hy)⟩ h1 he
     exact ⟨v,by simp [Instr.field,run_underlying hu,hff,asAgg,h2],h3⟩
  ·cases hf
 ·cases he
theorem o0Z (h:HR P w φ X H){r:Nat}{E T:TypeId}{cs:Array Value}{fr:Nat × Nat}(hr:k0D H r=some E)(hb:w.heap[(φ r).1]?=some (.cells cs T fr)):T=E:=by
 unfold k0D at hr
 split at hr
 ·rename_i U xs hrow
  split at hr
  case isFalse=>cases hr
  rename_i hpos
  injection hr with hr
  subst hr
  obtain ⟨_,_,_,h1,_⟩:=h.rows r _ hrow (fun e=>by subst e;simp at hpos)
  rw [h1] at hb
  injection hb with hb
  injection hb with _ h2 _
  exact h2.symm
 ·rename_i U xs hrow
  injection hr with hr
  subst hr
  obtain ⟨_,_,_,_,_,h1,_⟩:=h.rows r _ hrow
  rw [h1] at hb
  injection hb with hb
  injection hb with _ h2 _
  exact h2.symm
 ·cases hr
theorem o0N (h:HR P w φ X H){T:TypeId}{x d:D}{lo hi mx:Option D}{u:Value}{ulo uhi umx:Option Value}(hx:R P w φ (Av X φ H) H.length x u)
  (hlo:∀ y,lo=some y→∃ v,ulo=some v∧R P w φ (Av X φ H) H.length y v) (hlo':lo=none→ulo=none) (hhi:∀ y,hi=some y→∃ v,uhi=some v∧R P w φ (Av X φ H) H.length y v) (hhi':hi=none→uhi=none) (hmx:∀ y,mx=some y→∃ v,umx=some v∧R P w φ (Av X φ H) H.length y v) (hmx':mx=none→umx=none)
  (he:e0N P H T x lo hi mx=some d):∃ v,(Instr.sliceAt T u ulo uhi umx).run P w = .ok v w∧R P w φ (Av X φ H) H.length d v:=by
 unfold e0N at he
 split at he
 ·rename_i E hu
  split at he
  ·rename_i sz by_ z hinf
   obtain ⟨i,zz,hi1,hi2,hi3,hi4,hi5⟩:=b0O hinf
   dsimp only at he
   split at he
   ·rename_i n hn
    split at he
    ·rename_i l h' hl hh
     split at he
     ·rename_i hb
      obtain ⟨hb1,hb2⟩:=hb
      have hval:∃ a c,u = .slice a n c∧n≤c:=by
       cases hx with
       | f hx =>
        cases hx with
        | v hv =>
         split at hn
         ·rename_i e;cases e
         ·rename_i e;injection e with e;cases e
         ·rename_i e;injection e with e;cases e
         ·rename_i e;injection e with e;injection e with e;subst e;injection hn with hn;subst hn;exact ⟨_,_,rfl,Nat.le_refl _⟩
         ·cases hn
        | s cs h0 _ _ _=>simp at hn;subst hn;exact ⟨_,_,rfl,h0⟩
        | s0=>simp at hn;subst hn;exact ⟨_,_,rfl,Nat.le_refl _⟩
        | e=>simp at hn;subst hn;exact ⟨_,_,rfl,Nat.le_refl _⟩
       | sl p a b c dd e=>simp at hn;subst hn;exact ⟨_,_,rfl,b⟩
       | sl0 a=>simp at hn;subst hn;exact ⟨_,_,rfl,Nat.le_refl _⟩
       | _=>simp at hn
      obtain ⟨a,c,rfl,hnc⟩:=hval
      have rlo:∀ (y:Nat),h'≤y→∀ (code:BoundsCode),(match ulo with|some v=>Instr.sliceBound v h' code|none=>pure 0).run P w = .ok l w:=by
       intro y _ code
       cases lo with
       | none=>rw [hlo' rfl];simp at hl;subst hl;rfl
       | some y =>
        obtain ⟨v,e,hr⟩:=hlo y rfl
        obtain ⟨q,rfl⟩:=h0R hr (by simpa using hl)
        rw [e]
        simp [Instr.sliceBound,asIntOf,hb1]
      cases mx with
      | none =>
       have hbounds:(Instr.sliceBounds true n c ulo uhi umx).run P w = .ok (l,h',c) w:=by
        rw [hmx' rfl]
        unfold Instr.sliceBounds
        cases hi with
        | none =>
         rw [hhi' rfl]
         simp at hh
         subst hh
         have:=rlo n (Nat.le_refl _) .sliceB
         cases ulo<;>simp_all
        | some y =>
         obtain ⟨v,e,hr⟩:=hhi y rfl
         obtain ⟨q,rfl⟩:=h0R hr (by simpa using hh)
         rw [e]
         have h3:(h':Int)≤(c:Int):=by omega
         have:=rlo h' (Nat.le_refl _) .sliceB
         have hs:(Instr.sliceBound (.int q h') c .sliceAcap).run P w = .ok h' w:=by
          simp [Instr.sliceBound,asIntOf];omega
         cases ulo<;>simp_all
       have hrun:(Instr.sliceAt T (.slice a n c) ulo uhi umx).run P w = .ok (.slice (if c=l then a else a.map (·.add (l*sz))) (h'-l) (c-l)) w:=by
        simp [Instr.sliceAt,Instr.slice,run_underlying hu,hbounds,c0D hinf]
       refine ⟨_,hrun,?_⟩
       dsimp only at he
       split at he
       ·split at he
        ·rename_i hlh
         injection he with he
         subst he
         rw [show h'-l=0 by omega]
         by_cases hcl:c=l
         ·rw [if_pos hcl,show c-l=0 by omega]
          cases a with
          | none=>exact .f .s0
          | some a=>exact .f (.s [] (by omega) rfl (fun i u hu=>by simp at hu) (fun i x u hx=>by simp at hx))
         ·rw [if_neg hcl]
          cases hx with
          | sl hp hr hnn hbk hii hc=>exact .f (.s [] (by omega) rfl (fun i u hu=>by simp at hu) (fun i x u hx=>by simp at hx))
          | sl0 hr=>omega
        rename_i hlh
        split at he
        case isFalse=>cases he
        rename_i hrt
        injection he with he
        subst he
        simp at hn
        subst hn
        cases hx with
        | sl hp hr hnn hbk hii hc =>
         by_cases hcl:c=l
         ·omega
         ·rw [if_neg hcl]
          simp only [Option.map_some]
          rw [add_lit,Nat.add_assoc]
          refine .sl (by omega) hr (by omega) hbk hii ?_
          have hT:=o0Z h hrt hbk
          subst hT
          rw [hi1] at hii
          injection hii with hii
          subst hii
          rw [hi3] at hc ⊢
          have hle:l≤c:=by omega
          obtain ⟨k,rfl⟩:=Nat.exists_eq_add_of_le hle
          rw [Nat.add_mul] at hc
          rw [Nat.add_sub_cancel_left]
          omega
        | sl0 hr=>omega
       ·injection he with he
        subst he
        simp at hn
        subst hn
        cases hx with
        | f hx =>
         cases hx with
         | s cs h0 h1 h2 h3 =>
          by_cases hcl:c=l
          ·rw [if_pos hcl,show h'-l=0 by omega]
           simp
           exact .f (.s [] (by omega) rfl (fun i u hu=>by simp at hu) (fun i x u hx=>by simp at hx))
          ·rw [if_neg hcl]
           refine .f (.s ((cs.drop (l*sz)).take ((h'-l)*sz)) (by omega) (by simp [h1]) (fun i u hu=>?_) (fun i x u hx hu=>?_))
           ·rw [List.getElem?_take] at hu
            split at hu
            ·rw [List.getElem?_drop] at hu
             rw [add_add,g0J]
             exact h2 _ u hu
            ·simp at hu
           ·rw [List.getElem?_take] at hx hu
            split at hx
            ·rename_i hh2
             rw [if_pos hh2] at hu
             rw [List.getElem?_drop] at hx hu
             exact h3 _ x u hx hu
            ·simp at hx
         | s0 =>
          rw [if_pos (by omega),show h'-l=0 by omega,show 0-l=0 by omega]
          simp
          exact .f .s0
       ·injection he with he
        subst he
        rename_i hx1 hx2
        cases hx with
        | f hx =>
         cases hx with
         | v hv =>
          split at hn
          ·rename_i e;cases e
          ·rename_i e;injection e with e;cases e
          ·rename_i e;injection e with e;cases e
          ·rename_i e;injection e with e;injection e with e;injection e with e1 e2 e3;subst e1;subst e3;injection hn with hn;subst hn
           rw [if_pos (by omega),show h'-l=0 by omega,show 0-l=0 by omega]
           exact .f (.v hv)
          ·cases hn
         | s=>exact absurd rfl (hx2 _ _)
         | s0=>exact absurd rfl (hx2 _ _)
         | e =>
          rw [show h'-l=0 by simp at hn;omega,show 0-l=0 by omega]
          exact .f .e
        | sl=>exact absurd rfl (hx1 _ _ _)
        | sl0=>exact absurd rfl (hx1 _ _ _)
        | _=>simp at hn
      | some m =>
       dsimp only at he
       split at he
       ·rename_i hc
        obtain ⟨hc1,rfl,hc3⟩:=hc
        obtain ⟨v,e,hr⟩:=hmx m rfl
        obtain ⟨q,rfl⟩:=h0R hr hc1
        have hm1:(l:Int)≤(c:Int):=by omega
        have hm2:(Instr.sliceBound (.int q l) c .slice3Acap).run P w = .ok l w:=by
         simp [Instr.sliceBound,asIntOf];omega
        have hbounds:(Instr.sliceBounds true n c ulo uhi umx).run P w = .ok (l,l,l) w:=by
         rw [e]
         unfold Instr.sliceBounds
         cases hi with
         | none=>simp at hc3
         | some y =>
          obtain ⟨v2,e2,hr2⟩:=hhi y rfl
          obtain ⟨q2,rfl⟩:=h0R hr2 (by simpa using hh)
          rw [e2]
          have hs:(Instr.sliceBound (.int q2 l) l .slice3B).run P w = .ok l w:=by
           simp [Instr.sliceBound,asIntOf]
          have:=rlo l (Nat.le_refl _) .slice3C
          cases ulo<;>simp_all
        have hrun:(Instr.sliceAt T (.slice a n c) ulo uhi umx).run P w = .ok (.slice a 0 0) w:=by
         simp [Instr.sliceAt,Instr.slice,run_underlying hu,hbounds,c0D hinf]
        refine ⟨_,hrun,?_⟩
        split at he
        ·injection he with he
         subst he
         cases hx with
         | f hx=>cases hx with|v hv=>exact .f (.v hv)
        ·injection he with he
         subst he
         exact .f .e
       ·cases he
     ·cases he
    ·cases he
   ·cases he
  ·cases he
 ·rename_i hu
  split at he
  ·rename_i str
   dsimp only at he
   split at he
   ·rename_i l h' hl hh
    split at he
    ·rename_i hb
     obtain ⟨hb1,hb2⟩:=hb
     injection he with he
     subst he
     cases hx with|f hx=>cases hx with|v _ =>
     have rlo:∀ (y:Nat),h'≤y→∀ (code:BoundsCode),(match ulo with|some v=>Instr.sliceBound v h' code|none=>pure 0).run P w = .ok l w:=by
      intro y _ code
      cases lo with
      | none=>rw [hlo' rfl];simp at hl;subst hl;rfl
      | some y =>
       obtain ⟨v,e,hr⟩:=hlo y rfl
       obtain ⟨q,rfl⟩:=h0R hr (by simpa using hl)
       rw [e]
       simp [Instr.sliceBound,asIntOf,hb1]
     obtain rfl:umx=none:=hmx' rfl
     have hbounds:(Instr.sliceBounds false str.size str.size ulo uhi none).run P w = .ok (l,h',str.size) w:=by
      unfold Instr.sliceBounds
      cases hi with
      | none =>
       rw [hhi' rfl]
       simp at hh
       subst hh
       have:=rlo str.size (Nat.le_refl _) .sliceB
       cases ulo<;>simp_all
      | some y =>
       obtain ⟨v,e,hr⟩:=hhi y rfl
       obtain ⟨q,rfl⟩:=h0R hr (by simpa using hh)
       rw [e]
       have h3:(h':Int)≤(str.size:Int):=by omega
       have:=rlo h' (Nat.le_refl _) .sliceB
       have hs:(Instr.sliceBound (.int q h') str.size .sliceAlen).run P w = .ok h' w:=by
        simp [Instr.sliceBound,asIntOf];omega
       cases ulo<;>simp_all
     refine ⟨.string (str.extract l h'),?_,.f (.v rfl)⟩
     simp [Instr.sliceAt,Instr.slice,run_underlying hu,hbounds]
    ·cases he
   ·cases he
  ·cases he
 ·cases he
end
end Go.Proofs.YthjgmldnegaaiaaGreatDoor.Mir
namespace Go.Proofs.YthjgmldnegaaiaaGreatDoor.Mir
open Go Go.RowKit
section
variable {P:Program}{w:World}{φ:Nat→Nat × Nat}{X:Nat→Prop}{H:List Row}
theorem d0W (off:Nat):∀ (l:List Value) (s:Nat) (cs:Array Value),off+s+l.length≤cs.size →
  ((l.zipIdx s).foldl (fun cs (x:Value × Nat)=>cs.setIfInBounds (off+x.2) x.1) cs)=(cs.toList.take (off+s)++l++cs.toList.drop (off+s+l.length)).toArray
 | [],s,cs,_=>by simp
 | c :: l,s,cs,h=>by
  simp only [List.length_cons] at h
  have hs:off+s<cs.toList.length:=by simp;omega
  simp only [List.zipIdx_cons,List.foldl_cons]
  rw [d0W off l (s+1) _ (by simp;omega)]
  congr 1
  rw [Array.toList_setIfInBounds,List.set_eq_take_append_cons_drop,if_pos hs]
  have h1:(List.take (off+s) cs.toList).length=off+s:=by simp;omega
  rw [show off+(s+1)=(List.take (off+s) cs.toList).length+1 by rw [h1];omega]
  rw [List.take_length_add_append,show (List.take (off+s) cs.toList).length+1+l.length=(List.take (off+s) cs.toList).length+(1+l.length) by omega,List.drop_length_add_append]
  rw [show 1+l.length=l.length+1 by omega]
  simp only [List.take_succ_cons,List.take_zero,List.drop_succ_cons,List.drop_drop]
  rw [List.append_assoc,List.append_assoc,List.append_assoc]
  congr 1
  simp only [List.cons_append,List.nil_append,List.length_cons]
  rw [show off+s+1+l.length=off+s+(l.length+1) by omega]
theorem s0K (l:List Value)(off:Nat)(cs:Array Value)(h:off+l.length≤cs.size) :
  (l.zipIdx.foldl (fun cs (x:Value × Nat)=>cs.setIfInBounds (off+x.2) x.1) cs)=(cs.toList.take off++l++cs.toList.drop (off+l.length)).toArray:=by
 have:=d0W off l 0 cs (by simpa using h)
 simpa using this
theorem o0o {A:Nat→Prop}{N:Nat}{ts:List D}{a:Act}(hts:Rs P w φ A N ts a.tmps.toList){placeD placeV:Nat→Option (Nat × Nat)}(hp:∀ i q,placeD i=some q→placeV i=some q) :
  ∀ (ps:List (Nat × Operand)) (ds ds':List D) (cs:Array Value),Rs P w φ A N ds cs.toList→(∀ u∈cs.toList,u.oneCell'=true)→e0C placeD ds (ps.map fun p=>(p.1,eval ts p.2))=some ds' →
   ∃ cs',Instr.fill placeV cs (ps.map fun p=>(p.1,a.eval p.2))=some cs'∧Rs P w φ A N ds' cs'.toList∧∀ u∈cs'.toList,u.oneCell'=true
 | [],ds,ds',cs,h,h1,he=>by
  simp [e0C] at he
  subst he
  exact ⟨cs,rfl,h,h1⟩
 | p :: ps,ds,ds',cs,h,h1,he=>by
  simp only [List.map_cons,e0C] at he
  split at he
  ·cases he
  ·rename_i off size hpl
   split at he
   ·rename_i hc
    obtain ⟨hc1,hc2,hc3⟩:=hc
    obtain ⟨hj,ht⟩:=f0s hc1
    obtain ⟨hcs,hone⟩:=e0Z (R.eval hts p.2) hj ht
    have hl:(a.eval p.2).cells.toList.length=size:=by rw [hcs.1];exact hc2
    have hsz:cs.size=ds.length:=by have:=h.1;simpa using this
    have hfit:off+(a.eval p.2).cells.toList.length≤cs.size:=by rw [hl,hsz];exact hc3
    have hnew:=s0K (a.eval p.2).cells.toList off cs hfit
    obtain ⟨cs',h2,h3,h4⟩:=o0o hts hp ps _ ds' (cs.toList.take off++(a.eval p.2).cells.toList++cs.toList.drop (off+(a.eval p.2).cells.toList.length)).toArray (by simpa using h.splice hcs off) (by
     intro u hu
     simp only [List.append_assoc,List.mem_append] at hu
     rcases hu with hu|hu|hu
     ·exact h1 u (List.mem_of_mem_take hu)
     ·exact hone u hu
     ·exact h1 u (List.mem_of_mem_drop hu)) he
    refine ⟨cs',?_,h3,h4⟩
    simp only [List.map_cons]
    unfold Instr.fill
    simp only [hp _ _ hpl]
    have hl2:(a.eval p.2).cells.size=size:=by simpa using hl
    rw [if_neg (by simp [hl2];omega)]
    have hz:(a.eval p.2).cells.zipIdx.foldl (fun cs x=>match x with|(c,j)=>cs.setIfInBounds (off+j) c) cs=(cs.toList.take off++(a.eval p.2).cells.toList++cs.toList.drop (off+(a.eval p.2).cells.toList.length)).toArray:=by
     rw [←hnew,←Array.foldl_toList,Array.toList_zipIdx]
    rw [hz]
    exact h2
   ·cases he
theorem x0e {A:Nat→Prop}{N:Nat}{ts:List D}{a:Act}(hts:Rs P w φ A N ts a.tmps.toList){T:TypeId}{ps:Array (Nat × Operand)}{d:D}(he:p0U P T (ps.toList.map fun p=>(p.1,eval ts p.2))=some d) :
  ∃ v,(Instr.build T (ps.map fun (i,x)=>(i,a.eval x))).run P w = .ok v w∧R P w φ A N d v:=by
 unfold p0U at he
 split at he
 ·rename_i fs sz by_ z hu hinf
  split at he
  ·rename_i hall
   obtain ⟨i,zz,hi1,hi2,hi3,hi4,hi5⟩:=b0O hinf
   obtain ⟨_,hz1⟩:=e0c hinf
   have hplaces:∃ places,fs.toList.mapM (fun f=>(P.info? f.type).map fun i=>(f.offset,i.size))=some places∧places.length=fs.toList.length∧∀ (k:Nat) (f:Field) (ti:TypeInfo),fs.toList[k]?=some f→P.info? f.type=some ti→places[k]?=some (f.offset,ti.size):=by
    clear he hu hinf
    generalize fs.toList=l at hall ⊢
    induction l with
    | nil=>exact ⟨[],rfl,rfl,fun k f ti h=>by simp at h⟩
    | cons f l ih =>
     simp only [List.all_cons,Bool.and_eq_true] at hall
     obtain ⟨places,h1,h2,h3⟩:=ih hall.2
     obtain ⟨ti,hti⟩:=Option.isSome_iff_exists.1 hall.1
     refine ⟨(f.offset,ti.size) :: places,?_,by simp [h2],fun k g tj hk hj=>?_⟩
     ·rw [List.mapM_cons,hti,h1];rfl
     ·cases k with
      | zero=>simp at hk;subst hk;rw [hti] at hj;injection hj with hj;subst hj;rfl
      | succ k=>simp at hk;simpa using h3 k g tj hk hj
   obtain ⟨places,hp1,hp2,hp3⟩:=hplaces
   rw [Option.map_eq_some_iff] at he
   obtain ⟨ds,hf,rfl⟩:=he
   obtain ⟨cs,h1,h2,h3⟩:=o0o hts (placeV:=fun i=>places.toArray[i]?) (by
    intro k q hq
    split at hq
    ·rename_i f hfk
     cases hti:P.info? f.type with
     | none=>rw [hti] at hq;simp at hq
     | some ti =>
      rw [hti] at hq
      simp at hq
      subst hq
      have:=hp3 k f ti (by simpa using hfk) hti
      simpa using this
    ·cases hq) ps.toList _ ds zz.cells (by rw [hi5];exact Rs.vs hz1) (by rw [hi5];exact hz1) hf
   refine ⟨.agg cs,?_,.ag (by simpa using h2.1) (fun i d u hd hu=>h2.2 i d u hd (by simpa using hu)) h3⟩
   refine run_build w T _ cs ?_
   unfold Program.built
   simp only [hi1,hu,hi2,hp1]
   rw [←h1]
   simp
  ·cases he
 ·cases he
theorem d0p (h:HR P w φ X H){T:TypeId}{cs:Array Value}{xs:List F}{us:List (Nat × Row)}{len sz by_:Nat}{z:List Value}(hinf:inf P T=some (sz,by_,z))(hlen:cs.size=len*sz){ds:List D}(hds:Rs P w φ (Av X φ H) H.length ds cs.toList)(hf:a0V P H ds=some (xs,us)) :
  Leaves P w φ X H ⟨.sl H.length 0 len,us,[.data T xs]⟩ (.slice (some ⟨w.heap.size,0,none⟩) len len) (w.alloc (.cells cs T)):=by
 obtain ⟨f,hxs⟩:=e0F h hds hf
 obtain ⟨i,zz,hi1,hi2,hi3,hi4,hi5⟩:=b0O hinf
 have hl:(a0B H us).length=H.length:=f.len
 obtain ⟨φ',r1,r2,r3,r4,r5⟩:=c0h (w:=w) f.ok (.cells cs T) (.data T xs) (.sl H.length 0 len) (.slice (some ⟨w.heap.size,0,none⟩) len len) (fun A hA hk=>by
  rw [hl]
  have hblk:(w.alloc (.cells cs T)).heap[w.heap.size]?=some (.cells cs T (0,0)):=f0w w _
  refine ⟨fun _=>⟨[],cs.toList,[],by rw [a0L];simpa using hblk,by rw [a0L];rfl,hxs.keep hk (fun _ h=>h.elim) hA⟩,?_⟩
  by_cases hl0:len=0
  ·subst hl0;exact .sl0 (by omega)
  have:=R.sl (P:=P) (w:=w.alloc (.cells cs T)) (φ:=ext1 φ H.length (w.heap.size,0)) (A:=A) (N:=H.length+1) (r:=H.length) (off:=0) (n:=len) (cap:=len) (i:=i) (by omega) (by omega) (Nat.le_refl _) (by rw [a0L];exact hblk) hi1 (by rw [a0L,hi3,hlen];simp)
  rw [a0L] at this
  simpa using this)
 have e1:(Eff.heap ⟨.sl H.length 0 len,us,[.data T xs]⟩ H)=(Eff.heap ⟨.sl H.length 0 len,[],[.data T xs]⟩ (a0B H us)):=by simp [Eff.heap,a0B]
 refine ⟨φ',fun r hr=>r1 r (by rw [hl];exact hr),by rw [e1];exact r2,by rw [e1];exact r3,r4.mono (fun b _ hb=>f.live b hb),fun b hb=>?_⟩
 rw [e1] at hb
 exact (r5 b hb).imp (f.live b) id
theorem g0M {A:Nat→Prop}{N:Nat}{z:Value}{sz n:Nat}(hz:z.cells.toList.length=sz)(h1:∀ u∈z.cells.toList,u.oneCell'=true)(hsz:0<sz) :
  Rs P w φ A N ((List.range n).map fun j=>D.v (z.cells.toList.getD (j % sz) Go.undef)) ((Array.range n).map (z.cells[· % z.cells.size]!)).toList∧∀ u∈((Array.range n).map (z.cells[· % z.cells.size]!)).toList,u.oneCell'=true:=by
 have hs:z.cells.size=sz:=by simpa using hz
 have e:((Array.range n).map (z.cells[· % z.cells.size]!)).toList=(List.range n).map fun j=>z.cells.toList.getD (j % sz) Go.undef:=by
  rw [Array.toList_map,Array.toList_range]
  refine List.map_congr_left (fun j _=>?_)
  have hlt:j % sz<z.cells.size:=by rw [hs];exact Nat.mod_lt _ hsz
  rw [hs,List.getD,Array.getElem?_toList,getElem!_pos z.cells (j % sz) hlt,Array.getElem?_eq_getElem hlt]
  rfl
 have hone:∀ j,(z.cells.toList.getD (j % sz) Go.undef).oneCell'=true:=by
  intro j
  have hlt:j % sz<z.cells.toList.length:=by rw [hz];exact Nat.mod_lt _ hsz
  rw [List.getD,List.getElem?_eq_getElem hlt]
  exact h1 _ (List.getElem_mem hlt)
 rw [e]
 refine ⟨Rs.map (fun j _=>d0o (hone j)),fun u hu=>?_⟩
 obtain ⟨j,_,rfl⟩:=List.mem_map.1 hu
 exact hone j
theorem buildSlice_ok (h:HR P w φ X H){ts:List D}{a:Act}(hts:Rs P w φ (Av X φ H) H.length ts a.tmps.toList){T:TypeId}{len:Nat}{ps:Array (Nat × Operand)}{e:Eff}(he:b0x P H T len (ps.toList.map fun p=>(p.1,eval ts p.2))=some e) :
  ∃ v w',(Instr.buildSlice T len (ps.map fun (i,x)=>(i,a.eval x))).run P w = .ok v w'∧Leaves P w φ X H e v w':=by
 unfold b0x at he
 split at he
 ·rename_i E hu
  split at he
  ·rename_i sz by_ z hinf
   obtain ⟨i,zz,hi1,hi2,hi3,hi4,hi5⟩:=b0O hinf
   obtain ⟨hz0,hz1⟩:=e0c hinf
   split at he
   ·rename_i hc
    obtain ⟨hc1,hc2,hc3⟩:=hc
    split at he
    ·rename_i ds hfill
     split at he
     ·rename_i xs us hfr
      injection he with he
      subst he
      rw [←hi5] at hfill hz0 hz1
      obtain ⟨z1,z2⟩:=g0M (P:=P) (w:=w) (φ:=φ) (A:=Av X φ H) (N:=H.length) (n:=len*sz) hz0 hz1 hc1
      obtain ⟨cs,h1,h2,h3⟩:=o0o hts (placeV:=fun i=>some (i*sz,sz)) (fun i q hq=>hq) ps.toList _ ds _ z1 z2 hfill
      have hpos:0<len*sz:=Nat.mul_pos hc2 hc1
      have hrun:=run_buildSlice (P:=P) w T E len (ps.map fun (i,x)=>(i,a.eval x)) cs i zz hu hi1 hi2 (by rw [hi3];omega) (by rw [hi3];omega) (by rw [hi3,←h1];simp)
      refine ⟨_,_,hrun,d0p h hinf ?_ h2 hfr⟩
      have h5:=buildSlice_ok.fill_size ps.toList _ _ () hfill
      have:=h2.1
      simp at this h5
      omega
     ·cases he
    ·cases he
   ·split at he
    ·rename_i hc
     obtain ⟨hc1,hc2,hc3⟩:=hc
     injection he with he
     subst he
     subst hc2
     have hps:ps = #[]:=by
      have:ps.toList=[]:=by simpa using hc3
      exact Array.toList_inj.1 (by simpa using this)
     subst hps
     have hrun:(Instr.buildSlice T 0 ((#[]:Array (Nat × Operand)).map fun (i,x)=>(i,a.eval x))).run P w = .ok (.slice (some ⟨w.heap.size,0,none⟩) 0 0) (w.alloc (.cells #[] E)):=by
      simp [Instr.buildSlice,run_underlying hu,c0D hinf,Instr.fill,newRow]
      rw [show Array.range 0 = #[] from by simp [Array.range]]
      simp
     refine ⟨_,_,hrun,?_⟩
     exact d0p h hinf (cs:=#[]) (ds:=[]) (by simp) Rs.nil rfl
    ·cases he
  ·cases he
 ·cases he
where
 fill_size {placeD:Nat→Option (Nat × Nat)} {ts:List D}:∀ (ps:List (Nat × Operand)) (ds ds':List D) (_:Unit),e0C placeD ds (ps.map fun p=>(p.1,eval ts p.2))=some ds'→ds'.length=ds.length
  | [],ds,ds',_,he=>by simp [e0C] at he;subst he;rfl
  | p :: ps,ds,ds',_,he=>by
   simp only [List.map_cons,e0C] at he
   split at he
   ·cases he
   ·split at he
    ·rename_i hc
     rw [fill_size ps _ ds' () he]
     simp [Mir.splice]
     omega
    ·cases he
theorem q0z (h:HR P w φ X H){T:TypeId}{l c:D}{ul uc:Value}{e:Eff}(hl:R P w φ (Av X φ H) H.length l ul)(hc:R P w φ (Av X φ H) H.length c uc)(he:d0O P H T l c=some e) :
  ∃ v w',(Instr.makeSlice T ul uc).run P w = .ok v w'∧Leaves P w φ X H e v w':=by
 unfold d0O at he
 split at he
 ·rename_i E a b hu
  cases hl with
  | f hl=>cases hl with|v _ =>
  cases hc with
  | f hc=>cases hc with|v _ =>
  split at he
  ·rename_i sz by_ z hinf
   obtain ⟨i,zz,hi1,hi2,hi3,hi4,hi5⟩:=b0O hinf
   obtain ⟨hz0,hz1⟩:=e0c hinf
   split at he
   ·rename_i hcc
    obtain ⟨hac,h0,h1,h2,h3,h4⟩:=hcc
    injection he with he
    subst he
    have hb:b≤16777216:=by
     have:b.toNat≤b.toNat*sz:=Nat.le_mul_of_pos_right _ h4
     omega
    have hrun:=run_makeSlice (P:=P) w T E i zz hu hi1 hi2 .i64 .i64 a b h0 h1 (by rw [hi3];exact h3) (by rw [hi4];omega) (by omega)
    refine ⟨_,_,hrun,?_⟩
    rw [hi3]
    rw [←hi5] at hz0 hz1
    subst hi5
    obtain ⟨z1,z2⟩:=g0M (P:=P) (w:=w) (φ:=φ) (A:=Av X φ H) (N:=H.length) (n:=b.toNat*sz) hz0 hz1 h4
    refine c0h h _ _ _ _ (fun A hA hk=>?_)
    have hblk:(w.alloc (.cells (madeCells zz.cells (b.toNat*sz)) E)).heap[w.heap.size]?=some (.cells (madeCells zz.cells (b.toNat*sz)) E (0,0)):=f0w w _
    have hab:a.toNat*sz≤b.toNat*sz:=Nat.mul_le_mul_right _ (by omega)
    have hmade:(madeCells zz.cells (b.toNat*sz)).toList=((Array.range (b.toNat*sz)).map (zz.cells[· % zz.cells.size]!)).toList:=rfl
    refine ⟨fun _=>⟨[],(madeCells zz.cells (b.toNat*sz)).toList.take (a.toNat*sz),(madeCells zz.cells (b.toNat*sz)).toList.drop (a.toNat*sz),by rw [a0L];simpa using hblk,by rw [a0L];rfl,?_⟩,?_⟩
    ·rw [hmade]
     have h5:=(z1.take (a.toNat*sz)).keep (N':=H.length) hk (fun _ h=>h.elim) hA (fun _ _=>rfl) (Nat.le_refl _)
     refine g1J h5 ?_
     rw [←List.map_take,List.take_range,Nat.min_eq_left hab]
     generalize List.range (a.toNat*sz)=l
     induction l with
     | nil=>rfl
     | cons x l ih=>simp only [List.map_cons,fs?];rw [ih];rfl
    ·by_cases ha0:a=0
     ·subst ha0
      have hb0:b.toNat=0:=by omega
      rw [hb0];exact .sl0 (by simp)
     have:=R.sl (P:=P) (w:=w.alloc (.cells (madeCells zz.cells (b.toNat*sz)) E)) (φ:=ext1 φ H.length (w.heap.size,0)) (A:=A) (N:=H.length+1) (r:=H.length) (off:=0) (n:=a.toNat) (cap:=b.toNat) (i:=i) (by omega) (by omega) (by omega) (by rw [a0L];exact hblk) hi1 (by rw [a0L,hi3];simp [madeCells])
     rw [a0L] at this
     simpa using this
   ·cases he
  ·cases he
 ·cases he
end
end Go.Proofs.YthjgmldnegaaiaaGreatDoor.Mir
namespace Go.Proofs.YthjgmldnegaaiaaGreatDoor.Mir
open Go Go.RowKit
section
variable {P:Program}{w:World}{φ:Nat→Nat × Nat}{X:Nat→Prop}{H:List Row}
theorem g0r (a b:ByteArray):(a==b)=true↔a=b:=by
 rw [beq_toListBytes]
 simp only [beq_iff_eq]
 constructor
 ·intro h
  rw [ByteArray.toList_eq,ByteArray.toList_eq] at h
  obtain ⟨⟨a⟩⟩:=a
  obtain ⟨⟨b⟩⟩:=b
  simp at h
  rw [h]
 ·rintro rfl;rfl
def EsR (P:Program)(w:World)(φ:Nat→Nat × Nat)(A:Nat→Prop)(N:Nat)(ds:List (Value × D))(es:List MapEntry):Prop :=
 es.length=ds.length∧∀ (i:Nat) (k:Value) (d:D) (m:MapEntry),ds[i]?=some (k,d)→es[i]?=some m→m.key=k∧R P w φ A N d m.val∧Free d
theorem f0A {K:TypeId}{key:Value}(h:d0z P K key=true):(∃ a n,P.underlying K=some (.int a)∧key = .int a n)∨(∃ s,P.underlying K=some .string∧key = .string s)∨(∃ b,P.underlying K=some .bool∧key = .bool b):=by
 unfold d0z at h
 split at h
 ·rename_i a b n hu
  simp at h
  exact .inl ⟨a,n,hu,by rw [h]⟩
 ·rename_i s hu;exact .inr (.inl ⟨s,hu,rfl⟩)
 ·rename_i b hu;exact .inr (.inr ⟨b,hu,rfl⟩)
 ·cases h
theorem n0q {K:TypeId}{key:Value}(h:d0z P K key=true)(e:Bool)(n:Nat):(Instr.checkKey e (n+1) K key).run P w = .ok () w:=by
 rcases f0A h with ⟨a,n,hu,rfl⟩|⟨s,hu,rfl⟩|⟨b,hu,rfl⟩<;>simp [Instr.checkKey,run_underlying hu]
theorem b0n {K:TypeId}{key:Value}(h:d0z P K key=true)(e:Bool):(Instr.checkKey e 10000 K key).run P w = .ok () w:=n0q h e 9999
theorem g0X {K:TypeId}{key:Value}(h:d0z P K key=true):∃ kind,P.underlying K=some kind∧∀ x,Instr.sameNow kind key x=d0H key x:=by
 rcases f0A h with ⟨a,n,hu,rfl⟩|⟨s,hu,rfl⟩|⟨b,hu,rfl⟩
 ·exact ⟨_,hu,fun x=>by cases x<;>simp [Instr.sameNow,d0H]⟩
 ·exact ⟨_,hu,fun x=>by cases x<;>simp [Instr.sameNow,d0H]⟩
 ·exact ⟨_,hu,fun x=>by cases x<;>simp [Instr.sameNow,d0H]⟩
theorem x0t {a b:Value}(h:d0H a b=some true):b=a:=by
 cases a<;>cases b<;>simp only [d0H,reduceCtorEq] at h
 ·injection h with h;rw [eq_of_beq h]
 ·split at h
  ·rename_i hk
   injection h with h
   rw [hk,eq_of_beq h]
  ·cases h
 ·injection h with h
  rw [(g0r _ _).1 h]
theorem z0H {a:Value}{t:Bool}(h:d0H a a=some t):t=true:=by
 cases a with
 | string s=>simp only [d0H,Option.some.injEq] at h;rw [←h];exact (g0r s s).2 rfl
 | _=>simp [d0H] at h<;>first|exact h.symm|exact h
theorem i0k {A:Nat→Prop}{N:Nat}{kind:TypeDesc}{key:Value}(hk:∀ x,Instr.sameNow kind key x=d0H key x):∀ (ds:List (Value × D)) (es:List MapEntry) (j:Nat) (o:Option D),EsR P w φ A N ds es→e0k key ds=some o →
  (o=none∧Instr.findNow kind key es j=some none∧(∀ d,putD key d ds=ds++[(key,d)]∧k0u key ds=ds)∧∀ m∈es,m.key≠key) ∨
  (∃ i d m,o=some d∧ds[i]?=some (key,d)∧es[i]?=some m∧m.key=key∧R P w φ A N d m.val∧Instr.findNow kind key es j=some (some (j+i,m.val))∧(∀ d',putD key d' ds=ds.set i (key,d'))∧k0u key ds=ds.eraseIdx i)
 | [],es,j,o,h,hf=>by
  have:es=[]:=List.eq_nil_of_length_eq_zero h.1
  subst this
  simp [e0k] at hf
  exact .inl ⟨hf.symm,rfl,fun d=>⟨rfl,rfl⟩,fun m hm=>by cases hm⟩
 | (x,d) :: ds,es,j,o,h,hf=>by
  cases es with
  | nil=>have:=h.1;simp at this
  | cons m es =>
   obtain ⟨h1,h2,_⟩:=h.2 0 x d m (by simp) (by simp)
   have hr:EsR P w φ A N ds es:=⟨by have:=h.1;simpa using this,fun i k d' m' hd hm=>h.2 (i+1) k d' m' (by simpa using hd) (by simpa using hm)⟩
   simp only [e0k] at hf
   have hs:Instr.sameNow kind key m.key=d0H key x:=by rw [hk,h1]
   split at hf
   ·rename_i ht
    injection hf with hf
    have hx:=x0t ht
    subst hx
    refine .inr ⟨0,d,m,hf.symm,by simp,by simp,h1,h2,?_,?_,?_⟩
    ·unfold Instr.findNow
     rw [hs,ht];simp
    ·intro d';simp [putD,ht]
    ·simp [k0u,ht]
   ·rename_i ht
    rcases i0k hk ds es (j+1) o hr hf with ⟨g1,g2,g3,g9⟩|⟨i,d',m',g1,g2,g3,g4,g5,g6,g7,g8⟩
    ·refine .inl ⟨g1,?_,fun d'=>⟨?_,?_⟩,fun m1 hm1=>?_⟩
     rotate_right
     ·rcases List.mem_cons.1 hm1 with rfl|hm1
      ·rw [h1];rintro rfl;exact absurd (z0H ht) (by decide)
      ·exact g9 m1 hm1
     ·unfold Instr.findNow
      rw [hs,ht];exact g2
     ·simp [putD,ht,(g3 d').1]
     ·simp [k0u,ht,(g3 d').2]
    ·refine .inr ⟨i+1,d',m',g1,by simpa using g2,by simpa using g3,g4,g5,?_,?_,?_⟩
     ·unfold Instr.findNow
      rw [hs,ht]
      simp only [g6]
      rw [show j+1+i=j+(i+1) by omega]
     ·intro d'';simp [putD,ht,g7]
     ·simp [k0u,ht,g8]
   ·cases hf
theorem v0e (h:HR P w φ X H){m:D}{u:Value}{es:List (Value × D)}(hm:R P w φ (Av X φ H) H.length m u)(he:g0S H m=some es) :
  (u = .map none∧es=[])∨∃ r en clock,u = .map (some (φ r).1)∧H[r]?=some (.map es)∧m = .mp r∧w.heap[(φ r).1]?=some (.map en clock)∧EsR P w φ (Av X φ H) H.length es en.toList:=by
 cases hm with
 | f hx =>
  cases hx with
  | v hx =>
   unfold g0S at he
   split at he
   ·rename_i e
    injection e with e
    injection e with e
    injection he with he
    exact .inl ⟨e,he.symm⟩
   ·rename_i e;cases e
   ·cases he
  | _=>simp [g0S] at he
 | mp hr =>
  rename_i r
  simp only [g0S] at he
  split at he
  ·rename_i es' hrow
   injection he with he
   subst he
   obtain ⟨en,clock,h1,_,h2,h3⟩:=h.rows r _ hrow
   exact .inr ⟨r,en,clock,rfl,hrow,rfl,h1,by simpa using h2,fun i k d m hd hm=>h3 i k d m hd (by simpa using hm)⟩
  ·cases he
 | _=>simp [g0S] at he
theorem e1C {A:Nat→Prop}{N:Nat}{T:TypeId}{d:D}(h:z0t P T=some d):∃ v,(zeroValue T).run P w = .ok v w∧R P w φ A N d v:=by
 unfold z0t at h
 split at h
 ·rename_i i hi
  rw [Option.map_eq_some_iff] at h
  obtain ⟨z,hz,rfl⟩:=h
  exact ⟨z,by simp [zeroValue,typeInfo,hi,hz],R.of z⟩
 ·cases h
theorem c0b {b:Nat}{en:Array MapEntry}{clock:Nat}(h:w.heap[b]?=some (.map en clock)):(getObj b).run P w = .ok (.map en clock) w:=by
 simp [getObj,Sem.run,h]
theorem b1G (h:HR P w φ X H){T:TypeId}{m k d:D}{um uk:Value}{ok:Bool}(hm:R P w φ (Av X φ H) H.length m um)(hk:R P w φ (Av X φ H) H.length k uk)(he:g0W P H T m k ok=some d) :
  ∃ v,(Instr.lookup T um uk ok).run P w = .ok v w∧R P w φ (Av X φ H) H.length d v:=by
 unfold g0W at he
 split at he
 ·rename_i K E es key hu hes
  have huk:uk=key:=by cases hk with|f hk=>cases hk with|v hk=>rfl
  subst huk
  split at he
  ·rename_i hko
   obtain ⟨kind,hkind,hsame⟩:=g0X hko
   have hget:∃ en:Array MapEntry,EsR P w φ (Av X φ H) H.length es en.toList∧∀ (r:Option (Nat × Value)),Instr.findNow kind uk en.toList 0=some r→∀ v b,(match r with|some (_,v)=>(.ok (v,true) w:Result (Value × Bool))|none=>((do pure (←zeroValue E,false):Sem (Value × Bool))).run P w) = .ok (v,b) w→(Instr.lookup T um uk ok).run P w = .ok (if ok then .tuple #[v,.bool b] else v) w:=by
    rcases v0e h hm hes with ⟨rfl,rfl⟩|⟨r,en,clock,rfl,_,_,h1,h2⟩
    ·refine ⟨#[],⟨rfl,fun i k d m hd=>by simp at hd⟩,fun r hr v b hv=>?_⟩
     simp [Instr.findNow] at hr
     subst hr
     simp only [Instr.lookup,Sem.run_bind,run_underlying hu,Result.andThen_ok,Sem.run_pure,b0n hko,Instr.findKey,run_underlying hkind,Instr.findNow]
     simp only at hv
     simp only [Sem.run_bind] at hv ⊢
     cases hz:(zeroValue E).run P w with
     | ok z w1 =>
      rw [hz] at hv
      simp at hv
      obtain ⟨⟨rfl,rfl⟩,rfl⟩:=hv
      cases ok<;>simp
     | halt x w1=>rw [hz] at hv;simp at hv
    ·refine ⟨en,h2,fun r' hr v b hv=>?_⟩
     simp only [Instr.lookup,Sem.run_bind,run_underlying hu,Result.andThen_ok,c0b h1,Sem.run_pure,b0n hko,Instr.findKey,run_underlying hkind,hr]
     cases r' with
     | some p =>
      obtain ⟨i,v'⟩:=p
      simp at hv
      obtain ⟨rfl,rfl⟩:=hv
      cases ok<;>simp
     | none =>
      simp only [Sem.run_bind] at hv ⊢
      cases hz:(zeroValue E).run P w with
      | ok z w1 =>
       rw [hz] at hv
       simp at hv
       obtain ⟨⟨rfl,rfl⟩,rfl⟩:=hv
       cases ok<;>simp
      | halt x w1=>rw [hz] at hv;simp at hv
   obtain ⟨en,h1,h2⟩:=hget
   have one_b:∀ b,R P w φ (Av X φ H) H.length (.v (.bool b)) (.bool b):=fun b=>d0o rfl
   have tup:∀ (d:D) (v:Value) (b:Bool),R P w φ (Av X φ H) H.length d v→R P w φ (Av X φ H) H.length (if ok then .tp [d,.bool b] else d) (if ok then .tuple #[v,.bool b] else v):=by
    intro d v b hd
    cases ok
    ·exact hd
    ·refine .tp rfl (fun i d' u hd' hu=>?_)
     have hs:Rs P w φ (Av X φ H) H.length [d,.bool b] [v,.bool b]:=Rs.cons hd (Rs.cons (one_b b) Rs.nil)
     exact hs.2 i d' u hd' (by simpa using hu)
   split at he
   ·rename_i d' hf
    injection he with he
    subst he
    rcases i0k hsame es en.toList 0 _ h1 hf with ⟨g1,_⟩|⟨i,d2,m',g1,_,_,_,g5,g6,_⟩
    ·cases g1
    ·injection g1 with g1
     subst g1
     exact ⟨_,h2 _ g6 m'.val true rfl,tup _ _ _ g5⟩
   ·rename_i z hf hz
    injection he with he
    subst he
    obtain ⟨vz,hvz,hrz⟩:=e1C (P:=P) (w:=w) (φ:=φ) (A:=Av X φ H) (N:=H.length) hz
    rcases i0k hsame es en.toList 0 _ h1 hf with ⟨_,g2,_⟩|⟨i,d2,m',g1,_⟩
    ·exact ⟨_,h2 _ g2 vz false (by simp [hvz]),tup _ _ _ hrz⟩
    ·cases g1
   ·cases he
  ·cases he
 ·cases he
theorem y0C (h:HR P w φ X H){d y:D}{u:Value}{us:List (Nat × Row)}(hd:R P w φ (Av X φ H) H.length d u)(he:e0E P H d=some (y,us)) :
  Froze P w φ X H (a0B H us)∧R P w φ (Av X φ (a0B H us)) H.length y u∧Free y:=by
 have other:b0S P H d=some ((match y with|.f x=>x|_=>.e),us)→(∃ x,y = .f x)→Froze P w φ X H (a0B H us)∧R P w φ (Av X φ (a0B H us)) H.length y u∧Free y:=by
  rintro h1 ⟨x,rfl⟩
  obtain ⟨f,hx⟩:=e0g h hd h1
  exact ⟨f,.f hx,.f⟩
 cases d with
 | ag ds =>
  simp only [e0E] at he
  split at he
  ·rename_i xs us' hf
   injection he with he
   injection he with e1 e2
   subst e1;subst e2
   cases hd with
   | ag hs hr h1 =>
    rename_i vs
    obtain ⟨f,hx⟩:=e0F h (vs:=vs.toList) ⟨by simpa using hs,fun i x y hx hy=>hr i x y hx (by simpa using hy)⟩ hf
    have hfree:Free (.ag (xs.map .f)):=.ag (fun i d hd=>by
     rw [List.getElem?_map] at hd
     cases hxi:xs[i]? with
     | none=>rw [hxi] at hd;simp at hd
     | some x=>rw [hxi] at hd;simp at hd;subst hd;exact .f)
    refine ⟨f,.ag (by have:=hx.1;simpa using this) (fun i d u hd hu=>?_) h1,hfree⟩
    rw [List.getElem?_map] at hd
    cases hxi:xs[i]? with
    | none=>rw [hxi] at hd;simp at hd
    | some x =>
     rw [hxi] at hd
     simp at hd
     subst hd
     exact .f (hx.2 i x u hxi (by simpa using hu))
  ·cases he
 | tp ds=>simp [e0E] at he
 | _ =>
  simp only [e0E] at he
  split at he
  ·rename_i x us' hf
   injection he with he
   injection he with e1 e2
   subst e1;subst e2
   exact other hf ⟨_,rfl⟩
  ·cases he
theorem u0T {b:Nat}{en en':Array MapEntry}{c c':Nat}(h:w.heap[b]?=some (.map en c)):Keep (fun x=>x=b) w { w with heap:=w.heap.setIfInBounds b (.map en' c') }:=by
 refine ⟨by simp,fun x _ hx=>?_,fun x cs T fr hx=>?_,rfl,rfl,rfl⟩
 ·simp only [Array.getElem?_setIfInBounds]
  rw [if_neg (fun e=>hx e.symm)]
 ·by_cases e:b=x
  ·subst e;rw [h] at hx;cases hx
  ·refine ⟨cs,fr,?_,rfl⟩
   simp only [Array.getElem?_setIfInBounds]
   rw [if_neg e];exact hx
theorem t0L {b:Nat}{en en':Array MapEntry}{c c':Nat}(h:w.heap[b]?=some (.map en c)):({ w with heap:=w.heap.setIfInBounds b (.map en' c') }:World).heap[b]?=some (.map en' c'):=by
 have hlt:=a0a h
 simp [hlt]
theorem e0d {b:Nat}{en en':Array MapEntry}{c c':Nat}(h:w.heap[b]?=some (.map en c)):(setObj b (.map en' c')).run P w = .ok () { w with heap:=w.heap.setIfInBounds b (.map en' c') }:=by
 simp [setObj,Sem.run,h]
theorem h0w {H':List Row}(f:Froze P w φ X H H'){r:Nat}{es es':List (Value × D)}{en en':Array MapEntry}{c c':Nat}(hr:H'[r]?=some (.map es))(hb:w.heap[(φ r).1]?=some (.map en c))(hst:MapKept.Stamped en' c')(hes:EsR P w φ (Av X φ H') H'.length es' en'.toList){e:Eff}{v:Value}(heq:e.heap H=H'.set r (.map es'))(hres:∀ (w':World) A,R P w' φ A H.length e.res v) :
  Leaves P w φ X H e v { w with heap:=w.heap.setIfInBounds (φ r).1 (.map en' c') }:=by
 have hk:=u0T (en':=en') (c':=c') hb
 refine d0d (row':=.map es') f hr rfl hk (fun hav=>?_) heq (hres _)
 have hlv:∀ b,b=(φ r).1→Av X φ H' b:=fun b e=>by subst e;exact .inr (b0H hr rfl)
 refine ⟨en',c',t0L hb,hst,by simpa using hes.1,fun i k d m hd hm=>?_⟩
 obtain ⟨h1,h2,h3⟩:=hes.2 i k d m hd (by simpa using hm)
 exact ⟨h1,h2.keep hk hlv hav (fun _ _=>rfl) (Nat.le_refl _),h3⟩
theorem p0O (h:HR P w φ X H){T:TypeId}{m k x:D}{um uk ux:Value}{e:Eff}(hm:R P w φ (Av X φ H) H.length m um)(hk:R P w φ (Av X φ H) H.length k uk)(hx:R P w φ (Av X φ H) H.length x ux)(he:e0D P H T m k x=some e) :
  ∃ w',(Instr.mapUpdate T um uk ux).run P w = .ok () w'∧Leaves P w φ X H e Go.undef w':=by
 unfold e0D at he
 split at he
 ·rename_i K E r key hu
  have huk:uk=key:=by cases hk with|f hk=>cases hk with|v hk=>rfl
  subst huk
  cases hm with|mp hr =>
  split at he
  ·rename_i hko
   obtain ⟨kind,hkind,hsame⟩:=g0X hko
   split at he
   ·rename_i y us hfr
    obtain ⟨f,hy,hfy⟩:=y0C h hx hfr
    split at he
    ·rename_i es hrow
     split at he
     ·rename_i o hfind
      injection he with he
      subst he
      obtain ⟨en,clock,h1,h0,h2,h3⟩:=f.ok.rows r _ hrow
      have hes:EsR P w φ (Av X φ (a0B H us)) (a0B H us).length es en.toList:=⟨by simpa using h2,fun i k d m hd hm=>h3 i k d m hd (by simpa using hm)⟩
      have hyN:R P w φ (Av X φ (a0B H us)) (a0B H us).length y ux:=by rw [f.len];exact hy
      rcases i0k hsame es en.toList 0 _ hes hfind with ⟨_,g2,g3,g9⟩|⟨i,d2,m',_,g2,g3,g4,g5,g6,g7,_⟩
      ·have hrun:(Instr.mapUpdate T (.map (some (φ r).1)) uk ux).run P w = .ok () { w with heap:=w.heap.setIfInBounds (φ r).1 (.map (en.push { key:=uk,val:=ux,born:=clock }) (clock+1)) }:=by
        simp only [Instr.mapUpdate,Sem.run_bind,run_underlying hu,Result.andThen_ok,c0b h1,b0n hko,Instr.findKey,run_underlying hkind,g2,Sem.run_pure]
        exact e0d h1
       refine ⟨_,hrun,?_⟩
       refine h0w (es':=putD uk y es) f hrow h1 (MapKept.stamped_push h0 g9) ?_ (by simp [Eff.heap,b0D,a0B]) (fun _ _=>R.undef)
       rw [(g3 y).1]
       refine ⟨by simp [hes.1],fun i k d m hd hm=>?_⟩
       rw [Array.toList_push] at hm
       by_cases hi:i<es.length
       ·rw [List.getElem?_append_left hi] at hd
        rw [List.getElem?_append_left (by rw [hes.1];exact hi)] at hm
        exact hes.2 i k d m hd hm
       ·rw [List.getElem?_append_right (by omega)] at hd
        rw [List.getElem?_append_right (by rw [hes.1];omega),hes.1] at hm
        have hi0:i-es.length=0:=by
         have:=(List.getElem?_eq_some_iff.1 hd).1
         simp at this;omega
        rw [hi0] at hd hm
        simp at hd hm
        obtain ⟨rfl,rfl⟩:=hd
        subst hm
        exact ⟨rfl,hyN,hfy⟩
      ·have hi:i<en.size:=by
        have:=(List.getElem?_eq_some_iff.1 g3).1
        simpa using this
       have hge:en[i]?=some m':=by simpa using g3
       have hstay:(Instr.keyThatStays m'.key uk).run P w = .ok uk w:=by
        rw [g4]
        unfold Instr.keyThatStays
        rcases f0A hko with ⟨a,n,_,rfl⟩|⟨s,_,rfl⟩|⟨b,_,rfl⟩<;>simp [Instr.sameBits,(g0r _ _).2]
       have hrun:(Instr.mapUpdate T (.map (some (φ r).1)) uk ux).run P w = .ok () { w with heap:=w.heap.setIfInBounds (φ r).1 (.map (en.modify i fun e=>{ e with key:=uk,val:=ux }) clock) }:=by
        simp only [Nat.zero_add] at g6
        simp only [Instr.mapUpdate,Sem.run_bind,run_underlying hu,Result.andThen_ok,c0b h1,b0n hko,Instr.findKey,run_underlying hkind,g6,Sem.run_pure,hge,Option.map_some,Option.getD_some,hstay]
        exact e0d h1
       refine ⟨_,hrun,?_⟩
       have hst2:MapKept.Stamped (en.modify i fun e=>{ e with key:=uk,val:=ux }) clock:=MapKept.stamped_modify h0 i _ (fun _ _=>rfl) (fun q _ hq=>by
        have e:m'=q:=by rw [hge] at hq;injection hq
        subst e
        exact g4.symm)
       refine h0w (es':=putD uk y es) f hrow h1 hst2 ?_ (by simp [Eff.heap,b0D,a0B]) (fun _ _=>R.undef)
       rw [g7 y]
       refine ⟨by simp [hes.1],fun j k d m hd hm=>?_⟩
       have hm':(en.modify i fun e=>{ e with key:=uk,val:=ux })[j]?=some m:=by rw [←Array.getElem?_toList];exact hm
       rw [Array.getElem?_modify] at hm'
       by_cases hij:i=j
       ·subst hij
        rw [if_pos rfl,hge] at hm'
        simp at hm'
        rw [List.getElem?_set_self (List.getElem?_eq_some_iff.1 g2).1] at hd
        simp at hd
        obtain ⟨rfl,rfl⟩:=hd
        subst hm'
        exact ⟨rfl,hyN,hfy⟩
       ·rw [if_neg hij] at hm'
        rw [List.getElem?_set_ne hij] at hd
        exact hes.2 j k d m hd (by simpa using hm')
     ·cases he
    ·cases he
   ·cases he
  ·cases he
 ·cases he
theorem p0b (h:HR P w φ X H){t u ty:TypeId}{m k:D}{um uk:Value}{e:Eff}(hm:R P w φ (Av X φ H) H.length m um)(hk:R P w φ (Av X φ H) H.length k uk)(he:g0Q P H t m k=some e) :
  ∃ v w',(Builtin.delete_ #[t,u] ty #[um,uk]).run P w = .ok v w'∧Leaves P w φ X H e v w':=by
 unfold g0Q at he
 split at he
 ·rename_i K E r key hu
  have huk:uk=key:=by cases hk with|f hk=>cases hk with|v hk=>rfl
  subst huk
  cases hm with|mp hr =>
  split at he
  ·rename_i hko
   obtain ⟨kind,hkind,hsame⟩:=g0X hko
   split at he
   ·rename_i es hrow
    split at he
    ·rename_i o hfind
     injection he with he
     subst he
     obtain ⟨en,clock,h1,h0,h2,h3⟩:=h.rows r _ hrow
     have hes:EsR P w φ (Av X φ H) H.length es en.toList:=⟨by simpa using h2,fun i k d m hd hm=>h3 i k d m hd (by simpa using hm)⟩
     have htp:∀ (w':World) A,R P w' φ A H.length (.tp []) (.tuple #[]):=fun w' A=>.tp rfl (fun i d u hd=>by simp at hd)
     rcases i0k hsame es en.toList 0 _ hes hfind with ⟨_,g2,g3,g9⟩|⟨i,d2,m',_,g2,g3,g4,g5,g6,_,g8⟩
     ·have hrun:(Builtin.delete_ #[t,u] ty #[.map (some (φ r).1),uk]).run P w = .ok (.tuple #[]) { w with heap:=w.heap.setIfInBounds (φ r).1 (.map en clock) }:=by
       simp [Builtin.delete_,run_underlying hu,c0b h1,b0n hko,Instr.findKey,run_underlying hkind,g2,e0d h1]
      refine ⟨_,_,hrun,?_⟩
      refine h0w (es':=k0u uk es) (Froze.refl h) hrow h1 h0 ?_ (by simp [Eff.heap,a0B]) htp
      rw [(g3 .junk).2]
      exact hes
     ·have hrun:(Builtin.delete_ #[t,u] ty #[.map (some (φ r).1),uk]).run P w = .ok (.tuple #[]) { w with heap:=w.heap.setIfInBounds (φ r).1 (.map (en.eraseIdxIfInBounds i) clock) }:=by
       simp only [Nat.zero_add] at g6
       simp [Builtin.delete_,run_underlying hu,c0b h1,b0n hko,Instr.findKey,run_underlying hkind,g6,e0d h1]
      refine ⟨_,_,hrun,?_⟩
      refine h0w (es':=k0u uk es) (Froze.refl h) hrow h1 (MapKept.stamped_erase h0 i) ?_ (by simp [Eff.heap,a0B]) htp
      rw [g8]
      have hi:i<en.size:=by
       have:=(List.getElem?_eq_some_iff.1 g3).1
       simpa using this
      have e1:(en.eraseIdxIfInBounds i).toList=en.toList.eraseIdx i:=by
       simp [Array.eraseIdxIfInBounds,hi]
      rw [e1]
      have hi2:i<es.length:=by rw [←hes.1];simpa using hi
      refine ⟨by rw [List.length_eraseIdx,List.length_eraseIdx,hes.1],fun j k d m hd hm=>?_⟩
      rw [List.getElem?_eraseIdx] at hd hm
      split at hd
      ·rename_i hj
       rw [if_pos hj] at hm
       exact hes.2 j k d m hd hm
      ·rename_i hj
       rw [if_neg hj] at hm
       exact hes.2 (j+1) k d m hd hm
    ·cases he
   ·cases he
  ·cases he
 ·cases he
theorem w0g (h:HR P w φ X H){t ty:TypeId}{x:D}{ux:Value}{e:Eff}(hx:R P w φ (Av X φ H) H.length x ux)(he:h0f P H t x=some e) :
  ∃ v w',(Builtin.clear_ #[t] ty #[ux]).run P w = .ok v w'∧Leaves P w φ X H e v w':=by
 have htp:∀ (w':World) A,R P w' φ A H.length (.tp []) (.tuple #[]):=fun w' A=>.tp rfl (fun i d u hd=>by simp at hd)
 unfold h0f at he
 split at he
 ·rename_i u hu
  injection he with he
  subst he
  cases hx with|f hx=>cases hx with|v _ =>
  exact ⟨.tuple #[],w,by simp [Builtin.clear_,run_underlying hu],Leaves.quiet h (htp _ _)⟩
 ·rename_i E r off n hu
  split at he
  ·rename_i hn0
   injection he with he
   subst he
   subst hn0
   cases hx with
   | sl=>exact ⟨.tuple #[],w,by simp [Builtin.clear_,run_underlying hu],Leaves.quiet h (htp _ _)⟩
   | @sl0 _ _ a _=>cases a<;>exact ⟨.tuple #[],w,by simp [Builtin.clear_,run_underlying hu],Leaves.quiet h (htp _ _)⟩
  ·rename_i hn0
   split at he
   ·rename_i U xs sz b z hrow hinf
    split at he
    ·rename_i hc
     obtain ⟨hc1,hc2⟩:=hc
     injection he with he
     subst he
     cases hx with
     | sl0 _=>exact absurd rfl hn0
     | sl hp hr hn hb hi hcap =>
      rename_i cap cs T fr i0
      have hne:xs≠[]:=fun e=>by
       have:0<n*sz:=Nat.mul_pos hp hc2
       subst e
       simp at hc1
       omega
      obtain ⟨pre,vs,post,h1,h2,h3⟩:=h.rows r _ hrow hne
      obtain ⟨i,zz,hi1,hi2,hi3,hi4,hi5⟩:=b0O hinf
      obtain ⟨hz0,hz1⟩:=e0c hinf
      rw [←hi5] at hz0 hz1
      subst hi5
      obtain ⟨z1,z2⟩:=g0M (P:=P) (w:=w) (φ:=φ) (A:=Av X φ H) (N:=H.length) (n:=n*sz) hz0 hz1 hc2
      have hzs:zz.cells.size=sz:=by simpa using hz0
      have hzc:(Builtin.zeroCells zz.cells n).toList=((Array.range (n*sz)).map (zz.cells[· % zz.cells.size]!)).toList:=by
       unfold Builtin.zeroCells;rw [hzs]
      rw [←hzc] at z1 z2
      have hl5:(Builtin.zeroCells zz.cells n).toList.length=n*sz:=by rw [hzc];simp
      have hvl:=h3.1
      have hst:=run_storeCells_at P (φ r).1 ((φ r).2+off) U (Builtin.zeroCells zz.cells n).toList 0 _ w h1 (by rw [hl5,←h2];simp;omega) z2
      have hrun:(Builtin.clear_ #[t] ty #[.slice (some ⟨(φ r).1,(φ r).2+off,none⟩) n cap]).run P w = .ok (.tuple #[]) (w.setRow (φ r).1 ((pre++vs++post).take ((φ r).2+off)++(Builtin.zeroCells zz.cells n).toList++(pre++vs++post).drop ((φ r).2+off+(Builtin.zeroCells zz.cells n).toList.length)).toArray):=by
       obtain ⟨n',rfl⟩:∃ n',n=n'+1:=⟨n-1,by omega⟩
       have hzv:(zeroValue E).run P w = .ok zz w:=by simp [zeroValue,typeInfo,hi1,hi2]
       simp only [Nat.add_zero] at hst
       simp only [List.append_assoc] at hst ⊢
       simp [Builtin.clear_,run_underlying hu,hzv,hst]
      have hnew:(pre++vs++post).take ((φ r).2+off)++(Builtin.zeroCells zz.cells n).toList++(pre++vs++post).drop ((φ r).2+off+(Builtin.zeroCells zz.cells n).toList.length)=pre++(vs.take off++(Builtin.zeroCells zz.cells n).toList++vs.drop (off+(Builtin.zeroCells zz.cells n).toList.length))++post:=by
       rw [←h2,hl5,List.append_assoc pre,List.take_length_add_append,List.take_append_of_le_length (by omega),Nat.add_assoc,List.drop_length_add_append,List.drop_append_of_le_length (by omega)]
       simp
      refine ⟨_,_,hrun,?_⟩
      rw [hnew]
      have hk:Keep (fun b=>b=(φ r).1) w (w.setRow (φ r).1 (pre++(vs.take off++(Builtin.zeroCells zz.cells n).toList++vs.drop (off+(Builtin.zeroCells zz.cells n).toList.length))++post).toArray):=b0l h1 (by simp [hl5];omega)
      refine d0d (row':=.data U (splice xs off ((List.range (n*sz)).map fun j=>F.v (zz.cells.toList.getD (j % sz) Go.undef)))) (Froze.refl h) hrow (a0j hne) hk (fun hav=>?_) (by simp [Eff.heap,a0B]) (fun A=>htp _ _)
      have hlv:∀ b,b=(φ r).1→Av X φ H b:=fun b e=>by subst e;exact .inr (b0H hrow (a0j hne))
      have z3:RFs w (Av X φ H) ((List.range (n*sz)).map fun j=>F.v (zz.cells.toList.getD (j % sz) Go.undef)) (Builtin.zeroCells zz.cells n).toList:=by
       refine g1J z1 ?_
       generalize List.range (n*sz)=l
       induction l with
       | nil=>rfl
       | cons x l ih=>simp only [List.map_cons,fs?];rw [ih];rfl
      refine fun _=>⟨pre,_,post,setRow_heap w _ _ _ _ _ h1,h2,?_⟩
      have a1:=h3.keep hk hlv hav
      have a2:=z3.keep hk hlv hav
      have a3:=((a1.take off).append a2).append (a1.drop (off+(Builtin.zeroCells zz.cells n).toList.length))
      have e0:splice xs off ((List.range (n*sz)).map fun j=>F.v (zz.cells.toList.getD (j % sz) Go.undef))=xs.take off++((List.range (n*sz)).map fun j=>F.v (zz.cells.toList.getD (j % sz) Go.undef))++xs.drop (off+(Builtin.zeroCells zz.cells n).toList.length):=by unfold Mir.splice;rw [←z3.1]
      rw [e0] at a3 ⊢
      exact a3
    ·cases he
   ·cases he
 ·cases he
end
end Go.Proofs.YthjgmldnegaaiaaGreatDoor.Mir
