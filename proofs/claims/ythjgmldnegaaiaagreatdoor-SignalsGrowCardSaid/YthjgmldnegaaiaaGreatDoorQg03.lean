/- Lemmas for the proof. No condition. -/
import Derived.Test.YthjgmldnegaaiaaGreatDoorQg02
import Derived.Orders
set_option linter.unusedVariables false
set_option linter.unusedSimpArgs false
namespace Go.Proofs.YthjgmldnegaaiaaGreatDoor.Mir
open Go Go.RowKit
section
variable {P:Program}{w:World}{φ:Nat→Nat × Nat}{X:Nat→Prop}{H:List Row}
theorem m0o {A:Nat→Prop}{N:Nat}:∀ {cs:List D} {us:List Value} {l:List UInt8},Rs P w φ A N cs us→bytesOf? cs=some l→∃ ns:List Int,us=ns.map (Value.int .u8)∧l=ns.map fun n=>UInt8.ofNat n.toNat
 | [],us,l,h,hb=>by
  have:us=[]:=List.eq_nil_of_length_eq_zero h.1
  subst this
  simp [bytesOf?] at hb
  exact ⟨[],rfl,hb⟩
 | d :: cs,us,l,h,hb=>by
  cases us with
  | nil=>have:=h.1;simp at this
  | cons u us =>
   unfold bytesOf? at hb
   split at hb
   ·rename_i e;cases e
   ·rename_i n ds e
    injection e with e1 e2
    subst e1;subst e2
    rw [Option.map_eq_some_iff] at hb
    obtain ⟨l',hl',rfl⟩:=hb
    obtain ⟨ns,h1,h2⟩:=m0o (us:=us) (l:=l') ⟨by have:=h.1;simpa using this,fun i x y hx hy=>h.2 (i+1) x y (by simpa using hx) (by simpa using hy)⟩ hl'
    have h0:=h.2 0 (.f (.v (.int .u8 n))) u (by simp) (by simp)
    cases h0 with
    | f h0=>cases h0 with|v _=>exact ⟨n :: ns,by rw [h1];rfl,by rw [h2];rfl⟩
   ·cases hb
theorem m0F:∀ (ns:List Int) (r:ByteArray),ns.foldl (fun r n=>r.push (UInt8.ofNat n.toNat)) r=⟨r.data++(ns.map fun n=>UInt8.ofNat n.toNat).toArray⟩
 | [],r=>by simp
 | n :: ns,r=>by
  rw [List.foldl_cons,m0F ns]
  congr 1
  simp [ByteArray.push]
theorem k0r {b n:Nat}{cs:Array Value}{T:TypeId}{fr:Nat × Nat}(h:w.heap[b]?=some (.cells cs T fr)):∃ fr',(w.freeze ⟨b,n,none⟩ 1).heap[b]?=some (.cells cs T fr'):=by
 obtain ⟨lo,hi⟩:=fr
 refine ⟨if lo==hi then (n,n+1) else (min lo n,max hi (n+1)),?_⟩
 simp only [World.freeze]
 rw [if_neg (by omega),Array.getElem?_modify,if_pos rfl,h]
 rfl
theorem u0B {b n:Nat}{cs:Array Value}{T:TypeId}{fr:Nat × Nat}(h:w.heap[b]?=some (.cells cs T fr)):Keep (fun x=>x=b) w (w.freeze ⟨b,n,none⟩ 1):=by
 obtain ⟨f,e⟩:∃ f,w.freeze ⟨b,n,none⟩ 1={ w with heap:=w.heap.modify b f }:=⟨_,by
  unfold World.freeze
  rw [if_neg (by omega)]⟩
 refine ⟨by rw [e];simp,fun x _ hx=>?_,fun x cs' T' fr' hx=>?_,by rw [e],by rw [e],by rw [e]⟩
 ·rw [e]
  simp only [Array.getElem?_modify]
  rw [if_neg (fun e=>hx e.symm)]
 ·by_cases ex:x=b
  ·subst ex
   rw [h] at hx
   injection hx with hx
   injection hx with e1 e2 e3
   subst e1;subst e2
   obtain ⟨fr2,h2⟩:=k0r (n:=n) h
   exact ⟨cs,fr2,h2,rfl⟩
  ·refine ⟨cs',fr',?_,rfl⟩
   rw [e]
   simp only [Array.getElem?_modify]
   rw [if_neg (fun e=>ex e.symm)];exact hx
theorem h0r (h:HR P w φ X H){src dst E0 E:TypeId}(hs:P.underlying src=some (.slice E0))(hd:P.underlying dst=some (.slice E))(hsd:(src==dst)=true)(hE:P.underlying E=some (.int .u8)){r off n:Nat}{ux:Value}(hx:R P w φ (Av X φ H) H.length (.sl r off n) ux){xs:List F}(hrow:H[r]?=some (.data E xs))(hn:0<n)(hle:off+n≤xs.length) :
  ∃ v w',(convert src dst ux).run P w = .ok v w'∧Leaves P w φ X H ⟨.f (.s ((xs.drop off).take n) n),[(r,.froz E xs)],[]⟩ v w':=by
 have hne:xs≠[]:=fun e=>by subst e;simp at hle;omega
 obtain ⟨pre,us,post,h1,h2,h3⟩:=h.rows r _ hrow hne
 cases hx with
 | sl0 hr=>omega
 | @sl _ _ _ cap cs0 T0 fr0 i0 hp hr hnc hbk hi hc =>
  have hsh:w.shape? (φ r).1=some (E,(pre++us++post).toArray.size):=by unfold World.shape?;rw [h1]
  have hrun:(convert src dst (.slice (some ⟨(φ r).1,(φ r).2+off,none⟩) n cap)).run P w = .ok (.slice (some ⟨(φ r).1,(φ r).2+off,none⟩) n cap) (w.freeze ⟨(φ r).1,(pre++us++post).toArray.size,none⟩ 1):=by
   have hsd':src=dst:=by simpa using hsd
   subst hsd'
   rw [hs] at hd
   injection hd with hd
   injection hd with hd
   subst hd
   simp only [convert,Sem.run_bind,run_underlying hs,Result.andThen_ok,run_underlying hE,beq_self_eq_true,markStringish]
   simp [hsh]
  refine ⟨_,_,hrun,?_⟩
  obtain ⟨fr',hb'⟩:=k0r (n:=(pre++us++post).toArray.size) h1
  have hk:=u0B (n:=(pre++us++post).toArray.size) h1
  obtain ⟨f1,f2,f3,f4⟩:=h.freeze hrow hne
  have hlv:∀ b,b=(φ r).1→Av X φ H b:=fun b e=>by subst e;exact .inr (b0H hrow (a0j hne))
  obtain ⟨g1,g2,g3⟩:=h.turn (row':=.froz E xs) hrow (hk.mono (fun b _ e=>⟨a0j hne,e⟩)) (by simp [Row.live]) (fun hav=>⟨f3,pre,us,post,fr',hb',h2,h3.keep hk hlv hav⟩)
  refine ⟨φ,fun _ _=>rfl,by simpa [Eff.heap,a0B] using g1,?_,hk.mono (fun b _ e=>by subst e;exact b0H hrow (a0j hne)),by simpa [Eff.heap,a0B] using g2⟩
  have h4:=h3.keep hk hlv g3
  have:RF (w.freeze ⟨(φ r).1,(pre++us++post).toArray.size,none⟩ 1) (Av X φ (H.set r (.froz E xs))) (.s ((xs.drop off).take n) n) (.slice (some ⟨(φ r).1,(φ r).2+off,none⟩) n cap):=by
   refine .s ((us.drop off).take n) hnc (by simp [h3.1]) (fun j u hu=>⟨?_,f3⟩) (fun j x u hx hu=>((h4.drop off).take n).2 j x u hx hu)
   rw [add_lit,g0l hb',←h2]
   have hj:j<n:=by
    have:=(List.getElem?_eq_some_iff.1 hu).1
    simp at this;omega
   rw [List.getElem?_take,if_pos hj,List.getElem?_drop] at hu
   have hlt:off+j<us.length:=(List.getElem?_eq_some_iff.1 hu).1
   simp only [List.getElem?_toArray]
   rw [List.append_assoc,List.getElem?_append_right (by omega),List.getElem?_append_left (by omega),show pre.length+off+j-pre.length=off+j by omega]
   exact hu
  simpa [Eff.heap,a0B] using (R.f this:R P _ φ _ H.length _ _)
theorem g0f (h:HR P w φ X H){src dst:TypeId}{x:D}{ux:Value}{e:Eff}(hx:R P w φ (Av X φ H) H.length x ux)(he:c0z P H src dst x=some e) :
  ∃ v w',(convert src dst ux).run P w = .ok v w'∧Leaves P w φ X H e v w':=by
 unfold c0z at he
 split at he
 ·rename_i E hs hd
  split at he
  ·rename_i s hE
   split at he
   ·rename_i hsz
    injection he with he
    subst he
    cases hx with|f hx=>cases hx with|v _ =>
    have hrun:=run_bytes_of_string (P:=P) w src dst E s hs hd hE
    refine ⟨_,_,hrun,?_⟩
    have hge:=grownCap_ge w s.size 0 E
    have hk:Keep (fun _=>False) w (w.drew.alloc (.cells (bytesRow s (grownCap w s.size 0 E)) E ((bytesRow s (grownCap w s.size 0 E)).size,(bytesRow s (grownCap w s.size 0 E)).size+1))):=e0a w _
    obtain ⟨h1,h2,h3⟩:=h.step (H':=H) (φ':=φ) (fun _=>False) hk (fun _ h=>h.elim) (Nat.le_refl _) (fun _ _=>rfl) (fun r x hx hl=>.inr (b0H hx hl)) (fun r x hx=>.inl ⟨hx,fun _ h=>h⟩) h.apart
    refine ⟨φ,fun _ _=>rfl,by simpa [Eff.heap,a0B] using h1,?_,hk.mono (fun _ _ h=>h.elim),by simpa [Eff.heap,a0B] using h2⟩
    have hfresh:¬ Av X φ H w.heap.size:=by
     rintro (hx|hx)
     ·have:=h.old _ hx;omega
     ·have:=h.live_lt hx;omega
    have:RF (w.drew.alloc (.cells (bytesRow s (grownCap w s.size 0 E)) E ((bytesRow s (grownCap w s.size 0 E)).size,(bytesRow s (grownCap w s.size 0 E)).size+1))) (Av X φ H) (.s (s.data.toList.map fun b=>.v (.int .u8 b.toNat)) s.size) (.slice (some ⟨w.heap.size,0,none⟩) s.size (grownCap w s.size 0 E)):=by
     refine .s (s.data.toList.map fun b=>.int .u8 b.toNat) hge (by simp) (fun i u hu=>⟨?_,hfresh⟩) (fun i x u hx hu=>?_)
     ·rw [add_lit,Nat.zero_add]
      have hb:(w.drew.alloc (.cells (bytesRow s (grownCap w s.size 0 E)) E ((bytesRow s (grownCap w s.size 0 E)).size,(bytesRow s (grownCap w s.size 0 E)).size+1))).heap[w.heap.size]?=some (.cells (bytesRow s (grownCap w s.size 0 E)) E ((bytesRow s (grownCap w s.size 0 E)).size,(bytesRow s (grownCap w s.size 0 E)).size+1)):=heap_alloc_new w.drew _
      rw [g0l hb]
      have hi:i<s.data.toList.length:=by
       have:=(List.getElem?_eq_some_iff.1 hu).1
       simpa using this
      unfold bytesRow
      rw [Array.getElem?_append_left (by simpa using hi)]
      simpa using hu
     ·rw [List.getElem?_map] at hx hu
      cases hb:s.data.toList[i]? with
      | none=>rw [hb] at hx;simp at hx
      | some b =>
       rw [hb] at hx hu
       simp at hx hu
       subst hx;subst hu
       exact .v rfl
    simpa [Eff.heap,a0B] using (R.f this:R P _ φ (Av X φ H) H.length _ _)
   ·cases he
  ·cases he
 ·rename_i E0 E hs hd
  split at he
  ·rename_i r off n hsd hE
   split at he
   ·rename_i U xs by_ z hrow hinf
    split at he
    ·rename_i hc
     obtain ⟨rfl,hc2,hc3⟩:=hc
     injection he with he
     subst he
     exact h0r h hs hd hsd hE hx hrow hc2 hc3
    ·cases he
   ·cases he
  ·cases he
 ·rename_i E hs hd
  split at he
  ·rename_i by_ z m cs hE hinf hel
   split at he
   ·rename_i l hl
    split at he
    ·rename_i hlen
     injection he with he
     subst he
     obtain ⟨a,c,rfl,hmc,hcr⟩:=v0G h hx hel
     have hrun:(convert src dst (.slice a m c)).run P w = .ok (.string ⟨l.toArray⟩) w:=by
      rw [run_convert_bytes_string w src dst E a m c hs hE hd]
      rcases hcr with rfl|⟨ad,rfl,hcr⟩
      ·have hcs:cs=[]:=List.eq_nil_of_length_eq_zero hlen
       subst hcs
       simp [bytesOf?] at hl
       subst hl
       cases a with
       | none=>rfl
       | some ad =>
        have:=run_bytesToString (P:=P) w ad 0 c [] (by simpa using run_loadCells_list (P:=P) w ad [] (by simp))
        simp at this
        exact this
      ·obtain ⟨us,h1,h2,h3⟩:=hcr.list
       obtain ⟨ns,rfl,rfl⟩:=m0o h1 hl
       have hlc:=run_loadCells_list (P:=P) w ad (ns.map (Value.int .u8)) h2
       have hml:(ns.map (Value.int .u8)).length=m:=by rw [h1.1,hlen]
       rw [hml] at hlc
       rw [run_bytesToString (P:=P) w ad m c ns hlc,m0F]
       simp
     exact ⟨_,_,hrun,Leaves.quiet h (d0o rfl)⟩
    ·cases he
   ·cases he
  ·cases he
 ·cases he
theorem u0H {A:Nat→Prop}{N:Nat}{x:D}{u:Value}{n:Nat}(hx:R P w φ A N x u)(hn:c0G x=some n):∃ a c,u = .slice a n c∧n≤c:=by
 cases hx with
 | f hx =>
  cases hx with
  | v hv =>
   unfold c0G at hn
   split at hn
   ·rename_i e;injection e with e;injection e with e;subst e;injection hn with hn;subst hn;exact ⟨_,_,rfl,Nat.le_refl _⟩
   ·rename_i e;injection e with e;cases e
   ·rename_i e;injection e with e;cases e
   ·rename_i e;cases e
   ·cases hn
  | s cs h0 _ _ _=>simp [c0G] at hn;subst hn;exact ⟨_,_,rfl,h0⟩
  | s0=>simp [c0G] at hn;subst hn;exact ⟨_,_,rfl,Nat.le_refl _⟩
  | e=>simp [c0G] at hn;subst hn;exact ⟨_,_,rfl,Nat.le_refl _⟩
 | sl p a b c dd e=>simp [c0G] at hn;subst hn;exact ⟨_,_,rfl,b⟩
 | sl0 a=>simp [c0G] at hn;subst hn;exact ⟨_,_,rfl,Nat.le_refl _⟩
 | _=>simp [c0G] at hn
theorem f1F (h:HR P w φ X H){t ty:TypeId}{x:D}{ux:Value}{n:Nat}(hx:R P w φ (Av X φ H) H.length x ux)(he:lenD P H t x=some n):(Builtin.len_ #[t] ty #[ux]).run P w = .ok (goInt n) w:=by
 unfold lenD at he
 split at he
 ·rename_i E hu
  obtain ⟨a,c,rfl,_⟩:=u0H hx he
  simp [Builtin.len_,run_underlying hu]
 ·rename_i K E hu
  rw [Option.map_eq_some_iff] at he
  obtain ⟨es,hes,rfl⟩:=he
  rcases v0e h hx hes with ⟨rfl,rfl⟩|⟨r,en,clock,rfl,_,_,h1,h2⟩
  ·simp [Builtin.len_,run_underlying hu]
  ·have h3:en.size=es.length:=by simpa using h2.1
   simp [Builtin.len_,run_underlying hu,c0b h1,h3]
 ·cases he
theorem u0w {A:Nat→Prop}{N:Nat}{x:D}{u:Value}{i:Nat}{b:Bool}(hx:R P w φ A N x u)(h:c0M x=some (i,b)) :
  (i=0∧∃ a l c,u = .slice a l c∧a.isNone=b∧(b=true→l=0∧c=0))∨(i=1∧∃ a,u = .pointer a∧a.isNone=b)∨(i=2∧∃ r,u = .map r∧r.isNone=b):=by
 cases hx with
 | f hx =>
  cases hx with
  | v hv =>
   unfold c0M at h
   split at h
   ·rename_i e;injection e with e;injection e with e;subst e;injection h with h;injection h with h1 h2;subst h1;subst h2;exact .inl ⟨rfl,_,_,_,rfl,rfl,fun _=>⟨rfl,rfl⟩⟩
   ·rename_i e;injection e with e;injection e with e;subst e;injection h with h;injection h with h1 h2;subst h1;subst h2;exact .inr (.inl ⟨rfl,_,rfl,rfl⟩)
   ·rename_i e;injection e with e;injection e with e;subst e;injection h with h;injection h with h1 h2;subst h1;subst h2;exact .inr (.inr ⟨rfl,_,rfl,rfl⟩)
   ·rename_i e;injection e with e;cases e
   ·rename_i e;cases e
   ·rename_i e;cases e
   ·rename_i e;cases e
   ·rename_i e;cases e
   ·cases h
  | @s xs n cap a cs h0 _ _ _ =>
   cases n with
   | zero=>simp [c0M] at h
   | succ n=>simp [c0M] at h;obtain ⟨rfl,rfl⟩:=h;exact .inl ⟨rfl,_,_,_,rfl,rfl,by simp⟩
  | s0=>simp [c0M] at h
  | e=>simp [c0M] at h
 | @sl r off n _ _ _ _ _ p a b' c dd e =>
  obtain ⟨n,rfl⟩:∃ m,n=m+1:=⟨n-1,by omega⟩
  simp [c0M] at h;obtain ⟨rfl,rfl⟩:=h;exact .inl ⟨rfl,_,_,_,rfl,rfl,by simp⟩
 | sl0 a=>simp [c0M] at h
 | pt a=>simp [c0M] at h;obtain ⟨rfl,rfl⟩:=h;exact .inr (.inl ⟨rfl,_,rfl,rfl⟩)
 | rf cs a b' c=>simp [c0M] at h;obtain ⟨rfl,rfl⟩:=h;exact .inr (.inl ⟨rfl,_,rfl,rfl⟩)
 | mp a=>simp [c0M] at h;obtain ⟨rfl,rfl⟩:=h;exact .inr (.inr ⟨rfl,_,rfl,rfl⟩)
 | _=>simp [c0M] at h
theorem i0e {T:TypeId}{A:Nat→Prop}{N:Nat}{x y:D}{u v:Value}{b:Bool}(hx:R P w φ A N x u)(hy:R P w φ A N y v)(h:p0B P T x y=some b) :
  (Op.equal T u v).run P w = .ok b w∧(∀ op xo yo,(eqGuard op T xo yo u v).run P w = .ok () w)∧binOp .eql T u v=(do pure (.bool (←Op.equal T u v)))∧binOp .neq T u v=(do pure (.bool (!(←Op.equal T u v)))):=by
 unfold p0B at h
 split at h
 ·rename_i k i a j b' hk hi hj
  split at h
  ·rename_i hc
   obtain ⟨rfl,rfl,hab⟩:=hc
   injection h with h
   subst h
   have key:∀ (n:Nat),(Op.equalIn (n+1) T u v).run P w = .ok (a&&b') w∧(∀ op xo yo,(eqGuard op T xo yo u v).run P w = .ok () w)∧binOp .eql T u v=(do pure (.bool (←Op.equal T u v)))∧binOp .neq T u v=(do pure (.bool (!(←Op.equal T u v)))):=by
    intro n
    rcases u0w hx hi with ⟨rfl,a1,l1,c1,rfl,h1,g1⟩|⟨rfl,a1,rfl,h1⟩|⟨rfl,a1,rfl,h1⟩ <;>
     rcases u0w hy hj with ⟨h0,a2,l2,c2,rfl,h2,g2⟩|⟨h0,a2,rfl,h2⟩|⟨h0,a2,rfl,h2⟩<;>first|omega|skip
    ·unfold h0C at hk
     split at hk<;>first|cases hk|skip
     rename_i E hu
     refine ⟨?_,fun op xo yo=>by unfold eqGuard;split<;>rfl,rfl,rfl⟩
     cases a1<;>cases a2<;>simp at h1 h2<;>subst h1<;>subst h2<;>simp [Op.equalIn,run_underlying hu] at hab ⊢
    ·unfold h0C at hk
     split at hk<;>first|cases hk|skip
     rename_i E hu
     refine ⟨?_,fun op xo yo=>by unfold eqGuard;split<;>rfl,rfl,rfl⟩
     cases a1<;>cases a2<;>simp at h1 h2<;>subst h1<;>subst h2<;>simp [Op.equalIn,run_underlying hu] at hab ⊢
    ·unfold h0C at hk
     split at hk<;>first|cases hk|skip
     rename_i K E hu
     refine ⟨?_,fun op xo yo=>by unfold eqGuard;split<;>rfl,rfl,rfl⟩
     cases a1<;>cases a2<;>simp at h1 h2<;>subst h1<;>subst h2<;>simp [Op.equalIn,run_underlying hu] at hab ⊢
   exact key 9999
  ·cases h
 ·cases h
theorem f1o {ts:List D}{a:Act}{A:Nat→Prop}{N:Nat}(hts:Rs P w φ A N ts a.tmps.toList){o:Oper}{d:D}(he:f0i P ts o=some d):∃ v,(execOp a.eval o).run P w = .ok (.value v) w∧R P w φ A N d v:=by
 unfold f0i at he
 dsimp only at he
 split at he
 ·rename_i hc
  rw [Bool.and_eq_true] at hc
  obtain ⟨hc1,hc2⟩:=hc
  have hsel:∀ cs b,o.op ≠ .select cs b:=by
   intro cs b hb
   rw [hb] at hc1
   simp [d0T] at hc1
  have hcong:execOp a.eval o=execOp (fun x=>((eval ts x).val?).getD Go.undef) o:=by
   refine execOp_congr o hsel (fun x hx=>?_)
   have h1:=List.all_eq_true.1 hc2 x (by simpa using hx)
   obtain ⟨v,hv⟩:=Option.isSome_iff_exists.1 h1
   rw [hv]
   exact (R.eval hts x).val hv
  split at he
  ·rename_i v hs
   injection he with he
   subst he
   rw [hcong]
   exact ⟨v,t0S hs w,R.of v⟩
  ·cases he
 ·cases he
structure Good (P:Program):Prop where
 names : ∀ (f : Nat) (fn : Func), P.funcs[f]? = some fn → (fn.name == "runtime.NumGoroutine") = false
 mixed:P.follows .mixedOrders=true
def e0o (P:Program)(f:FuncId)(g:List D→List Row→Option Eff):Prop :=
 ∀ (args:List D) (H:List Row) (e:Eff),g args H=some e→∀ (w:World) (φ:Nat→Nat × Nat) (X:Nat→Prop) (vs:Array Value),HR P w φ X H→Rs P w φ (Av X φ H) H.length args vs.toList →
  Calls P f vs w fun en w'=>∃ v,en = .returned v∧Leaves P w φ X H e v w'
theorem h0b (hP:Good P){f:FuncId}{fn:Func}(hf:P.funcs[f]?=some fn)(hb:fn.body.isSome=true)(args:Array Value):(callFunc f args).run P w = .ok (.enter f args) w:=by
 have h1 : ¬ fn.name = "runtime.NumGoroutine" := by simpa using hP.names f fn hf
 have h2:¬ fn.body=none:=by cases hc:fn.body<;>simp [hc] at hb ⊢
 simp [callFunc,hf,h1,h2]
theorem t0G {A:Nat→Prop}{N:Nat}{ts:List D}{a:Act}(hts:Rs P w φ A N ts a.tmps.toList)(xs:Array Operand):Rs P w φ A N (xs.toList.map (eval ts)) (xs.map a.eval).toList:=by
 rw [Array.toList_map]
 exact Rs.map (fun x _=>R.eval hts x)
theorem g1X (hP:Good P){call:a0w}(hcall:∀ f,e0o P f (call f))(h:HR P w φ X H){ts:List D}{a:Act}(hts:Rs P w φ (Av X φ H) H.length ts a.tmps.toList){o:Oper}{c:Call}(ho:o.op = .call c){e:Eff}(he:r0C P call ts H c=some e):OpOk P o a w (Leaves P w φ X H e):=by
 obtain ⟨callee,args,argTypes⟩:=c
 have hargs:=t0G hts args
 have bi:∀ (b:Builtin) (v:Value) (w':World),callee = .builtin b→(∀ (ty:TypeId) (cs:Array Bool),(builtin b argTypes ty cs (args.map a.eval)).run P w = .ok (.value v) w')→Leaves P w φ X H e v w'→OpOk P o a w (Leaves P w φ X H e):=by
  rintro b v w' rfl hr hl
  refine OpOk.value ?_ hl
  unfold execOp
  simp only [ho,resolve,invoke,Sem.run_bind,Sem.run_pure,Result.andThen_ok]
  exact hr _ _
 unfold r0C at he
 split at he
 ·rename_i s x t u hca hl hty
  split at he
  ·rename_i htu
   subst htu
   simp only at hca hl hty
   have e1:args.toList.length=2:=by have:=congrArg List.length hl;simpa using this
   obtain ⟨p,q,rfl⟩:∃ p q,args = #[p,q]:=by
    obtain ⟨l⟩:=args
    match l,e1 with
    | [p,q],_=>exact ⟨p,q,rfl⟩
   simp at hl
   obtain ⟨rfl,rfl⟩:=hl
   have e2:argTypes = #[t,t]:=Array.toList_inj.1 (by simpa using hty)
   subst e2
   obtain ⟨v,w',h1,h2⟩:=i0s (ty:=o.type) h (R.eval hts p) (R.eval hts q) he
   refine bi .append v w' hca (fun ty cs=>?_) h2
   obtain ⟨v2,w2,h3,h4⟩:=i0s (ty:=ty) h (R.eval hts p) (R.eval hts q) he
   have h5:(Builtin.append_ #[t,t] ty #[a.eval p,a.eval q]).run P w = .ok v w':=h1
   simp [builtin,h5]
  ·cases he
 ·rename_i x t hca hl hty
  simp only at hca hl hty
  obtain ⟨p,rfl⟩:∃ p,args = #[p]:=by
   have e1:args.toList.length=1:=by have:=congrArg List.length hl;simpa using this
   obtain ⟨l⟩:=args
   match l,e1 with
   | [p],_=>exact ⟨p,rfl⟩
  simp at hl
  subst hl
  have e2:argTypes = #[t]:=Array.toList_inj.1 (by simpa using hty)
  subst e2
  rw [Option.map_eq_some_iff] at he
  obtain ⟨n,hn,rfl⟩:=he
  refine bi .len (goInt n) w hca (fun ty cs=>?_) (Leaves.quiet h (d0o rfl))
  have:=f1F (ty:=ty) h (R.eval hts p) hn
  simp [builtin,this]
 ·rename_i m k t u hca hl hty
  simp only at hca hl hty
  obtain ⟨p,q,rfl⟩:∃ p q,args = #[p,q]:=by
   have e1:args.toList.length=2:=by have:=congrArg List.length hl;simpa using this
   obtain ⟨l⟩:=args
   match l,e1 with
   | [p,q],_=>exact ⟨p,q,rfl⟩
  simp at hl
  obtain ⟨rfl,rfl⟩:=hl
  have e2:argTypes = #[t,u]:=Array.toList_inj.1 (by simpa using hty)
  subst e2
  obtain ⟨v,w',h1,h2⟩:=p0b (u:=u) (ty:=o.type) h (R.eval hts p) (R.eval hts q) he
  refine bi .delete v w' hca (fun ty cs=>?_) h2
  have h5:(Builtin.delete_ #[t,u] ty #[a.eval p,a.eval q]).run P w = .ok v w':=h1
  simp [builtin,h5]
 ·rename_i x t hca hl hty
  simp only at hca hl hty
  obtain ⟨p,rfl⟩:∃ p,args = #[p]:=by
   have e1:args.toList.length=1:=by have:=congrArg List.length hl;simpa using this
   obtain ⟨l⟩:=args
   match l,e1 with
   | [p],_=>exact ⟨p,rfl⟩
  simp at hl
  subst hl
  have e2:argTypes = #[t]:=Array.toList_inj.1 (by simpa using hty)
  subst e2
  obtain ⟨v,w',h1,h2⟩:=w0g (ty:=o.type) h (R.eval hts p) he
  refine bi .clear v w' hca (fun ty cs=>?_) h2
  have h5:(Builtin.clear_ #[t] ty #[a.eval p]).run P w = .ok v w':=h1
  simp [builtin,h5]
 ·rename_i f hca
  simp only at hca
  split at he
  ·rename_i g caps hf
   split at he
   ·rename_i fn hfn
    split at he
    ·rename_i hbody
     have hr:=R.eval hts f
     rw [hf] at hr
     cases hev:a.eval f with
     | func fn' first captured =>
      rw [hev] at hr
      cases hr with
      | fn hs hrr =>
       refine OpOk.enter (f:=g) (args:=args.map a.eval++captured) (w':=w) ?_ ?_
       ·unfold execOp
        simp only [ho,resolve,hca,Deferred.ofValue,hev,invoke,Sem.run_bind,Sem.run_pure,Result.andThen_ok]
        have:=h0b (w:=w) hP hfn hbody (args.map a.eval++captured)
        simpa using this
       ·refine hcall g _ _ _ he w φ X _ h ?_
        rw [Array.toList_append]
        exact hargs.append ⟨by simpa using hs,fun i x y hx hy=>hrr i x y hx (by simpa using hy)⟩
     | _=>rw [hev] at hr;cases hr
    ·cases he
   ·cases he
  ·cases he
 ·cases he
set_option maxHeartbeats 4000000 in
theorem o0w (hP:Good P){call:a0w}(hcall:∀ f,e0o P f (call f))(h:HR P w φ X H){ts:List D}{a:Act}(hts:Rs P w φ (Av X φ H) H.length ts a.tmps.toList){o:Oper}{e:Eff}(he:a0x P call ts H o=some e):OpOk P o a w (Leaves P w φ X H e):=by
 have val:∀ {d:Option D} (s:Sem Value),(execOp a.eval o=do pure (.value (←s)))→(∀ x,d=some x→∃ v,s.run P w = .ok v w∧R P w φ (Av X φ H) H.length x v)→(d.map fun d=>(⟨d,[],[]⟩:Eff))=some e→OpOk P o a w (Leaves P w φ X H e):=by
  intro d s hs hd he
  rw [Option.map_eq_some_iff] at he
  obtain ⟨x,hx,rfl⟩:=he
  obtain ⟨v,h1,h2⟩:=hd x hx
  refine OpOk.value (v:=v) (w':=w) ?_ (Leaves.quiet h h2)
  rw [hs]
  simp [h1]
 have yields:∀ (s:Sem Value),(execOp a.eval o=do pure (.value (←s)))→(∃ v w',s.run P w = .ok v w'∧Leaves P w φ X H e v w')→OpOk P o a w (Leaves P w φ X H e):=by
  rintro s hs ⟨v,w',h1,h2⟩
  refine OpOk.value (v:=v) (w':=w') ?_ h2
  rw [hs]
  simp [h1]
 have skips:∀ (s:Sem Unit),(execOp a.eval o=do s;pure .skip)→(∃ w',s.run P w = .ok () w'∧Leaves P w φ X H e Go.undef w')→OpOk P o a w (Leaves P w φ X H e):=by
  rintro s hs ⟨w',h1,h2⟩
  refine OpOk.skip (w':=w') ?_ h2
  rw [hs]
  simp [h1]
 have plain:∀ (x:Operand),execOp a.eval o=pure (.value (a.eval x))→e=⟨eval ts x,[],[]⟩→OpOk P o a w (Leaves P w φ X H e):=by
  rintro x hs rfl
  refine OpOk.value (v:=a.eval x) (w':=w) ?_ (Leaves.quiet h (R.eval hts x))
  rw [hs];rfl
 have pur:∀ d,f0i P ts o=some d→some (⟨d,[],[]⟩:Eff)=some e→OpOk P o a w (Leaves P w φ X H e):=by
  rintro d hd he
  injection he with he
  subst he
  obtain ⟨v,h1,h2⟩:=f1o (w:=w) hts hd
  exact OpOk.value h1 (Leaves.quiet h h2)
 have hev:=fun x=>R.eval hts x
 unfold a0x at he
 dsimp only at he
 cases hop:o.op<;>simp only [hop] at he
 case move x=>injection he with he;exact plain x (by simp [execOp,hop]) he.symm
 case assign x=>injection he with he;exact plain x (by simp [execOp,hop]) he.symm
 case pick c x y =>
  split at he
  ·rename_i t hc
   injection he with he
   have h1:=hev c
   rw [hc] at h1
   cases hcv:a.eval c with
   | bool b =>
    rw [hcv] at h1
    cases h1 with|f h1=>cases h1 with|v _ =>
    cases t
    ·exact plain y (by simp [execOp,hop,hcv,asBool]) (by simpa using he.symm)
    ·exact plain x (by simp [execOp,hop,hcv,asBool]) (by simpa using he.symm)
   | _=>rw [hcv] at h1;cases h1 with|f h1=>cases h1
  ·cases he
 case alloc T =>
  split at he
  ·rename_i n b z hi
   injection he with he
   subst he
   exact yields (Instr.alloc T true (.tuple #[])) (by simp [execOp,hop]) (d1U h hi _)
  ·cases he
 case box T x =>
  split at he
  ·rename_i hc
   injection he with he
   subst he
   exact yields (Instr.box T (a.eval x)) (by simp [execOp,hop]) (i1H h (hev x) hc)
  ·cases he
 case load T x=>exact val (Instr.loadAt T (a.eval x)) (by simp [execOp,hop]) (fun d hd=>b1a h (hev x) hd) he
 case store T x y=>exact skips (Instr.storeAt T (a.eval x) (a.eval y)) (by simp [execOp,hop]) (e1V h (hev x) (hev y) he)
 case nilCheck x =>
  have h1:=hev x
  split at he
  ·rename_i r off hx
   injection he with he
   refine plain x ?_ (by rw [hx];exact he.symm)
   rw [hx] at h1
   have hv:∃ ad,a.eval x = .pointer (some ad):=by
    generalize a.eval x=u at h1
    cases h1
    exact ⟨_,rfl⟩
   obtain ⟨ad,hv⟩:=hv
   simp [execOp,hop,hv]
  ·rename_i xs hx
   injection he with he
   refine plain x ?_ (by rw [hx];exact he.symm)
   rw [hx] at h1
   have hv:∃ ad,a.eval x = .pointer (some ad):=by
    generalize a.eval x=u at h1
    cases h1
    exact ⟨_,rfl⟩
   obtain ⟨ad,hv⟩:=hv
   simp [execOp,hop,hv]
  ·rename_i f cs hx
   injection he with he
   refine plain x ?_ (by rw [hx];exact he.symm)
   rw [hx] at h1
   have hv:∃ g vs,a.eval x = .func (.func g) #[] vs:=by
    generalize a.eval x=u at h1
    cases h1
    exact ⟨_,_,rfl⟩
   obtain ⟨g,vs,hv⟩:=hv
   simp [execOp,hop,hv]
  ·cases he
 case makeFunc fn first captured =>
  cases fn with
  | func f =>
   simp only at he
   split at he
   ·rename_i hf0
    injection he with he
    subst he
    have hf1:first = #[]:=by simpa using hf0
    subst hf1
    refine OpOk.value (v:=.func (.func f) #[] (captured.map a.eval)) (w':=w) (by simp [execOp,hop,Instr.makeFunc]) (Leaves.quiet h ?_)
    have hs:=t0G hts captured
    exact .fn (by simp) (fun i d u hd hu=>hs.2 i d u hd (by simpa using hu))
   ·cases he
  | _ =>
   simp only at he
   split at he
   ·exact pur _ ‹_› he
   ·cases he
 case makeMap T r =>
  cases r with
  | none =>
   simp only at he
   injection he with he
   subst he
   exact yields (Instr.makeMap T none) (by simp [execOp,hop]) (y0A h T)
  | some x =>
   simp only at he
   split at he
   ·exact pur _ ‹_› he
   ·cases he
 case makeSlice T x y=>exact yields (Instr.makeSlice T (a.eval x) (a.eval y)) (by simp [execOp,hop]) (q0z h (hev x) (hev y) he)
 case fieldAddr T x f=>exact val (Instr.fieldAt T (a.eval x) f) (by simp [execOp,hop]) (fun d hd=>p0t (hev x) hd) he
 case indexAddr T x y=>exact val (Instr.indexAt T (a.eval x) (a.eval y)) (by simp [execOp,hop]) (fun d hd=>r0O (hev x) (hev y) hd) he
 case buildSlice T n ps=>exact yields (Instr.buildSlice T n (ps.map fun (i,x)=>(i,a.eval x))) (by simp [execOp,hop]) (buildSlice_ok h hts he)
 case mapUpdate T m k x=>exact skips (Instr.mapUpdate T (a.eval m) (a.eval k) (a.eval x)) (by simp [execOp,hop]) (p0O h (hev m) (hev k) (hev x) he)
 case insert T m k x=>exact skips (Instr.mapUpdate T (a.eval m) (a.eval k) (a.eval x)) (by simp [execOp,hop]) (p0O h (hev m) (hev k) (hev x) he)
 case lookup T m k ok=>exact val (Instr.lookup T (a.eval m) (a.eval k) ok) (by simp [execOp,hop]) (fun d hd=>b1G h (hev m) (hev k) hd) he
 case extract x i =>
  split at he
  ·rename_i ds hx
   rw [Option.map_eq_some_iff] at he
   obtain ⟨d,hd,rfl⟩:=he
   have h1:=hev x
   rw [hx] at h1
   cases hv:a.eval x with
   | tuple vs =>
    rw [hv] at h1
    cases h1 with
    | tp hs hr =>
     have hi:i<vs.size:=by rw [hs];exact (List.getElem?_eq_some_iff.1 hd).1
     refine OpOk.value (v:=vs[i]) (w':=w) (by simp [execOp,hop,hv,Instr.extract,hi]) (Leaves.quiet h (hr i d _ hd (by simp [hi])))
   | _=>rw [hv] at h1;cases h1
  ·cases he
 case call c =>
  split at he
  ·exact pur _ ‹_› he
  exact g1X hP hcall h hts hop he
 case slice T x lo hi mx =>
  split at he
  ·exact pur _ ‹_› he
  refine val (Instr.sliceAt T (a.eval x) (lo.map a.eval) (hi.map a.eval) (mx.map a.eval)) (by simp [execOp,hop]) (fun d hd=>?_) he
  have opt:∀ (q:Option Operand) (y:D),q.map (eval ts)=some y→∃ v,q.map a.eval=some v∧R P w φ (Av X φ H) H.length y v:=by
   intro q y hq
   rw [Option.map_eq_some_iff] at hq
   obtain ⟨p,rfl,rfl⟩:=hq
   exact ⟨_,rfl,hev p⟩
  have non:∀ (q:Option Operand),q.map (eval ts)=none→q.map a.eval=none:=by
   intro q hq
   cases q<;>simp at hq ⊢
  exact o0N h (hev x) (opt lo) (non lo) (opt hi) (non hi) (opt mx) (non mx) hd
 case field T x f =>
  split at he
  ·exact pur _ ‹_› he
  exact val (Instr.field T (a.eval x) f) (by simp [execOp,hop]) (fun d hd=>v0X (hev x) hd) he
 case build T ps =>
  split at he
  ·exact pur _ ‹_› he
  exact val (Instr.build T (ps.map fun (i,x)=>(i,a.eval x))) (by simp [execOp,hop]) (fun d hd=>x0e hts hd) he
 case convert s d x =>
  split at he
  ·exact pur _ ‹_› he
  exact yields (convert s d (a.eval x)) (by simp [execOp,hop]) (g0f h (hev x) he)
 case binOp op T x y ty =>
  split at he
  ·exact pur _ ‹_› he
  cases op<;>simp only at he<;>first|cases he|skip
  ·rw [Option.map_eq_some_iff] at he
   obtain ⟨b,hb,rfl⟩:=he
   obtain ⟨h1,h2,h3,_⟩:=i0e (w:=w) (hev x) (hev y) hb
   refine OpOk.value (v:=.bool b) (w':=w) ?_ (Leaves.quiet h (d0o rfl))
   simp [execOp,hop,h2,h3,h1]
  ·rw [Option.map_eq_some_iff] at he
   obtain ⟨b,hb,rfl⟩:=he
   obtain ⟨h1,h2,_,h3⟩:=i0e (w:=w) (hev x) (hev y) hb
   refine OpOk.value (v:=.bool !b) (w':=w) ?_ (Leaves.quiet h (d0o rfl))
   simp [execOp,hop,h2,h3,h1]
 all_goals
  split at he
  ·exact pur _ ‹_› he
  ·cases he
end
end Go.Proofs.YthjgmldnegaaiaaGreatDoor.Mir
namespace Go.Proofs.YthjgmldnegaaiaaGreatDoor.Mir
open Go Go.RowKit
theorem h0l {r:Nat}:∀ {l:List Nat} {i:Nat},findIdx? r l=some i→l[i]?=some r
 | [],i,h=>by simp [findIdx?] at h
 | x :: xs,i,h=>by
  simp only [findIdx?] at h
  split at h
  ·rename_i hx
   injection h with h
   subst h;subst hx
   simp
  ·rw [Option.map_eq_some_iff] at h
   obtain ⟨j,hj,rfl⟩:=h
   simpa using h0l hj
theorem l0h:∀ {l:List Nat},k0M l=true→∀ (i j x:Nat),l[i]?=some x→l[j]?=some x→i=j
 | [],_,i,j,x,hi,_=>by simp at hi
 | y :: ys,h,i,j,x,hi,hj=>by
  simp only [k0M,Bool.and_eq_true,Bool.not_eq_true'] at h
  have hn:y ∉ ys:=by simpa using h.1
  cases i with
  | zero =>
   cases j with
   | zero=>rfl
   | succ j=>simp at hi hj;subst hi;exact absurd (List.mem_of_getElem? hj) hn
  | succ i =>
   cases j with
   | zero=>simp at hi hj;subst hj;exact absurd (List.mem_of_getElem? hi) hn
   | succ j=>rw [l0h h.2 i j x (by simpa using hi) (by simpa using hj)]
section
variable {P:Program}{w:World}{φ ψ:Nat→Nat × Nat}{A A':Nat→Prop}{N N' n0:Nat}{seen:List Nat}
theorem RF.less {x:F}{u:Value}(ha:∀ b,A' b→A b)(h:RF w A x u):RF w A' x u:=by
 induction h with
 | v h=>exact .v h
 | s cs hn hlen hc hr ih=>exact .s cs hn hlen (fun i u hu=>⟨(hc i u hu).1,fun h=>(hc i u hu).2 (ha _ h)⟩) ih
 | s0=>exact .s0
 | e=>exact .e
theorem R.ren (ha:∀ b,A' b→A b)(hψ:∀ r r',renN n0 seen r=some r'→ψ r'=φ r∧r'<N'){d:D}{u:Value}(h:R P w φ A N d u):∀ {d':D},renD n0 seen d=some d'→R P w ψ A' N' d' u:=by
 have goList:∀ (ds:List D) (vs:Array Value),vs.size=ds.length→(∀ (i:Nat) (d:D) (u:Value),ds[i]?=some d→vs[i]?=some u→∀ {d':D},renD n0 seen d=some d'→R P w ψ A' N' d' u)→∀ ds',renD.go n0 seen ds=some ds'→vs.size=ds'.length∧∀ (i:Nat) (d:D) (u:Value),ds'[i]?=some d→vs[i]?=some u→R P w ψ A' N' d u:=by
  intro ds vs hs hr
  have key:∀ (ds:List D) (us:List Value),us.length=ds.length→(∀ (i:Nat) (d:D) (u:Value),ds[i]?=some d→us[i]?=some u→∀ {d':D},renD n0 seen d=some d'→R P w ψ A' N' d' u)→∀ ds',renD.go n0 seen ds=some ds'→us.length=ds'.length∧∀ (i:Nat) (d:D) (u:Value),ds'[i]?=some d→us[i]?=some u→R P w ψ A' N' d u:=by
   intro ds
   induction ds with
   | nil=>intro us hs hr ds' hd;simp [renD.go] at hd;subst hd;exact ⟨hs,fun i d u hd=>by simp at hd⟩
   | cons d ds ih =>
    intro us hs hr ds' hd
    cases us with
    | nil=>simp at hs
    | cons u us =>
     simp only [renD.go] at hd
     split at hd
     ·rename_i x xs hx hxs
      injection hd with hd
      subst hd
      obtain ⟨h1,h2⟩:=ih us (by simpa using hs) (fun i d u hd hu d' hd'=>hr (i+1) d u (by simpa using hd) (by simpa using hu) hd') xs hxs
      refine ⟨by simp [h1],fun i y v hy hv=>?_⟩
      cases i with
      | zero=>simp at hy hv;subst hy;subst hv;exact hr 0 d u (by simp) (by simp) hx
      | succ i=>exact h2 i y v (by simpa using hy) (by simpa using hv)
     ·cases hd
  intro ds' hd
  obtain ⟨h1,h2⟩:=key ds vs.toList (by simpa using hs) (fun i d u hd hu=>hr i d u hd (by simpa using hu)) ds' hd
  exact ⟨by simpa using h1,fun i d u hd hu=>h2 i d u hd (by simpa using hu)⟩
 induction h with
 | f h=>intro d' hd;simp [renD] at hd;subst hd;exact .f (h.less ha)
 | sl hp hr hn hb hi hc =>
  intro d' hd
  simp only [renD] at hd
  rw [Option.map_eq_some_iff] at hd
  obtain ⟨r',hr',rfl⟩:=hd
  obtain ⟨h1,h2⟩:=hψ _ _ hr'
  rw [←h1] at hb hc ⊢
  exact .sl hp h2 hn hb hi hc
 | sl0 hr =>
  intro d' hd
  simp only [renD] at hd
  rw [Option.map_eq_some_iff] at hd
  obtain ⟨r',hr',rfl⟩:=hd
  exact .sl0 (hψ _ _ hr').2
 | pt hr =>
  intro d' hd
  simp only [renD] at hd
  rw [Option.map_eq_some_iff] at hd
  obtain ⟨r',hr',rfl⟩:=hd
  obtain ⟨h1,h2⟩:=hψ _ _ hr'
  rw [←h1]
  exact .pt h2
 | rf cs hlen hc hr =>
  intro d' hd
  simp [renD] at hd
  subst hd
  exact .rf cs hlen (fun i u hu=>⟨(hc i u hu).1,fun h=>(hc i u hu).2 (ha _ h)⟩) (fun i x u hx hu=>(hr i x u hx hu).less ha)
 | ag hs _ h1 ih =>
  intro d' hd
  simp only [renD] at hd
  rw [Option.map_eq_some_iff] at hd
  obtain ⟨ds',hds,rfl⟩:=hd
  obtain ⟨h2,h3⟩:=goList _ _ hs ih ds' hds
  exact .ag h2 h3 h1
 | tp hs _ ih =>
  intro d' hd
  simp only [renD] at hd
  rw [Option.map_eq_some_iff] at hd
  obtain ⟨ds',hds,rfl⟩:=hd
  obtain ⟨h2,h3⟩:=goList _ _ hs ih ds' hds
  exact .tp h2 h3
 | fn hs _ ih =>
  intro d' hd
  simp only [renD] at hd
  rw [Option.map_eq_some_iff] at hd
  obtain ⟨ds',hds,rfl⟩:=hd
  obtain ⟨h2,h3⟩:=goList _ _ hs ih ds' hds
  exact .fn h2 h3
 | mp hr =>
  intro d' hd
  simp only [renD] at hd
  rw [Option.map_eq_some_iff] at hd
  obtain ⟨r',hr',rfl⟩:=hd
  obtain ⟨h1,h2⟩:=hψ _ _ hr'
  rw [←h1]
  exact .mp h2
 | junk=>intro d' hd;simp [renD] at hd;subst hd;exact .junk
theorem Rs.ren (ha:∀ b,A' b→A b)(hψ:∀ r r',renN n0 seen r=some r'→ψ r'=φ r∧r'<N'){ds ds':List D}{us:List Value}(h:Rs P w φ A N ds us)(hd:renD.go n0 seen ds=some ds'):Rs P w ψ A' N' ds' us:=by
 induction ds generalizing us ds' with
 | nil=>simp [renD.go] at hd;subst hd;exact ⟨h.1,fun i d u hd=>by simp at hd⟩
 | cons d ds ih =>
  cases us with
  | nil=>have:=h.1;simp at this
  | cons u us =>
   simp only [renD.go] at hd
   split at hd
   ·rename_i x xs hx hxs
    injection hd with hd
    subst hd
    exact Rs.cons ((h.2 0 d u (by simp) (by simp)).ren ha hψ hx) (ih ⟨by have:=h.1;simpa using this,fun i x y hx hy=>h.2 (i+1) x y (by simpa using hx) (by simpa using hy)⟩ hxs)
   ·cases hd
theorem R.free {d:D}{u:Value}(h:R P w φ A N d u)(ha:∀ b,A' b→A b)(hf:Free d):R P w ψ A' N' d u:=by
 induction h with
 | f h=>exact .f (h.less ha)
 | ag hs _ h1 ih=>cases hf with|ag hf=>exact .ag hs (fun i d u hd hu=>ih i d u hd hu (hf i d hd)) h1
 | _=>cases hf
theorem RowOk.ren (ha:∀ b,A' b→A b)(hψ:∀ r r',renN n0 seen r=some r'→ψ r'=φ r∧r'<N'){r r':Nat}(hr:ψ r'=φ r){row row':Row}(h:RowOk P w φ A N r row)(hd:d0S n0 seen row=some row'):RowOk P w ψ A' N' r' row':=by
 cases row with
 | dead=>simp [d0S] at hd;subst hd;trivial
 | box T ds =>
  simp only [d0S] at hd
  rw [Option.map_eq_some_iff] at hd
  obtain ⟨ds',hds,rfl⟩:=hd
  obtain ⟨h0,cs,h1,h2,h3⟩:=h
  exact ⟨by rw [hr];exact h0,cs,by rw [hr];exact h1,h2.ren ha hψ hds,h3⟩
 | data T xs =>
  simp [d0S] at hd
  subst hd
  intro hne
  obtain ⟨pre,us,post,h1,h2,h3⟩:=h hne
  exact ⟨pre,us,post,by rw [hr];exact h1,by rw [hr];exact h2,h3.1,fun i x u hx hu=>(h3.2 i x u hx hu).less ha⟩
 | froz T xs =>
  simp [d0S] at hd
  subst hd
  obtain ⟨h0,pre,us,post,fr,h1,h2,h3⟩:=h
  exact ⟨by rw [hr];exact fun h=>h0 (ha _ h),pre,us,post,fr,by rw [hr];exact h1,by rw [hr];exact h2,h3.1,fun i x u hx hu=>(h3.2 i x u hx hu).less ha⟩
 | map es =>
  simp [d0S] at hd
  subst hd
  obtain ⟨en,clock,h1,h0,h2,h3⟩:=h
  exact ⟨en,clock,by rw [hr];exact h1,h0,h2,fun i k d m hd hm=>⟨(h3 i k d m hd hm).1,(h3 i k d m hd hm).2.1.free ha (h3 i k d m hd hm).2.2,(h3 i k d m hd hm).2.2⟩⟩
theorem k0I {row row':Row}(hd:d0S n0 seen row=some row'):row'.live=row.live:=by
 cases row<;>simp only [d0S] at hd
 ·injection hd with hd;subst hd;rfl
 ·rw [Option.map_eq_some_iff] at hd;obtain ⟨_,_,rfl⟩:=hd;rfl
 ·injection hd with hd;subst hd;rfl
 ·injection hd with hd;subst hd;rfl
 ·injection hd with hd;subst hd;rfl
theorem g0z {H:List Row}:∀ {l:List Nat} {ns:List Row},i0L n0 seen H l=some ns→ns.length=l.length∧∀ (i:Nat) (row':Row),ns[i]?=some row'→∃ r row,l[i]?=some r∧H[r]?=some row∧d0S n0 seen row=some row'
 | [],ns,h=>by simp [i0L] at h;subst h;exact ⟨rfl,fun i r h=>by simp at h⟩
 | r :: l,ns,h=>by
  simp only [i0L] at h
  split at h
  ·rename_i row hrow
   split at h
   ·rename_i x xs hx hxs
    injection h with h
    subst h
    obtain ⟨h1,h2⟩:=g0z hxs
    refine ⟨by simp [h1],fun i row' hi=>?_⟩
    cases i with
    | zero=>simp at hi;subst hi;exact ⟨r,row,by simp,hrow,hx⟩
    | succ i=>obtain ⟨r2,row2,g1,g2,g3⟩:=h2 i row' (by simpa using hi);exact ⟨r2,row2,by simpa using g1,g2,g3⟩
   ·cases h
  ·cases h
inductive Low (S:Nat→Prop):D→Prop
 | f {x}:Low S (.f x)
 | sl {r o k}:S r→Low S (.sl r o k)
 | pt {r o}:S r→Low S (.pt r o)
 | rf {xs}:Low S (.rf xs)
 | ag {ds:List D}:(∀ (i:Nat) (d:D),ds[i]?=some d→Low S d)→Low S (.ag ds)
 | tp {ds:List D}:(∀ (i:Nat) (d:D),ds[i]?=some d→Low S d)→Low S (.tp ds)
 | fn {f} {ds:List D}:(∀ (i:Nat) (d:D),ds[i]?=some d→Low S d)→Low S (.fn f ds)
 | mp {r}:S r→Low S (.mp r)
 | junk:Low S .junk
theorem Low.mono {S T:Nat→Prop}(hst:∀ r,S r→T r){d:D}(h:Low S d):Low T d:=by
 induction h with
 | f=>exact .f
 | sl hr=>exact .sl (hst _ hr)
 | pt hr=>exact .pt (hst _ hr)
 | rf=>exact .rf
 | ag _ ih=>exact .ag ih
 | tp _ ih=>exact .tp ih
 | fn _ ih=>exact .fn ih
 | mp hr=>exact .mp (hst _ hr)
 | junk=>exact .junk
theorem refs_go {ds:List D}{r:Nat}:r∈D.refs.go ds↔∃ d∈ds,r∈d.refs:=by
 induction ds with
 | nil=>simp [D.refs.go]
 | cons d ds ih=>simp [D.refs.go,ih]
theorem b0Q {S:Nat→Prop}:∀ {d:D},(∀ r∈d.refs,S r)→Low S d
 | .f x,_=>.f
 | .sl r o k,h=>.sl (h r (by simp [D.refs]))
 | .pt r o,h=>.pt (h r (by simp [D.refs]))
 | .rf xs,_=>.rf
 | .mp r,h=>.mp (h r (by simp [D.refs]))
 | .junk,_=>.junk
 | .ag ds,h=>.ag (fun i d hd=>b0Q (fun r hr=>h r (by simp only [D.refs];exact refs_go.2 ⟨d,List.mem_of_getElem? hd,hr⟩)))
 | .tp ds,h=>.tp (fun i d hd=>b0Q (fun r hr=>h r (by simp only [D.refs];exact refs_go.2 ⟨d,List.mem_of_getElem? hd,hr⟩)))
 | .fn f ds,h=>.fn (fun i d hd=>b0Q (fun r hr=>h r (by simp only [D.refs];exact refs_go.2 ⟨d,List.mem_of_getElem? hd,hr⟩)))
termination_by d=>SizeOf.sizeOf d
decreasing_by
 all_goals
  have:=List.sizeOf_lt_of_mem (List.mem_of_getElem? hd)
  simp;omega
theorem R.isLow {d:D}{u:Value}(h:R P w φ A N d u):Low (· < N) d:=by
 induction h with
 | f h=>exact .f
 | sl _ hr _ _ _ _=>exact .sl hr
 | sl0 hr=>exact .sl hr
 | pt hr=>exact .pt hr
 | rf _ _ _ _=>exact .rf
 | ag hs _ _ ih=>exact .ag (fun i d hd=>ih i d _ hd (Array.getElem?_eq_getElem (by rw [hs];exact (List.getElem?_eq_some_iff.1 hd).1)))
 | tp hs _ ih=>exact .tp (fun i d hd=>ih i d _ hd (Array.getElem?_eq_getElem (by rw [hs];exact (List.getElem?_eq_some_iff.1 hd).1)))
 | fn hs _ ih=>exact .fn (fun i d hd=>ih i d _ hd (Array.getElem?_eq_getElem (by rw [hs];exact (List.getElem?_eq_some_iff.1 hd).1)))
 | mp hr=>exact .mp hr
 | junk=>exact .junk
theorem R.lower {d:D}{u:Value}{n:Nat}{S:Nat→Prop}(h:R P w φ A N d u)(hψ:∀ r,S r→ψ r=φ r∧r<n)(ha:∀ b,A' b→A b):Low S d→R P w ψ A' n d u:=by
 induction h with
 | f h=>exact fun _=>.f (h.less ha)
 | sl hp hr hn hb hi hc =>
  intro hb'
  cases hb' with|sl hr' =>
  rw [←(hψ _ hr').1] at hb hc ⊢
  exact .sl hp (hψ _ hr').2 hn hb hi hc
 | sl0 hr=>intro hb';cases hb' with|sl hr'=>exact .sl0 (hψ _ hr').2
 | pt hr=>intro hb';cases hb' with|pt hr'=>rw [←(hψ _ hr').1];exact .pt (hψ _ hr').2
 | rf cs hlen hc hr=>exact fun _=>.rf cs hlen (fun i u hu=>⟨(hc i u hu).1,fun h=>(hc i u hu).2 (ha _ h)⟩) (fun i x u hx hu=>(hr i x u hx hu).less ha)
 | ag hs _ h1 ih=>intro hb';cases hb' with|ag hb'=>exact .ag hs (fun i d u hd hu=>ih i d u hd hu (hb' i d hd)) h1
 | tp hs _ ih=>intro hb';cases hb' with|tp hb'=>exact .tp hs (fun i d u hd hu=>ih i d u hd hu (hb' i d hd))
 | fn hs _ ih=>intro hb';cases hb' with|fn hb'=>exact .fn hs (fun i d u hd hu=>ih i d u hd hu (hb' i d hd))
 | mp hr=>intro hb';cases hb' with|mp hr'=>rw [←(hψ _ hr').1];exact .mp (hψ _ hr').2
 | junk=>exact fun _=>.junk
def RowLow (S:Nat→Prop):Row→Prop
 | .box _ ds=>∀ d∈ds,Low S d
 | _=>True
theorem RowOk.isLow {r:Nat}{row:Row}(h:RowOk P w φ A N r row):RowLow (· < N) row:=by
 cases row with
 | box T ds =>
  obtain ⟨_,cs,_,h2,_⟩:=h
  intro d hd
  obtain ⟨i,hi,rfl⟩:=List.getElem_of_mem hd
  obtain ⟨u,_,hr⟩:=h2.get (i:=i) (d:=ds[i]) (by simp [hi])
  exact hr.isLow
 | _=>trivial
theorem RowLow.mono {S T:Nat→Prop}(hst:∀ r,S r→T r){row:Row}(h:RowLow S row):RowLow T row:=by
 cases row with
 | box T ds=>exact fun d hd=>(h d hd).mono hst
 | _=>trivial
theorem c0E {S:Nat→Prop}{row:Row}(h:∀ r∈row.refs,S r):RowLow S row:=by
 cases row with
 | box T ds=>exact fun d hd=>b0Q (fun r hr=>h r (by simp only [Row.refs];exact List.mem_flatMap.2 ⟨d,hd,hr⟩))
 | _=>trivial
theorem RowOk.lower {n r r':Nat}{S:Nat→Prop}{row:Row}(h:RowOk P w φ A N r row)(hr:ψ r'=φ r)(hψ:∀ r,S r→ψ r=φ r∧r<n)(ha:∀ b,A' b→A b)(hb:RowLow S row):RowOk P w ψ A' n r' row:=by
 cases row with
 | dead=>trivial
 | box T ds =>
  obtain ⟨h0,cs,h1,h2,h3⟩:=h
  exact ⟨by rw [hr];exact h0,cs,by rw [hr];exact h1,⟨h2.1,fun i d u hd hu=>(h2.2 i d u hd hu).lower hψ ha (hb d (List.mem_of_getElem? hd))⟩,h3⟩
 | data T xs =>
  intro hne
  obtain ⟨pre,us,post,h1,h2,h3⟩:=h hne
  exact ⟨pre,us,post,by rw [hr];exact h1,by rw [hr];exact h2,h3.1,fun i x u hx hu=>(h3.2 i x u hx hu).less ha⟩
 | froz T xs =>
  obtain ⟨h0,pre,us,post,fr,h1,h2,h3⟩:=h
  exact ⟨by rw [hr];exact fun h=>h0 (ha _ h),pre,us,post,fr,by rw [hr];exact h1,by rw [hr];exact h2,h3.1,fun i x u hx hu=>(h3.2 i x u hx hu).less ha⟩
 | map es =>
  obtain ⟨en,clock,h1,h0,h2,h3⟩:=h
  exact ⟨en,clock,by rw [hr];exact h1,h0,h2,fun i k d m hd hm=>⟨(h3 i k d m hd hm).1,(h3 i k d m hd hm).2.1.free ha (h3 i k d m hd hm).2.2,(h3 i k d m hd hm).2.2⟩⟩
theorem R.upper {d:D}{u:Value}(h:R P w φ A N d u)(hN:N≤N'):R P w φ A N' d u:=by
 induction h with
 | f h=>exact .f h
 | sl hp hr hn hb hi hc=>exact .sl hp (Nat.lt_of_lt_of_le hr hN) hn hb hi hc
 | sl0 hr=>exact .sl0 (Nat.lt_of_lt_of_le hr hN)
 | pt hr=>exact .pt (Nat.lt_of_lt_of_le hr hN)
 | rf cs a b c=>exact .rf cs a b c
 | ag hs _ h1 ih=>exact .ag hs ih h1
 | tp hs _ ih=>exact .tp hs ih
 | fn hs _ ih=>exact .fn hs ih
 | mp hr=>exact .mp (Nat.lt_of_lt_of_le hr hN)
 | junk=>exact .junk
theorem RowOk.upper {r:Nat}{row:Row}(h:RowOk P w φ A N r row)(hN:N≤N'):RowOk P w φ A N' r row:=by
 cases row with
 | dead=>trivial
 | box T ds=>obtain ⟨h0,cs,h1,h2,h3⟩:=h;exact ⟨h0,cs,h1,⟨h2.1,fun i d u hd hu=>(h2.2 i d u hd hu).upper hN⟩,h3⟩
 | data T xs=>exact h
 | froz T xs=>exact h
 | map es=>obtain ⟨en,clock,h1,h0,h2,h3⟩:=h;exact ⟨en,clock,h1,h0,h2,fun i k d m hd hm=>⟨(h3 i k d m hd hm).1,(h3 i k d m hd hm).2.1.upper hN,(h3 i k d m hd hm).2.2⟩⟩
end
end Go.Proofs.YthjgmldnegaaiaaGreatDoor.Mir
namespace Go.Proofs.YthjgmldnegaaiaaGreatDoor.Mir
open Go Go.RowKit
structure Sim (P:Program)(X:Nat→Prop)(w:World)(φ:Nat→Nat × Nat)(s:St)(a:Act):Prop where
 heap:HR P w φ X s.H
 tmps:Rs P w φ (Av X φ s.H) s.H.length s.ts a.tmps.toList
 defers:a.defers=[]
structure Ons (X:Nat→Prop)(w:World)(φ:Nat→Nat × Nat)(H:List Row)(w':World)(φ':Nat→Nat × Nat)(H':List Row):Prop where
 len:H.length≤H'.length
 same:∀ r,r<H.length→φ' r=φ r
 keep:Keep (Live φ H) w w'
 fresh:∀ b,Live φ' H' b→Live φ H b∨w.heap.size≤b
theorem Ons.refl (X:Nat→Prop)(w:World)(φ:Nat→Nat × Nat)(H:List Row):Ons X w φ H w φ H:=⟨Nat.le_refl _,fun _ _=>rfl,Keep.refl _ _,fun _ h=>.inl h⟩
theorem Ons.trans {X:Nat→Prop}{w w1 w2:World}{φ φ1 φ2:Nat→Nat × Nat}{H H1 H2:List Row}(h:Ons X w φ H w1 φ1 H1)(k:Ons X w1 φ1 H1 w2 φ2 H2):Ons X w φ H w2 φ2 H2:=by
 refine ⟨Nat.le_trans h.len k.len,fun r hr=>(k.same r (Nat.lt_of_lt_of_le hr h.len)).trans (h.same r hr),h.keep.trans k.keep (fun i hi hl=>?_),fun b hb=>?_⟩
 ·rcases h.fresh i hl with h1|h1
  ·exact h1
  ·omega
 ·rcases k.fresh b hb with h1|h1
  ·exact h.fresh b h1
  ·exact .inr (Nat.le_trans h.keep.size h1)
theorem Ons.av {X:Nat→Prop}{w w':World}{φ φ':Nat→Nat × Nat}{H H':List Row}(h:Ons X w φ H w' φ' H'):∀ b,b<w.heap.size→Av X φ' H' b→Av X φ H b:=by
 rintro b hb (hx|hx)
 ·exact .inl hx
 ·rcases h.fresh b hx with h1|h1
  ·exact .inr h1
  ·omega
theorem Ons.rs {P:Program}{X:Nat→Prop}{w w':World}{φ φ':Nat→Nat × Nat}{H H':List Row}(h:Ons X w φ H w' φ' H'){ds:List D}{us:List Value}(hd:Rs P w φ (Av X φ H) H.length ds us):Rs P w' φ' (Av X φ' H') H'.length ds us :=
 hd.keep h.keep (fun b hb=>.inr hb) h.av h.same h.len
theorem Leaves.ext {P:Program}{w:World}{φ:Nat→Nat × Nat}{X:Nat→Prop}{H:List Row}{e:Eff}{v:Value}{w':World}(h:Leaves P w φ X H e v w') :
  ∃ φ',Ons X w φ H w' φ' (e.heap H)∧HR P w' φ' X (e.heap H)∧R P w' φ' (Av X φ' (e.heap H)) (e.heap H).length e.res v:=by
 obtain ⟨φ',h1,h2,h3,h4,h5⟩:=h
 exact ⟨φ',⟨by rw [f0K];omega,h1,h4,h5⟩,h2,h3⟩
theorem Rs.set {P:Program}{w:World}{φ:Nat→Nat × Nat}{A:Nat→Prop}{N:Nat}{ds:List D}{us:List Value}(h:Rs P w φ A N ds us){d:D}{u:Value}(hd:R P w φ A N d u)(t:Nat):Rs P w φ A N (ds.set t d) (us.set t u):=by
 refine ⟨by simp [h.1],fun i x y hx hy=>?_⟩
 rw [List.getElem?_set] at hx hy
 by_cases e:t=i
 ·rw [if_pos e] at hx hy
  split at hx
  ·rw [if_pos (by have:=h.1;omega)] at hy
   injection hx with hx;injection hy with hy
   subst hx;subst hy
   exact hd
  ·cases hx
 ·rw [if_neg e] at hx hy
  exact h.2 i x y hx hy
theorem Rs.put {P:Program}{w:World}{φ:Nat→Nat × Nat}{A:Nat→Prop}{N:Nat}{ds:List D}{a:Act}(h:Rs P w φ A N ds a.tmps.toList){d:D}{u:Value}(hd:R P w φ A N d u)(t:Option Tmp):Rs P w φ A N (putD! ds t d) (a.put t u).tmps.toList:=by
 cases t with
 | none=>exact h
 | some t =>
  have:=h.set hd t
  simpa [putD!,Act.put,Array.toList_setIfInBounds] using this
theorem c0c (a:Act)(t:Option Tmp)(u:Value):(a.put t u).defers=a.defers:=by cases t<;>rfl
theorem e0Q {P:Program}{w:World}{φ:Nat→Nat × Nat}{A:Nat→Prop}{N:Nat}{ts:List D}{a:Act}(h:Rs P w φ A N ts a.tmps.toList){ops:Array Oper}{o:Oper}{b:Bool}(hw:b0X ops.toList ts o=some b):Region.wanted o (yielded ops a.tmps)=b:=by
 unfold b0X at hw
 unfold Region.wanted
 cases hg:o.guard with
 | none=>rw [hg] at hw;simpa using hw
 | some p =>
  obtain ⟨j,want⟩:=p
  rw [hg] at hw
  simp only at hw ⊢
  split at hw
  ·rename_i q hq
   split at hw
   ·rename_i t ht
    have hq':ops[j]?=some q:=by simpa using hq
    have key:∀ d,ts[t]?=some d→∃ u,a.tmps[t]?=some u∧R P w φ A N d u:=by
     intro d hd
     obtain ⟨u,hu,hr⟩:=h.get hd
     exact ⟨u,by simpa using hu,hr⟩
    split at hw
    ·rename_i c hc
     obtain ⟨u,hu,hr⟩:=key _ hc
     cases hr with|f hr=>cases hr with|v _ =>
     injection hw with hw
     subst hw
     simp [yielded,hq',ht,hu]
    ·rename_i x hnb hx
     obtain ⟨u,hu,hr⟩:=key _ hx
     cases hr with|f hr=>cases hr with|v _ =>
     injection hw with hw
     subst hw
     cases x<;>simp [yielded,hq',ht,hu]
     exact absurd rfl (hnb _)
    ·rename_i ds hx
     obtain ⟨u,hu,hr⟩:=key _ hx
     cases hr with|tp _ _ =>
     injection hw with hw
     subst hw
     simp [yielded,hq',ht,hu]
    ·cases hw
   ·cases hw
  ·cases hw
structure Run (P:Program)(X:Nat→Prop)(w0:World)(φ0:Nat→Nat × Nat)(H0:List Row)(w:World)(φ:Nat→Nat × Nat)(s:St)(a:Act):Prop where
 sim:Sim P X w φ s a
 ons:Ons X w0 φ0 H0 w φ s.H
 low:∀ (r:Nat) (row:Row),H0[r]?=some row→RowLow (· < H0.length) row
 clean:∀ r:Nat,r<H0.length→r ∉ s.dirty→s.H[r]?=H0[r]?
section
variable {P:Program}{X:Nat→Prop}
theorem d0B:∀ (us:List (Nat × Row)) (B:List Row) (r:Nat),(∀ p∈us,p.1≠r)→(a0B B us)[r]?=B[r]?
 | [],_,_,_=>rfl
 | (i,x) :: us,B,r,hp=>by
  show (a0B (B.set i x) us)[r]?=_
  rw [d0B us _ r (fun p hp'=>hp p (List.mem_cons_of_mem _ hp')),List.getElem?_set_ne (hp (i,x) List.mem_cons_self)]
theorem Run.step {w0 w w':World}{φ0 φ φ':Nat→Nat × Nat}{H0:List Row}{s:St}{a:Act}(h:Run P X w0 φ0 H0 w φ s a){e:Eff}(h1:Ons X w φ s.H w' φ' (e.heap s.H))(h2:HR P w' φ' X (e.heap s.H)){v:Value}(h3:R P w' φ' (Av X φ' (e.heap s.H)) (e.heap s.H).length e.res v)(dst:Option Tmp) :
  Run P X w0 φ0 H0 w' φ' ⟨putD! s.ts dst e.res,e.heap s.H,e.upd.map (·.1)++s.dirty⟩ (a.put dst v):=by
 refine ⟨⟨h2,(h1.rs h.sim.tmps).put h3 dst,by rw [c0c];exact h.sim.defers⟩,h.ons.trans h1,h.low,fun r hr hnd=>?_⟩
 dsimp only at hnd ⊢
 rw [List.mem_append,not_or] at hnd
 have hlt:r<s.H.length:=Nat.lt_of_lt_of_le hr h.ons.len
 unfold Eff.heap
 rw [List.getElem?_append_left (by rw [a0G];exact hlt),d0B _ _ r (fun p hp e=>hnd.1 (List.mem_map.2 ⟨p,hp,e⟩))]
 exact h.clean r hr hnd.2
theorem Run.skip {w0 w:World}{φ0 φ:Nat→Nat × Nat}{H0:List Row}{s:St}{a:Act}(h:Run P X w0 φ0 H0 w φ s a)(dst:Option Tmp):Run P X w0 φ0 H0 w φ ⟨putD! s.ts dst D.undef,s.H,s.dirty⟩ (a.put dst Go.undef) :=
 ⟨⟨h.sim.heap,h.sim.tmps.put R.undef dst,by rw [c0c];exact h.sim.defers⟩,h.ons,h.low,h.clean⟩
theorem k0H (hP:Good P){call:a0w}(hcall:∀ f,e0o P f (call f)){ops:Array Oper}{Q:Exit→Act→World→Prop}{w0:World}{φ0:Nat→Nat × Nat}{H0:List Row}:∀ (rest:List Oper) (k:Nat) (s s':St) (w:World) (φ:Nat→Nat × Nat) (a:Act),(∀ j,rest[j]?=ops[k+j]?) →
  h0E P call ops.toList rest s=some s'→Run P X w0 φ0 H0 w φ s a→(∀ a' w' φ',Run P X w0 φ0 H0 w' φ' s' a'→Q .normal a' w')→wpOps P ops Q (List.range' k rest.length) a w
 | [],k,s,s',w,φ,a,_,hr,hs,hQ=>by
  simp [h0E] at hr
  subst hr
  exact hQ a w φ hs
 | o :: rest,k,s,s',w,φ,a,hk,hr,hs,hQ=>by
  have ho:ops[k]?=some o:=by have:=hk 0;simpa using this.symm
  have hk':∀ j,rest[j]?=ops[k+1+j]?:=fun j=>by have:=hk (j+1);simpa [Nat.add_assoc,Nat.add_comm 1 j] using this
  simp only [List.length_cons,List.range'_succ,wpOps,ho]
  simp only [h0E] at hr
  split at hr
  ·rename_i hwant
   rw [e0Q hs.sim.tmps hwant,if_pos rfl]
   split at hr
   ·rename_i e he
    refine .inl (o0w hP hcall hs.sim.heap hs.sim.tmps he _ _ (fun v w' hl=>?_))
    obtain ⟨φ',h1,h2,h3⟩:=hl.ext
    exact k0H hP hcall rest (k+1) _ s' w' φ' _ hk' hr (hs.step h1 h2 h3 o.dst) hQ
   ·cases hr
  ·rename_i hwant
   rw [e0Q hs.sim.tmps hwant,if_neg (by simp)]
   exact k0H hP hcall rest (k+1) _ s' w φ _ hk' hr (hs.skip o.dst) hQ
  ·cases hr
end
end Go.Proofs.YthjgmldnegaaiaaGreatDoor.Mir
namespace Go.Proofs.YthjgmldnegaaiaaGreatDoor.Mir
open Go Go.RowKit
theorem t0s {P:Program}{ts ts':List D}{o:Oper}(h:∀ x∈o.op.operands,eval ts x=eval ts' x):f0i P ts o=f0i P ts' o:=by
 unfold f0i
 have hall:(o.op.operands.toList.all fun x=>((eval ts x).val?).isSome)=(o.op.operands.toList.all fun x=>((eval ts' x).val?).isSome):=by
  have key:∀ l:List Operand,(∀ x∈l,eval ts x=eval ts' x)→(l.all fun x=>((eval ts x).val?).isSome)=(l.all fun x=>((eval ts' x).val?).isSome):=by
   intro l hl
   induction l with
   | nil=>rfl
   | cons x l ih=>simp only [List.all_cons];rw [hl x (by simp),ih (fun y hy=>hl y (by simp [hy]))]
  exact key _ (fun x hx=>h x (by simpa using hx))
 dsimp only
 rw [hall]
 by_cases hs:d0T o.op=true
 ·have hsel:∀ cs b,o.op ≠ .select cs b:=by
   intro cs b hb
   rw [hb] at hs
   simp [d0T] at hs
  rw [execOp_congr (ρ:=fun x=>((eval ts x).val?).getD Go.undef) (ρ':=fun x=>((eval ts' x).val?).getD Go.undef) o hsel (fun x hx=>by rw [h x hx])]
 ·simp [hs]
theorem u0N {P:Program}{call:a0w}{ts ts':List D}{H:List Row}{c:Call}(h:∀ x∈c.operands,eval ts x=eval ts' x):r0C P call ts H c=r0C P call ts' H c:=by
 have hargs:c.args.toList.map (eval ts)=c.args.toList.map (eval ts'):=List.map_congr_left fun x hx=>h x (by simp [Call.operands];exact .inr (by simpa using hx))
 unfold r0C
 rw [hargs]
 cases hc:c.callee with
 | value f =>
  have hf:eval ts f=eval ts' f:=h f (by simp [Call.operands,hc])
  simp only [hf]
 | invoke r m=>rfl
 | builtin b =>
  generalize List.map (eval ts') c.args.toList=l
  generalize c.argTypes.toList=t
  cases b<;>rcases l with _|⟨x,_|⟨y,_|⟨z,l⟩⟩⟩<;>rcases t with _|⟨p,_|⟨q,_|⟨r,t⟩⟩⟩<;>rfl
theorem i0V {ts ts':List D}{ps:Array (Nat × Operand)}(h:∀ p∈ps,eval ts p.2=eval ts' p.2):(ps.toList.map fun p=>(p.1,eval ts p.2))=(ps.toList.map fun p=>(p.1,eval ts' p.2)) :=
 List.map_congr_left fun p hp=>by rw [h p (by simpa using hp)]
theorem k0Y {ts ts':List D}{q:Option Operand}(h:∀ x,q=some x→eval ts x=eval ts' x):q.map (eval ts)=q.map (eval ts'):=by
 cases q with
 | none=>rfl
 | some x=>simp [h x rfl]
set_option maxHeartbeats 2000000 in
theorem t0F {P:Program}{call:a0w}{ts ts':List D}{H:List Row}{o:Oper}(h:∀ x∈o.op.operands,eval ts x=eval ts' x):a0x P call ts H o=a0x P call ts' H o:=by
 have hp:=t0s (P:=P) h
 unfold a0x
 rw [hp]
 cases hop:o.op<;>rw [hop] at h<;>dsimp only
 case move x=>rw [h x (by simp [Op.operands])]
 case assign x=>rw [h x (by simp [Op.operands])]
 case pick c a b=>rw [h c (by simp [Op.operands]),h a (by simp [Op.operands]),h b (by simp [Op.operands])]
 case box T x=>rw [h x (by simp [Op.operands])]
 case load T x=>rw [h x (by simp [Op.operands])]
 case store T x y=>rw [h x (by simp [Op.operands]),h y (by simp [Op.operands])]
 case nilCheck x=>rw [h x (by simp [Op.operands])]
 case makeFunc fn first captured =>
  have hc:captured.toList.map (eval ts)=captured.toList.map (eval ts'):=List.map_congr_left fun x hx=>h x (by simp [Op.operands];exact .inr (by simpa using hx))
  cases fn<;>dsimp only<;>rw [hc]
 case makeMap T r=>cases r<;>rfl
 case makeSlice T x y=>rw [h x (by simp [Op.operands]),h y (by simp [Op.operands])]
 case fieldAddr T x f=>rw [h x (by simp [Op.operands])]
 case indexAddr T x y=>rw [h x (by simp [Op.operands]),h y (by simp [Op.operands])]
 case buildSlice T n ps=>rw [i0V fun p hp=>h p.2 (by simp [Op.operands];exact ⟨p.1,hp⟩)]
 case mapUpdate T m k x=>rw [h m (by simp [Op.operands]),h k (by simp [Op.operands]),h x (by simp [Op.operands])]
 case insert T m k x=>rw [h m (by simp [Op.operands]),h k (by simp [Op.operands]),h x (by simp [Op.operands])]
 case lookup T m k ok=>rw [h m (by simp [Op.operands]),h k (by simp [Op.operands])]
 case extract x i=>rw [h x (by simp [Op.operands])]
 case call c=>rw [u0N (ts':=ts') (fun x hx=>h x (by simpa [Op.operands] using hx))]
 case slice T x lo hi mx =>
  rw [h x (by simp [Op.operands]),k0Y (ts':=ts') (q:=lo) (fun y hy=>h y (by simp [Op.operands,hy])),k0Y (ts':=ts') (q:=hi) (fun y hy=>h y (by simp [Op.operands,hy])),k0Y (ts':=ts') (q:=mx) (fun y hy=>h y (by simp [Op.operands,hy]))]
 case field T x f=>rw [h x (by simp [Op.operands])]
 case build T ps=>rw [i0V fun p hp=>h p.2 (by simp [Op.operands];exact ⟨p.1,hp⟩)]
 case convert a b x=>rw [h x (by simp [Op.operands])]
 case binOp op T x y ty =>
  have hx:=h x (by simp [Op.operands])
  have hy:=h y (by simp [Op.operands])
  cases op<;>dsimp only<;>rw [hx,hy]
def over {α:Type}:Option α→Option α→Option α
 | some y,_=>some y
 | none,acc=>acc
def cont {α:Type}(E:Nat→Bool):List (Option α)→Nat→Option α→Option α
 | [],_,acc=>acc
 | w :: ws,k,acc=>cont E ws (k+1) (if E k then (over w acc) else acc)
section
variable {α:Type}
theorem c0j (E:Nat→Bool):∀ (u v:List (Option α)) (k:Nat) (acc:Option α),cont E (u++v) k acc=cont E v (k+u.length) (cont E u k acc)
 | [],v,k,acc=>by simp [cont]
 | w :: u,v,k,acc=>by
  simp only [List.cons_append,cont,List.length_cons]
  rw [c0j E u v]
  rw [show k+1+u.length=k+(u.length+1) by omega]
theorem d0R {E:Nat→Bool}:∀ {ws:List (Option α)} {k:Nat} {acc:Option α},(∀ j y,ws[j]?=some (some y)→E (k+j)=false)→cont E ws k acc=acc
 | [],_,_,_=>rfl
 | w :: ws,k,acc,h=>by
  simp only [cont]
  have h0:(if E k then (over w acc) else acc)=acc:=by
   cases w with
   | none=>simp [over]
   | some y=>rw [if_neg (by have:=h 0 y (by simp);simpa using this)]
  rw [h0]
  exact d0R (fun j y hy=>by have:=h (j+1) y (by simpa using hy);rwa [show k+(j+1)=k+1+j by omega] at this)
theorem c0d {E E':Nat→Bool}:∀ {ws:List (Option α)} {k:Nat} {acc:Option α},(∀ j y,ws[j]?=some (some y)→E (k+j)=E' (k+j))→cont E ws k acc=cont E' ws k acc
 | [],_,_,_=>rfl
 | w :: ws,k,acc,h=>by
  simp only [cont]
  have h0:(if E k then (over w acc) else acc)=(if E' k then (over w acc) else acc):=by
   cases w with
   | none=>simp [over]
   | some y=>have:=h 0 y (by simp);simp only [Nat.add_zero] at this;rw [this]
  rw [h0]
  exact c0d (fun j y hy=>by have:=h (j+1) y (by simpa using hy);rwa [show k+(j+1)=k+1+j by omega] at this)
theorem x0L {E:Nat→Bool}{ws:List (Option α)}{acc:Option α}(i:Nat)(h1:∀ j y,j<i→ws[j]?=some (some y)→E j=true)(h2:∀ j y,i≤j→ws[j]?=some (some y)→E j=false):cont E ws 0 acc=cont (fun _=>true) (ws.take i) 0 acc:=by
 conv=>lhs;rw [←List.take_append_drop i ws]
 rw [c0j,Nat.zero_add]
 rw [d0R (ws:=ws.drop i)]
 ·exact c0d (fun j y hy=>by
   rw [List.getElem?_take] at hy
   split at hy
   ·rename_i hj
    simpa using h1 j y hj hy
   ·simp at hy)
 ·intro j y hy
  rw [List.getElem?_drop] at hy
  have hi:i<ws.length:=by have:=(List.getElem?_eq_some_iff.1 hy).1;omega
  rw [List.length_take,Nat.min_eq_left (by omega)]
  exact h2 (i+j) y (by omega) hy
theorem o0K {E:Nat→Bool}{ws:List (Option α)}{acc:Option α}{i:Nat}{y:α}(hi:ws[i]?=some (some y))(hE:E i=true)(h2:∀ j y,i<j→ws[j]?=some (some y)→E j=false):cont E ws 0 acc=some y:=by
 have hlt:i<ws.length:=(List.getElem?_eq_some_iff.1 hi).1
 have hsplit:ws=ws.take i++some y :: ws.drop (i+1):=by
  have:=List.getElem_cons_drop hlt
  have hyi:ws[i]=some y:=by simpa [hlt] using hi
  rw [hyi] at this
  rw [this,List.take_append_drop]
 rw [hsplit,c0j]
 have hl:(ws.take i).length=i:=by rw [List.length_take];omega
 simp only [cont,hl,Nat.zero_add,hE,if_true,over]
 rw [d0R]
 intro j z hz
 rw [List.getElem?_drop] at hz
 exact h2 (i+1+j) z (by omega) hz
end
def k0j:List (Nat × Row)→Nat→Option Row
 | [],_=>none
 | (i,r) :: us,x=>match k0j us x with
  | some y=>some y
  | none=>if i=x then some r else none
theorem c0L:∀ (us:List (Nat × Row)) (H:List Row) (x:Nat),x<H.length→(a0B H us)[x]?=over (k0j us x) H[x]?
 | [],H,x,_=>rfl
 | (i,r) :: us,H,x,hx=>by
  show (a0B (H.set i r) us)[x]?=_
  rw [c0L us (H.set i r) x (by simpa using hx)]
  simp only [k0j]
  cases k0j us x with
  | some y=>rfl
  | none =>
   by_cases e:i=x
   ·subst e;simp [hx,over]
   ·simp [e,over]
theorem q0N:∀ {us:List (Nat × Row)} {x:Nat} {y:Row},k0j us x=some y→(x,y)∈us
 | (i,r) :: us,x,y,h=>by
  simp only [k0j] at h
  cases hl:k0j us x with
  | some z=>rw [hl] at h;injection h with h;subst h;exact List.mem_cons_of_mem _ (q0N hl)
  | none =>
   rw [hl] at h
   simp only at h
   split at h
   ·rename_i e
    injection h with h
    subst e;subst h
    exact List.mem_cons_self
   ·cases h
structure Rec where
 res:D
 upd:List (Nat × Row)
 news:List Row
 base:Nat
 view:List Nat
def wr (x:Nat)(r:Rec):Option Row:=if r.base≤x then r.news[x-r.base]? else k0j r.upd x
def sw (t:Nat)(p:Oper × Rec):Option D:=if p.1.dst=some t then some p.2.res else none
def StepOk (P:Program)(ts:List D)(M:List Row)(o:Oper)(e:Eff):Prop :=
 ∀ ts':List D,(∀ x∈o.op.operands,eval ts' x=eval ts x)→∀ (w:World) (φ:Nat→Nat × Nat) (X:Nat→Prop) (a:Act),HR P w φ X M→Rs P w φ (Av X φ M) M.length ts' a.tmps.toList→OpOk P o a w (Leaves P w φ X M e)
theorem StepOk.of_stepD {P:Program}(hP:Good P){call:a0w}(hcall:∀ f,e0o P f (call f)){ts:List D}{M:List Row}{o:Oper}{e:Eff}(h:a0x P call ts M o=some e):StepOk P ts M o e:=by
 intro ts' heq w φ X a hM hts
 exact o0w hP hcall hM hts ((t0F heq).trans h)
section
variable (P:Program)(ops:List Oper)(b:List Nat)(n0:Nat)
structure Fact (i:Nat)(pre:List Rec)(own:List Nat)(s:St)(o:Oper)(r:Rec):Prop where
 base:r.base=s.H.length
 how:(b0X ops s.ts o=some false∧r.res=D.undef∧r.upd=[]∧r.news=[]∧r.view=[]) ∨
  (b0X ops s.ts o=some true∧StepOk P s.ts (b0k r.view s.H) o ⟨r.res,r.upd,r.news⟩∧(∀ x∈r.view,f0e n0 own (b.getD i 0) x=true) ∧
   (∀ p∈r.upd,p.1∈r.view∧p.1<s.H.length)∧(∀ j q,pre[j]?=some q→(b.getD i 0).testBit j=true∨((∀ p∈q.upd,p.1 ∉ r.view)∧∀ p∈r.upd,p.1 ∉ q.view)) ∧
   inOk n0 own (b.getD i 0) s.ts (b0k r.view s.H) o=true∧c1p n0 own (b.getD i 0) s.H.length ⟨r.res,r.upd,r.news⟩=true)
inductive Tr:List Oper→Nat→List Rec→List Nat→St→List Rec→St→Prop
 | nil {i:Nat} {pre:List Rec} {own:List Nat} {s:St}:Tr [] i pre own s [] s
 | cons {o:Oper} {rest:List Oper} {i:Nat} {pre:List Rec} {own:List Nat} {s:St} {r:Rec} {recs:List Rec} {s':St}:Fact P ops b n0 i pre own s o r→Tr rest (i+1) (pre++[r]) (own++r.news.map fun _=>i) ⟨putD! s.ts o.dst r.res,a0B s.H r.upd++r.news,r.upd.map (·.1)++s.dirty⟩ recs s'→Tr (o :: rest) i pre own s (r :: recs) s'
end
theorem g0A {V:List Nat}{H:List Row}:(b0k V H).length=H.length:=by simp [b0k]
theorem g0B {V:List Nat}{H:List Row}{x:Nat}{row:Row}(h:(b0k V H)[x]?=some row):row = .dead∨(H[x]?=some row∧x∈V):=by
 unfold b0k at h
 rw [List.getElem?_map,List.getElem?_zipIdx] at h
 cases hx:H[x]? with
 | none=>rw [hx] at h;simp at h
 | some y =>
  rw [hx] at h
  simp at h
  split at h
  ·rename_i hv;subst h;exact .inr ⟨rfl,by simpa using hv⟩
  ·exact .inl h.symm
theorem e0A {m:Nat}{V U:List Nat}:∀ {l:List (List Nat × List Nat)} {k:Nat},g0P m V U k l=true→∀ j q,l[j]?=some q→m.testBit (k+j)=true∨((∀ x∈q.2,x ∉ V)∧∀ x∈U,x ∉ q.1)
 | [],_,_,j,q,hq=>by simp at hq
 | (V',U') :: l,k,h,j,q,hq=>by
  simp only [g0P,Bool.and_eq_true,Bool.or_eq_true,List.all_eq_true,Bool.not_eq_true'] at h
  cases j with
  | zero =>
   simp at hq
   subst hq
   refine h.1.imp id (fun ⟨h1,h2⟩=>⟨fun x hx hv=>?_,fun x hx hv=>?_⟩)
   ·have:=h1 x hx
    rw [List.contains_iff_mem.2 hv] at this;cases this
   ·have:=h2 x hx
    rw [List.contains_iff_mem.2 hv] at this;cases this
  | succ j =>
   have:=e0A h.2 j q (by simpa using hq)
   rwa [show k+1+j=k+(j+1) by omega] at this
theorem j0c {P:Program}(hP:Good P){call:a0w}(hcall:∀ f,e0o P f (call f)){ops:List Oper}{b:List Nat}{n0:Nat}:∀ (rest:List Oper) (i:Nat) (pre:List Rec) (own:List Nat) (s:St) (p:St × List Nat),d0h P call ops b n0 rest i own (pre.map fun r=>(r.view,r.upd.map (·.1))) s=some p→∃ recs,Tr P ops b n0 rest i pre own s recs p.1
 | [],i,pre,own,s,p,h=>by simp [d0h] at h;subst h;exact ⟨[],.nil⟩
 | o :: rest,i,pre,own,s,p,h=>by
  simp only [d0h] at h
  split at h
  ·rename_i hw
   split at h
   ·rename_i e he
    split at h
    ·rename_i hok
     simp only [Bool.and_eq_true,List.all_eq_true,decide_eq_true_eq] at hok
     obtain ⟨⟨⟨⟨h1,h2⟩,h3⟩,h4⟩,h5⟩:=hok
     obtain ⟨recs,hr⟩:=j0c hP hcall rest (i+1) (pre++[⟨e.res,e.upd,e.news,s.H.length,v0D s.ts s.H o⟩]) _ _ p (by simpa using h)
     refine ⟨⟨e.res,e.upd,e.news,s.H.length,v0D s.ts s.H o⟩ :: recs,.cons ⟨rfl,.inr ⟨hw,.of_stepD hP hcall he,h1,fun q hq=>?_,fun j q hq=>?_,h2,h3⟩⟩ hr⟩
     ·have:=h4 q hq
      exact ⟨by simpa using this.1,this.2⟩
     ·have:=e0A h5 j (q.view,q.upd.map (·.1)) (by rw [List.getElem?_map,hq];rfl)
      rw [Nat.zero_add] at this
      refine this.imp id (fun ⟨g1,g2⟩=>⟨fun p hp=>g1 p.1 (List.mem_map.2 ⟨p,hp,rfl⟩),fun p hp=>g2 p.1 (List.mem_map.2 ⟨p,hp,rfl⟩)⟩)
    ·cases h
   ·cases h
  ·rename_i hw
   obtain ⟨recs,hr⟩:=j0c hP hcall rest (i+1) (pre++[⟨D.undef,[],[],s.H.length,[]⟩]) own ⟨putD! s.ts o.dst D.undef,s.H,s.dirty⟩ p (by simpa using h)
   exact ⟨⟨D.undef,[],[],s.H.length,[]⟩ :: recs,.cons ⟨rfl,.inl ⟨hw,rfl,rfl,rfl,rfl⟩⟩ (by simpa [a0B] using hr)⟩
  ·cases h
structure At (n0:Nat)(s0:St)(done:List Oper)(pre:List Rec)(own:List Nat)(s:St):Prop where
 eq:pre.length=done.length
 len:s.H.length=n0+own.length
 rows:∀ x:Nat,s.H[x]?=cont (fun _=>true) (pre.map (wr x)) 0 s0.H[x]?
 tlen:s.ts.length=s0.ts.length
 slots:∀ t:Nat,t<s0.ts.length→s.ts[t]?=cont (fun _=>true) ((done.zip pre).map (sw t)) 0 s0.ts[t]?
 own:∀ (j q:Nat),own[j]?=some q→∃ r,pre[q]?=some r∧r.base≤n0+j∧n0+j<r.base+r.news.length
 bases:∀ (q:Nat) (r:Rec),pre[q]?=some r→n0≤r.base∧r.base+r.news.length≤s.H.length
 upds:∀ (q:Nat) (r:Rec) (p:Nat × Row),pre[q]?=some r→p∈r.upd→p.1<r.base
theorem At.next {P:Program}{ops:List Oper}{b:List Nat}{n0:Nat}{s0:St}{done:List Oper}{pre:List Rec}{own:List Nat}{s:St}(h:At n0 s0 done pre own s){o:Oper}{r:Rec}(hf:Fact P ops b n0 done.length pre own s o r) :
  At n0 s0 (done++[o]) (pre++[r]) (own++r.news.map fun _=>done.length) ⟨putD! s.ts o.dst r.res,a0B s.H r.upd++r.news,r.upd.map (·.1)++s.dirty⟩:=by
 have hupd:∀ p∈r.upd,p.1<r.base:=by
  intro p hp
  rcases hf.how with ⟨_,_,hu,_⟩|⟨_,_,_,hall,_⟩
  ·rw [hu] at hp;simp at hp
  ·rw [hf.base]
   exact (hall p hp).2
 refine ⟨by simp [h.eq],by simp [a0G,h.len];omega,fun x=>?_,?_,fun t ht=>?_,fun j q hq=>?_,fun q r' hq=>?_,fun q r' p hq hp=>?_⟩
 ·rw [List.map_append,c0j]
  simp only [List.map_cons,List.map_nil,cont,if_true]
  rw [←h.rows x]
  unfold wr
  rw [hf.base]
  by_cases hx:x<s.H.length
  ·rw [List.getElem?_append_left (by rw [a0G];exact hx),c0L _ _ _ hx,if_neg (by omega)]
  ·rw [List.getElem?_append_right (by rw [a0G];omega),a0G,if_pos (by omega)]
   have hn:s.H[x]?=none:=List.getElem?_eq_none (by omega)
   rw [hn]
   cases r.news[x-s.H.length]?<;>rfl
 ·cases hd:o.dst<;>simp [putD!,h.tlen]
 ·rw [List.zip_append (by rw [h.eq]),List.map_append,c0j]
  simp only [List.zip_cons_cons,List.zip_nil_left,List.map_cons,List.map_nil,cont,if_true,sw]
  rw [←h.slots t ht]
  cases hd:o.dst with
  | none=>simp [putD!,over]
  | some t' =>
   simp only [putD!,Option.some.injEq]
   by_cases e:t'=t
   ·subst e;simp [h.tlen,ht,over]
   ·simp [e,over]
 ·by_cases hj:j<own.length
  ·rw [List.getElem?_append_left hj] at hq
   obtain ⟨r',h1,h2,h3⟩:=h.own j q hq
   refine ⟨r',?_,h2,h3⟩
   rw [List.getElem?_append_left (List.getElem?_eq_some_iff.1 h1).1];exact h1
  ·rw [List.getElem?_append_right (by omega),List.getElem?_map] at hq
   cases hn:r.news[j-own.length]? with
   | none=>rw [hn] at hq;simp at hq
   | some y =>
    rw [hn] at hq
    simp at hq
    subst hq
    have hlt:=(List.getElem?_eq_some_iff.1 hn).1
    refine ⟨r,by rw [←h.eq];simp,by rw [hf.base,h.len];omega,by rw [hf.base,h.len];omega⟩
 ·by_cases hq':q<pre.length
  ·rw [List.getElem?_append_left hq'] at hq
   obtain ⟨h1,h2⟩:=h.bases q r' hq
   exact ⟨h1,by simp [a0G];omega⟩
  ·have h1:=(List.getElem?_eq_some_iff.1 hq).1
   simp at h1
   obtain rfl:q=pre.length:=by omega
   simp at hq
   subst hq
   rw [hf.base]
   exact ⟨by rw [h.len];omega,by simp [a0G]⟩
 ·by_cases hq':q<pre.length
  ·rw [List.getElem?_append_left hq'] at hq
   exact h.upds q r' p hq hp
  ·have h1:=(List.getElem?_eq_some_iff.1 hq).1
   simp at h1
   obtain rfl:q=pre.length:=by omega
   simp at hq
   subst hq
   exact hupd p hp
theorem v0O {P:Program}{ops:List Oper}{b:List Nat}{n0:Nat}{s0:St}:∀ (rest done:List Oper) (pre recs:List Rec) (own:List Nat) (s s':St),At n0 s0 done pre own s→Tr P ops b n0 rest done.length pre own s recs s' →
  recs.length=rest.length∧(∃ own',At n0 s0 (done++rest) (pre++recs) own' s') ∧
  ∀ k o,rest[k]?=some o→∃ r own' s1,recs[k]?=some r∧At n0 s0 (done++rest.take k) (pre++recs.take k) own' s1∧Fact P ops b n0 (done.length+k) (pre++recs.take k) own' s1 o r
 | [],done,pre,recs,own,s,s',h,ht=>by
  cases ht
  exact ⟨rfl,⟨own,by simpa using h⟩,fun k o ho=>by simp at ho⟩
 | o :: rest,done,pre,recs,own,s,s',h,ht=>by
  cases ht with
  | @cons _ _ _ _ _ _ r recs _ hf ht =>
   have hn:=h.next hf
   obtain ⟨h1,⟨own',h2⟩,h3⟩:=v0O rest (done++[o]) (pre++[r]) recs _ _ s' hn (by simpa using ht)
   refine ⟨by simp [h1],⟨own',by simpa using h2⟩,fun k o' ho=>?_⟩
   cases k with
   | zero =>
    simp at ho
    subst ho
    exact ⟨r,own,s,by simp,by simpa using h,by simpa using hf⟩
   | succ k =>
    obtain ⟨r',own2,s1,g1,g2,g3⟩:=h3 k o' (by simpa using ho)
    refine ⟨r',own2,s1,by simpa using g1,by simpa using g2,?_⟩
    have e:(done++[o]).length+k=done.length+(k+1):=by simp;omega
    rw [e] at g3
    simpa using g3
end Go.Proofs.YthjgmldnegaaiaaGreatDoor.Mir
namespace Go.Proofs.YthjgmldnegaaiaaGreatDoor.Mir
open Go Go.RowKit
theorem t0p {acc:Array Nat}:∀ (es:List Edge) (s0 j:Nat),((es.foldl (fun s e=>if Region.binds .any e then s ||| 2 ^ e.on ||| acc.getD e.on 0 else s) s0).testBit j=true↔(s0.testBit j=true∨∃ e∈es,Region.binds .any e=true∧(e.on=j∨(acc.getD e.on 0).testBit j=true)))
 | [],s0,j=>by simp
 | e :: es,s0,j=>by
  rw [List.foldl_cons,t0p es]
  by_cases hb:Region.binds .any e=true
  ·simp only [hb,if_true,Nat.testBit_or,Bool.or_eq_true,Nat.testBit_two_pow,decide_eq_true_eq,List.mem_cons]
   constructor
   ·rintro (((h|h)|h)|⟨e',h1,h2⟩)
    ·exact .inl h
    ·exact .inr ⟨e,.inl rfl,hb,.inl h⟩
    ·exact .inr ⟨e,.inl rfl,hb,.inr h⟩
    ·exact .inr ⟨e',.inr h1,h2⟩
   ·rintro (h|⟨e',(rfl|h1),h2,h3⟩)
    ·exact .inl (.inl (.inl h))
    ·rcases h3 with h3|h3
     ·exact .inl (.inl (.inr h3))
     ·exact .inl (.inr h3)
    ·exact .inr ⟨e',h1,h2,h3⟩
  ·simp only [hb,Bool.false_eq_true,if_false,List.mem_cons]
   constructor
   ·rintro (h|⟨e',h1,h2⟩)
    ·exact .inl h
    ·exact .inr ⟨e',.inr h1,h2⟩
   ·rintro (h|⟨e',(rfl|h1),h2,h3⟩)
    ·exact .inl h
    ·exact absurd h2 hb
    ·exact .inr ⟨e',h1,h2,h3⟩
def b0A (l:List Oper):Array Nat:=l.foldl (fun acc o=>acc.push (o.after.foldl (fun s e=>if Region.binds .any e then s ||| 2 ^ e.on ||| acc.getD e.on 0 else s) 0)) #[]
theorem r0g (l:List Oper):(b0A l).size=l.length ∧
  (∀ i o j,l[i]?=some o→((b0A l).getD i 0).testBit j=true→∃ e∈o.after,Region.binds .any e=true∧(e.on=j∨((b0A l).getD e.on 0).testBit j=true)) ∧
  (∀ i o e,l[i]?=some o→e∈o.after→Region.binds .any e=true→((b0A l).getD i 0).testBit e.on=true):=by
 suffices h:∀ n (l:List Oper),l.length=n→((b0A l).size=l.length ∧
  (∀ i o j,l[i]?=some o→((b0A l).getD i 0).testBit j=true→∃ e∈o.after,Region.binds .any e=true∧(e.on=j∨((b0A l).getD e.on 0).testBit j=true)) ∧
  (∀ i o e,l[i]?=some o→e∈o.after→Region.binds .any e=true→((b0A l).getD i 0).testBit e.on=true)) from h _ l rfl
 intro n
 induction n with
 | zero =>
  intro l hl
  have:l=[]:=List.eq_nil_of_length_eq_zero hl
  subst this
  exact ⟨rfl,fun i o j h=>by simp at h,fun i o e h=>by simp at h⟩
 | succ n ih =>
  intro l hl
  have hne:l≠[]:=by intro e;subst e;simp at hl
  obtain ⟨m,o,rfl⟩:∃ m o,l=m++[o]:=⟨l.dropLast,l.getLast hne,(List.dropLast_concat_getLast hne).symm⟩
  simp at hl
  obtain ⟨h1,h2,h3⟩:=ih m hl
  have hb:b0A (m++[o])=(b0A m).push (o.after.foldl (fun s e=>if Region.binds .any e then s ||| 2 ^ e.on ||| (b0A m).getD e.on 0 else s) 0):=by
   simp [b0A,List.foldl_append]
  have old:∀ k,k<m.length→(b0A (m++[o])).getD k 0=(b0A m).getD k 0:=by
   intro k hk
   rw [hb]
   simp only [Array.getD_eq_getD_getElem?]
   rw [Array.getElem?_push_lt (by rw [h1];exact hk),Array.getElem?_eq_getElem (by rw [h1];exact hk)]
  have up:∀ k j,((b0A m).getD k 0).testBit j=true→((b0A (m++[o])).getD k 0).testBit j=true:=by
   intro k j hk
   by_cases hlt:k<m.length
   ·rw [old k hlt];exact hk
   ·rw [Array.getD_eq_getD_getElem?,Array.getElem?_eq_none (by rw [h1];omega)] at hk
    simp at hk
  have new:(b0A (m++[o])).getD m.length 0=o.after.foldl (fun s e=>if Region.binds .any e then s ||| 2 ^ e.on ||| (b0A m).getD e.on 0 else s) 0:=by
   rw [hb,Array.getD_eq_getD_getElem?,←h1,Array.getElem?_push_size]
   rfl
  have cases_:∀ i q,(m++[o])[i]?=some q→(i<m.length∧m[i]?=some q)∨(i=m.length∧q=o):=by
   intro i q hq
   by_cases hi:i<m.length
   ·rw [List.getElem?_append_left hi] at hq;exact .inl ⟨hi,hq⟩
   ·have:=(List.getElem?_eq_some_iff.1 hq).1
    simp at this
    obtain rfl:i=m.length:=by omega
    simp at hq
    exact .inr ⟨rfl,hq.symm⟩
  refine ⟨by rw [hb];simp [h1],fun i q j hq hj=>?_,fun i q e hq he hbe=>?_⟩
  ·rcases cases_ i q hq with ⟨hi,hq'⟩|⟨rfl,rfl⟩
   ·rw [old i hi] at hj
    obtain ⟨e,g1,g2,g3⟩:=h2 i q j hq' hj
    exact ⟨e,g1,g2,g3.imp id (up _ _)⟩
   ·rw [new,←Array.foldl_toList,t0p] at hj
    rcases hj with hj|⟨e,g1,g2,g3⟩
    ·simp at hj
    ·exact ⟨e,by simpa using g1,g2,g3.imp id (up _ _)⟩
  ·rcases cases_ i q hq with ⟨hi,hq'⟩|⟨rfl,rfl⟩
   ·rw [old i hi]
    exact h3 i q e hq' he hbe
   ·rw [new,←Array.foldl_toList,t0p]
    exact .inr ⟨e,by simpa using he,hbe,.inl rfl⟩
theorem a1n (ops:Array Oper):Region.before ops=b0A ops.toList:=by
 unfold Region.before b0A
 rw [←Array.foldl_toList]
theorem Low.and {S T:Nat→Prop}{d:D}(h:Low S d)(k:Low T d):Low (fun r=>S r∧T r) d:=by
 induction h with
 | f=>exact .f
 | sl hr=>cases k with|sl k=>exact .sl ⟨hr,k⟩
 | pt hr=>cases k with|pt k=>exact .pt ⟨hr,k⟩
 | rf=>exact .rf
 | ag _ ih=>cases k with|ag k=>exact .ag (fun i d hd=>ih i d hd (k i d hd))
 | tp _ ih=>cases k with|tp k=>exact .tp (fun i d hd=>ih i d hd (k i d hd))
 | fn _ ih=>cases k with|fn k=>exact .fn (fun i d hd=>ih i d hd (k i d hd))
 | mp hr=>cases k with|mp k=>exact .mp ⟨hr,k⟩
 | junk=>exact .junk
theorem RowLow.and {S T:Nat→Prop}{row:Row}(h:RowLow S row)(k:RowLow T row):RowLow (fun r=>S r∧T r) row:=by
 cases row with
 | box U ds=>exact fun d hd=>(h d hd).and (k d hd)
 | _=>trivial
section
variable {P:Program}{w w':World}{φ φ1:Nat→Nat × Nat}{X:Nat→Prop}{H M:List Row}
def Rest (X:Nat→Prop)(φ:Nat→Nat × Nat)(H M:List Row)(b:Nat):Prop:=X b∨∃ (x:Nat) (row:Row),H[x]?=some row∧row.live=true∧M[x]?≠some row∧(φ x).1=b
theorem HR.part (h:HR P w φ X H){S:Nat→Prop}(hS:∀ r,S r→r<M.length)(hsub:∀ (x:Nat) (row:Row),M[x]?=some row→row = .dead∨(H[x]?=some row∧RowLow S row)):HR P w φ (Rest X φ H M) M:=by
 have live:∀ b,Live φ M b→Live φ H b:=by
  rintro b ⟨x,row,hx,hl,rfl⟩
  rcases hsub x row hx with rfl|⟨h1,_⟩
  ·simp [Row.live] at hl
  ·exact ⟨x,row,h1,hl,rfl⟩
 have av:∀ b,Av (Rest X φ H M) φ M b→Av X φ H b:=by
  rintro b ((hx|⟨x,row,hx,hl,_,rfl⟩)|hb)
  ·exact .inl hx
  ·exact .inr ⟨x,row,hx,hl,rfl⟩
  ·exact .inr (live b hb)
 refine ⟨fun x row hx=>?_,fun x y r1 r2 hx hy l1 l2 e=>?_,fun x row hx hl=>?_,fun b hb=>?_,fun p hp=>(h.gl p hp).thin av⟩
 ·rcases hsub x row hx with rfl|⟨h1,h2⟩
  ·trivial
  ·exact (h.rows x row h1).lower rfl (fun r hr=>⟨rfl,hS r hr⟩) av h2
 ·rcases hsub x r1 hx with rfl|⟨h1,_⟩
  ·simp [Row.live] at l1
  rcases hsub y r2 hy with rfl|⟨h2,_⟩
  ·simp [Row.live] at l2
  exact h.apart x y r1 r2 h1 h2 l1 l2 e
 ·rcases hsub x row hx with rfl|⟨h1,_⟩
  ·simp [Row.live] at hl
  rintro (hb|⟨y,row',hy,hl',hne,e⟩)
  ·exact h.off x row h1 hl hb
  ·have:=h.apart x y row row' h1 hy hl hl' e.symm
   subst this
   rw [h1] at hy
   injection hy with hy
   subst hy
   exact hne hx
 ·rcases hb with hb|⟨x,row,hx,hl,_,rfl⟩
  ·exact h.old b hb
  ·exact h.blk hx hl
def mix (φ φ1:Nat→Nat × Nat)(base len:Nat):Nat→Nat × Nat:=fun x=>if base≤x∧x<base+len then φ1 x else φ x
theorem HR.merge (h:HR P w φ X H){S:Nat→Prop}{Real:Nat→Prop}{e:Eff}{v:Value}(hM:HR P w φ (Rest X φ H M) M)(hsub:∀ (x:Nat) (row:Row),M[x]?=some row→row = .dead∨H[x]?=some row)(post:Post P w φ (Rest X φ H M) M e v w' φ1){H':List Row}(hlen:H'.length=H.length)(hN:M.length+e.news.length≤H.length)
  (hreal:∀ r,Real r→r<H.length∧¬ (M.length≤r∧r<M.length+e.news.length))
  (hrow:∀ (x:Nat) (row:Row),H'[x]?=some row→row = .dead∨(e.heap M)[x]?=some row∨(H[x]?=some row∧M[x]?≠some row∧RowLow Real row∧¬ (M.length≤x∧x<M.length+e.news.length))) :
  HR P w' (mix φ φ1 M.length e.news.length) X H'∧Keep (Live φ H) w w'∧(∀ b,Live (mix φ φ1 M.length e.news.length) H' b→Live φ H b∨w.heap.size≤b) ∧
   (∀ b,b<w.heap.size→Av X (mix φ φ1 M.length e.news.length) H' b→Av X φ H b)∧(∀ b,Av X (mix φ φ1 M.length e.news.length) H' b→Av (Rest X φ H M) φ1 (e.heap M) b):=by
 have hl1:(e.heap M).length=M.length+e.news.length:=f0K e M
 have eq1:∀ r,r<M.length+e.news.length→mix φ φ1 M.length e.news.length r=φ1 r:=by
  intro r hr
  unfold mix
  by_cases hb:M.length≤r
  ·rw [if_pos ⟨hb,hr⟩]
  ·rw [if_neg (fun h=>hb h.1),post.same r (by omega)]
 have eq0:∀ r,¬ (M.length≤r∧r<M.length+e.news.length)→mix φ φ1 M.length e.news.length r=φ r:=fun r hr=>if_neg hr
 have liveM:∀ b,Live φ M b→Live φ H b:=by
  rintro b ⟨x,row,hx,hl,rfl⟩
  rcases hsub x row hx with rfl|h1
  ·simp [Row.live] at hl
  ·exact ⟨x,row,h1,hl,rfl⟩
 have av1:∀ b,Av X (mix φ φ1 M.length e.news.length) H' b→Av (Rest X φ H M) φ1 (e.heap M) b:=by
  rintro b (hx|⟨x,row,hx,hl,rfl⟩)
  ·exact .inl (.inl hx)
  ·rcases hrow x row hx with rfl|h1|⟨h1,h2,_,h3⟩
   ·simp [Row.live] at hl
   ·have hlt:x<(e.heap M).length:=(List.getElem?_eq_some_iff.1 h1).1
    exact .inr ⟨x,row,h1,hl,by rw [eq1 x (by rw [←hl1];exact hlt)]⟩
   ·exact .inl (.inr ⟨x,row,h1,hl,h2,by rw [eq0 x h3]⟩)
 have av0:∀ b,b<w.heap.size→Av X (mix φ φ1 M.length e.news.length) H' b→Av X φ H b:=by
  intro b hb hx
  rcases av1 b hx with (h1|⟨x,row,h1,h2,_,rfl⟩)|h1
  ·exact .inl h1
  ·exact .inr ⟨x,row,h1,h2,rfl⟩
  ·rcases post.fresh b h1 with h2|h2
   ·exact .inr (liveM b h2)
   ·omega
 have fresh:∀ b,Live (mix φ φ1 M.length e.news.length) H' b→Live φ H b∨w.heap.size≤b:=by
  rintro b ⟨x,row,hx,hl,rfl⟩
  rcases hrow x row hx with rfl|h1|⟨h1,_,_,h3⟩
  ·simp [Row.live] at hl
  ·have hlt:x<(e.heap M).length:=(List.getElem?_eq_some_iff.1 h1).1
   rw [eq1 x (by rw [←hl1];exact hlt)]
   exact (post.fresh _ ⟨x,row,h1,hl,rfl⟩).imp (liveM _) id
  ·rw [eq0 x h3]
   exact .inl ⟨x,row,h1,hl,rfl⟩
 have notM:∀ x row,H[x]?=some row→row.live=true→M[x]?≠some row→¬ Live φ M (φ x).1:=by
  rintro x row hx hl hne ⟨y,row',hy,hl',e'⟩
  rcases hsub y row' hy with rfl|h1
  ·simp [Row.live] at hl'
  ·have:=h.apart y x row' row h1 hx hl' hl e'
   subst this
   rw [hx] at h1
   injection h1 with h1
   subst h1
   exact hne hy
 refine ⟨⟨fun x row hx=>?_,fun x y r1 r2 hx hy l1 l2 e'=>?_,fun x row hx hl=>?_,fun b hb=>Nat.lt_of_lt_of_le (h.old b hb) post.keep.size,fun p hp=>(h.gl p hp).keep post.keep (fun b hb=>.inr (liveM b hb)) av0⟩,post.keep.mono (fun b _ hb=>liveM b hb),fresh,av0,av1⟩
 ·rcases hrow x row hx with rfl|h1|⟨h1,h2,h3,h4⟩
  ·trivial
  ·have hok:=post.heap.rows x row h1
   have hlt:x<(e.heap M).length:=(List.getElem?_eq_some_iff.1 h1).1
   exact hok.lower (eq1 x (by rw [←hl1];exact hlt)) (fun r hr=>⟨eq1 r (by rw [←hl1];exact hr),by rw [hlen];have:r<(e.heap M).length:=hr;omega⟩) av1 hok.isLow
  ·have hok:=h.rows x row h1
   have hxl:x<H.length:=(List.getElem?_eq_some_iff.1 h1).1
   have hk:=hok.keep (φ':=φ) (N':=H.length) (A':=Av X (mix φ φ1 M.length e.news.length) H') post.keep (fun b hb=>.inr (liveM b hb)) av0 (fun _ _=>rfl) (Nat.le_refl _) hxl (by
    cases row with
    | dead=>exact .inl rfl
    | box T ds=>obtain ⟨_,cs,g,_⟩:=hok;exact .inr (post.keep.block _ (a0a g) (notM x _ h1 rfl h2)).symm
    | data T xs=>cases xs with|nil=>exact .inl rfl|cons y ys=>obtain ⟨_,_,_,g,_⟩:=hok (List.cons_ne_nil _ _);exact .inr (post.keep.block _ (a0a g) (notM x _ h1 rfl h2)).symm
    | froz T xs=>obtain ⟨g0,_,_,_,_,g,_⟩:=hok;exact .inr (post.keep.block _ (a0a g) (fun hl=>g0 (.inr (liveM _ hl)))).symm
    | map es=>obtain ⟨_,_,g,_⟩:=hok;exact .inr (post.keep.block _ (a0a g) (notM x _ h1 rfl h2)).symm)
   exact hk.lower (eq0 x h4) (fun r hr=>⟨eq0 r (hreal r hr).2,by rw [hlen];exact (hreal r hr).1⟩) (fun _ h=>h) h3
 ·rcases hrow x r1 hx with rfl|h1|⟨h1,h2,_,h3⟩
  ·simp [Row.live] at l1
  ·have hlt:x<(e.heap M).length:=(List.getElem?_eq_some_iff.1 h1).1
   rw [eq1 x (by rw [←hl1];exact hlt)] at e'
   rcases hrow y r2 hy with rfl|k1|⟨k1,k2,_,k3⟩
   ·simp [Row.live] at l2
   ·have hlt':y<(e.heap M).length:=(List.getElem?_eq_some_iff.1 k1).1
    rw [eq1 y (by rw [←hl1];exact hlt')] at e'
    exact post.heap.apart x y r1 r2 h1 k1 l1 l2 e'
   ·rw [eq0 y k3] at e'
    exact absurd (.inr ⟨y,r2,k1,l2,k2,e'.symm⟩) (post.heap.off x r1 h1 l1)
  ·rw [eq0 x h3] at e'
   rcases hrow y r2 hy with rfl|k1|⟨k1,k2,_,k3⟩
   ·simp [Row.live] at l2
   ·have hlt':y<(e.heap M).length:=(List.getElem?_eq_some_iff.1 k1).1
    rw [eq1 y (by rw [←hl1];exact hlt')] at e'
    exact absurd (.inr ⟨x,r1,h1,l1,h2,e'⟩) (post.heap.off y r2 k1 l2)
   ·rw [eq0 y k3] at e'
    exact h.apart x y r1 r2 h1 k1 l1 l2 e'
 ·rcases hrow x row hx with rfl|h1|⟨h1,h2,_,h3⟩
  ·simp [Row.live] at hl
  ·have hlt:x<(e.heap M).length:=(List.getElem?_eq_some_iff.1 h1).1
   rw [eq1 x (by rw [←hl1];exact hlt)]
   exact fun hX=>post.heap.off x row h1 hl (.inl hX)
  ·rw [eq0 x h3]
   exact h.off x row h1 hl
end
end Go.Proofs.YthjgmldnegaaiaaGreatDoor.Mir
