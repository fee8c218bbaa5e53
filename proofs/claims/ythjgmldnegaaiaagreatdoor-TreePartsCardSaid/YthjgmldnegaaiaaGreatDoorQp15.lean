/- Lemmas for the proof. No condition. -/
import Derived.Test.YthjgmldnegaaiaaGreatDoorQp14
import Derived.Shelf.Spec.SlicesInsertGrow
import Derived.Shelf.SlIterI.Nil
import Derived.Shelf.SlIter.Nil
import Derived.Shelf.SortM.Plain
import Derived.Shelf.SortM.SortNone
import Derived.Ground.GgzProg
import Derived.Ground.SlgmProg
set_option linter.unusedVariables false
set_option linter.unusedSimpArgs false
namespace Go.Proofs.YthjgmldnegaaiaaGreatDoor
open Go Go.RowKit Go.Lib Go.Shelf Go.Proofs
theorem o0N:(Tryz.prog.info? 25).map (·.size)=some 1:=by kernel_rfl
theorem g1b:∀ w,(Go.sizeOf 25).run Tryz.prog w = .ok 1 w:=fun w=>by
 obtain ⟨i,hi,hs⟩:=Option.map_eq_some_iff.1 o0N
 simp [Go.sizeOf,typeInfo,hi,hs]
set_option maxHeartbeats 4000000 in
set_option maxRecDepth 100000 in
theorem a1Y (b off n c i vb voff m vc:Nat)(cs vs:List Value)(w:World)(hi:i<n)(hm:0<m)(hroom:n+m≤c)(hc63:n+m≤9223372036854775807)(hvb:vb≠b)
  (hcl:cs.length=n) (hvl:vs.length=m)
  (hcs:∀ j v,cs[j]?=some v→w.cell? ⟨b,off+j,none⟩=some v) (hsp:∀ j,j<n+m→(w.cell? ⟨b,off+j,none⟩).isSome=true) (hfz:∀ j,j<n+m→w.frozen? ⟨b,off+j,none⟩=false)
  (hvs:∀ j v,vs[j]?=some v→w.cell? ⟨vb,voff+j,none⟩=some v) (h1c:∀ v∈cs,v.oneCell'=true) (h1v:∀ v∈vs,v.oneCell'=true)
  (tA tB:TypeId) (kA kB:Nat) (hsa:w.shape? vb=some (tA,kA)) (hsb:w.shape? b=some (tB,kB)) (hkB:kB≠0) (hfa:w.frozen? ⟨vb,voff,none⟩=false) (hfe:w.frozen? ⟨vb,kA,none⟩=false) :
  Calls Tryz.prog 80 #[.slice (some ⟨b,off,none⟩) n c,.int .i64 i,.slice (some ⟨vb,voff,none⟩) m vc] w fun e w' =>
   e = .returned (.slice (some ⟨b,off,none⟩) (n+m) c)∧w'=(w.drew.setCells b (off+(i+m)) (cs.drop i)).setCells b (off+i) vs:=by
 have mixed:Tryz.prog.follows .mixedOrders=true:=by kernel_rfl
 have t24:Tryz.prog.underlying 28=some (.slice 25):=Tryz.underlying28
 have u24:=run_underlying t24
 have hz1:¬ ((m:Int)=0):=by omega
 have hz2:¬ ((i:Int)=(n:Int)):=by omega
 have hov:∀ lb cb,(callFunc 127 #[.slice (some ⟨vb,voff,none⟩) m vc,.slice (some ⟨b,off+(i+m),none⟩) lb cb]).run Tryz.prog w = .ok (.value (.bool false)) w:=fun lb cb=>by
  rw [run_callFunc_extern Tryz.func127 (by kernel_rfl) (by kernel_rfl) (by kernel_rfl) (e:=Extern.SlicesOverlaps.overlaps #[28,28] #[4]) (by kernel_rfl),
   Lib.run_overlaps_apart w 28 4 25 t24 1 g1b ⟨vb,voff,none⟩ ⟨b,off+(i+m),none⟩ m vc lb cb hvb tA tB kA kB hsa hsb hkB hfa hfe]
  rfl
 have hdl:(cs.drop i).length=n-i:=by rw [List.length_drop,hcl]
 have hw1:IntKind.i64.wrap ((i:Int)+(m:Int))=(i:Int)+(m:Int):=by rw [IntKind.wrap_i64];omega
 have hb1:(0:Int)≤(i:Int)+(m:Int):=by omega
 have hin:i≤n:=by omega
 have htn:((i:Int)+(m:Int)).toNat=i+m:=by omega
 have hb2:¬ (c=i+m):=by omega
 have hb3:(i:Int)≤(n:Int)+(m:Int):=by omega
 have hb4:¬ (c=i):=by omega
 have hcp1:∀ ty dc sc,(Builtin.copy_ #[28,28] ty #[.slice (some ⟨b,off+(i+m),none⟩) (n+m-(i+m)) dc,.slice (some ⟨b,off+i,none⟩) (n+m-i) sc]).run Tryz.prog w.drew = .ok (goInt (cs.drop i).length) (w.drew.setCells b (off+(i+m)) (cs.drop i)):=fun ty dc sc =>
  run_copy_cells w.drew _ _ ty 25 b (off+(i+m)) (n+m-(i+m)) dc ⟨b,off+i,none⟩ (n+m-i) sc (cs.drop i) t24 o0N (by rw [hdl];simp only [Nat.min_def];split<;>omega)
   (fun j v hj=>by rw [Addr.add_lit,Nat.add_assoc];exact hcs (i+j) v (by rwa [List.getElem?_drop] at hj))
   (fun j hj=>by rw [Nat.add_assoc];exact hsp _ (by omega)) (fun j hj=>by rw [Nat.add_assoc];exact hfz _ (by omega)) (fun v hv=>h1c v (List.mem_of_mem_drop hv))
 obtain ⟨W1,hW1⟩:∃ W1,W1=w.drew.setCells b (off+(i+m)) (cs.drop i):=⟨_,rfl⟩
 have hsp1:∀ k,k<n+m→(W1.cell? ⟨b,off+k,none⟩).isSome=true:=fun k hk=>by
  rw [hW1]
  exact isSome_setCells b _ _ _ (fun j hj=>by rw [Nat.add_assoc];exact hsp _ (by omega)) _ (hsp k hk)
 have hcp2:∀ (W:World),(∀ x,W.cell? x=W1.cell? x)→(∀ x,W.frozen? x=W1.frozen? x)→∀ ty dc,(Builtin.copy_ #[28,28] ty #[.slice (some ⟨b,off+i,none⟩) (n+m-i) dc,.slice (some ⟨vb,voff,none⟩) m vc]).run Tryz.prog W = .ok (goInt vs.length) (W.setCells b (off+i) vs):=fun W hWc hWf ty dc =>
  run_copy_cells W _ _ ty 25 b (off+i) (n+m-i) dc ⟨vb,voff,none⟩ m vc vs t24 o0N (by rw [hvl];simp only [Nat.min_def];split<;>omega)
   (fun j v hj=>by
    rw [Addr.add_lit,hWc,hW1,World.cell?_setCells_out b _ _ _ _ (fun h _=>absurd h hvb)]
    exact hvs j v hj)
   (fun j hj=>by rw [hWc,Nat.add_assoc];exact hsp1 _ (by omega)) (fun j hj=>by rw [hWf,hW1,World.frozen?_setCells,Nat.add_assoc];exact hfz _ (by omega)) h1v
 rw [←hW1] at hcp1
 go_enter Tryz.func80,Tryz.ntmps80
 go_wp2_with (simp only [hov])
 go_region_law_o (refine step_copy_runI rfl _ _ 28 28 rfl _ _ (by simp [Act.eval,Act.put]) (by simp [Act.eval,Act.put]) (hcp1 _ _ _) ?_)
 go_wp2_with (at_builtin;refine wpList_copy_runI _ rfl _ _ 28 28 rfl _ _ rfl rfl (hcp2 _ (fun _=>rfl) (fun _=>rfl) _ _) ?_)
 go_ret
 first|exact ⟨rfl,rfl⟩|exact ⟨rfl,by rw [hW1]⟩
set_option maxHeartbeats 4000000 in
set_option maxRecDepth 100000 in
theorem c1x (b off n c i vb voff m vc:Nat)(cs vs:List Value)(w:World)(hi:i<n)(hm:0<m)(hnc:n≤c)(hroom:c<n+m)(hbig:(n+m)*24≤140737488355328)
  (hcl:cs.length=n) (hvl:vs.length=m)
  (hcs:∀ j v,cs[j]?=some v→w.cell? ⟨b,off+j,none⟩=some v)
  (hvs:∀ j v,vs[j]?=some v→w.cell? ⟨vb,voff+j,none⟩=some v) (h1c:∀ v∈cs,v.oneCell'=true) (h1v:∀ v∈vs,v.oneCell'=true) :
  Calls Tryz.prog 80 #[.slice (some ⟨b,off,none⟩) n c,.int .i64 i,.slice (some ⟨vb,voff,none⟩) m vc] w fun e w' =>
   e = .returned (.slice (some ⟨w.heap.size,0,none⟩) (n+m) (grownCap w (n+m) c 25)) ∧
   w'=(((w.alloc (.cells ((cs.take i).toArray++Builtin.zeroCells (Value.slice none 0 0).cells (n+m-i)++Builtin.zeroCells (Value.slice none 0 0).cells (grownCap w (n+m) c 25-(n+m))) 25)).drew.setCells w.heap.size i vs).drew).setCells w.heap.size (i+m) (cs.drop i):=by
 have mixed:Tryz.prog.follows .mixedOrders=true:=by kernel_rfl
 have t24:Tryz.prog.underlying 28=some (.slice 25):=Tryz.underlying28
 have t3:Tryz.prog.underlying 3=some (.int .i64):=Tryz.underlying3
 obtain ⟨i0,hi0,hz0,hzs,hzb⟩:=info_parts (show (Tryz.prog.info? 25).map (fun i=>(i.zero,i.size,i.bytes))=some (some (Value.slice none 0 0),1,24) by kernel_rfl)
 have hz1:¬ ((m:Int)=0):=by omega
 have hz2:¬ ((i:Int)=(n:Int)):=by omega
 have hz3:(c:Int)<(n:Int)+(m:Int):=by omega
 have hsz:=o0N
 have hbw:b<w.heap.size:=block_lt_of_cell (hcs 0 _ (List.getElem?_eq_getElem (by omega)))
 have hvw:vb<w.heap.size:=block_lt_of_cell (hvs 0 _ (List.getElem?_eq_getElem (by omega)))
 have hkk:(n:Int)+(m:Int)-(i:Int)=((n+m-i:Nat):Int):=by omega
 have hik:i+(n+m-i)=n+m:=by omega
 have hold:(Builtin.firstCells i0.size i (.slice (some ⟨b,off,none⟩) i c)).run Tryz.prog w.drew = .ok (cs.take i).toArray w.drew:=by
  rw [hzs]
  exact run_firstCells_some w.drew 1 i ⟨b,off,none⟩ i c (cs.take i) (by rw [List.length_take];omega) (fun j v hj=>by
   rw [Addr.add_lit]
   rw [List.getElem?_take] at hj
   split at hj
   ·exact hcs j v hj
   ·cases hj)
 have hrz:∀ ty,(Builtin.append_ #[28,3] ty #[.slice (some ⟨b,off,none⟩) i c,.int .i64 ((n:Int)+(m:Int)-(i:Int))]).run Tryz.prog w =
   .ok (.slice (some ⟨w.heap.size,0,none⟩) (n+m) (grownCap w (n+m) c 25)) (w.drew.alloc (.cells ((cs.take i).toArray++Builtin.zeroCells (Value.slice none 0 0).cells (n+m-i)++Builtin.zeroCells (Value.slice none 0 0).cells (grownCap w (n+m) c 25-(n+m))) 25)):=fun ty=>by
  have h:=Lib.run_append_grow_zeros w 28 3 ty 25 i0 _ .i64 .i64 t24 t3 hi0 hz0 (some ⟨b,off,none⟩) i c (cs.take i) hold (n+m-i) (by omega) (by omega) (by omega) (by omega) (by rw [hzb];omega) (by rw [hzb,hik];exact growslice_fits hroom hbig)
  rw [hik] at h
  rw [hkk]
  exact h
 obtain ⟨G,hG⟩:∃ G,G=grownCap w (n+m) c 25:=⟨_,rfl⟩
 obtain ⟨ROW,hROW⟩:∃ ROW:Array Value,ROW=(cs.take i).toArray++Builtin.zeroCells (Value.slice none 0 0).cells (n+m-i)++Builtin.zeroCells (Value.slice none 0 0).cells (G-(n+m)):=⟨_,rfl⟩
 rw [←hG] at hrz ⊢
 rw [←hROW] at hrz ⊢
 have hRl:n+m≤ROW.size:=by
  rw [hROW]
  simp [Builtin.zeroCells,Value.cells]
  omega
 obtain ⟨W1,hW1⟩:∃ W1,W1=w.drew.alloc (.cells ROW 25):=⟨_,rfl⟩
 rw [←hW1] at hrz
 have hN:∀ j,j<n+m→(W1.cell? ⟨w.heap.size,j,none⟩).isSome=true:=fun j hj=>by
  rw [hW1,World.cell?_alloc_at (w:=w.drew) ROW _ w.heap.size j rfl,Array.getElem?_eq_getElem (by omega)];rfl
 have hNf:∀ j,W1.frozen? ⟨w.heap.size,j,none⟩=false:=fun j=>by rw [hW1];exact World.frozen?_alloc_at (w:=w.drew) ROW _ w.heap.size j rfl
 have hOb:∀ j v,w.cell? ⟨b,j,none⟩=some v→W1.cell? ⟨b,j,none⟩=some v:=fun j v h=>by rw [hW1,World.cell?_alloc_past (w:=w.drew) _ b j hbw];exact h
 have hOv:∀ j v,w.cell? ⟨vb,j,none⟩=some v→W1.cell? ⟨vb,j,none⟩=some v:=fun j v h=>by rw [hW1,World.cell?_alloc_past (w:=w.drew) _ vb j hvw];exact h
 have hcpA:∀ (W:World),(∀ x,W.cell? x=W1.cell? x)→(∀ x,W.frozen? x=W1.frozen? x)→∀ ty dc,(Builtin.copy_ #[28,28] ty #[.slice (some ⟨w.heap.size,i,none⟩) (n+m-i) dc,.slice (some ⟨vb,voff,none⟩) m vc]).run Tryz.prog W = .ok (goInt vs.length) (W.setCells w.heap.size i vs):=fun W hWc hWf ty dc =>
  run_copy_cells W _ _ ty 25 w.heap.size i (n+m-i) dc ⟨vb,voff,none⟩ m vc vs t24 hsz (by rw [hvl];simp only [Nat.min_def];split<;>omega)
   (fun j v hj=>by rw [Addr.add_lit,hWc];exact hOv _ v (hvs j v hj))
   (fun j hj=>by rw [hWc];exact hN _ (by omega)) (fun j hj=>by rw [hWf];exact hNf _) h1v
 have hGn:n+m≤G:=by rw [hG];exact grownCap_ge w _ _ _
 have hG63:G≤9223372036854775807:=by
  have:=grownCap_le_maxLen w (n+m) c 25 (by unfold maxLen;omega)
  rw [←hG] at this
  unfold maxLen at this
  omega
 have hGi:¬ (G=i):=by omega
 have hGim:¬ (G=i+m):=by omega
 have hci:¬ (c=i):=by omega
 have hbN:b≠w.heap.size:=by omega
 have hdl:(cs.drop i).length=n-i:=by rw [List.length_drop,hcl]
 have hcpB:∀ (W:World),(∀ x,W.cell? x=(W1.setCells w.heap.size i vs).cell? x)→(∀ x,W.frozen? x=(W1.setCells w.heap.size i vs).frozen? x)→∀ ty dc sc,(Builtin.copy_ #[28,28] ty #[.slice (some ⟨w.heap.size,i+m,none⟩) (n+m-(i+m)) dc,.slice (some ⟨b,off+i,none⟩) (n-i) sc]).run Tryz.prog W = .ok (goInt (cs.drop i).length) (W.setCells w.heap.size (i+m) (cs.drop i)):=fun W hWc hWf ty dc sc =>
  run_copy_cells W _ _ ty 25 w.heap.size (i+m) (n+m-(i+m)) dc ⟨b,off+i,none⟩ (n-i) sc (cs.drop i) t24 hsz (by rw [hdl];simp only [Nat.min_def];split<;>omega)
   (fun j v hj=>by
    rw [Addr.add_lit,hWc,World.cell?_setCells_out _ _ _ _ _ (fun h _=>absurd h hbN),Nat.add_assoc]
    exact hOb _ v (hcs (i+j) v (by rwa [List.getElem?_drop] at hj)))
   (fun j hj=>by rw [hWc];exact isSome_setCells _ _ _ _ (fun t ht=>hN _ (by omega)) _ (hN _ (by omega)))
   (fun j hj=>by rw [hWf,World.frozen?_setCells];exact hNf _) (fun v hv=>h1c v (List.mem_of_mem_drop hv))
 subst hW1
 have hE1:∀ x,((w.alloc (.cells ROW 25)).drew).cell? x=(w.drew.alloc (.cells ROW 25)).cell? x:=fun x=>rfl
 have hE2:∀ x,((w.alloc (.cells ROW 25)).drew).frozen? x=(w.drew.alloc (.cells ROW 25)).frozen? x:=fun x=>rfl
 have hF1:∀ x,(((w.alloc (.cells ROW 25)).drew.setCells w.heap.size i vs).drew).cell? x=((w.drew.alloc (.cells ROW 25)).setCells w.heap.size i vs).cell? x:=fun x=>rfl
 have hF2:∀ x,(((w.alloc (.cells ROW 25)).drew.setCells w.heap.size i vs).drew).frozen? x=((w.drew.alloc (.cells ROW 25)).setCells w.heap.size i vs).frozen? x:=fun x=>rfl
 have hw1:IntKind.i64.wrap ((i:Int)+(m:Int))=(i:Int)+(m:Int):=by rw [IntKind.wrap_i64];omega
 have hb1:(0:Int)≤(i:Int)+(m:Int):=by omega
 have hin:i≤n:=by omega
 have htn:((i:Int)+(m:Int)).toNat=i+m:=by omega
 have hb3:(i:Int)≤(n:Int):=by omega
 clear hkk hik hold hROW hG hRl
 go_enter Tryz.func80,Tryz.ntmps80
 go_wp2_with (first
  | (at_builtin;refine Lib.wpList_append_run _ rfl _ _ _ _ rfl _ _ rfl rfl _ _ (hrz _) ?_)
  | (at_builtin;refine wpList_copy_runI _ rfl _ _ 28 28 rfl _ _ rfl rfl (hcpA _ hE1 hE2 _ _) ?_)
  | (at_builtin;refine wpList_copy_runI _ rfl _ _ 28 28 rfl _ _ rfl rfl (hcpB _ (fun _=>rfl) (fun _=>rfl) _ _ _) ?_))
 go_region_law_o (refine step_copy_runI rfl _ _ 28 28 rfl (.slice (some ⟨w.heap.size,i+m,none⟩) (n+m-(i+m)) (G-(i+m))) (.slice (some ⟨b,off+i,none⟩) (n-i) (c-i)) (by simp [Act.eval,Act.put]) (by simp [Act.eval,Act.put]) (hcpB _ hF1 hF2 3 (G-(i+m)) (c-i)) ?_)
 go_wp2
 go_ret
 exact ⟨rfl,rfl⟩
end Go.Proofs.YthjgmldnegaaiaaGreatDoor
namespace Go.Proofs.YthjgmldnegaaiaaGreatDoor.Mir
open Go Go.RowKit
theorem d1h {P:Program}{f:FuncId}(h:((P.funcs[f]?).bind fun fn=>fn.body).isSome=true):∃ fn,P.funcs[f]?=some fn∧fn.body.isSome=true:=by
 cases hf:P.funcs[f]? with
 | none=>rw [hf] at h;cases h
 | some fn=>rw [hf] at h;exact ⟨fn,rfl,h⟩
end Go.Proofs.YthjgmldnegaaiaaGreatDoor.Mir
namespace Go.Proofs.YthjgmldnegaaiaaGreatDoor.Mir
open Go Go.RowKit Go.Lib Go.Proofs
set_option maxHeartbeats 4000000
theorem z0k {a:Array Obj}{b:Nat}{f g:Obj→Obj}{x:Obj}(h:a[b]?=some x)(e:f x=g x):a.modify b f=a.modify b g:=by
 apply Array.ext (by simp)
 intro i h1 h2
 rw [Array.getElem_modify,Array.getElem_modify]
 split
 ·rename_i hi
  subst hi
  obtain ⟨hb,hx⟩:=Array.getElem?_eq_some_iff.1 h
  rw [hx,e]
 ·rfl
theorem s0U {w:World}{b:Nat}{A C:List Value}{y v:Value}{T:TypeId}{fr:Nat × Nat}(h:w.heap[b]?=some (.cells (A++y :: C).toArray T fr)):w.setCell ⟨b,A.length,none⟩ v=w.setRow b (A++v :: C).toArray:=by
 unfold World.setCell World.setRow
 congr 1
 refine z0k h ?_
 simp
theorem f0G {w:World}{b:Nat}{x y:Array Value}:(w.setRow b x).setRow b y=w.setRow b y:=by
 unfold World.setRow
 congr 1
 apply Array.ext (by simp)
 intro i h1 h2
 simp only [Array.getElem_modify]
 split
 ·rename_i hi
  subst hi
  cases w.heap[b]'(by simpa using h2)<;>rfl
 ·rfl
theorem s0J {w:World}{b:Nat}{x:Array Value}{T:TypeId}{fr:Nat × Nat}(h:w.heap[b]?=some (.cells x T fr)):w.setRow b x=w:=by
 obtain ⟨hb,hx⟩:=Array.getElem?_eq_some_iff.1 h
 have:(w.setRow b x).heap=w.heap:=by
  unfold World.setRow
  apply Array.ext (by simp)
  intro i h1 h2
  simp only [Array.getElem_modify]
  split
  ·rename_i hi
   subst hi
   rw [hx]
  ·rfl
 have e:w.setRow b x={ w with heap:=(w.setRow b x).heap }:=rfl
 rw [e,this]
theorem c0J {b:Nat}{T:TypeId}{fr:Nat × Nat}:∀ {vs B A C:List Value} {w:World},B.length=vs.length→w.heap[b]?=some (.cells (A++B++C).toArray T fr)→w.setCells b A.length vs=w.setRow b (A++vs++C).toArray
 | [],B,A,C,w,hl,h=>by
  obtain rfl:=List.eq_nil_of_length_eq_zero hl
  exact (s0J h).symm
 | v :: r,[],A,C,w,hl,h=>by simp at hl
 | v :: r,y :: B,A,C,w,hl,h=>by
  have h1:w.heap[b]?=some (.cells (A++y :: (B++C)).toArray T fr):=by rw [h];simp
  rw [World.setCells,s0U h1]
  have h2:(w.setRow b (A++v :: (B++C)).toArray).heap[b]?=some (.cells ((A++[v])++B++C).toArray T fr):=by
   rw [setRow_heap w b _ _ _ _ h1];simp
  have:=c0J (vs:=r) (B:=B) (A:=A++[v]) (C:=C) (by simpa using hl) h2
  rw [List.length_append,List.length_singleton] at this
  rw [this,f0G]
  simp
theorem inf1:∃ i,Tryz.prog.info? 25=some i∧i.size=1:=Option.map_eq_some_iff.1 o0N
set_option maxRecDepth 100000 in
theorem q0b (t:Br)(i:Nat)(l:List Ev)(hi:i<t.length)(ht:t.length≤1000):Con Tryz.prog 80 [.sl 0 0 t.length,D.int i,.sl 1 0 1] [.data 25 (t.map fEv),.data 25 [fEv l]] fun r H' =>
  r = .sl 2 0 (t.length+1)∧H'=[.dead,.data 25 [fEv l],.data 25 ((t.take i++l :: t.drop i).map fEv)]:=by
 refine ⟨d1h (by kernel_rfl),fun w φ X vs hH ha=>?_⟩
 have hl0:(Row.data 25 (t.map fEv)).live=true:=a0h (fun e=>by rw [List.map_eq_nil_iff] at e;subst e;simp at hi)
 have hl1:(Row.data 25 [fEv l]).live=true:=rfl
 obtain ⟨v0,v1,v2,rfl⟩:∃ v0 v1 v2,vs = #[v0,v1,v2]:=by
  obtain ⟨vs⟩:=vs
  have:=ha.1
  match vs,this with
  | [a,b,c],_=>exact ⟨a,b,c,rfl⟩
 have r0:=ha.2 0 _ _ rfl rfl
 have r1:=ha.2 1 _ _ rfl rfl
 have r2:=ha.2 2 _ _ rfl rfl
 obtain ⟨n,hnt⟩:∃ n,n=t.length:=⟨_,rfl⟩
 obtain ⟨xs,hxs⟩:∃ xs,xs=t.map fEv:=⟨_,rfl⟩
 have hxl:xs.length=n:=by rw [hxs,hnt,List.length_map]
 have hout:(t.take i++l :: t.drop i).map fEv=xs.take i++fEv l :: xs.drop i:=by rw [hxs,List.map_append,List.map_cons,List.map_take,List.map_drop]
 rw [hout]
 rw [←hnt] at r0 hi ht ⊢
 rw [←hxs] at hl0 hH ha ⊢
 clear hout hxs hnt ha
 have hne:xs≠[]:=fun e=>by subst e;simp at hxl;omega
 cases r1 with|f r1=>cases r1 with|v _ =>
 cases r0 with
 | sl0=>omega
 | @sl _ _ _ cap cs0 T0 fr0 i0 hn hr hnc hb0 hi0 hc0 =>
 cases r2 with
 | @sl _ _ _ cap1 cs1 T1 fr1 i1 hn1 hr1 hnc1 hb1 hi1 hc1 =>
 obtain ⟨pre,us,post,g1,g2,g3⟩:=hH.rows 0 _ rfl hne
 obtain ⟨pre1,us1,post1,k1,k2,k3⟩:=hH.rows 1 _ rfl (fun e=>by cases e)
 have hul:us.length=n:=g3.1.trans hxl
 obtain ⟨u,rfl⟩:∃ u,us1=[u]:=by
  have:=k3.1
  match us1,this with
  | [u],_=>exact ⟨u,rfl⟩
 rw [g1] at hb0
 injection hb0 with hb0
 injection hb0 with e1 e2 e3
 subst e1;subst e2;subst e3
 obtain ⟨j0,hj1,hj2⟩:=inf1
 rw [hj1] at hi0
 injection hi0 with hi0
 subst hi0
 rw [hj2,Nat.mul_one,Nat.add_zero] at hc0
 have hsz:(pre++us++post).toArray.size=(φ 0).2+n+post.length:=by simp [hul,g2];omega
 rw [hsz] at hc0
 have hvb:(φ 1).1≠(φ 0).1:=fun e=>by have:=hH.apart 1 0 _ _ rfl rfl hl1 hl0 e;omega
 have hcell:∀ j v,us[j]?=some v→w.cell? ⟨(φ 0).1,(φ 0).2+0+j,none⟩=some v:=fun j v hj=>by
  have:=(List.getElem?_eq_some_iff.1 hj).1
  rw [g0A g1,←g2]
  simp only [List.getElem?_toArray]
  rw [List.append_assoc,List.getElem?_append_right (by omega),List.getElem?_append_left (by omega),show pre.length+0+j-pre.length=j by omega]
  exact hj
 have hcell1:∀ j v,[u][j]?=some v→w.cell? ⟨(φ 1).1,(φ 1).2+0+j,none⟩=some v:=fun j v hj=>by
  have:=(List.getElem?_eq_some_iff.1 hj).1
  rw [g0A k1,←k2]
  simp only [List.getElem?_toArray]
  rw [List.append_assoc,List.getElem?_append_right (by omega),List.getElem?_append_left (by simpa using this),show pre1.length+0+j-pre1.length=j by omega]
  exact hj
 have h1c:∀ v∈us,v.oneCell'=true:=fun v hv=>by
  obtain ⟨j,hj,rfl⟩:=List.getElem_of_mem hv
  exact (g3.2 j _ _ (List.getElem?_eq_getElem (by rw [←g3.1];exact hj)) (List.getElem?_eq_getElem hj)).one
 have h1u:∀ v∈[u],v.oneCell'=true:=fun v hv=>by
  obtain rfl:=List.mem_singleton.1 hv
  exact (k3.2 0 _ _ rfl rfl).one
 by_cases hroom:n+1≤cap
 ·refine (a1Y (φ 0).1 ((φ 0).2+0) n cap i (φ 1).1 ((φ 1).2+0) 1 cap1 us [u] w hi (by omega) hroom (by omega) hvb hul rfl hcell (fun j hj=>?_) (fun j hj=>e1e g1 _) hcell1 h1c h1u 25 25 (pre1++[u]++post1).toArray.size (pre++us++post).toArray.size (by simp [World.shape?,k1]) (by simp [World.shape?,g1]) (by rw [hsz];omega) (e1e k1 _) (e1e k1 _)).mono ?_
  ·rw [g0A g1,Array.getElem?_eq_getElem (by rw [hsz];omega)];rfl
  rintro e w' ⟨rfl,rfl⟩
  obtain ⟨p,post,rfl⟩:∃ p q,post=p :: q:=by
   cases post with
   | nil=>simp at hc0;omega
   | cons p q=>exact ⟨p,q,rfl⟩
  obtain ⟨y,hy⟩:∃ y,us.drop i=y :: us.drop (i+1):=⟨us[i]'(by omega),List.drop_eq_getElem_cons (by omega)⟩
  have hlt:(us.take i).length=i:=by rw [List.length_take];omega
  have hst:us=us.take i++y :: us.drop (i+1):=by rw [←hy,List.take_append_drop]
  have ga:w.drew.heap[(φ 0).1]?=some (.cells ((pre++us.take i++[y])++(us.drop (i+1)++[p])++post).toArray 25 (0,0)):=by
   show w.heap[(φ 0).1]?=_
   rw [g1]
   conv=>lhs;rw [hst]
   simp
  have s1:=c0J (vs:=us.drop i) (B:=us.drop (i+1)++[p]) (A:=pre++us.take i++[y]) (C:=post) (w:=w.drew) (b:=(φ 0).1) (by rw [hy];simp) ga
  have hA1:(pre++us.take i++[y]).length=(φ 0).2+0+(i+1):=by simp [hlt,g2];try omega
  rw [hA1] at s1
  rw [s1]
  have gb:(w.drew.setRow (φ 0).1 (pre++us.take i++[y]++us.drop i++post).toArray).heap[(φ 0).1]?=some (.cells ((pre++us.take i)++[y]++(us.drop i++post)).toArray 25 (0,0)):=by
   rw [setRow_heap _ _ _ _ _ _ ga];simp
  have s2:=c0J (vs:=[u]) (B:=[y]) (A:=pre++us.take i) (C:=us.drop i++post) rfl gb
  have hA2:(pre++us.take i).length=(φ 0).2+0+i:=by simp [hlt,g2]
  rw [hA2,f0G] at s2
  rw [s2]
  have hsz2:((pre++us.take i)++[u]++(us.drop i++post)).toArray.size=((pre++us.take i++[y])++(us.drop (i+1)++[p])++post).toArray.size:=by
   have:=congrArg List.length hy
   simp at this ⊢;omega
  have hk:Keep (fun b=>b=(φ 0).1) w (w.drew.setRow (φ 0).1 ((pre++us.take i)++[u]++(us.drop i++post)).toArray):=by
   have:=(Keep.refl (fun b=>b=(φ 0).1) w).drew.trans (b0h (w:=w.drew) ga hsz2) (fun _ _ h=>h)
   exact this
  have hblk:=setRow_heap w.drew (φ 0).1 _ ((pre++us.take i)++[u]++(us.drop i++post)).toArray _ _ ga
  have hlv:∀ b,b=(φ 0).1→Av X φ [.data 25 xs,.data 25 [fEv l]] b:=fun b e=>by subst e;exact .inr (b0D (r:=0) rfl hl0)
  obtain ⟨m1,m2,m3⟩:=hH.moved (r:=0) rfl hl0 hk (φ 0).1 (φ 0).2 (.data 25 (xs.take i++fEv l :: xs.drop i)) (.inr rfl) (fun hav=>fun _=>⟨pre,us.take i++[u]++us.drop i,post,by rw [a0L];rw [hblk];simp,by rw [a0L];exact g2,by
   have h1:=(((g3.take i).append k3).append (g3.drop i)).keep hk hlv hav
   simpa using h1⟩)
  refine ⟨_,_,_,rfl,⟨rfl,rfl⟩,ext1 φ 2 ((φ 0).1,(φ 0).2),⟨by simp,fun r hr=>a0l hr,hk.mono (fun b _ e=>by subst e;exact b0D (r:=0) rfl hl0),m2⟩,m1,?_⟩
  have hR:=R.sl (P:=Tryz.prog) (w:=w.drew.setRow (φ 0).1 ((pre++us.take i)++[u]++(us.drop i++post)).toArray) (φ:=ext1 φ 2 ((φ 0).1,(φ 0).2)) (A:=Av X (ext1 φ 2 ((φ 0).1,(φ 0).2)) [.dead,.data 25 [fEv l],.data 25 (xs.take i++fEv l :: xs.drop i)]) (N:=3) (r:=2) (off:=0) (n:=n+1) (cap:=cap) (i:=j0) (by omega) (by omega) hroom (by rw [a0L];exact hblk) hj1 (by
   rw [a0L,hj2,hsz2]
   have:=hsz
   simp at this hc0 ⊢
   have h3:=congrArg List.length hy
   simp at h3
   omega)
  rw [a0L] at hR
  exact hR
 ·refine (c1x (φ 0).1 ((φ 0).2+0) n cap i (φ 1).1 ((φ 1).2+0) 1 cap1 us [u] w hi (by omega) hnc (by omega) (by omega) hul rfl hcell hcell1 h1c h1u).mono ?_
  rintro e w' ⟨rfl,rfl⟩
  obtain ⟨G,hG⟩:∃ G,G=grownCap w (n+1) cap 25:=⟨_,rfl⟩
  have hge:n+1≤G:=by rw [hG];exact grownCap_ge w _ _ _
  rw [←hG]
  have hzs:∀ k,(Builtin.zeroCells (Value.slice none 0 0).cells k).size=k:=fun k=>by rw [size_zeroCells];simp [Value.cells]
  obtain ⟨y,Z1,hZ1⟩:∃ y Z,(Builtin.zeroCells (Value.slice none 0 0).cells (n+1-i)).toList=y :: Z:=by
   cases h:(Builtin.zeroCells (Value.slice none 0 0).cells (n+1-i)).toList with
   | nil=>have:=hzs (n+1-i);rw [←Array.length_toList,h] at this;simp at this;omega
   | cons y Z=>exact ⟨y,Z,rfl⟩
  have hZl:Z1.length=n-i:=by have:=hzs (n+1-i);rw [←Array.length_toList,hZ1] at this;simp at this;omega
  obtain ⟨Z2,hZ2⟩:∃ Z,Z=(Builtin.zeroCells (Value.slice none 0 0).cells (G-(n+1))).toList:=⟨_,rfl⟩
  have hZ2l:Z2.length=G-(n+1):=by rw [hZ2,Array.length_toList,hzs]
  have hrow:((us.take i).toArray++Builtin.zeroCells (Value.slice none 0 0).cells (n+1-i)++Builtin.zeroCells (Value.slice none 0 0).cells (G-(n+1)))=(us.take i++[y]++(Z1++Z2)).toArray:=by
   apply Array.ext'
   simp [hZ1,hZ2]
  rw [hrow]
  have hlt:(us.take i).length=i:=by rw [List.length_take];omega
  have ga:(w.alloc (.cells (us.take i++[y]++(Z1++Z2)).toArray 25)).drew.heap[w.heap.size]?=some (.cells (us.take i++[y]++(Z1++Z2)).toArray 25 (0,0)):=heap_alloc_new w _
  have s1:=c0J (vs:=[u]) (B:=[y]) (A:=us.take i) (C:=Z1++Z2) rfl ga
  rw [hlt] at s1
  rw [s1]
  have gb:((w.alloc (.cells (us.take i++[y]++(Z1++Z2)).toArray 25)).drew.setRow w.heap.size (us.take i++[u]++(Z1++Z2)).toArray).drew.heap[w.heap.size]?=some (.cells ((us.take i++[u])++Z1++Z2).toArray 25 (0,0)):=by
   show ((w.alloc (.cells (us.take i++[y]++(Z1++Z2)).toArray 25)).drew.setRow w.heap.size (us.take i++[u]++(Z1++Z2)).toArray).heap[w.heap.size]?=_
   rw [setRow_heap _ _ _ _ _ _ ga];simp
  have s2:=c0J (vs:=us.drop i) (B:=Z1) (A:=us.take i++[u]) (C:=Z2) (by rw [hZl,List.length_drop];omega) gb
  rw [List.length_append,hlt,List.length_singleton] at s2
  rw [s2]
  obtain ⟨W,hW⟩:∃ W,W=((w.alloc (.cells (us.take i++[y]++(Z1++Z2)).toArray 25)).drew.setRow w.heap.size (us.take i++[u]++(Z1++Z2)).toArray).drew:=⟨_,rfl⟩
  rw [←hW] at gb ⊢
  have hk0:Keep (fun _=>False) w W:=by
   rw [hW]
   have h1:=(Keep.alloc (fun _=>False) w (.cells (us.take i++[y]++(Z1++Z2)).toArray 25)).drew
   have h2:=(b0h (w:=(w.alloc (.cells (us.take i++[y]++(Z1++Z2)).toArray 25)).drew) (g:=w.heap.size) (cs:=(us.take i++[u]++(Z1++Z2)).toArray) ga (by simp)).drew
   exact h1.trans h2 (fun b hb e=>by omega)
  have hsz3:(us.take i++[u]++us.drop i++Z2).toArray.size=((us.take i++[u])++Z1++Z2).toArray.size:=by simp;omega
  have hk:Keep (fun _=>False) w (W.setRow w.heap.size (us.take i++[u]++us.drop i++Z2).toArray):=hk0.trans (b0h gb hsz3) (fun b hb e=>by omega)
  have hblk:=setRow_heap W w.heap.size _ (us.take i++[u]++us.drop i++Z2).toArray _ _ gb
  obtain ⟨m1,m2,m3⟩:=hH.moved (r:=0) rfl hl0 (hk.mono (fun _ _ h=>h.elim)) w.heap.size 0 (.data 25 (xs.take i++fEv l :: xs.drop i)) (.inl (Nat.le_refl _)) (fun hav=>fun _=>⟨[],us.take i++[u]++us.drop i,Z2,by rw [a0L];rw [hblk];simp,by rw [a0L];rfl,by
   have h1:=(((g3.take i).append k3).append (g3.drop i)).keep hk (fun _ h=>h.elim) hav
   simpa using h1⟩)
  refine ⟨_,_,_,rfl,⟨rfl,rfl⟩,ext1 φ 2 (w.heap.size,0),⟨by simp,fun r hr=>a0l hr,hk.mono (fun b _ e=>e.elim),m2⟩,m1,?_⟩
  have hR:=R.sl (P:=Tryz.prog) (w:=W.setRow w.heap.size (us.take i++[u]++us.drop i++Z2).toArray) (φ:=ext1 φ 2 (w.heap.size,0)) (A:=Av X (ext1 φ 2 (w.heap.size,0)) [.dead,.data 25 [fEv l],.data 25 (xs.take i++fEv l :: xs.drop i)]) (N:=3) (r:=2) (off:=0) (n:=n+1) (cap:=G) (i:=j0) (by omega) (by omega) hge (by rw [a0L];exact hblk) hj1 (by
   rw [a0L,hj2]
   simp
   omega)
  rw [a0L] at hR
  exact hR
end Go.Proofs.YthjgmldnegaaiaaGreatDoor.Mir
namespace Go.Proofs.YthjgmldnegaaiaaGreatDoor.Mir
open Go Go.RowKit
def b0M:SCode→List Oper
 | .ops l=>l.filterMap fun i=>match i.op with|.raw o=>some o|_=>none
 | .drw l _=>l.filterMap fun i=>match i.op with|.raw o=>some o|_=>none
 | .seq a b=>b0M a++b0M b
 | .cond _ a b=>b0M a++b0M b
 | .block _ a=>b0M a
 | .loop a=>b0M a
 | _=>[]
def b0f (P:Program)(f:FuncId)(k:Nat):SOp:=(((P.funcs[f]?).bind fun fn=>fn.body).bind fun b=>(b0M (a0p P b))[k]?).elim (.mv (.t 0)) .raw
def h0i (P:Program):SCode :=
  (jq ([.a 6 (.mv kN)]) (jq ([jm 10 0,jm 11 1,.a 12 (.sub 1 25 (.t 10) (some (.t 11)) none none)]) (jq ([jm 13 2,je 14 13,jm 7 14]) (.seq (jq ([jm 15
 7,jb 16 .eql 15 0]) (jc 16 (jq ([jm 17 0,jm 6 17]) .ret) .skip)) (jq ([jm 18 0,je 19 18,jm 8 19]) (.seq (jq ([jm 20 1,jm 21 8,jB 22 .eql 20 21])
 (jc 22 (jq ((ap [jm 23 0,jm 24 2,.a 25 (.app 25 1 24 (.t 23) (.t 24))] [jm 6 25])) .ret) .skip)) (.seq (jq ([jm 26 8,jm 27 7,jB 28 .add 26 27,jm
 29 0,.a 30 (b0f P 80 0),jB 31 .gtr 28 30]) (jc 31 (jq ([jm 32 0,jm 33 1,.a 34 (.sub 1 25 (.t 32) none (some (.t 33)) none),jm 35 8,jm 36
 7,jB 37 .add 35 36,jm 38 1,jB 39 .sub 37 38,.a 40 (b0f P 80 1),jm 9 40]) (jq ([jm 41 9,jm 42 1,.a 43 (.sub 1 25 (.t 41) (some (.t 42))
 none none),jm 44 2,.a 45 (b0f P 80 2)]) (.seq (.drw [jm 46 9,jm 47 1,jm 48 7,jB 49 .add 47 48,.a 50 (.sub 1 25 (.t 46) (some (.t 49))
 none none),jm 51 0,jm 52 1,.a 53 (.sub 1 25 (.t 51) (some (.t 52)) none none),.a 54 (b0f P 80 3)] [0,0,0,6,15,0,0,96,255]) (jq ([jm
 55 9,jm 6 55]) .ret)))) .skip)) (jq ([jm 56 0,jm 57 8,jm 58 7,jB 59 .add 57 58,.a 60 (.sub 1 25 (.t 56) none (some (.t 59)) none),jm 0 60]) (.seq
 (jq ((ap [jm 61 2,jm 62 0,jm 63 1,jm 64 7,jB 65 .add 63 64,.a 66 (.sub 1 25 (.t 62) (some (.t 65)) none none),.a 67 (.call (kC 127) [(.t 61),(.t
 66)])] [.a 68 (.unot (.t 67))])) (jc 68 (.seq (.drw [jm 69 0,jm 70 1,jm 71 7,jB 72 .add 70 71,.a 73 (.sub 1 25 (.t 69) (some (.t 72)) none none),
 jm 74 0,jm 75 1,.a 76 (.sub 1 25 (.t 74) (some (.t 75)) none none),.a 77 (b0f P 80 4)] [0,0,0,6,15,0,0,96,255]) (jq ([jm 78 0,jm 79
 1,.a 80 (.sub 1 25 (.t 78) (some (.t 79)) none none),jm 81 2,.a 82 (b0f P 80 5)]) (jq ([jm 83 0,jm 6 83]) .ret))) .skip)) (jq ([jm 84 0,jm
 85 8,.a 86 (.sub 1 25 (.t 84) (some (.t 85)) none none),jm 87 2,.a 88 (b0f P 80 6)]) (jq ([jm 89 0,jm 90 1,.a 91 (.sub 1 25 (.t 89) (some
 (.t 90)) none none),jm 92 7,.a 93 (.call (kC 128) [(.t 91),(.t 92)])]) (jq ([jm 94 0,jm 6 94]) .ret))))))))))))
theorem q0K:Fn Tryz.prog 80 95 [.t 6] (h0i Tryz.prog):=.of Tryz.func80 (by kernel_rfl)
set_option maxHeartbeats 4000000
set_option maxRecDepth 100000 in
theorem o0c (t:Br)(l:List Ev)(ht:t.length≤1000):Con Tryz.prog 80 [.sl 0 0 t.length,D.int t.length,.sl 1 0 1] [.data 25 (t.map fEv),.data 25 [fEv l]] fun r H' =>
  r = .sl 2 0 (t.length+1)∧H'=[.dead,.data 25 [fEv l],.data 25 ((t++[l]).map fEv)]:=by
 refine Con.walk good q0K (by simp) ?_
 unfold h0i
 simp only [a0I]
 have hl:(t.map fEv).length=t.length:=List.length_map _
 repeat' (with_reducible first|refine Wx.h ?_|refine Wb.h fun K hK=>?_|(refine hK _ ?_;clear hK K)|((fail_if_success refine Wz.h ?_);first|simp (disch:=omega) only [↓LD,LA,a0A,seval,LBr,hl,b1P]|(refine And.intro ?_ ?_;omega)|fail))
 all_goals exact endA rfl rfl ⟨rfl,rfl⟩
theorem s0F (t:Br)(i:Nat)(l:List Ev)(hi:i≤t.length)(ht:t.length≤1000):Con Tryz.prog 80 [.sl 0 0 t.length,D.int i,.sl 1 0 1] [.data 25 (t.map fEv),.data 25 [fEv l]] fun r H' =>
  r = .sl 2 0 (t.length+1)∧H'=[.dead,.data 25 [fEv l],.data 25 ((t.take i++l :: t.drop i).map fEv)]:=by
 by_cases h:i<t.length
 ·exact q0b t i l h ht
 ·obtain rfl:i=t.length:=by omega
  rw [List.take_length,List.drop_length]
  exact o0c t l ht
set_option maxRecDepth 100000 in
theorem s0E (t:Br)(l:List Ev)(ht:TrK t)(hl:BrOk l):Con Tryz.prog 76 [.sl 0 0 t.length,.fn 79 [.pt 1 0]] [.data 25 (t.map fEv),bxB l] fun r H'=>r=D.int (idxF (fun x=>decide (0<cmpI (ofL l) (ofL x))) 0 t)∧H'=[.data 25 (t.map fEv),bxB l]:=by
 have htl:=ht.len
 refine Con.walk good j0i (by simp) ?_
 unfold f0u
 simp only [a0I]
 repeat' (with_reducible first|refine Wx.h ?_|refine Wb.h fun K hK=>?_|(refine hK _ ?_;clear hK K)|((fail_if_success refine Wz.h ?_);simp (disch:=omega) only [↓LD,LA,a0A,seval]))
 refine HS.loopG [0,1,7,8] (fun i:Nat=>⟨frm 19 [(0,.sl 0 0 t.length),(1,.fn 79 [.pt 1 0]),(7,D.int t.length),(8,D.int i)],[.data 25 (t.map fEv),bxB l],[]⟩) (fun i=>i≤t.length∧idxF (fun x=>decide (0<cmpI (ofL l) (ofL x))) 0 t=idxF (fun x=>decide (0<cmpI (ofL l) (ofL x))) i (t.drop i)) (fun i=>t.length-i) 0 (by kernel_rfl) ⟨Nat.zero_le _,rfl⟩ ?_
 rintro i ⟨hi,hF⟩
 by_cases hil:i<t.length
 ·obtain ⟨ok,ne⟩:=ht.gt hil
  rw [a0H hil,idxF] at hF
  repeat' (with_reducible first|refine Wx.h ?_|refine Wb.h fun K hK=>?_|(refine hK _ ?_;clear hK K)|refine Wq.h ?_ ?_<;>intro h<;>try (exfalso;omega)|((fail_if_success refine Wz.h ?_);first|simp (disch:=omega) only [↓LD,LA,a0A,seval,LBr]|(refine And.intro ?_ ?_;omega)|fail))
  refine a0J (w0z (gt t i) l ok.idL hl.idL ok.ofK hl.ofK) [1] (by kernel_rfl) rfl rfl ?_
  rintro _ _ ⟨rfl,rfl⟩
  by_cases hc:0<cmpI (ofL l) (ofL (gt t i))
  ·rw [decide_eq_true hc] at hF ⊢
   rw [if_pos rfl] at hF
   simp (disch:=omega) only [↓LD,LA,a0A,seval,ren,List.getElem?_nil,bxB]
   repeat' (with_reducible first|refine Wx.h ?_|refine Wb.h fun K hK=>?_|(refine hK _ ?_;clear hK K)|((fail_if_success refine Wz.h ?_);simp (disch:=omega) only [↓LD,LA,a0A,seval]))
   rw [hF]
   exact endA rfl rfl ⟨rfl,rfl⟩
  ·rw [decide_eq_false hc] at hF ⊢
   rw [if_neg (by simp)] at hF
   simp (disch:=omega) only [↓LD,LA,a0A,seval,ren,List.getElem?_nil,bxB]
   repeat' (with_reducible first|refine Wx.h ?_|refine Wb.h fun K hK=>?_|(refine hK _ ?_;clear hK K)|((fail_if_success refine Wz.h ?_);simp (disch:=omega) only [↓LD,LA,a0A,seval]))
   exact Next.mk (i+1) (by kernel_rfl) ⟨by omega,hF⟩ (by omega)
 ·rw [List.drop_of_length_le (by omega)] at hF
  repeat' (with_reducible first|refine Wx.h ?_|refine Wb.h fun K hK=>?_|(refine hK _ ?_;clear hK K)|refine Wq.h ?_ ?_<;>intro h<;>try (exfalso;omega)|((fail_if_success refine Wz.h ?_);simp (disch:=omega) only [↓LD,LA,a0A,seval]))
  rw [hF]
  exact endA rfl rfl ⟨rfl,rfl⟩
theorem i0m:∀ {l b:List Ev},a0M l b=b.length↔b <+: l
 | l,[]=>by cases l<;>simp [a0M]
 | [],y :: b=>by simp [a0M]
 | x :: l,y :: b=>by
  rw [a0M,List.length_cons,List.cons_prefix_cons]
  by_cases e:x=y
  ·rw [if_pos (d0h e)]
   have:=i0m (l:=l) (b:=b)
   constructor
   ·intro h;exact ⟨e.symm,this.1 (by omega)⟩
   ·rintro ⟨_,h⟩;rw [this.2 h]
  ·rw [if_neg (by rw [c0k e];simp)]
   constructor
   ·intro h;omega
   ·rintro ⟨h,_⟩;exact absurd h.symm e
theorem a1D {l:List Ev}(hl:l≠[]):∀ {o:Br} {k:Nat},(∀ b∈o,b≠[]∧b0d b≠b0d l)→(idxF (fun x=>decide (0<cmpI (ofL l) (ofL x))) k o = -1∧posK l o=o.length)∨idxF (fun x=>decide (0<cmpI (ofL l) (ofL x))) k o=(k+posK l o:Nat)∧posK l o<o.length
 | [],k,_=>.inl ⟨rfl,rfl⟩
 | b :: o,k,h=>by
  obtain ⟨hb,hv⟩:=h b (by simp)
  have ih:=a1D hl (o:=o) (k:=k+1) fun x hx=>h x (by simp [hx])
  have c1:=v0K hb hl hv
  have c2:=v0K hl hb (fun e=>hv e.symm)
  rw [idxF,posK]
  by_cases hc:0<cmpI (ofL l) (ofL b)
  ·rw [if_pos (by simpa using hc),if_neg (by rw [c1];have:=c2.1 hc;omega)]
   exact .inr ⟨by simp,by simp⟩
  ·rw [if_neg (by simpa using hc),if_pos (by rw [c1];have:=mt c2.2 hc;omega)]
   rcases ih with ⟨h1,h2⟩|⟨h1,h2⟩
   ·exact .inl ⟨h1,by rw [h2];simp⟩
   ·exact .inr ⟨by rw [h1];congr 1;omega,by simp;omega⟩
instance {l:List Ev}{H:List Row}{K:Bool→D→List Row→Prop}[hl:Kn (BrOk l∧l≠[])]:Wa (a0j Tryz.prog (.fn 78 []) [.f (fEv l)] H K) (K true (.f (.v (.int .i64 (b0d l)))) H):=⟨fun h=>a0O (o0n l hl.h.1.idL hl.h.1.ofK) rfl rfl rfl (by rw [c0g hl.h.2];exact h)⟩
noncomputable def k0G (t:Br)(l:List Ev):Br × Int :=
 if (t.filter fun b=>!begB b l).any (fun b=>decide (b0d b=b0d l))=true then ([],1) else if 8≤(t.filter fun b=>!begB b l).length then ([],2) else (insU l (t.filter fun b=>!begB b l),0)
set_option maxRecDepth 100000 in
theorem z0c (t:Br)(l:List Ev)(ht:TrK t)(hl:BrOk l)(hne:l≠[]):Con Tryz.prog 47 [.ag [.f (fBr t)],.f (fEv l)] [] fun r H'=>r = .tp [.ag [.f (fBr (k0G t l).1)],D.int (k0G t l).2]∧H'=[]:=by
 suffices hh:∀ Q:D→List Row→Prop,(∀ o e,k0G t l=(o,e)→Q (.tp [.ag [.f (fBr o)],D.int e]) [])→Con Tryz.prog 47 [.ag [.f (fBr t)],.f (fEv l)] [] Q from hh _ fun o e h=>⟨by rw [h],rfl⟩
 intro Q hQ
 unfold k0G at hQ
 have htl:=ht.len
 have hll:=hl.len
 haveI:Kn (FitL l):=⟨hl.fitL⟩
 haveI:Kn (BrOk l∧l≠[]):=⟨hl,hne⟩
 refine Con.walk good x0a (by simp) ?_
 unfold o0s
 simp only [a0I]
 repeat' (with_reducible first|refine Wx.h ?_|refine Wb.h fun K hK=>?_|(refine hK _ ?_;clear hK K)|((fail_if_success refine Wz.h ?_);simp (disch:=omega) only [↓LD,LA,a0A,seval,LBr]))
 refine HS.view (View.void 25) ?_
 refine HS.view (View.bcell 3 0 (.sl 4 0 0) rfl rfl (.no (by show 4<5;omega))) ?_
 refine HS.loopG [3,4,5,6,11,12,13] (fun i:Nat=>⟨frm 59 [(3,.pt 0 0),(4,.pt 1 0),(5,jI),(6,.pt 2 0),(11,.f (fBr t)),(12,D.int t.length),(13,D.int i)],[bxB l,.box 30 [jN],.box 30 [.sl 3 0 ((t.take i).filter fun b=>!begB b l).length],.data 25 (((t.take i).filter fun b=>!begB b l).map fEv)],[]⟩) (fun i=>i≤t.length∧∀ b∈(t.take i).filter (fun b=>!begB b l),b0d b≠b0d l) (fun i=>t.length-i) 0 (by kernel_rfl) ⟨Nat.zero_le _,fun b h=>by simp at h⟩ ?_
 rintro i ⟨hi,hv⟩
 have hol:((t.take i).filter fun b=>!begB b l).length≤i:=by
  have:=List.length_filter_le (fun b=>!begB b l) (t.take i)
  rw [List.length_take] at this;omega
 by_cases hil:i<t.length
 ·obtain ⟨ok,ne⟩:=ht.gt hil
  haveI:Kn (FitL (gt t i)):=⟨ok.fitL⟩
  haveI:Kn (BrOk (gt t i)∧gt t i≠[]):=⟨ok,ne⟩
  have ht1:t.take (i+1)=t.take i++[gt t i]:=by rw [List.take_succ_eq_append_getElem hil,b0F hil]
  have hbt:gt t i∈t:=a0K hil
  have hsb:=i0m (l:=l) (b:=gt t i)
  generalize hb:gt t i=b at *
  by_cases hp:b <+: l
  ·have he:(a0M l b:Int)=b.length:=by have:=hsb.2 hp;omega
   have hf:(t.take (i+1)).filter (fun b=>!begB b l)=(t.take i).filter fun b=>!begB b l:=by
    rw [ht1,List.filter_append,List.filter_cons,if_neg (by rw [begB_iff.2 hp];simp),List.filter_nil,List.append_nil]
   rw [←hf] at hv
   generalize (t.take i).filter (fun b=>!begB b l)=o at *
   repeat' (with_reducible first|refine Wx.h ?_|refine Wb.h fun K hK=>?_|(refine hK _ ?_;clear hK K)|refine Wq.h ?_ ?_<;>intro h<;>try (exfalso;omega)|((fail_if_success refine Wz.h ?_);first|simp (disch:=omega) only [↓LD,LA,a0A,seval,LBr,LEv,bxB,hb,he]|(refine And.intro ?_ ?_;omega)|fail))
   exact Next.mk (i+1) (by rw [hf];kernel_rfl) ⟨by omega,hv⟩ (by omega)
  have he:¬ (a0M l b:Int)=b.length:=fun h=>hp (hsb.1 (by omega))
  have hf:(t.take (i+1)).filter (fun b=>!begB b l)=(t.take i).filter (fun b=>!begB b l)++[b]:=by
   rw [ht1,List.filter_append,List.filter_cons,if_pos (by rw [begB_f.2 hp];rfl),List.filter_nil]
  by_cases hvv:b0d b=b0d l
  ·have hq:=hQ [] 1 (if_pos (List.any_eq_true.2 ⟨b,mem_fil.2 ⟨hbt,hp⟩,decide_eq_true hvv⟩))
   generalize (t.take i).filter (fun b=>!begB b l)=o at *
   repeat' (with_reducible first|refine Wx.h ?_|refine We.h fun K hK=>?_|(refine hK _ _ _ _ ?_;clear hK K;try clear hM M)|refine Wb.h fun K hK=>?_|(refine hK _ ?_;clear hK K)|(refine Wy.h ?_ ?_;kernel_rfl)|refine Wq.h ?_ ?_<;>intro h<;>try (exfalso;omega)|((fail_if_success refine Wz.h ?_);first|simp (disch:=omega) only [↓LD,LA,a0A,seval,LBr,LEv,bxB,hb,he,hvv]|(refine And.intro ?_ ?_;omega)|fail))
   all_goals exact RetS.still (ds:=[.ag [jN],D.int 1]) (by kernel_rfl) (by kernel_rfl) (.tps (.cons (.ags (.cons .nil .nil)) (.cons .f .nil))) hq
  ·have hv2:∀ x∈(t.take (i+1)).filter (fun b=>!begB b l),b0d x≠b0d l:=fun x hx=>by
    rw [hf] at hx
    rcases List.mem_append.1 hx with hx|hx
    ·exact hv x hx
    ·rw [List.mem_singleton.1 hx];exact hvv
   generalize (t.take i).filter (fun b=>!begB b l)=o at *
   have hlo:(o.map fEv).length=o.length:=List.length_map _
   have hl2:(o++[b]).length=o.length+1:=by simp
   repeat' (with_reducible first|refine Wx.h ?_|refine We.h fun K hK=>?_|(refine hK _ _ _ _ ?_;clear hK K;try clear hM M)|refine Wb.h fun K hK=>?_|(refine hK _ ?_;clear hK K)|(refine Wy.h ?_ ?_;kernel_rfl)|refine Wq.h ?_ ?_<;>intro h<;>try (exfalso;omega)|((fail_if_success refine Wz.h ?_);first|simp (disch:=omega) only [↓LD,LA,a0A,seval,LBr,LEv,bxB,hb,he,hvv,hlo,b1P]|(refine And.intro ?_ ?_;omega)|fail))
   all_goals exact Next.mk (i+1) (by rw [hf,hl2];kernel_rfl) ⟨by omega,hv2⟩ (by omega)
 rw [List.take_of_length_le (by omega)] at hv hol ⊢
 have hto:TrK (t.filter fun b=>!begB b l):=⟨by omega,fun b hb=>ht.ok b (List.mem_filter.1 hb).1⟩
 have hip:=a1D hne (o:=t.filter fun b=>!begB b l) (k:=0) fun b hb=>⟨(hto.ok b hb).2,hv b hb⟩
 have hidx:=s0E _ l hto hl
 rw [if_neg (by rw [Bool.not_eq_true,List.any_eq_false];intro b hb;simpa using hv b hb)] at hQ
 unfold insU at hQ
 clear hv
 generalize (t.filter fun b=>!begB b l)=o at *
 by_cases h8:8≤o.length
 ·have hq:=hQ [] 2 (if_pos h8)
  repeat' (with_reducible first|refine Wx.h ?_|refine Wb.h fun K hK=>?_|(refine hK _ ?_;clear hK K)|refine Wq.h ?_ ?_<;>intro h<;>try (exfalso;omega)|((fail_if_success refine Wz.h ?_);simp (disch:=omega) only [↓LD,LA,a0A,seval,LBr,bxB]))
  all_goals exact RetS.still (ds:=[.ag [jN],D.int 2]) (by kernel_rfl) (by kernel_rfl) (.tps (.cons (.ags (.cons .nil .nil)) (.cons .f .nil))) hq
 have hq:=hQ _ 0 (if_neg h8)
 have hkl:=b1f (l:=l) (t:=o)
 have hins:TrK (o.take (posK l o)++l :: o.drop (posK l o)):=⟨by rw [List.length_append,List.length_cons,List.length_take,List.length_drop];omega,fun b hb=>by
  rcases insU_mem.1 (show b∈insU l o from hb) with rfl|hb
  ·exact ⟨hl,hne⟩
  ·exact hto.ok b hb⟩
 have hnl:(o.take (posK l o)++l :: o.drop (posK l o)).length=o.length+1:=by rw [List.length_append,List.length_cons,List.length_take,List.length_drop];omega
 have hI:=s0F o (posK l o) l hkl (by omega)
 have hC:=h0y _ hins
 repeat' (with_reducible first|refine Wx.h ?_|refine Wb.h fun K hK=>?_|(refine hK _ ?_;clear hK K)|refine Wq.h ?_ ?_<;>intro h<;>try (exfalso;omega)|((fail_if_success refine Wz.h ?_);simp (disch:=omega) only [↓LD,LA,a0A,seval,LBr,bxB]))
 all_goals
  refine a0J hidx [3,0] (by kernel_rfl) rfl rfl ?_
  rintro _ _ ⟨rfl,rfl⟩
  generalize posK l o=k at *
  generalize o.take k++l :: o.drop k=z at *
  rcases hip with ⟨h1,rfl⟩|⟨h1,h2⟩
  all_goals
   rw [h1]
   simp (disch:=omega) only [↓LD,LA,a0A,seval,ren,List.getElem?_nil,bxB]
   repeat' (with_reducible first|refine Wx.h ?_|refine Wb.h fun K hK=>?_|(refine hK _ ?_;clear hK K)|refine Wq.h ?_ ?_<;>intro h<;>try (exfalso;omega)|((fail_if_success refine Wz.h ?_);simp (disch:=omega) only [↓LD,LA,a0A,seval,LBr]))
   refine a0J hI [3,4] (by kernel_rfl) rfl rfl ?_
   rintro _ _ ⟨rfl,rfl⟩
   simp (disch:=omega) only [↓LD,LA,a0A,seval,ren,List.getElem?_nil,bxB]
   repeat' (with_reducible first|refine Wx.h ?_|refine Wb.h fun K hK=>?_|(refine hK _ ?_;clear hK K)|((fail_if_success refine Wz.h ?_);simp (disch:=omega) only [↓LD,LA,a0A,seval,LBr]))
   refine q0i [5] (args0:=[.ag [.f (fBr z)]]) (.cons (.ags (.cons (f1T rfl rfl hnl.symm) .nil)) .nil) ?_
   refine a0C hC rfl rfl rfl ?_
   simp only [layV,List.foldr_cons,List.foldr_nil,List.set_cons_succ,List.set_cons_zero]
   repeat' (with_reducible first|refine Wx.h ?_|(refine hK _ ?_;clear hK K)|((fail_if_success refine Wz.h ?_);simp (disch:=omega) only [↓LD,LA,a0A,seval,LBr]))
   exact RetS.still (ds:=[.ag [.f (fBr z)],D.int 0]) (by kernel_rfl) (by kernel_rfl) (.tps (.cons (.ags (.cons .f .nil)) (.cons .f .nil))) hq
set_option maxRecDepth 100000 in
theorem y0t (l:List Ev)(hl:l.length≤1000000)(hf:∀ e∈l,FitV e):Con Tryz.prog 24 [.f (fEv l)] [] fun r H'=>r = .tp [stD (a0W s0 l).2,D.int (a0W s0 l).1]∧H'=[]:=by
 refine Con.walk good x0P (by simp) ?_
 unfold r0F
 simp only [a0I]
 repeat' (with_reducible first|refine Wx.h ?_|refine Wb.h fun K hK=>?_|(refine hK _ ?_;clear hK K)|((fail_if_success refine Wz.h ?_);simp (disch:=omega) only [↓LD,LA,a0A,seval,LEv]))
 refine HS.view (View.bcell 1 5 (.f (.s [] 0)) rfl rfl .ns) ?_
 refine HS.view (View.void 158) ?_
 refine HS.view (View.void 180) ?_
 refine HS.view (View.void 106) ?_
 refine HS.view (View.bcell 1 6 (.sl 2 0 0) rfl rfl (.no (by show 2<5;omega))) ?_
 refine HS.view (View.bcell 1 7 (.sl 3 0 0) rfl rfl (.no (by show 3<5;omega))) ?_
 refine HS.view (View.bcell 1 8 (.sl 4 0 0) rfl rfl (.no (by show 4<5;omega))) ?_
 refine HS.loopG [2,4,9,10,11] (fun x:Nat × S12=>⟨frm 23 [(2,.pt 0 0),(4,.pt 1 0),(9,.f (fEv l)),(10,D.int l.length),(11,D.int x.1)],[.box 65 [jI,jI,jI,jI,jF,jN,jN,jN,jN],.box 65 (stL 2 3 4 x.2),rN x.2.nodes,rT x.2.tms,rS x.2.sgs],[]⟩)
  (fun x=>x.1≤l.length∧Ok12 x.2∧a0W s0 l=a0W x.2 (l.drop x.1)) (fun x=>l.length-x.1) (0,s0) (by kernel_rfl) ⟨Nat.zero_le _,z0D,rfl⟩ ?_
 rintro ⟨i,s⟩ ⟨hi,ho,hF⟩
 dsimp only at hi ho hF
 by_cases hil:i<l.length
 ·rw [a0H hil,a0W] at hF
  have hv:=hf _ (a0K hil)
  have he:=y0Y (e:=gt l i) ho
  unfold b1S at he
  obtain ⟨hA,_,_⟩:=ho.fitA
  have hid:=ho.id
  have ho2:=d0C (e:=gt l i) ho hv.2.2.2
  repeat' (with_reducible first|refine Wx.h ?_|refine Wb.h fun K hK=>?_|(refine hK _ ?_;clear hK K)|refine Wq.h ?_ ?_<;>intro h<;>try (exfalso;omega)|((fail_if_success refine Wz.h ?_);first|simp (disch:=omega) only [↓LD,LA,a0A,seval,LEv,b0O,a0N,Ev.cs,stL,rN,rT,rS,-a0A,List.map_cons,List.map_nil]|(refine And.intro ?_ ?_;omega)|fail))
  refine a0J (w0s s (gt l i) hA hv.1 hv.2.2 ⟨hid.1,by omega⟩) [1,2,3,4] (by kernel_rfl) rfl rfl ?_
  rintro _ _ ⟨rfl,m,rfl⟩
  generalize c0I s (gt l i)=p at he ⊢
  obtain ⟨v,s'⟩:=p
  dsimp only at he ⊢
  rcases m with _|_|_|m
  ·simp (disch:=omega) only [↓LD,LA,a0A,seval,ren,List.getElem?_nil,stM,stH,stL,rN,rT,rS]
   repeat' (with_reducible first|refine Wx.h ?_|refine Wb.h fun K hK=>?_|(refine hK _ ?_;clear hK K)|refine Wq.h ?_ ?_<;>intro h|((fail_if_success refine Wz.h ?_);simp (disch:=omega) only [↓LD,LA,a0A,seval]))
   ·have hv0:v=0:=by assumption
    rw [if_pos hv0] at he
    rw [←he] at hF ho2
    rw [if_pos rfl] at hF
    exact Next.mk (i+1,s') (by kernel_rfl) ⟨by dsimp only;omega,ho2 rfl,hF⟩ (by dsimp only;omega)
   ·have hv0:¬ v=0:=by assumption
    rw [if_neg hv0] at he
    rw [←he,if_neg hv0] at hF
    rw [hF]
    exact RetS.still (ds:=[.ag [jI,jI,jI,jI,jF,jN,jN,jN,jN],D.int v]) (by kernel_rfl) (by kernel_rfl) (.tps (.cons (.ags (.cons .f (.cons .f (.cons .f (.cons .f (.cons .f (.cons .nil (.cons .nil (.cons .nil (.cons .nil .nil)))))))))) (.cons .f .nil))) ⟨rfl,rfl⟩
  ·simp (disch:=omega) only [↓LD,LA,a0A,seval,ren,List.getElem?_nil,stM,stH,stL,rN,rT,rS]
   repeat' (with_reducible first|refine Wx.h ?_|refine Wb.h fun K hK=>?_|(refine hK _ ?_;clear hK K)|refine Wq.h ?_ ?_<;>intro h|((fail_if_success refine Wz.h ?_);simp (disch:=omega) only [↓LD,LA,a0A,seval]))
   ·have hv0:v=0:=by assumption
    rw [if_pos hv0] at he
    rw [←he] at hF ho2
    rw [if_pos rfl] at hF
    exact Next.mk (i+1,s') (by kernel_rfl) ⟨by dsimp only;omega,ho2 rfl,hF⟩ (by dsimp only;omega)
   ·have hv0:¬ v=0:=by assumption
    rw [if_neg hv0] at he
    rw [←he,if_neg hv0] at hF
    rw [hF]
    exact RetS.still (ds:=[.ag [jI,jI,jI,jI,jF,jN,jN,jN,jN],D.int v]) (by kernel_rfl) (by kernel_rfl) (.tps (.cons (.ags (.cons .f (.cons .f (.cons .f (.cons .f (.cons .f (.cons .nil (.cons .nil (.cons .nil (.cons .nil .nil)))))))))) (.cons .f .nil))) ⟨rfl,rfl⟩
  ·simp (disch:=omega) only [↓LD,LA,a0A,seval,ren,List.getElem?_nil,stM,stH,stL,rN,rT,rS]
   repeat' (with_reducible first|refine Wx.h ?_|refine Wb.h fun K hK=>?_|(refine hK _ ?_;clear hK K)|refine Wq.h ?_ ?_<;>intro h|((fail_if_success refine Wz.h ?_);simp (disch:=omega) only [↓LD,LA,a0A,seval]))
   ·have hv0:v=0:=by assumption
    rw [if_pos hv0] at he
    rw [←he] at hF ho2
    rw [if_pos rfl] at hF
    exact Next.mk (i+1,s') (by kernel_rfl) ⟨by dsimp only;omega,ho2 rfl,hF⟩ (by dsimp only;omega)
   ·have hv0:¬ v=0:=by assumption
    rw [if_neg hv0] at he
    rw [←he,if_neg hv0] at hF
    rw [hF]
    exact RetS.still (ds:=[.ag [jI,jI,jI,jI,jF,jN,jN,jN,jN],D.int v]) (by kernel_rfl) (by kernel_rfl) (.tps (.cons (.ags (.cons .f (.cons .f (.cons .f (.cons .f (.cons .f (.cons .nil (.cons .nil (.cons .nil (.cons .nil .nil)))))))))) (.cons .f .nil))) ⟨rfl,rfl⟩
  ·simp (disch:=omega) only [↓LD,LA,a0A,seval,ren,List.getElem?_nil,stM,stH,stL,rN,rT,rS]
   repeat' (with_reducible first|refine Wx.h ?_|refine Wb.h fun K hK=>?_|(refine hK _ ?_;clear hK K)|refine Wq.h ?_ ?_<;>intro h|((fail_if_success refine Wz.h ?_);simp (disch:=omega) only [↓LD,LA,a0A,seval]))
   ·have hv0:v=0:=by assumption
    rw [if_pos hv0] at he
    rw [←he] at hF ho2
    rw [if_pos rfl] at hF
    exact Next.mk (i+1,s') (by kernel_rfl) ⟨by dsimp only;omega,ho2 rfl,hF⟩ (by dsimp only;omega)
   ·have hv0:¬ v=0:=by assumption
    rw [if_neg hv0] at he
    rw [←he,if_neg hv0] at hF
    rw [hF]
    exact RetS.still (ds:=[.ag [jI,jI,jI,jI,jF,jN,jN,jN,jN],D.int v]) (by kernel_rfl) (by kernel_rfl) (.tps (.cons (.ags (.cons .f (.cons .f (.cons .f (.cons .f (.cons .f (.cons .nil (.cons .nil (.cons .nil (.cons .nil .nil)))))))))) (.cons .f .nil))) ⟨rfl,rfl⟩
 ·repeat' (with_reducible first|refine Wx.h ?_|refine Wb.h fun K hK=>?_|(refine hK _ ?_;clear hK K)|refine Wq.h ?_ ?_<;>intro h<;>try (exfalso;omega)|((fail_if_success refine Wz.h ?_);simp (disch:=omega) only [↓LD,LA,a0A,seval,LEv,stL,rN,rT,rS]))
  rw [List.drop_of_length_le (by omega),a0W] at hF
  rw [hF]
  exact RetS.still (ds:=[.ag (stL 2 3 4 s),D.int 0]) (by kernel_rfl) (by kernel_rfl) (.tps (.cons (f1K rfl rfl rfl) (.cons .f .nil))) ⟨rfl,rfl⟩
noncomputable def addQ (t:Br)(k:Int)(l:List Ev):Br × Bool × Int :=
 if (a0W s0 l).1≠0 then ([],false,1) else if (t.any fun x=>g0c l x k)=true then ([],false,1)
 else if (t.any fun x=>decide ((a0M l x:Int)=l.length))=true then (t,false,0) else ((k0G t l).1,decide ((k0G t l).2=0),(k0G t l).2)
noncomputable def addP (t:Br)(pre:List Im)(evs:List Ev):Br × Bool × Int :=
 if evs.length=0∨c0q pre=false then ([],false,1) else match d0S t pre with
 | none=>([],false,4)
 | some hd=>addQ t hd.length (hd++evs)
set_option maxRecDepth 100000 in
theorem x0Y (t:Br)(ht:TrK t):Con Tryz.prog 21 [.ag [.f (fBr t)],.f (fIm [])] [] fun r H'=>r = .tp [.sl 0 0 0,D.bool true]∧H'=[rEv []]:=by
 refine Con.walk good g0K (by simp) ?_
 unfold f0F
 simp only [a0I]
 haveI:Kn (([]:List Im).length≤1000000):=⟨by simp⟩
 refine HS.seq ?_
 repeat' (with_reducible first|refine Wa.h ?_|refine Wb.h fun K hK=>?_|(refine hK _ ?_;clear hK K)|((fail_if_success refine Wz.h ?_);simp (disch:=omega) only [↓LD,LA,a0A,seval,LIm,LBr]))
 refine HS.seq ?_
 repeat' (with_reducible first|refine Wa.h ?_|refine Wb.h fun K hK=>?_|(refine hK _ ?_;clear hK K)|((fail_if_success refine Wz.h ?_);simp (disch:=omega) only [↓LD,LA,a0A,seval,LIm,LBr]))
 refine HS.seq ?_
 refine HS.seq ?_
 repeat' (with_reducible first|refine Wa.h ?_|refine Wb.h fun K hK=>?_|(refine hK _ ?_;clear hK K)|((fail_if_success refine Wz.h ?_);simp (disch:=omega) only [↓LD,LA,a0A,seval,LIm,LBr]))
 repeat' (with_reducible first|refine Wa.h ?_|refine Ws.h ?_|refine Wb.h fun K hK=>?_|(refine hK _ ?_;clear hK K)|((fail_if_success refine Wz.h ?_);simp (disch:=omega) only [↓LD,LA,a0A,seval,LIm,LBr]))
 refine HS.view (View.void 73) ?_
 refine HS.view (View.slot 4 (.sl 1 0 0) (.no (by show 1<2;omega))) ?_
 repeat' (with_reducible first|refine Wx.h ?_|fail)
 exact g1M rfl rfl rfl rfl (ef:=⟨.tp [.sl 0 0 0,D.bool true],[],[rEv []]⟩) (by kernel_rfl) ⟨rfl,rfl⟩
theorem w0c (t:Br)(pre:List Im)(ht:TrK t)(hp:pre.length≤1000000):Con Tryz.prog 21 [.ag [.f (fBr t)],.f (fIm pre)] [] fun r H'=>match d0S t pre with
  | none=>r = .tp [jN,D.bool false]∧H'=[]
  | some hd=>r = .tp [.sl 0 0 hd.length,D.bool true]∧H'=[rEv hd]:=by
 by_cases h0:pre.length=0
 ·have hfn:d0S t pre=some []:=by unfold d0S;rw [if_pos h0]
  rw [hfn]
  obtain rfl:=List.eq_nil_of_length_eq_zero h0
  exact x0Y t ht
 ·exact a1N t pre ht hp h0
set_option maxRecDepth 100000 in
theorem o0A (t:Br)(d0 d1:F)(pre:List Im)(evs:List Ev)(ht:TrK t)(hp:pre.length≤1000000)(hf:FitL evs)(hb:∀ hd,d0S t pre=some hd→FitL (hd++evs)∧((a0W s0 (hd++evs)).1=0→BrOk (hd++evs))):Con Tryz.prog 12 [.ag [.f (fBr t)],.ag [.f d0,.f d1,.f (fIm pre),.f (fEv evs)]] [] fun r H'=>r = .tp [.ag [.f (fBr (addP t pre evs).1)],D.bool (addP t pre evs).2.1,D.int (addP t pre evs).2.2]∧H'=[]:=by
 suffices hh:∀ Q:D→List Row→Prop,(∀ o b e,addP t pre evs=(o,b,e)→Q (.tp [.ag [.f (fBr o)],D.bool b,D.int e]) [])→Con Tryz.prog 12 [.ag [.f (fBr t)],.ag [.f d0,.f d1,.f (fIm pre),.f (fEv evs)]] [] Q from hh _ fun o b e h=>⟨by rw [h],rfl⟩
 intro Q hQ
 unfold addP at hQ
 have htl:=ht.len
 have hfl:=hf.1
 refine Con.walk good z0T (by simp) ?_
 unfold t0r
 simp only [a0I]
 have hR:=x0o pre hp
 by_cases hz:(evs.length:Int)=0
 ·have h1:=hQ [] false 1 (if_pos (.inl (by omega)))
  repeat' (with_reducible first|refine Wx.h ?_|refine Wb.h fun K hK=>?_|(refine hK _ ?_;clear hK K)|(refine wT ?_ ?_;assumption)|((fail_if_success refine Wz.h ?_);simp (disch:=omega) only [↓LD,LA,a0A,seval,LEv,LBr,a0N]))
  exact RetS.still (ds:=[.ag [jN],D.bool false,D.int 1]) (by kernel_rfl) (by kernel_rfl) (p0d .f .f) h1
 cases hr:c0q pre with
 | false =>
  rw [hr] at hR
  have h1:=hQ [] false 1 (if_pos (.inr hr))
  repeat' (with_reducible first|refine Wx.h ?_|refine Wb.h fun K hK=>?_|(refine hK _ ?_;clear hK K)|(refine wF ?_ ?_;assumption)|((fail_if_success refine Wz.h ?_);simp (disch:=omega) only [↓LD,LA,a0A,seval,LEv,LBr,a0N]))
  refine a0C hR rfl rfl rfl ?_
  repeat' (with_reducible first|refine Wx.h ?_|refine Wb.h fun K hK=>?_|(refine hK _ ?_;clear hK K)|((fail_if_success refine Wz.h ?_);simp (disch:=omega) only [↓LD,LA,a0A,seval,LEv,LBr,a0N]))
  exact RetS.still (ds:=[.ag [jN],D.bool false,D.int 1]) (by kernel_rfl) (by kernel_rfl) (p0d .f .f) h1
 | true =>
  rw [hr] at hR
  rw [if_neg (fun h=>h.elim (fun h=>hz (by omega)) (fun h=>by rw [hr] at h;cases h))] at hQ
  repeat' (with_reducible first|refine Wx.h ?_|refine Wb.h fun K hK=>?_|(refine hK _ ?_;clear hK K)|(refine wF ?_ ?_;assumption)|((fail_if_success refine Wz.h ?_);simp (disch:=omega) only [↓LD,LA,a0A,seval,LEv,LBr,a0N]))
  refine a0C hR rfl rfl rfl ?_
  repeat' (with_reducible first|refine Wx.h ?_|refine Wb.h fun K hK=>?_|(refine hK _ ?_;clear hK K)|((fail_if_success refine Wz.h ?_);simp (disch:=omega) only [↓LD,LA,a0A,seval,LEv,LBr,a0N]))
  have hF:=w0c t pre ht hp
  cases hfp:d0S t pre with
  | none =>
   rw [hfp] at hQ hF
   have h1:=hQ [] false 4 rfl
   refine a0C hF rfl rfl rfl ?_
   repeat' (with_reducible first|refine Wx.h ?_|refine Wb.h fun K hK=>?_|(refine hK _ ?_;clear hK K)|((fail_if_success refine Wz.h ?_);simp (disch:=omega) only [↓LD,LA,a0A,seval,LEv,LBr,a0N,c0W]))
   exact RetS.still (ds:=[.ag [jN],D.bool false,D.int 4]) (by kernel_rfl) (by kernel_rfl) (p0d .f .f) h1
  | some hd =>
   rw [hfp] at hQ hF
   obtain ⟨hfl2,hbr⟩:=hb hd hfp
   have hl2:=hfl2.1
   rw [List.length_append] at hl2
   refine a0J hF [] (by kernel_rfl) rfl rfl ?_
   rintro _ _ ⟨rfl,rfl⟩
   simp (disch:=omega) only [↓LD,LA,a0A,seval,ren,List.getElem?_nil,rEv]
   repeat' (with_reducible first|refine Wa.h ?_|(refine hK _ ?_;clear hK K)|((fail_if_success refine Wz.h ?_);simp (disch:=omega) only [↓LD,LA,a0A,seval,LEv,LBr,a0N,c0W]))
   refine HS.seq ?_
   refine HS.seq ?_
   repeat' (with_reducible first|refine Wa.h ?_|refine Wb.h fun K hK=>?_|(refine hK _ ?_;clear hK K)|((fail_if_success refine Wz.h ?_);simp (disch:=omega) only [↓LD,LA,a0A,seval,LEv,LBr,a0N,c0W]))
   refine HS.seq ?_
   repeat' (with_reducible first|refine Wa.h ?_|refine Wb.h fun K hK=>?_|(refine hK _ ?_;clear hK K)|refine Wq.h ?_ ?_<;>intro h<;>try (exfalso;omega)|((fail_if_success refine Wz.h ?_);first|simp (disch:=omega) only [↓LD,LA,a0A,seval,LEv,LBr,a0N,c0W]|(refine And.intro ?_ ?_;omega)|fail))
   refine HS.view (View.fzb 5 0 4 rfl rfl rfl p0s (by rw [List.length_append,a0N,a0N,Nat.add_mul]) (by decide)) ?_
   have hfe:F.s (hd.flatMap Ev.cs++evs.flatMap Ev.cs) (hd.length+evs.length)=fEv (hd++evs):=by unfold fEv;rw [List.flatMap_append,List.length_append]
   rw [hfe]
   dsimp only at hQ
   unfold addQ at hQ
   have hFo:=y0t (hd++evs) hfl2.1 hfl2.2
   clear hfe hfp hF hR
   have hll:0<(hd++evs).length:=by rw [List.length_append];omega
   generalize hd++evs=l at *
   generalize hd.length=k at *
   repeat' (with_reducible first|refine Wx.h ?_|refine Wb.h fun K hK=>?_|((fail_if_success refine Wz.h ?_);simp (disch:=omega) only [↓LD,LA,a0A,seval,LEv,LBr]))
   refine a0C hFo rfl rfl rfl ?_
   clear hFo
   generalize hs:(a0W s0 l).2=s
   obtain ⟨b1,b2,b3,b4,b5,b6,b7,b8,b9⟩:=s
   by_cases hfo:(a0W s0 l).1=0
   rotate_left
   ·have h1:=hQ [] false 1 (if_pos hfo)
    repeat' (with_reducible first|refine Wx.h ?_|refine Wb.h fun K hK=>?_|(refine hK _ ?_;clear hK K)|(refine wF ?_ ?_;assumption)|((fail_if_success refine Wz.h ?_);simp (disch:=omega) only [↓LD,LA,a0A,seval,LEv,LBr,stD]))
    exact RetS.still (ds:=[.ag [jN],D.bool false,D.int 1]) (by kernel_rfl) (by kernel_rfl) (p0d .f .f) h1
   rw [if_neg (fun h=>h hfo)] at hQ
   have hlk:=hbr hfo
   clear hbr
   rw [hfo]
   clear hfo
   have hC1:=h0n t 42 [.pt 0 0,.pt 1 0] [bxB l,bxI k] (fun x=>g0c l x k) (by omega) fun x hx=>b1h x l k (ht.ok x hx).1.fitL hlk.fitL
   have hC2:=h0n t 44 [.pt 0 0] [bxB l] (fun x=>decide ((a0M l x:Int)=l.length)) (by omega) fun x hx=>y0W x l (ht.ok x hx).1.fitL hlk.fitL
   have hne:l≠[]:=fun e=>by
    rw [e] at hll
    exact absurd hll (by simp)
   have hW:=z0c t l ht hlk hne
   have hcp:=h0y t ht
   repeat' (with_reducible first|refine Wx.h ?_|refine Wb.h fun K hK=>?_|(refine hK _ ?_;clear hK K)|((fail_if_success refine Wz.h ?_);simp (disch:=omega) only [↓LD,LA,a0A,seval,LEv,LBr,stD]))
   refine a0J hC1 [5,7] (by kernel_rfl) rfl rfl ?_
   rintro _ _ ⟨rfl,rfl⟩
   simp (disch:=omega) only [↓LD,LA,a0A,seval,ren,List.getElem?_nil,bxB,bxI]
   clear hC1
   cases h1:t.any fun x=>g0c l x k with
   | true =>
    have hq:=hQ [] false 1 (if_pos h1)
    repeat' (with_reducible first|refine Wx.h ?_|refine Wb.h fun K hK=>?_|(refine hK _ ?_;clear hK K)|((fail_if_success refine Wz.h ?_);simp (disch:=omega) only [↓LD,LA,a0A,seval,LEv,LBr]))
    exact RetS.still (ds:=[.ag [jN],D.bool false,D.int 1]) (by kernel_rfl) (by kernel_rfl) (p0d .f .f) hq
   | false =>
    rw [if_neg (by rw [h1];simp)] at hQ
    clear h1
    repeat' (with_reducible first|refine Wx.h ?_|refine Wb.h fun K hK=>?_|(refine hK _ ?_;clear hK K)|((fail_if_success refine Wz.h ?_);simp (disch:=omega) only [↓LD,LA,a0A,seval,LEv,LBr]))
    refine a0J hC2 [5] (by kernel_rfl) rfl rfl ?_
    rintro _ _ ⟨rfl,rfl⟩
    simp (disch:=omega) only [↓LD,LA,a0A,seval,ren,List.getElem?_nil,bxB,bxI]
    clear hC2
    cases h1:t.any fun x=>decide ((a0M l x:Int)=l.length) with
    | true =>
     have hq:=hQ t false 0 (if_pos h1)
     repeat' (with_reducible first|refine Wx.h ?_|refine Wb.h fun K hK=>?_|(refine hK _ ?_;clear hK K)|((fail_if_success refine Wz.h ?_);simp (disch:=omega) only [↓LD,LA,a0A,seval,LEv,LBr]))
     refine a0C hcp rfl rfl rfl ?_
     repeat' (with_reducible first|refine Wx.h ?_|(refine hK _ ?_;clear hK K)|((fail_if_success refine Wz.h ?_);simp (disch:=omega) only [↓LD,LA,a0A,seval,LEv,LBr]))
     exact RetS.still (ds:=[.ag [.f (fBr t)],D.bool false,D.int 0]) (by kernel_rfl) (by kernel_rfl) (.tps (.cons (.ags (.cons .f .nil)) (.cons .f (.cons .f .nil)))) hq
    | false =>
     rw [if_neg (by rw [h1];simp)] at hQ
     clear h1
     have hq:=hQ _ _ _ rfl
     clear hQ
     generalize (k0G t l).1=o at *
     generalize (k0G t l).2=e at *
     repeat' (with_reducible first|refine Wx.h ?_|refine Wb.h fun K hK=>?_|(refine hK _ ?_;clear hK K)|((fail_if_success refine Wz.h ?_);simp (disch:=omega) only [↓LD,LA,a0A,seval,LEv,LBr]))
     refine a0C hW rfl rfl rfl ?_
     by_cases he:e=0
     ·rw [decide_eq_true he] at hq
      repeat' (with_reducible first|refine Wx.h ?_|refine Wb.h fun K hK=>?_|(refine hK _ ?_;clear hK K)|(refine wT ?_ ?_;assumption)|((fail_if_success refine Wz.h ?_);simp (disch:=omega) only [↓LD,LA,a0A,seval,LEv,LBr]))
      exact RetS.still (ds:=[.ag [.f (fBr o)],D.bool true,D.int e]) (by kernel_rfl) (by kernel_rfl) (.tps (.cons (.ags (.cons .f .nil)) (.cons .f (.cons .f .nil)))) hq
     ·rw [decide_eq_false he] at hq
      repeat' (with_reducible first|refine Wx.h ?_|refine Wb.h fun K hK=>?_|(refine hK _ ?_;clear hK K)|(refine wF ?_ ?_;assumption)|((fail_if_success refine Wz.h ?_);simp (disch:=omega) only [↓LD,LA,a0A,seval,LEv,LBr]))
      exact RetS.still (ds:=[.ag [.f (fBr o)],D.bool false,D.int e]) (by kernel_rfl) (by kernel_rfl) (.tps (.cons (.ags (.cons .f .nil)) (.cons .f (.cons .f .nil)))) hq
theorem g0U:∀ {l b:List Ev},a0M l b=l.length↔l <+: b
 | [],b=>by cases b<;>simp [a0M]
 | x :: l,[]=>by simp [a0M]
 | x :: l,y :: b=>by
  rw [a0M,List.length_cons,List.cons_prefix_cons]
  by_cases e:x=y
  ·rw [if_pos (d0h e)]
   have:=g0U (l:=l) (b:=b)
   constructor
   ·intro h;exact ⟨e,this.1 (by omega)⟩
   ·rintro ⟨_,h⟩;rw [this.2 h]
  ·rw [if_neg (by rw [c0k e];simp)]
   constructor
   ·intro h;omega
   ·rintro ⟨h,_⟩;exact absurd h e
theorem l0x:∀ {l b:List Ev},a0M l b<l.length→a0M l b<b.length→gt l (a0M l b)≠gt b (a0M l b)
 | [],b,h,_=>by simp at h
 | x :: l,[],_,h=>by simp at h
 | x :: l,y :: b,h1,h2=>by
  rw [a0M] at h1 h2 ⊢
  by_cases e:x=y
  ·rw [if_pos (d0h e)] at h1 h2 ⊢
   rw [List.length_cons] at h1 h2
   have:=l0x (l:=l) (b:=b) (by omega) (by omega)
   simpa [gt] using this
  ·rw [if_neg (by rw [c0k e];simp)]
   simpa [gt] using e
theorem Uni.partsF {U:List Ev→Prop}(hu:Uni U){x b:List Ev}(hx:U x)(hb:U b){k:Int}:g0c x b k=false:=by
 refine Bool.eq_false_iff.2 fun h=>?_
 unfold g0c at h
 rw [Bool.and_eq_true,Bool.and_eq_true,decide_eq_true_eq,decide_eq_true_eq,decide_eq_true_eq] at h
 obtain ⟨⟨_,h1⟩,h2⟩:=h
 have hne:=l0x (l:=x) (b:=b)
 generalize a0M x b=n at *
 have hp:U (x.take (n+1)):=hu.down hx (List.take_prefix _ x) (f0x (by omega) (by omega))
 have hq:U (b.take (n+1)):=hu.down hb (List.take_prefix _ b) (f0x (by omega) (by omega))
 have hv:b0d (x.take (n+1))=b0d (b.take (n+1)):=by rw [m0D (by omega) (by omega),m0D (by omega) (by omega)];exact h2
 have hl:(x.take (n+1)).length=(b.take (n+1)).length:=by rw [List.length_take,List.length_take];omega
 have he:x.take (n+1)=b.take (n+1):=by
  rcases hu.comp hp hq hv with h|h
  ·exact h.eq_of_length hl
  ·exact (h.eq_of_length hl.symm).symm
 refine hne (by omega) (by omega) ?_
 have:=congrArg (gt · n) he
 rw [b0F (by rw [List.length_take];omega),b0F (by rw [List.length_take];omega),List.getElem_take,List.getElem_take] at this
 rw [b0F (by omega),b0F (by omega)]
 exact this
theorem g1E {α:Type}{p q:α→Bool}{l:List α}(h:∀ x∈l,p x=q x):l.any p=l.any q:=by
 induction l with
 | nil=>rfl
 | cons x l ih=>rw [List.any_cons,List.any_cons,h x (by simp),ih fun y hy=>h y (by simp [hy])]
theorem v0f {U:List Ev→Prop}(hu:Uni U){t:Br}(ht:TrU U t){x:List Ev}(hx:U x)(h8:t.length<8){k:Int}:addQ t k x=(addU t x,!t.any (begB x),0):=by
 have hfo:=(hu.ok hx).1.fold
 unfold addQ
 rw [if_neg (fun h=>h hfo),if_neg (by
  rw [Bool.not_eq_true,List.any_eq_false]
  intro b hb
  rw [hu.partsF hx (ht.mem b hb)];simp)]
 have he:(t.any fun b=>decide ((a0M x b:Int)=x.length))=t.any (begB x):=g1E fun b _=>by
  rw [Bool.eq_iff_iff,decide_eq_true_eq,begB_iff,←g0U];omega
 rw [he]
 by_cases hk:t.any (begB x)=true
 ·rw [if_pos hk,addU,if_pos hk,hk];rfl
 ·rw [if_neg hk,addU,if_neg hk]
  have hw:k0G t x=(insU x (t.filter fun b=>!begB b x),0):=by
   unfold k0G
   rw [if_neg (by
    rw [Bool.not_eq_true,List.any_eq_false]
    intro b hb
    simpa using (hu.tip ht hx hk b hb).2),if_neg (by have:=List.length_filter_le (fun b=>!begB b x) t;omega)]
  rw [hw,Bool.not_eq_true _ |>.mp hk]
  rfl
theorem v0T {U:List Ev→Prop}(hu:Uni U){t:Br}(ht:TrU U t){hd evs:List Ev}(he:evs≠[])(hx:U (hd++evs))(h8:t.length<8) :
  (hd=[]∨Dn t hd)∧addP t (ofL hd) evs=(addU t (hd++evs),!t.any (begB (hd++evs)),0)∨(¬ (hd=[]∨Dn t hd))∧addP t (ofL hd) evs=([],false,4):=by
 have hz:¬ (evs.length=0∨c0q (ofL hd)=false):=by
  rintro (h|h)
  ·exact he (List.eq_nil_of_length_eq_zero h)
  ·rw [a1w ((hu.ok hx).1.pfx (List.prefix_append hd evs))] at h;cases h
 unfold addP
 rw [if_neg hz]
 by_cases hn:hd=[]
 ·subst hn
  refine .inl ⟨.inl rfl,?_⟩
  have:d0S t (ofL [])=some []:=by unfold d0S ofL;rw [if_pos rfl];rfl
  rw [this]
  exact v0f hu ht hx h8
 ·have hh:U hd:=hu.down hx (List.prefix_append hd evs) hn
  rcases p0N hu ht.mem hh with ⟨h1,h2⟩|⟨h1,h2⟩
  ·refine .inl ⟨.inr h2,?_⟩
   rw [h1]
   exact v0f hu ht hx h8
  ·refine .inr ⟨fun h=>h.elim hn h2,?_⟩
   rw [h1]
theorem e1U {U:List Ev→Prop}(hu:Uni U){t:Br}(ht:TrU U t){hd evs:List Ev}(he:evs≠[])(hx:U (hd++evs)):∀ h,d0S t (ofL hd)=some h→FitL (h++evs)∧((a0W s0 (h++evs)).1=0→BrOk (h++evs)):=by
 intro h hf
 have e:h=hd:=by
  by_cases hn:hd=[]
  ·subst hn
   have:d0S t (ofL [])=some []:=by unfold d0S ofL;rw [if_pos rfl];rfl
   rw [this] at hf
   exact (Option.some.inj hf).symm
  ·have hh:U hd:=hu.down hx (List.prefix_append hd evs) hn
   rcases p0N hu ht.mem hh with ⟨h1,_⟩|⟨h1,_⟩
   ·rw [h1] at hf;exact (Option.some.inj hf).symm
   ·rw [h1] at hf;cases hf
 subst e
 exact ⟨(hu.ok hx).1.fitL,fun _=>(hu.ok hx).1⟩
set_option maxRecDepth 100000 in
theorem b1Q (t u:Br)(ht:TrK t)(hu:TrK u):Con Tryz.prog 48 [.f (fBr t),.f (fBr u),.fn 49 []] [] fun r H'=>r=D.bool (eqB t u)∧H'=[]:=by
 have htl:=ht.len
 have hul:=hu.len
 refine Con.walk good w0v (by simp) ?_
 unfold q0A
 simp only [a0I]
 by_cases hlm:(t.length:Int)=u.length
 rotate_left
 ·repeat' (with_reducible first|refine Wx.h ?_|refine Wb.h fun K hK=>?_|(refine hK _ ?_;clear hK K)|(refine wF ?_ ?_;assumption)|((fail_if_success refine Wz.h ?_);simp (disch:=omega) only [↓LD,LA,a0A,seval,LBr]))
  rw [d0b hlm]
  exact end1 rfl rfl (by kernel_rfl) .f ⟨rfl,rfl⟩
 repeat' (with_reducible first|refine Wx.h ?_|refine Wb.h fun K hK=>?_|(refine hK _ ?_;clear hK K)|(refine wT ?_ ?_;assumption)|((fail_if_success refine Wz.h ?_);simp (disch:=omega) only [↓LD,LA,a0A,seval,LBr]))
 refine HS.loopG [1,2,15,16,17] (fun i:Nat=>⟨frm 32 [(1,.f (fBr u)),(2,.fn 49 []),(15,.f (fBr t)),(16,D.int t.length),(17,D.int i)],[],[]⟩) (fun i=>i≤t.length∧t.take i=u.take i) (fun i=>t.length-i) 0 (by kernel_rfl) ⟨Nat.zero_le _,rfl⟩ ?_
 rintro i ⟨hi,he⟩
 by_cases hil:i<t.length
 ·obtain ⟨ok1,_⟩:=ht.gt hil
  obtain ⟨ok2,_⟩:=hu.gt (i:=i) (by omega)
  haveI:Kn (FitL (gt t i)):=⟨ok1.fitL⟩
  haveI:Kn (FitL (gt u i)):=⟨ok2.fitL⟩
  by_cases e:gt t i=gt u i
  ·have hb:=d0h e
   repeat' (with_reducible first|refine Wx.h ?_|refine Wb.h fun K hK=>?_|(refine hK _ ?_;clear hK K)|refine Wq.h ?_ ?_<;>intro h<;>try (exfalso;omega)|((fail_if_success refine Wz.h ?_);first|simp (disch:=omega) only [↓LD,LA,a0A,seval,LBr,hb]|(refine And.intro ?_ ?_;omega)|fail))
   exact Next.mk (i+1) (by kernel_rfl) ⟨by omega,b0o hlm hil he e⟩ (by omega)
  ·have hb:=c0k e
   repeat' (with_reducible first|refine Wx.h ?_|refine Wb.h fun K hK=>?_|(refine hK _ ?_;clear hK K)|refine Wq.h ?_ ?_<;>intro h<;>try (exfalso;omega)|((fail_if_success refine Wz.h ?_);first|simp (disch:=omega) only [↓LD,LA,a0A,seval,LBr,hb]|(refine And.intro ?_ ?_;omega)|fail))
   rw [f0b e]
   exact end1 rfl rfl (by kernel_rfl) .f ⟨rfl,rfl⟩
 ·repeat' (with_reducible first|refine Wx.h ?_|refine Wb.h fun K hK=>?_|(refine hK _ ?_;clear hK K)|refine Wq.h ?_ ?_<;>intro h<;>try (exfalso;omega)|((fail_if_success refine Wz.h ?_);simp (disch:=omega) only [↓LD,LA,a0A,seval,LBr]))
  rw [d0O hlm he (by omega)]
  exact end1 rfl rfl (by kernel_rfl) .f ⟨rfl,rfl⟩
set_option maxRecDepth 100000 in
theorem q0F (t u:Br)(ht:TrK t)(hu:TrK u):Con Tryz.prog 14 [.ag [.f (fBr t)],.ag [.f (fBr u)]] [] fun r H'=>r=D.bool (eqB t u)∧H'=[]:=by
 refine Con.walk good x0I (by simp) ?_
 unfold p0I
 simp only [a0I]
 repeat' (with_reducible first|refine Wx.h ?_|refine Wb.h fun K hK=>?_|(refine hK _ ?_;clear hK K)|((fail_if_success refine Wz.h ?_);simp (disch:=omega) only [↓LD,LA,a0A,seval,LBr]))
 refine a0C (b1Q t u ht hu) rfl rfl rfl ?_
 repeat' (with_reducible first|refine Wx.h ?_|(refine hK _ ?_;clear hK K)|((fail_if_success refine Wz.h ?_);simp (disch:=omega) only [↓LD,LA,a0A,seval,LBr]))
 exact end1 rfl rfl (by kernel_rfl) .f ⟨rfl,rfl⟩
noncomputable def x0k (t:Br)(pre:List Im)(evs:List Ev):Bool:=decide ((addP t pre evs).2.2=0) && !(addP t pre evs).2.1
set_option maxRecDepth 100000 in
theorem x0J (t:Br)(d0 d1:F)(pre:List Im)(evs:List Ev)(ht:TrK t)(hp:pre.length≤1000000)(hf:FitL evs)(hb:∀ hd,d0S t pre=some hd→FitL (hd++evs)∧((a0W s0 (hd++evs)).1=0→BrOk (hd++evs))):Con Tryz.prog 15 [.ag [.f (fBr t)],.ag [.f d0,.f d1,.f (fIm pre),.f (fEv evs)]] [] fun r H'=>r=D.bool (x0k t pre evs)∧H'=[]:=by
 suffices hh:∀ Q:D→List Row→Prop,Q (D.bool (x0k t pre evs)) []→Con Tryz.prog 15 [.ag [.f (fBr t)],.ag [.f d0,.f d1,.f (fIm pre),.f (fEv evs)]] [] Q from hh _ ⟨rfl,rfl⟩
 intro Q hQ
 have hA:=o0A t d0 d1 pre evs ht hp hf hb
 unfold x0k at hQ
 refine Con.walk good t0F (by simp) ?_
 unfold l0D
 simp only [a0I]
 generalize addP t pre evs=x at *
 obtain ⟨o,b,e⟩:=x
 dsimp only at hA hQ
 repeat' (with_reducible first|refine Wx.h ?_|refine Wb.h fun K hK=>?_|(refine hK _ ?_;clear hK K)|((fail_if_success refine Wz.h ?_);simp (disch:=omega) only [↓LD,LA,a0A,seval,LBr]))
 refine a0C hA rfl rfl rfl ?_
 by_cases he:e=0
 ·subst he
  cases b with
  | true =>
   repeat' (with_reducible first|refine Wx.h ?_|refine Wb.h fun K hK=>?_|(refine hK _ ?_;clear hK K)|((fail_if_success refine Wz.h ?_);simp (disch:=omega) only [↓LD,LA,a0A,seval,LBr]))
   exact end1 rfl rfl (by kernel_rfl) .f hQ
  | false =>
   repeat' (with_reducible first|refine Wx.h ?_|refine Wb.h fun K hK=>?_|(refine hK _ ?_;clear hK K)|((fail_if_success refine Wz.h ?_);simp (disch:=omega) only [↓LD,LA,a0A,seval,LBr]))
   exact end1 rfl rfl (by kernel_rfl) .f hQ
 ·rw [decide_eq_false he] at hQ
  repeat' (with_reducible first|refine Wx.h ?_|refine Wb.h fun K hK=>?_|(refine hK _ ?_;clear hK K)|(refine wF ?_ ?_;assumption)|((fail_if_success refine Wz.h ?_);simp (disch:=omega) only [↓LD,LA,a0A,seval,LBr]))
  exact end1 rfl rfl (by kernel_rfl) .f hQ
abbrev Bp:=List Ev × List Ev
def cutN (cuts:List Int)(i n:Nat):Nat:=if i<cuts.length then (1+pick (gt cuts i) (min 6 n:Nat)).toNat else n
theorem z0V {cuts:List Int}{i n:Nat}(hn:0<n):1≤cutN cuts i n∧cutN cuts i n≤n:=by
 unfold cutN
 split
 ·have:=b0v (x:=gt cuts i) (n:=((min 6 n:Nat):Int)) (by omega)
  omega
 ·omega
def batA (l:List Ev)(cuts:List Int):Nat→Nat→Nat→List Bp
 | 0,_,_=>[]
 | f+1,i,at'=>if at'<l.length then (l.take at',(l.drop at').take (cutN cuts i (l.length-at'))) :: batA l cuts f (i+1) (at'+cutN cuts i (l.length-at')) else []
def batL (l:List Ev)(cuts:List Int):List Bp:=batA l cuts l.length 0 0
theorem e1y {l:List Ev}{cuts:List Int}{f i a:Nat}(h:a<l.length)(hf:l.length≤a+f):batA l cuts f i a=(l.take a,(l.drop a).take (cutN cuts i (l.length-a))) :: batA l cuts (f-1) (i+1) (a+cutN cuts i (l.length-a)):=by
 cases f with
 | zero=>omega
 | succ f=>rw [batA,if_pos h];rfl
theorem c1G {l:List Ev}{cuts:List Int}{f i a:Nat}(h:¬ a<l.length):batA l cuts f i a=[]:=by
 cases f with
 | zero=>rfl
 | succ f=>rw [batA,if_neg h]
inductive Chain (l:List Ev):Nat→List Bp→Prop
 | nil:Chain l l.length []
 | cons {a n:Nat} {bs:List Bp}:0<n→a+n≤l.length→Chain l (a+n) bs→Chain l a ((l.take a,(l.drop a).take n) :: bs)
theorem m0T {l:List Ev}{cuts:List Int}:∀ {f i a:Nat},a≤l.length→l.length≤a+f→Chain l a (batA l cuts f i a)
 | 0,i,a,h1,h2=>by (obtain rfl:a=l.length:=by omega);exact .nil
 | f+1,i,a,h1,h2=>by
  rw [batA]
  split
  ·have:=z0V (cuts:=cuts) (i:=i) (n:=l.length-a) (by omega)
   exact .cons (by omega) (by omega) (m0T (by omega) (by omega))
  ·obtain rfl:a=l.length:=by omega
   exact .nil
theorem x0i (l:List Ev)(cuts:List Int):Chain l 0 (batL l cuts):=m0T (Nat.zero_le _) (by omega)
theorem j0e {l:List Ev}{a n:Nat}:l.take a++(l.drop a).take n=l.take (a+n):=List.take_add.symm
theorem t0b {l:List Ev}{cuts:List Int}:∀ {f i a:Nat},(batA l cuts f i a).length≤f
 | 0,_,_=>by simp [batA]
 | f+1,i,a=>by
  rw [batA]
  split
  ·have:=t0b (l:=l) (cuts:=cuts) (f:=f) (i:=i+1) (a:=a+cutN cuts i (l.length-a))
   rw [List.length_cons];omega
  ·simp
theorem TrU.k {L:Br}(hu:Uni (Bg L)){t:Br}(ht:TrU (Bg L) t)(h8:L.length≤8):TrK t :=
 ⟨Nat.le_trans (d1Q ht.nd ht.anti fun b hb=>(ht.mem b hb).2) h8,fun b hb=>hu.ok (ht.mem b hb)⟩
end Go.Proofs.YthjgmldnegaaiaaGreatDoor.Mir
namespace Go.Proofs.YthjgmldnegaaiaaGreatDoor.Mir
open Go Go.RowKit Go.Shelf Go.Maps Go.Sort
section
variable {P:Program}{w w':World}{φ:Nat→Nat × Nat}{X:Nat→Prop}{H:List Row}
end
end Go.Proofs.YthjgmldnegaaiaaGreatDoor.Mir
namespace Go.Proofs
open Go.RowKit Go.Maps Go.Sort Go.Shelf
end Go.Proofs
namespace Go.Proofs.YthjgmldnegaaiaaGreatDoor.Mir
open Go Go.RowKit Go.Shelf Go.Maps Go.Sort
end Go.Proofs.YthjgmldnegaaiaaGreatDoor.Mir
namespace Go.Proofs.YthjgmldnegaaiaaGreatDoor.Mir
open Go Go.RowKit
set_option maxHeartbeats 4000000
def g1Z (P:Program)(n0:Nat){α:Type}(st:α→St)(p:α→Prop)(m:α→Nat)(x:α)(s:St):Prop:=∃ y,View P n0 s (st y)∧p y∧m y<m x
instance {P:Program}{n0:Nat}{α:Type}{st:α→St}{p:α→Prop}{m:α→Nat}{x:α}{s:St}:Wz (g1Z P n0 st p m x s):=⟨id⟩
def g0b:SCode :=
  (jq ([.a 4 (.mv kN)]) (jq ([.a 5 (.mv kN)]) (jq ([jk 6 0]) (.seq (jq ([jk 7 0]) (.block 0 (.loop (.seq (jq ([jm 9 6,jm 10 0,je 11 10,jB 12 .lss 9
 11]) (jc 12 .skip (.exit 0))) (.seq (.block 1 (jq ([jm 15 0,je 16 15,jm 17 6,jB 18 .sub 16 17,jm 8 18]) (.seq (jq ([jm 19 7,jm 20 1,je 21 20,jB
 22 .lss 19 21]) (jc 22 (.ops (ap [jm 23 1,jm 24 7,jx 25 1 23 24,jl 26 25,jm 27 8,.a 28 (.mm false (kI 6) (.t 27)),.a 29 (.call (kC 13) [(.t 26),
 (.t 28)])] [.a 30 (.bin .add (kI 1) (.t 29)),jm 8 30])) .skip)) (.seq (.drw [jm 31 5,jm 32 0,jm 33 6,.a 34 (.sub 9 73 (.t 32) none (some (.t 33))
 none),.a 35 (.call (kC 39) [(.t 34)]),jm 36 0,jm 37 6,jm 38 6,jm 39 8,jB 40 .add 38 39,.a 41 (.sub 9 73 (.t 36) (some (.t 37)) (some (.t 40))
 none),.a 42 (.bld [(.f (.v (.string ⟨#[]⟩))),(.f (.v (.string ⟨#[]⟩))),jN,jN] [(0,1,(.c (.f (.v (.string ⟨#[97]⟩))))),(1,1,(.c (.f (.v
 (.string ⟨#[106,111,98,45,49]⟩))))),(2,1,(.t 35)),(3,1,(.t 41))]),.a 43 (.bsl 38 4 1 [(.f (.v (.string ⟨#[]⟩))),(.f (.v (.string ⟨#[]⟩))),
 jN,jN] [(0,(.t 42))]),.a 44 (.app 38 4 80 (.t 31) (.t 43)),jm 5 44] [0,0,0,6,14,0,0,0,0,384,992,2046,4094,8191,16383]) (.ops [jm 45
 6,jm 46 8,jB 47 .add 45 46,jm 6 47]))))) (.ops [jm 13 7,jb 14 .add 13 1,jm 7 14])))))) (jq ([jm 48 5,jm 4 48]) .ret)))))
theorem n0N:Fn Tryz.prog 11 49 [.t 4] g0b:=.of Tryz.func11 (by kernel_rfl)
theorem z0O {H:List Row}{E:TypeId}{b:List Ev}{l h:Nat}(hh:h≤b.length):subS H 9 E (.f (fEv b)) l h=some (.f (fEv ((b.drop l).take (h-l)))):=by
 have k:=j0A (H:=H) (E:=E) (b:=b.drop l) (h:=h-l) (by rw [List.length_drop];omega)
 rw [fEv,m0Q] at k ⊢
 rw [p0e Ev.cs_len]
 simpa using k
def Bp.cs (p:Bp):List F:=[.v (.string ⟨#[97]⟩),.v (.string ⟨#[106,111,98,45,49]⟩),fIm (ofL p.1),fEv p.2]
theorem Bp.cs_len (p:Bp):p.cs.length=4:=rfl
def fBp (bs:List Bp):F:=.s (bs.flatMap Bp.cs) bs.length
theorem a1A {g:List Bp}:(g.flatMap Bp.cs).length=g.length*4:=b0A Bp.cs_len g
theorem f1d {bs:List Bp}{a b:List Ev}:bs.flatMap Bp.cs++[.v (.string ⟨#[97]⟩),.v (.string ⟨#[106,111,98,45,49]⟩),fIm (ofL a),fEv b]=(bs++[(a,b)]).flatMap Bp.cs:=by simp [Bp.cs]
theorem g1U {H:List Row}{r n:Nat}{xs:List F}{t:List Bp}(hr:H[r]?=some (.data 38 xs))(hx:xs=t.flatMap Bp.cs)(hn:n=t.length):Vw H (.sl r 0 n) (.f (fBp t)):=by
 subst hx;subst hn
 exact .sl hr (fun e=>by rw [List.eq_nil_of_length_eq_zero e];rfl)
set_option maxRecDepth 100000 in
theorem q0Z (l:List Ev)(cuts:List Int)(hl:BrOk l):Con Tryz.prog 11 [.f (fEv l),.f (fI cuts)] [] fun r H'=>r = .f (fBp (batL l cuts))∧H'=[]:=by
 have hll:=hl.len
 refine Con.walk good n0N (by simp) ?_
 unfold g0b
 simp only [a0I]
 repeat' (with_reducible first|refine Wx.h ?_|refine Wb.h fun K hK=>?_|(refine hK _ ?_;clear hK K)|((fail_if_success refine Wz.h ?_);simp (disch:=omega) only [↓LD,LA,a0A,seval,LEv]))
 refine HS.view (View.void 38) ?_
 refine HS.view (View.slot 5 (.sl 0 0 0) (.no (by decide))) ?_
 refine HS.loopG [0,1,5,6,7] (fun x:Nat × Nat × List Bp=>⟨frm 49 [(0,.f (fEv l)),(1,.f (fI cuts)),(5,.sl 0 0 x.2.2.length),(6,D.int x.1),(7,D.int x.2.1)],[.data 38 (x.2.2.flatMap Bp.cs)],[]⟩) (fun x=>x.1≤l.length∧x.2.1≤x.1∧x.2.2.length≤x.1∧∃ f,l.length≤x.1+f∧batL l cuts=x.2.2++batA l cuts f x.2.1 x.1) (fun x=>l.length-x.1) (0,0,[]) (by kernel_rfl) ⟨Nat.zero_le _,Nat.le_refl _,Nat.le_refl _,l.length,by dsimp only;omega,rfl⟩ ?_
 rintro ⟨a,i,o⟩ ⟨ha,hi,ho,f,hf,hB⟩
 dsimp only at ha hi ho hf hB
 by_cases hal:a<l.length
 rotate_left
 ·rw [c1G hal,List.append_nil] at hB
  repeat' (with_reducible first|refine Wx.h ?_|refine Wb.h fun K hK=>?_|(refine hK _ ?_;clear hK K)|refine Wq.h ?_ ?_<;>intro h<;>try (exfalso;omega)|((fail_if_success refine Wz.h ?_);simp (disch:=omega) only [↓LD,LA,a0A,seval,LEv]))
  rw [hB]
  exact end1 rfl rfl (by kernel_rfl) (g1U rfl rfl rfl) ⟨rfl,rfl⟩
 rw [e1y hal hf] at hB
 have hcn:=z0V (cuts:=cuts) (i:=i) (n:=l.length-a) (by omega)
 have hok:=hl.take a
 haveI:Kn (IdL (l.take a)):=⟨hok.idL⟩
 have hs1:∀ H:List Row,subS H 9 73 (.f (fEv l)) 0 a=some (.f (fEv (l.take a))):=fun H=>j0A (by omega)
 have key:∀ c:Nat,cutN cuts i (l.length-a)=c→(∀ H:List Row,subS H 9 73 (.f (fEv l)) a (a+c)=some (.f (fEv ((l.drop a).take c)))):=fun c hc H=>by
  rw [z0O (by omega),Nat.add_sub_cancel_left]
 have hap:=f1d (bs:=o) (a:=l.take a) (b:=(l.drop a).take (cutN cuts i (l.length-a)))
 have hmn:((min 6 (l.length-a):Nat):Int)=min 6 ((l.length:Int)-a):=by omega
 by_cases hic:i<cuts.length
 ·have hp:=b0v (x:=gt cuts i) (n:=((min 6 (l.length-a):Nat):Int)) (by omega)
  have hcu:cutN cuts i (l.length-a)=(1+pick (gt cuts i) ((min 6 (l.length-a):Nat):Int)).toNat:=if_pos hic
  rw [hmn] at hp hcu
  generalize cutN cuts i (l.length-a)=c at *
  have hs2:=key c rfl
  have e1:pick (gt cuts i) (min 6 ((l.length:Int)-a))=(c:Int)-1:=by omega
  have e2:(1:Int)+((c:Int)-1)=c:=by omega
  have e3:((a:Int)+c).toNat=a+c:=by omega
  clear hcu hp key
  repeat' (with_reducible first|refine Wx.h ?_|refine We.h fun K hK=>?_|(refine hK _ _ _ _ ?_;clear hK K;try clear hM M)|refine Wb.h fun K hK=>?_|(refine hK _ ?_;clear hK K)|(refine Wy.h ?_ ?_;kernel_rfl)|refine Wq.h ?_ ?_<;>intro h<;>try (exfalso;omega)|((fail_if_success refine Wz.h ?_);first|simp (disch:=omega) only [↓LD,LA,a0A,seval,LEv,LIm,a0N,a1A,hs1,hs2,e1,e2,e3,hap,Int.toNat_natCast]|(refine And.intro ?_ ?_;omega)|fail))
  all_goals exact Next.mk (a+c,i+1,o++[(l.take a,(l.drop a).take c)]) (by rw [show (o++[(l.take a,(l.drop a).take c)]).length=o.length+1 by simp];kernel_rfl) ⟨by dsimp only;omega,by dsimp only;omega,by dsimp only;rw [List.length_append,List.length_singleton];omega,f-1,by dsimp only;omega,by rw [hB,List.append_assoc];rfl⟩ (by dsimp only;omega)
 ·have hcu:cutN cuts i (l.length-a)=l.length-a:=if_neg hic
  generalize cutN cuts i (l.length-a)=c at *
  have hs2:=key c rfl
  have e1:(l.length:Int)-a=(c:Int):=by omega
  have e3:((a:Int)+c).toNat=a+c:=by omega
  clear hcu key
  repeat' (with_reducible first|refine Wx.h ?_|refine We.h fun K hK=>?_|(refine hK _ _ _ _ ?_;clear hK K;try clear hM M)|refine Wb.h fun K hK=>?_|(refine hK _ ?_;clear hK K)|(refine Wy.h ?_ ?_;kernel_rfl)|refine Wq.h ?_ ?_<;>intro h<;>try (exfalso;omega)|((fail_if_success refine Wz.h ?_);first|simp (disch:=omega) only [↓LD,LA,a0A,seval,LEv,LIm,a0N,a1A,hs1,hs2,e1,e3,hap,Int.toNat_natCast]|(refine And.intro ?_ ?_;omega)|fail))
  all_goals exact Next.mk (a+c,i+1,o++[(l.take a,(l.drop a).take c)]) (by rw [show (o++[(l.take a,(l.drop a).take c)]).length=o.length+1 by simp];kernel_rfl) ⟨by dsimp only;omega,by dsimp only;omega,by dsimp only;rw [List.length_append,List.length_singleton];omega,f-1,by dsimp only;omega,by rw [hB,List.append_assoc];rfl⟩ (by dsimp only;omega)
noncomputable def knM (l:List Ev):Br→Nat→Nat
 | [],m=>m
 | x :: t,m=>knM l t (max m (a0M x l))
noncomputable def evA (t:Br):Nat→Nat→Nat→Nat
 | 0,_,n=>n
 | f+1,i,n=>evA t f (i+1) (n+((gt t i).length-knM (gt t i) (t.take i) 0))
noncomputable def evsN (t:Br):Nat:=evA t t.length 0 0
set_option maxRecDepth 100000 in
theorem s0t (t:Br)(ht:TrK t):Con Tryz.prog 16 [.ag [.f (fBr t)]] [] fun r H'=>r=D.int (evsN t)∧H'=[]:=by
 have htl:=ht.len
 refine Con.walk good r0M (by simp) ?_
 unfold h0Z
 simp only [a0I]
 repeat' (with_reducible first|refine Wx.h ?_|refine Wb.h fun K hK=>?_|(refine hK _ ?_;clear hK K)|((fail_if_success refine Wz.h ?_);simp (disch:=omega) only [↓LD,LA,a0A,seval,LBr]))
 refine HS.loopG [1,3,10,11,12] (fun x:Nat × Nat=>⟨frm 40 [(1,.pt 0 0),(3,D.int x.2),(10,.f (fBr t)),(11,D.int t.length),(12,D.int x.1)],[.box 30 [.f (fBr t)]],[]⟩) (fun x=>x.1≤t.length∧x.2≤x.1*1000∧evsN t=evA t (t.length-x.1) x.1 x.2) (fun x=>t.length-x.1) (0,0) (by kernel_rfl) ⟨Nat.zero_le _,Nat.zero_le _,rfl⟩ ?_
 rintro ⟨i,n⟩ ⟨hi,hn,hE⟩
 dsimp only at hi hn hE
 by_cases hil:i<t.length
 rotate_left
 ·rw [show t.length-i=0 by omega,evA] at hE
  repeat' (with_reducible first|refine Wx.h ?_|refine Wb.h fun K hK=>?_|(refine hK _ ?_;clear hK K)|refine Wq.h ?_ ?_<;>intro h<;>try (exfalso;omega)|((fail_if_success refine Wz.h ?_);simp (disch:=omega) only [↓LD,LA,a0A,seval,LBr]))
  rw [hE]
  exact end1 rfl rfl (by kernel_rfl) .f ⟨rfl,rfl⟩
 obtain ⟨ok,ne⟩:=ht.gt hil
 have hlen:=ok.len
 rw [show t.length-i=t.length-(i+1)+1 by omega,evA] at hE
 have hs:∀ H:List Row,subS H 1 25 (.f (fBr t)) 0 i=some (.f (fBr (t.take i))):=fun H=>c1S hi
 have hAl:(t.take i).length=i:=by rw [List.length_take];omega
 have hA:∀ x∈t.take i,FitL x:=fun x hx=>(ht.ok x (List.mem_of_mem_take hx)).1.fitL
 generalize hl:gt t i=l at *
 generalize t.take i=A at *
 haveI:Kn (FitL l):=⟨ok.fitL⟩
 repeat' (with_reducible first|refine Wx.h ?_|refine Wb.h fun K hK=>?_|(refine hK _ ?_;clear hK K)|refine Wq.h ?_ ?_<;>intro h<;>try (exfalso;omega)|((fail_if_success refine Wz.h ?_);first|simp (disch:=omega) only [↓LD,LA,a0A,seval,LBr,hs,hl]|(refine And.intro ?_ ?_;omega)|fail))
 refine HS.loopG [1,3,5,6,10,11,12,20,21,22] (fun x:Nat × Nat=>⟨frm 40 [(1,.pt 0 0),(3,D.int n),(5,.f (fEv l)),(6,D.int x.2),(10,.f (fBr t)),(11,D.int t.length),(12,D.int i),(20,.f (fBr A)),(21,D.int A.length),(22,D.int x.1)],[.box 30 [.f (fBr t)]],[]⟩) (fun x=>x.1≤A.length∧x.2≤l.length∧knM l A 0=knM l (A.drop x.1) x.2) (fun x=>A.length-x.1) (0,0) (by rw [hAl];kernel_rfl) ⟨Nat.zero_le _,Nat.zero_le _,rfl⟩ ?_
 rintro ⟨j,k⟩ ⟨hj,hk,hM⟩
 dsimp only at hj hk hM
 by_cases hjl:j<A.length
 ·haveI:Kn (FitL (gt A j)):=⟨hA _ (a0K hjl)⟩
  rw [a0H hjl,knM] at hM
  have hle:=(g0E (gt A j) l).2
  have hmx:max (k:Int) (a0M (gt A j) l)=((max k (a0M (gt A j) l):Nat):Int):=by omega
  repeat' (with_reducible first|refine Wx.h ?_|refine Wb.h fun K hK=>?_|(refine hK _ ?_;clear hK K)|refine Wq.h ?_ ?_<;>intro h<;>try (exfalso;omega)|((fail_if_success refine Wz.h ?_);first|simp (disch:=omega) only [↓LD,LA,a0A,seval,LBr,LEv,hmx]|(refine And.intro ?_ ?_;omega)|fail))
  all_goals exact Next.mk (j+1,max k (a0M (gt A j) l)) (by kernel_rfl) ⟨by dsimp only;omega,by dsimp only;omega,hM⟩ (by dsimp only;omega)
 ·rw [List.drop_of_length_le (by omega),knM] at hM
  rw [hM] at hE
  have e1:(n:Int)+((l.length:Int)-k)=((n+(l.length-k):Nat):Int):=by omega
  repeat' (with_reducible first|refine Wx.h ?_|refine Wb.h fun K hK=>?_|(refine hK _ ?_;clear hK K)|refine Wq.h ?_ ?_<;>intro h<;>try (exfalso;omega)|((fail_if_success refine Wz.h ?_);simp (disch:=omega) only [↓LD,LA,a0A,seval,LBr,LEv,e1]))
  all_goals exact Next.mk (i+1,n+(l.length-k)) (by kernel_rfl) ⟨by dsimp only;omega,by dsimp only;omega,hE⟩ (by dsimp only;omega)
theorem c1W {l:List Ev}:evsN [l]=l.length:=by
 have:gt [l] 0=l:=rfl
 simp [evsN,evA,knM,this]
theorem n0J {l:List Ev}(hl:BrOk l):Uni (Bg [l]) :=
 ⟨fun {p} h=>by
  obtain ⟨hn,m,hm,hp⟩:=h
  obtain rfl:=List.mem_singleton.1 hm
  exact ⟨hl.pfx hp,hn⟩,fun {p q} h hq hq0=>by
  obtain ⟨hn,m,hm,hp⟩:=h
  exact ⟨hq0,m,hm,hq.trans hp⟩,fun {p q} h k _=>by
  obtain ⟨_,m,hm,hp⟩:=h
  obtain ⟨_,n,hn,hq⟩:=k
  obtain rfl:=List.mem_singleton.1 hm
  obtain rfl:=List.mem_singleton.1 hn
  exact List.prefix_or_prefix_of_prefix hp hq⟩
noncomputable def prt (l:List Ev)(a:Nat):Br:=if a=0 then [] else [l.take a]
theorem b1X {l:List Ev}{a:Nat}:(prt l a).length≤1:=by unfold prt;split<;>simp
theorem u0U {l:List Ev}{a:Nat}(ha:a≤l.length):TrU (Bg [l]) (prt l a):=by
 unfold prt
 split
 ·exact TrU.nil
 ·refine ⟨fun b hb=>?_,List.pairwise_singleton _ _,fun x hx y hy _=>?_⟩
  ·obtain rfl:=List.mem_singleton.1 hb
   exact ⟨f0x (by omega) ha,l,by simp,List.take_prefix _ _⟩
  ·rw [List.mem_singleton.1 hx,List.mem_singleton.1 hy]
theorem n0c {α:Type}{l:List α}{a b:Nat}(h:a≤b):l.take a <+: l.take b:=by
 have:l.take a=(l.take b).take a:=by rw [List.take_take,Nat.min_eq_left h]
 rw [this];exact List.take_prefix _ _
theorem n0P {l:List Ev}{a n:Nat}(hn:0<n)(h:a+n≤l.length):(l.drop a).take n≠[]∧Bg [l] (l.take a++(l.drop a).take n):=by
 refine ⟨f0x hn (by rw [List.length_drop];omega),?_⟩
 rw [j0e]
 exact ⟨f0x (by omega) h,l,by simp,List.take_prefix _ _⟩
theorem u0h {l:List Ev}(hl:BrOk l){a n:Nat}(hn:0<n)(h:a+n≤l.length):addP (prt l a) (ofL (l.take a)) ((l.drop a).take n)=(prt l (a+n),true,0):=by
 have hb:=n0P hn h
 rcases v0T (n0J hl) (u0U (l:=l) (a:=a) (by omega)) hb.1 hb.2 (Nat.lt_of_le_of_lt b1X (by decide)) with ⟨_,k⟩|⟨k,_⟩
 ·rw [k,j0e]
  have ha:(prt l a).any (begB (l.take (a+n)))=false:=by
   rw [List.any_eq_false]
   intro b hb2
   rw [begB_iff]
   intro hp
   unfold prt at hb2
   split at hb2
   ·simp at hb2
   ·have:=hp.length_le
    rw [List.mem_singleton.1 hb2,List.length_take,List.length_take] at this
    omega
  rw [ha,addU,if_neg (by rw [ha];simp)]
  have hf:(prt l a).filter (fun b=>!begB b (l.take (a+n)))=[]:=by
   rw [List.filter_eq_nil_iff]
   intro b hb2
   unfold prt at hb2
   split at hb2
   ·simp at hb2
   ·rw [List.mem_singleton.1 hb2,begB_iff.2 (n0c (by omega))];simp
  rw [hf,prt,if_neg (by omega)]
  rfl
 ·refine absurd ?_ k
  by_cases h0:a=0
  ·subst h0;exact .inl rfl
  ·refine .inr ⟨l.take a,?_,List.prefix_refl _⟩
   unfold prt;rw [if_neg h0];simp
theorem c1R {l:List Ev}(hl:BrOk l){a b n:Nat}(hn:0<n)(hb:b+n≤a)(h:a≤l.length):addP (prt l a) (ofL (l.take b)) ((l.drop b).take n)=(prt l a,false,0):=by
 have hg:=n0P (l:=l) (a:=b) hn (by omega)
 have hd:Dn (prt l a) (l.take (b+n)):=⟨l.take a,by unfold prt;rw [if_neg (by omega)];simp,n0c hb⟩
 rcases v0T (n0J hl) (u0U h) hg.1 hg.2 (Nat.lt_of_le_of_lt b1X (by decide)) with ⟨_,k⟩|⟨k,_⟩
 ·rw [j0e] at k
  have ha:(prt l a).any (begB (l.take (b+n)))=true:=any_beg.2 hd
  rw [k,ha,addU,if_pos ha];rfl
 ·refine absurd ?_ k
  obtain ⟨x,h1,h2⟩:=hd
  exact .inr ⟨x,h1,(n0c (by omega)).trans h2⟩
structure Prt (l:List Ev)(bs:List Bp)(i a:Nat):Prop where
 le:a≤l.length
 ch:Chain l a (bs.drop i)
 old:∀ k,k<i→∃ b n,gt bs k=(l.take b,(l.drop b).take n)∧0<n∧b+n≤a
theorem Prt.start (l:List Ev)(cuts:List Int):Prt l (batL l cuts) 0 0:=⟨Nat.zero_le _,x0i l cuts,fun k h=>by omega⟩
theorem Prt.step {l:List Ev}{bs:List Bp}{i a:Nat}(h:Prt l bs i a)(hi:i<bs.length):∃ n,0<n∧a+n≤l.length∧gt bs i=(l.take a,(l.drop a).take n)∧Prt l bs (i+1) (a+n):=by
 have hc:=h.ch
 rw [a0H hi] at hc
 generalize hg:gt bs i=g at hc
 cases hc with
 | @cons _ n _ h1 h2 h3 =>
  refine ⟨n,h1,h2,rfl,h2,h3,fun k hk=>?_⟩
  by_cases e:k=i
  ·subst e;exact ⟨a,n,hg,h1,Nat.le_refl _⟩
  ·obtain ⟨b,m,h4,h5,h6⟩:=h.old k (by omega)
   exact ⟨b,m,h4,h5,by omega⟩
theorem Prt.stop {l:List Ev}{bs:List Bp}{i a:Nat}(h:Prt l bs i a)(hi:¬ i<bs.length):a=l.length:=by
 have hc:=h.ch
 rw [List.drop_of_length_le (by omega)] at hc
 cases hc with
 | nil=>rfl
theorem t0V {l:List Ev}(hl:l≠[]):prt l l.length=[l]:=by
 have:=List.length_pos_iff.2 hl
 unfold prt;rw [if_neg (by omega),List.take_length]
theorem x0X {l:List Ev}(hl:BrOk l)(hne:l≠[]):addP [] (ofL []) l=([l],true,0):=by
 have:=u0h hl (a:=0) (n:=l.length) (List.length_pos_iff.2 hne) (by omega)
 rw [List.take_zero,List.drop_zero,List.take_length,Nat.zero_add,t0V hne,prt,if_pos rfl] at this
 exact this
structure AddIn (t:Br)(hd evs:List Ev):Prop where
 tk:TrK t
 pk:(ofL hd).length≤1000000
 fit:FitL evs
 hb:∀ h,d0S t (ofL hd)=some h→FitL (h++evs)∧((a0W s0 (h++evs)).1=0→BrOk (h++evs))
theorem AddIn.of {L:Br}(hu:Uni (Bg L))(h8:L.length≤8){t:Br}(ht:TrU (Bg L) t){hd evs:List Ev}(he:evs≠[])(hx:Bg L (hd++evs)):AddIn t hd evs :=
 ⟨ht.k hu h8,((hu.ok hx).1.pfx (List.prefix_append hd evs)).ofK,by
  have:=(hu.ok hx).1.fitL
  exact ⟨by have:=this.1;rw [List.length_append] at this;omega,fun e h=>this.2 e (List.mem_append_right _ h)⟩,e1U hu ht he hx⟩
instance {t u:Br}{H:List Row}{K:D→List Row→Prop}[ht:Kn (TrK t)][hu:Kn (TrK u)]:Wa (a0S Tryz.prog (.fn 14 []) [.ag [.f (fBr t)],.ag [.f (fBr u)]] H K) (K (.f (.v (.bool (eqB t u)))) H):=⟨fun k=>a0C (q0F t u ht.h hu.h) rfl rfl rfl k⟩
instance {t:Br}{H:List Row}{K:D→List Row→Prop}[ht:Kn (TrK t)]:Wa (a0S Tryz.prog (.fn 16 []) [.ag [.f (fBr t)]] H K) (K (.f (.v (.int .i64 (evsN t)))) H):=⟨fun k=>a0C (s0t t ht.h) rfl rfl rfl k⟩
instance {t:Br}{d0 d1:F}{hd evs:List Ev}{H:List Row}{K:Bool→D→List Row→Prop}[h:Kn (AddIn t hd evs)]:Wa (a0j Tryz.prog (.fn 12 []) [.ag [.f (fBr t)],.ag [.f d0,.f d1,.f (fIm (ofL hd)),.f (fEv evs)]] H K) (K true (.tp [.ag [.f (fBr (addP t (ofL hd) evs).1)],.f (.v (.bool (addP t (ofL hd) evs).2.1)),.f (.v (.int .i64 (addP t (ofL hd) evs).2.2))]) H):=⟨fun k=>a0O (o0A t d0 d1 (ofL hd) evs h.h.tk h.h.pk h.h.fit h.h.hb) rfl rfl rfl k⟩
instance {t:Br}{d0 d1:F}{hd evs:List Ev}{H:List Row}{K:Bool→D→List Row→Prop}[h:Kn (AddIn t hd evs)]:Wa (a0j Tryz.prog (.fn 15 []) [.ag [.f (fBr t)],.ag [.f d0,.f d1,.f (fIm (ofL hd)),.f (fEv evs)]] H K) (K true (.f (.v (.bool (x0k t (ofL hd) evs)))) H):=⟨fun k=>a0O (x0J t d0 d1 (ofL hd) evs h.h.tk h.h.pk h.h.fit h.h.hb) rfl rfl rfl k⟩
instance {t u:Br}{H:List Row}{K:Bool→D→List Row→Prop}[ht:Kn (TrK t)][hu:Kn (TrK u)]:Wa (a0j Tryz.prog (.fn 14 []) [.ag [.f (fBr t)],.ag [.f (fBr u)]] H K) (K true (.f (.v (.bool (eqB t u)))) H):=⟨fun k=>a0O (q0F t u ht.h hu.h) rfl rfl rfl k⟩
theorem c1Z:v0e (runF Tryz.prog f1l 60 10 [] [])=true:=by kernel_rfl
theorem x0L:Con Tryz.prog 10 [] [] fun r H'=>r=D.bool true∧H'=[] :=
 (Con.run good (c1Q _) (d1h (by kernel_rfl)) (r0Y (by rw [←e1Z];exact c1Z))).mono fun _ _ h=>h
instance kn13_callW {H:List Row}{K:D→List Row→Prop}:Wa (a0S Tryz.prog (.fn 10 []) [] H K) (K (.f (.v (.bool true))) H):=⟨fun h=>a0C x0L rfl rfl rfl h⟩
def e0B:SCode :=
  (jq ([.a 8 (.mv kF)]) (jq ((ap [jm 23 0,jm 24 1,.a 25 (.call (kC 9) [(.t 23),(.t 24)])] [jm 9 25])) (.seq (jq ((ap [.a 26 (.call (kC 10) [])] [.a 27
 (.unot (.t 26))])) (jc 27 (jq ([.a 8 (.mv kF)]) .ret) .skip)) (.seq (jq ([jm 28 9,je 29 28,jb 30 .eql 29 0]) (jc 30 (jq ([.a 8 (.mv kT)]) .ret)
 .skip)) (jq ([.a 10 (.alloc 30 [jN])]) (jq ((ap [jm 31 9,jm 32 2,.a 33 (.call (kC 11) [(.t 31),(.t 32)])] [jm 11 33])) (.seq (jq ([jk 12 0]) (.block
 0 (.loop (.seq (jq ([jm 34 12,jm 35 11,je 36 35,jB 37 .lss 34 36]) (jc 37 .skip (.exit 0))) (.seq (.block 1 (.seq (.drw [jL 41 1 10,jm 42 11,jm 43
 12,jx 44 4 42 43,jL 45 4 44,.a 46 (.call (kC 12) [(.t 41),(.t 45)]),jm 40 46,jE 47 0 40,jE 48 1 40,jE 49 2 40,.a 13 (.alloc 30 [jN]),.n
 (.store 1 (.t 13) (.t 47)),jm 14 48,jm 15 49] [0,0,0,6,14,31,63,127,127,127,0,1279,3583,8191]) (.seq (jq ((ap [jm 50 15,jb 51 .neq 50
 0] (ap [jm 52 51,gM 53 14 52 false] [jG 54 (.unot (.t 53)) 52 false,.a 55 (.pick (.t 52) kT (.t 54))]))) (jc 55 (jq ([.a 8 (.mv kF)]) .ret) .skip))
 (jq ([jL 56 1 13,.n (.store 1 (.t 10) (.t 56))]) (jq ([jm 57 12,jm 58 3,je 59 58,jB 60 .lss 57 59]) (jc 60 (jq ((ap [jm 61 3,jm 62 12,jx 63 1 61
 62,jl 64 63,jm 65 12,jb 66 .add 65 1,.a 67 (.call (kC 13) [(.t 64),(.t 66)])] [jm 16 67])) (.seq (.drw [jL 69 1 10,jm 70 11,jm 71 16,jx 72 4 70
 71,jL 73 4 72,.a 74 (.call (kC 12) [(.t 69),(.t 73)]),jm 68 74,jE 75 0 68,jE 76 1 68,jE 77 2 68,.a 17 (.alloc 30 [jN]),.n (.store 1 (.t 17)
 (.t 75)),jm 18 76,jm 19 77] [0,0,0,6,14,31,63,127,127,127,0,1279,3583,8191]) (.seq (.drw [jm 78 19,jb 79 .neq 78 0,jm 80 79,gM 81 18
 80 false,.a 82 (.pick (.t 80) kT (.t 81)),jm 83 82,jG 84 (.loadA 1 (.t 10)) 83 false,jG 85 (.loadA 1 (.t 17)) 83 false,jG 86 (.call (kC 14) [(.t
 84),(.t 85)]) 83 false,jG 87 (.unot (.t 86)) 83 false,.a 88 (.pick (.t 83) kT (.t 87)),jm 89 88,jG 90 (.loadA 1 (.t 10)) 89 false,gM 91 11 89
 false,gM 92 16 89 false,jG 93 (.idx 4 (.t 91) (.t 92)) 89 false,jG 94 (.loadA 4 (.t 93)) 89 false,jG 95 (.call (kC 15) [(.t 90),(.t 94)]) 89
 false,jG 96 (.unot (.t 95)) 89 false,.a 97 (.pick (.t 89) kT (.t 96))] [0,1,3,7,15,31,63,63,255,511,1023,2047,4095,4095,4095,28671,
 61439,131071,262143,524287]) (jc 97 (jq ([.a 8 (.mv kF)]) .ret) .skip)))) .skip)))))) (.ops [jm 38 12,jb 39 .add 38 1,jm 12 39])))))) (jq ((ap [.a
 99 (.bld [jN] []),jm 100 9,.a 101 (.bld [(.f (.v (.string ⟨#[]⟩))),(.f (.v (.string ⟨#[]⟩))),jN,jN] [(3,1,(.t 100))]),.a 102 (.call (kC 12)
 [(.t 99),(.t 101)])] [jm 98 102,jE 103 0 98,jE 104 1 98,jE 105 2 98,.a 20 (.alloc 30 [jN]),.n (.store 1 (.t 20) (.t 103)),jm 21 104,jm 22
 105])) (jq ((ap [jm 106 22,jb 107 .eql 106 0] (ap [jm 108 107,gM 109 21 108 true] (ap [.a 110 (.pick (.t 108) (.t 109) kF),jm 111 110,jG 112
 (.loadA 1 (.t 10)) 111 true] (ap [jG 113 (.loadA 1 (.t 20)) 111 true,jG 114 (.call (kC 14) [(.t 112),(.t 113)]) 111 true] (ap [.a 115 (.pick (.t 111)
 (.t 114) kF),jm 116 115,jG 117 (.loadA 1 (.t 10)) 116 true] (ap [jG 118 (.call (kC 16) [(.t 117)]) 116 true] (ap [gM 119 9 116 true,jG 120 (.slen
 (.t 119)) 116 true,jG 121 (.bin .eql (.t 118) (.t 120)) 116 true] (ap [.a 122 (.pick (.t 116) (.t 121) kF),jm 123 122,jG 124 (.loadA 1 (.t 10)) 123
 true] (ap [jG 125 (.call (kC 18) [(.t 124)]) 123 true] (ap [gM 126 9 123 true,jG 127 (.call (kC 17) [(.t 125),(.t 126)]) 123 true] [.a 128 (.pick (.t
 123) (.t 127) kF),jm 8 128]))))))))))) .ret)))))))))
theorem h0N:Fn Tryz.prog 3 129 [.t 8] e0B:=.of Tryz.func3 (by kernel_rfl)
end Go.Proofs.YthjgmldnegaaiaaGreatDoor.Mir
