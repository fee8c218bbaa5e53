/- Texts laid into one file: SOk, SD, SC. -/
import Derived.Test.YtgbbpelfpagdoaaGreatDoorSp04
import Derived.Laws.StructEq
set_option linter.unusedVariables false
set_option linter.unusedSimpArgs false
namespace Go.Proofs.YtgbbpelfpagdoaaGreatDoor.Mir
open Go Go.RowKit
theorem bind'_ex {α : Type} {o : Option α} {K : α → Prop} (h : bind' o K) : ∃ a,o = some a ∧ K a:=by
  cases o with
  | none=>exact h.elim
  | some a=>exact ⟨a,rfl,h⟩
section
variable {P : Program} {X : Nat → Prop} {w : World} {φ : Nat → Nat × Nat} {H : List Row}
theorem load1_eq {T : TypeId} {d x : D} (hT : isAggB P T = some false) (h : load1 H d = some x) : loadD P H T d = some x:=by
  unfold load1 at h
  unfold loadD
  split at h
  · rename_i r off
    split at h
    · rename_i row hr
      simp only [hr]
      split at h
      · rename_i xs hx
        simp only [hx,asVal,hT]
        exact h
      · cases h
    · cases h
  · rename_i xs
    simp only [asVal,hT]
    rw [List.getElem?_map]
    exact h
  · cases h
theorem loadA_eq {T : TypeId} {d x : D} {n b : Nat} {z : List Value} (hT : isAggB P T = some true) (hi : inf P T = some (n,b,z)) (h : loadA H n d = some x) : loadD P H T d = some x:=by
  unfold loadA at h
  unfold loadD
  split at h
  · rename_i r off
    split at h
    · rename_i row hr
      simp only [hr]
      split at h
      · rename_i xs hx
        simp only [hx,asVal,hT,hi]
        exact h
      · cases h
    · cases h
  · rename_i xs
    simp only [asVal,hT,hi,List.drop_zero,Nat.zero_add,List.length_map]
    exact h
  · cases h
theorem storeS_eq {T : TypeId} {a x : D} {n b : Nat} {z : List Value} {H' : List Row} (hi : inf P T = some (n,b,z)) (h : storeS P H n a x = some H') : ∃ e,storeD P H T a x = some e ∧ e.res = D.undef ∧ e.heap H = H':=by
  unfold storeS at h
  unfold storeD
  split at h
  · rename_i r off
    simp only [hi]
    split at h
    · rename_i U xs hr
      simp only [hr]
      split at h
      · rename_i hc
        injection h with h
        rw [if_pos hc]
        refine ⟨_,rfl,rfl,?_⟩
        rw [putL_splice _ _ _ (by rw [hc.2.1];exact hc.2.2)] at h
        rw [← h]
        simp [Eff.heap,applyUpd]
      · cases h
    · rename_i U xs hr
      simp only [hr]
      split at h
      · rename_i hc
        rw [if_pos hc]
        split at h
        · rename_i ys us hf
          simp only [hf]
          split at h
          · rename_i U' ws hw
            injection h with h
            simp only [hw]
            refine ⟨_,rfl,rfl,?_⟩
            rw [← h]
            simp [Eff.heap,applyUpd_append,applyUpd]
          · cases h
        · cases h
      · cases h
    · cases h
  · cases h
theorem svo_ok {q : Option Operand} {r : Option SV} (h : svo q = some r) {ts : List D} : r.map (SV.ev ts) = q.map (eval ts):=by
  cases q with
  | none=>simp [svo] at h;subst h;rfl
  | some x =>
    simp only [svo,Option.map_eq_some_iff] at h
    obtain ⟨y,hy,rfl⟩:=h
    simp [sv_ok hy]
theorem ssubS_eq {T : TypeId} {x d : D} {lo hi : Option D} (hu : P.underlying T = some .string) (h : ssubS x lo hi = some d) : sliceD P H T x lo hi none = some d:=by
  unfold ssubS at h
  unfold sliceD
  split at h
  · simp only [hu]
    exact h
  · cases h
theorem lookS_eq {T K E : TypeId} {ok : Bool} {z m k d : D} (hu : P.underlying T = some (.map K E)) (hz : zeroD P E = some z) (h : lookS P H ok K z m k = some d) : lookupD P H T m k ok = some d:=by
  unfold lookS at h
  unfold lookupD
  split at h
  · rename_i es key hes
    simp only [hu,hes]
    split at h
    · rename_i hk
      rw [if_pos hk]
      split at h
      · rename_i y hf;simp only [hf];exact h
      · rename_i hf;simp only [hf,hz];exact h
      · cases h
    · cases h
  · cases h
theorem mputS_eq {T K E : TypeId} {m k x : D} {H' : List Row} (hu : P.underlying T = some (.map K E)) (h : mputS P H K m k x = some H') : ∃ e,mapPutD P H T m k x = some e ∧ e.res = D.undef ∧ e.heap H = H':=by
  unfold mputS at h
  unfold mapPutD
  split at h
  · rename_i r key
    simp only [hu]
    split at h
    · rename_i hk
      rw [if_pos hk]
      split at h
      · rename_i y us hf
        simp only [hf]
        split at h
        · rename_i es hr
          simp only [hr]
          split at h
          · rename_i o ho
            simp only [ho]
            injection h with h
            refine ⟨_,rfl,rfl,?_⟩
            rw [← h]
            simp [Eff.heap,applyUpd_append,applyUpd]
          · cases h
        · cases h
      · cases h
    · cases h
  · cases h
theorem mdelS_eq {T K E : TypeId} {m k : D} {H' : List Row} (hu : P.underlying T = some (.map K E)) (h : mdelS P H K m k = some H') : ∃ e,mapDelD P H T m k = some e ∧ e.res = .tp [] ∧ e.heap H = H':=by
  unfold mdelS at h
  unfold mapDelD
  split at h
  · rename_i r key
    simp only [hu]
    split at h
    · rename_i hk
      rw [if_pos hk]
      split at h
      · rename_i es hr
        simp only [hr]
        split at h
        · rename_i o ho
          simp only [ho]
          injection h with h
          refine ⟨_,rfl,rfl,?_⟩
          rw [← h]
          simp [Eff.heap,applyUpd]
        · cases h
      · cases h
    · cases h
  · cases h
theorem fs_map (xs : List F) : fs? (xs.map .f) = some xs:=by
  induction xs with
  | nil=>rfl
  | cons x xs ih=>simp [fs?,ih]
theorem fs_eq : ∀ {ds : List D} {xs : List F},fs? ds = some xs → ds = xs.map .f
  | [],xs,h=>by simp [fs?] at h;subst h;rfl
  | d :: ds,xs,h=>by
    cases d with
    | f x =>
      simp only [fs?,Option.map_eq_some_iff] at h
      obtain ⟨ys,hy,rfl⟩:=h
      simp [fs_eq hy]
    | _=>simp [fs?] at h
theorem elemsS_eq {T : TypeId} {sz b : Nat} {z : List Value} {x : D} {m : Nat} {ys : List F} (hi : inf P T = some (sz,b,z)) (h : elemsS H sz x = some (m,ys)) : elems P H T x = some (m,ys.map .f):=by
  unfold elemsS at h
  unfold elems
  split at h
  · cases h;rfl
  · cases h;rfl
  · cases h;rfl
  · rename_i r off n
    dsimp only
    by_cases hn : n = 0
    · subst hn
      rw [if_pos rfl]
      split at h<;>simp at h
      · obtain ⟨_,rfl,rfl⟩:=h;rfl
      · obtain ⟨_,rfl,rfl⟩:=h;rfl
      · split at h
        · simp at h;obtain ⟨_,rfl,rfl⟩:=h;rfl
        · cases h
    · rw [if_neg hn]
      split at h
      · rename_i U xs hr
        simp only [hr,hi,Row.cells]
        split at h
        · rename_i hl
          injection h with h;injection h with h1 h2
          subst h1;subst h2
          rw [if_pos (by simpa using hl)]
          simp [List.map_drop,List.map_take]
        · cases h
      · rename_i U xs hr
        simp only [hr,hi,Row.cells]
        split at h
        · rename_i hl
          injection h with h;injection h with h1 h2
          subst h1;subst h2
          rw [if_pos (by simpa using hl)]
          simp [List.map_drop,List.map_take]
        · cases h
      · rename_i U ds hr
        split at h
        · rename_i xs hf
          have he:=fs_eq hf
          subst he
          simp only [hr,hi,Row.cells]
          split at h
          · rename_i hl
            injection h with h;injection h with h1 h2
            subst h1;subst h2
            rw [if_pos (by simpa using hl)]
            simp [List.map_drop,List.map_take]
          · cases h
        · cases h
      · cases h
  · cases h
theorem appS_eq {t E : TypeId} {sz b : Nat} {z : List Value} {s x : D} {K : D → List Row → Prop} (ht : P.underlying t = some (.slice E)) (hi : inf P E = some (sz,b,z)) (hsz : 0 < sz) (hz : z.length = sz) (h : appS H E sz b s x K) : ∃ e,appendD P H t s x = some e ∧ K e.res (e.heap H):=by
  obtain ⟨⟨m,ys⟩,he,h⟩:=bind'_ex h
  dsimp only at h
  have he':=elemsS_eq hi he
  have hp0 : ∀ s : D,(⟨s,[],[]⟩ : Eff).heap H = H:=fun s=>by simp [Eff.heap,applyUpd]
  have plain : (s = .f (.v (.slice none 0 0)) ∨ s = .f .e ∨ (∃ xs n,s = .f (.s xs n)) ∨ ∃ r o n,s = .sl r o n) → m = 0 → K s H → ∃ e,appendD P H t s x = some e ∧ K e.res (e.heap H):=by
    intro hs hm hk
    refine ⟨⟨s,[],[]⟩,?_,by rw [hp0];exact hk⟩
    unfold appendD
    simp only [ht,hi,he',if_pos hm]
    rcases hs with rfl|rfl|⟨xs,n,rfl⟩|⟨r,o,n,rfl⟩<;>rfl
  have hg : ∀ r : Row,(⟨.sl H.length 0 m,[],[r]⟩ : Eff).heap H = H ++ [r]:=fun r=>by simp [Eff.heap,applyUpd]
  split at h
  · by_cases hm : m = 0
    · exact plain (.inl rfl) hm (h.1 hm)
    · obtain ⟨h1,h2,h3,h4⟩:=h.2 hm
      refine ⟨⟨.sl H.length 0 m,[],[.data E ys]⟩,?_,by rw [hg];exact h4⟩
      unfold appendD
      simp only [ht,hi,he',if_neg hm,fs_map]
      rw [if_pos ⟨h1,hsz⟩,if_pos ⟨h2,h3,hz⟩]
  · by_cases hm : m = 0
    · exact plain (.inr (.inl rfl)) hm (h.1 hm)
    · obtain ⟨h1,h2,h3,h4⟩:=h.2 hm
      refine ⟨⟨.sl H.length 0 m,[],[.data E ys]⟩,?_,by rw [hg];exact h4⟩
      unfold appendD
      simp only [ht,hi,he',if_neg hm,fs_map]
      rw [if_pos ⟨h1,hsz⟩,if_pos ⟨h2,h3,hz⟩]
  · rename_i r off n _
    by_cases hm : m = 0
    · exact plain (.inr (.inr (.inr ⟨_,_,_,rfl⟩))) hm (h.1 hm)
    · have h:=h.2 hm
      split at h
      · rename_i U xs hr
        obtain ⟨h1,h2,h3,h4,h5,h6⟩:=h
        refine ⟨⟨.sl H.length 0 (n + m),[(r,.dead)],[.data E (xs.drop off ++ ys)]⟩,?_,by simpa [Eff.heap,applyUpd] using h6⟩
        unfold appendD
        simp only [ht,hi,he',if_neg hm,fs_map,hr]
        rw [if_pos ⟨h2,hsz⟩,if_pos ⟨h1,h3,h4,h5,hz⟩]
      · exact h.elim
  · exact plain (.inr (.inr (.inl ⟨_,_,rfl⟩))) h.1 h.2
  · exact h.elim
theorem fill_parts {fs : Array Go.Field} {ts : List D} : ∀ {l : List (Nat × Operand)} {ys : List (Nat × Nat × SV)} {cells ds : List D},sParts P fs l = some ys → fillS cells (ys.map fun p=>(p.1,p.2.1,p.2.2.ev ts)) = some ds →
    fillD (fun i=>match fs[i]? with|some f=>(P.info? f.type).map fun q=>(f.offset,q.size)|none=>none) cells (l.map fun p=>(p.1,eval ts p.2)) = some ds
  | [],ys,cells,ds,h,hf=>by simp [sParts] at h;subst h;simpa [fillS,fillD] using hf
  | (i,x) :: l,ys,cells,ds,h,hf=>by
    simp only [sParts] at h
    split at h
    · rename_i f y ys' hfi hx hl
      split at h
      · rename_i q hq
        injection h with h
        subst h
        simp only [List.map_cons,fillS] at hf
        simp only [List.map_cons,fillD,hfi,hq,Option.map_some]
        split at hf
        · rename_i hc
          rw [sv_ok hx] at hc hf
          rw [if_pos hc]
          rw [putL_splice _ _ _ (by rw [hc.2.1];exact hc.2.2)] at hf
          exact fill_parts hl hf
        · cases hf
      · cases h
    · cases h
theorem fill_elems {sz : Nat} {ts : List D} : ∀ {l : List (Nat × Operand)} {ys : List (Nat × SV)} {cells ds : List D},sElems sz l = some ys → fillS cells (ys.map fun p=>(p.1,sz,p.2.ev ts)) = some ds →
    fillD (fun i=>some (i * sz,sz)) cells (l.map fun p=>(p.1,eval ts p.2)) = some ds
  | [],ys,cells,ds,h,hf=>by simp [sElems] at h;subst h;simpa [fillS,fillD] using hf
  | (i,x) :: l,ys,cells,ds,h,hf=>by
    simp only [sElems] at h
    split at h
    · rename_i y ys' hx hl
      injection h with h
      subst h
      simp only [List.map_cons,fillS] at hf
      simp only [List.map_cons,fillD]
      split at hf
      · rename_i hc
        rw [sv_ok hx] at hc hf
        rw [if_pos hc]
        rw [putL_splice _ _ _ (by rw [hc.2.1];exact hc.2.2)] at hf
        exact fill_elems hl hf
      · cases hf
    · cases h
theorem slcE_ok {T E : TypeId} {sz b : Nat} {z : List Value} (h : slcE P T = some (E,sz,b,z)) : P.underlying T = some (.slice E) ∧ inf P E = some (sz,b,z) ∧ 0 < sz:=by
  unfold slcE at h
  split at h
  · rename_i E' hu
    split at h
    · rename_i sz' b' z' hi
      split at h
      · rename_i h0
        injection h with h;injection h with h1 h;injection h with h2 h;injection h with h3 h4
        subst h1;subst h2;subst h3;subst h4
        exact ⟨hu,hi,h0⟩
      · cases h
    · cases h
  · cases h
theorem intOf_ok {d : D} {n : Int} (h : intOf? d = some n) : d = .f (.v (.int .i64 n)):=by
  unfold intOf? at h
  split at h
  · injection h with h;subst h;rfl
  · cases h
theorem strOf_ok {d : D} {s : ByteArray} (h : strOf? d = some s) : d = .f (.v (.string s)):=by
  unfold strOf? at h
  split at h
  · injection h with h;subst h;rfl
  · cases h
theorem R.v_inv {A : Nat → Prop} {N : Nat} {x u : Value} (h : R P w φ A N (.f (.v x)) u) : u = x:=by
  cases h with|f h=>cases h with|v _=>rfl
theorem str_same (a b : ByteArray) : (a.toList == b.toList) = decide (a = b):=by
  rw [Bool.eq_iff_iff]
  simp [ByteArray.toList_eq]
  constructor
  · intro h
    obtain ⟨a⟩:=a
    obtain ⟨b⟩:=b
    simp at h
    subst h;rfl
  · rintro rfl;rfl
theorem two_ok {c p q : Prop} (h : Two c p q) : (c ∧ p) ∨ (¬ c ∧ q):=by
  by_cases hc : c
  · exact .inl ⟨hc,h.1 hc⟩
  · exact .inr ⟨hc,h.2 hc⟩
section
variable {A : Nat → Prop} {N : Nat}
theorem eqV_run {k : Nat} {T : TypeId} {x y : D} {u v : Value} {b : Bool} (hk : kindF P T = some k) (h : eqV k x y = some b) (hx : R P w φ A N x u) (hy : R P w φ A N y v) (d : Nat) :
    (Op.equalIn (d + 1) T u v).run P w = .ok b w:=by
  unfold kindF at hk
  split at hk
  all_goals first|cases hk|skip
  all_goals
    rename_i hu
    unfold eqV at h
    split at h<;>first|cases h|skip
    all_goals first|(exfalso;omega)|skip
    rw [hx.v_inv,hy.v_inv]
  · split at h
    · rename_i e;subst e;cases h;exact run_equalIn_int w d T _ _ _ _ hu
    · cases h
  · exact run_equalIn_string w d T _ _ hu
  · exact run_equalIn_bool' w d T _ _ hu
theorem eqL_run {xs ys : Array Value} (d : Nat) : ∀ {fs : List Field} {i : Nat} {ks : List Nat} {dx dy : List D} {b : Bool},eqKs P fs i = some ks → eqL ks dx dy = some b →
    (∀ (j : Nat) (e : D),dx[j]? = some e → ∃ u,xs[i + j]? = some u ∧ R P w φ A N e u) → (∀ (j : Nat) (e : D),dy[j]? = some e → ∃ u,ys[i + j]? = some u ∧ R P w φ A N e u) →
    (Op.eqFields (d + 1) xs ys fs).run P w = .ok b w
  | [],i,ks,dx,dy,b,hk,hb,hx,hy=>by
    cases hk
    cases dx<;>cases dy<;>first|(cases hb;simp [Op.eqFields])|cases hb
  | f :: fs,i,ks,dx,dy,b,hk,hb,hx,hy=>by
    unfold eqKs at hk
    split at hk
    case isFalse=>cases hk
    rename_i hf
    split at hk
    case h_2=>cases hk
    rename_i k ks' h1 h2
    cases hk
    cases dx with
    | nil=>cases hb
    | cons x dx =>
      cases dy with
      | nil=>cases hb
      | cons y dy =>
        unfold eqL at hb
        split at hb
        case h_2=>cases hb
        rename_i a b' h3 h4
        cases hb
        obtain ⟨u,g1,g2⟩:=hx 0 x rfl
        obtain ⟨v,g3,g4⟩:=hy 0 y rfl
        have ih:=eqL_run d h2 h4 (fun j e he=>by have:=hx (j + 1) e (by simpa using he);rwa [show i + (j + 1) = i + 1 + j by omega] at this) (fun j e he=>by have:=hy (j + 1) e (by simpa using he);rwa [show i + (j + 1) = i + 1 + j by omega] at this)
        have hg:=eqV_run h1 h3 g2 g4 d
        have hpart : ∀ (cs : Array Value) (q : Value),cs[i]? = some q → (part f.type cs f.offset).run P w = .ok q w:=by
          intro cs q hq
          unfold kindF at h1
          rw [hf.2]
          split at h1
          all_goals first|cases h1|skip
          all_goals
            rename_i hu
            simp [part,isAgg,run_underlying hu,hq]
        rw [Op.eqFields,if_pos hf.1]
        simp only [Sem.run_bind,hpart xs u (by simpa using g1),hpart ys v (by simpa using g3),Result.andThen_ok,hg,Sem.run_ite]
        cases a
        · simp
        · simpa using ih
theorem aeq_run {T : TypeId} {fs : Array Field} {ks : List Nat} {dx dy : List D} {u v : Value} {b : Bool} (hT : P.underlying T = some (.struct fs)) (hk : eqKs P fs.toList 0 = some ks) (hs : P.stoodInHeld T = false) (hb : eqL ks dx dy = some b)
    (hx : R P w φ A N (.ag dx) u) (hy : R P w φ A N (.ag dy) v) : (Go.binOp .eql T u v).run P w = .ok (.bool b) w ∧ (Go.binOp .neq T u v).run P w = .ok (.bool !b) w ∧ ∃ xs ys,u = .agg xs ∧ v = .agg ys:=by
  cases hx with
  | ag s1 r1 o1 =>
    cases hy with
    | ag s2 r2 o2 =>
      rename_i xs ys
      have hF : P.fieldsOf T = fs:=by unfold Program.fieldsOf;rw [hT]
      have he : (Op.equalIn (9999 + 1) T (.agg xs) (.agg ys)).run P w = .ok b w:=by
        rw [run_equalIn_agg (P:=P) w 9999 T xs ys (by rw [hF];exact hT) hs,hF]
        refine eqL_run (φ:=φ) (A:=A) (N:=N) 9998 hk hb (fun j e he=>?_) (fun j e he=>?_)
        · have hj : j < xs.size:=by rw [s1];exact (List.getElem?_eq_some_iff.1 he).1
          exact ⟨xs[j],by simp [hj],r1 j e _ he (by simp [hj])⟩
        · have hj : j < ys.size:=by rw [s2];exact (List.getElem?_eq_some_iff.1 he).1
          exact ⟨ys[j],by simp [hj],r2 j e _ he (by simp [hj])⟩
      refine ⟨?_,?_,xs,ys,rfl,rfl⟩
      · rw [run_eql_struct,he];rfl
      · rw [run_neq_struct,he];rfl
end
theorem run_exec_bin {ρ : Operand → Value} {o : Oper} {op : BinOp} {T U : TypeId} {x y : Operand} (ho : o.op = .binOp op T x y U) {v : Value} (hg : (eqGuard op T x y (ρ x) (ρ y)).run P w = .ok () w) (hb : (Go.binOp op T (ρ x) (ρ y)).run P w = .ok v w) :
    (execOp ρ o).run P w = .ok (.value v) w:=by
  unfold execOp
  simp only [ho,Sem.run_bind,hg,Result.andThen_ok,hb,Sem.run_pure]
theorem int_run {op : BinOp} {T : TypeId} {k : IntKind} {a b : Int} {K : D → Prop} (h : intS op k a b K) : ∃ v : Value,(Go.binOp op T (.int k a) (.int k b)).run P w = .ok v w ∧ v.oneCell' = true ∧ K (.f (.v v)):=by
  cases op<;>simp only [intS] at h
  case add=>exact ⟨.int k (k.wrap (a + b)),by simp [Go.binOp,Op.intArith],rfl,h⟩
  case sub=>exact ⟨.int k (k.wrap (a - b)),by simp [Go.binOp,Op.intArith],rfl,h⟩
  case mul=>exact ⟨.int k (k.wrap (a * b)),by simp [Go.binOp,Op.intArith],rfl,h⟩
  case quo=>exact ⟨.int k (k.wrap (a.tdiv b)),by simp [Go.binOp,Op.intDiv,h.1],rfl,h.2⟩
  case rem=>exact ⟨.int k (a.tmod b),by simp [Go.binOp,Op.intDiv,h.1],rfl,h.2⟩
  case eql =>
    rcases two_ok h with ⟨h1,h2⟩|⟨h1,h2⟩
    · exact ⟨.bool true,by simp [Go.binOp,Op.intCmp,h1],rfl,h2⟩
    · exact ⟨.bool false,by simp [Go.binOp,Op.intCmp,h1],rfl,h2⟩
  case neq =>
    rcases two_ok h with ⟨h1,h2⟩|⟨h1,h2⟩
    · exact ⟨.bool false,by simp [Go.binOp,Op.intCmp,h1],rfl,h2⟩
    · exact ⟨.bool true,by simp [Go.binOp,Op.intCmp,h1],rfl,h2⟩
  case lss =>
    rcases two_ok h with ⟨h1,h2⟩|⟨h1,h2⟩
    · exact ⟨.bool true,by simp [Go.binOp,Op.intCmp,h1],rfl,h2⟩
    · exact ⟨.bool false,by simp [Go.binOp,Op.intCmp,Int.not_lt.1 h1],rfl,h2⟩
  case leq =>
    rcases two_ok h with ⟨h1,h2⟩|⟨h1,h2⟩
    · exact ⟨.bool true,by simp [Go.binOp,Op.intCmp,h1],rfl,h2⟩
    · exact ⟨.bool false,by simp [Go.binOp,Op.intCmp,Int.not_le.1 h1],rfl,h2⟩
  case gtr =>
    rcases two_ok h with ⟨h1,h2⟩|⟨h1,h2⟩
    · exact ⟨.bool true,by simp [Go.binOp,Op.intCmp,h1],rfl,h2⟩
    · exact ⟨.bool false,by simp [Go.binOp,Op.intCmp,Int.not_lt.1 h1],rfl,h2⟩
  case geq =>
    rcases two_ok h with ⟨h1,h2⟩|⟨h1,h2⟩
    · exact ⟨.bool true,by simp [Go.binOp,Op.intCmp,h1],rfl,h2⟩
    · exact ⟨.bool false,by simp [Go.binOp,Op.intCmp,Int.not_le.1 h1],rfl,h2⟩
theorem less_eq (a b : List UInt8) : (Op.bytesLess a b || a == b) = !Op.bytesLess b a:=by
  induction a generalizing b with
  | nil=>cases b<;>simp [Op.bytesLess]
  | cons x a ih =>
    cases b with
    | nil=>simp [Op.bytesLess]
    | cons y b =>
      have ih:=ih b
      simp only [Op.bytesLess]
      by_cases h1 : x < y
      · have h2 : ¬ y < x:=UInt8.lt_asymm h1
        have h3 : ¬ y = x:=fun h=>by subst h;exact h2 h1
        simp [h1,h2,h3]
      · by_cases h2 : y < x
        · have h3 : ¬ x = y:=fun h=>by subst h;exact h1 h2
          simp [h1,h2,h3]
        · have h3 : x = y:=UInt8.le_antisymm (UInt8.not_lt.1 h2) (UInt8.not_lt.1 h1)
          subst h3
          simp only [h1,decide_false,Bool.false_or,beq_self_eq_true,Bool.true_and,← ih]
          congr 1
          simp
theorem str_run {op : BinOp} {T : TypeId} {a b : ByteArray} {K : D → Prop} (h : strS op a b K) : ∃ v : Value,(Go.binOp op T (.string a) (.string b)).run P w = .ok v w ∧ v.oneCell' = true ∧ K (.f (.v v)):=by
  have hle:=less_eq a.toList b.toList
  have e1 : ∀ op,(Go.binOp op T (.string a) (.string b)) = Op.stringOp op a b:=fun op=>by cases op<;>rfl
  rw [e1]
  cases op<;>simp only [strS] at h
  case add =>
    refine ⟨.string (a ++ b),?_,rfl,h.2⟩
    have h1 : ¬ ((a.size + b.size : Nat) : Int) > IntKind.i64.max:=by
      have : IntKind.i64.max = 9223372036854775807:=rfl
      have:=h.1
      omega
    simp only [Op.stringOp,if_neg h1]
    rfl
  case eql =>
    rcases two_ok h with ⟨h1,h2⟩|⟨h1,h2⟩
    · exact ⟨.bool true,by simp [Op.stringOp,h1],rfl,h2⟩
    · exact ⟨.bool false,by simp [Op.stringOp,str_same,h1],rfl,h2⟩
  case neq =>
    rcases two_ok h with ⟨h1,h2⟩|⟨h1,h2⟩
    · exact ⟨.bool false,by simp [Op.stringOp,h1],rfl,h2⟩
    · exact ⟨.bool true,by simp [Op.stringOp,str_same,h1],rfl,h2⟩
  case lss =>
    rcases two_ok h with ⟨h1,h2⟩|⟨h1,h2⟩
    · exact ⟨.bool true,by simp [Op.stringOp,h1],rfl,h2⟩
    · exact ⟨.bool false,by simp [Op.stringOp,h1],rfl,h2⟩
  case geq =>
    rcases two_ok h with ⟨h1,h2⟩|⟨h1,h2⟩
    · exact ⟨.bool false,by simp [Op.stringOp,h1],rfl,h2⟩
    · exact ⟨.bool true,by simp [Op.stringOp,h1],rfl,h2⟩
  case gtr =>
    rcases two_ok h with ⟨h1,h2⟩|⟨h1,h2⟩
    · exact ⟨.bool true,by simp only [Op.stringOp,hle,h1];rfl,rfl,h2⟩
    · exact ⟨.bool false,by simp only [Op.stringOp,hle,Bool.eq_false_iff.2 h1];rfl,rfl,h2⟩
  case leq =>
    rcases two_ok h with ⟨h1,h2⟩|⟨h1,h2⟩
    · exact ⟨.bool false,by simp only [Op.stringOp,hle,h1];rfl,rfl,h2⟩
    · exact ⟨.bool true,by simp only [Op.stringOp,hle,Bool.eq_false_iff.2 h1];rfl,rfl,h2⟩
theorem bool_run {op : BinOp} {T : TypeId} {a b : Bool} {K : D → Prop} (hT : P.underlying T = some .bool) (h : boolS op a b K) : ∃ v : Value,(Go.binOp op T (.bool a) (.bool b)).run P w = .ok v w ∧ v.oneCell' = true ∧ K (.f (.v v)):=by
  have he : (Op.equal T (.bool a) (.bool b)).run P w = .ok (a == b) w:=by
    have : ∀ n,(Op.equalIn (n + 1) T (.bool a) (.bool b)).run P w = .ok (a == b) w:=fun n=>by
      simp only [Op.equalIn,Sem.run_bind,run_underlying hT,Result.andThen_ok,Sem.run_pure]
    exact this 9999
  cases op<;>simp only [boolS] at h
  case eql=>exact ⟨.bool (a == b),by simp [Go.binOp,he],rfl,h⟩
  case neq=>exact ⟨.bool (!(a == b)),by simp [Go.binOp,he],rfl,h⟩
theorem heap0 (d : D) : (⟨d,[],[]⟩ : Eff).heap H = H:=by simp [Eff.heap,applyUpd]
theorem heap1 (d : D) (r : Row) : (⟨d,[],[r]⟩ : Eff).heap H = H ++ [r]:=by simp [Eff.heap,applyUpd]
theorem ba_get (t : ByteArray) (k : Nat) : t[k]? = t.data.toList[k]?:=by
  by_cases hk : k < t.size
  · rw [getElem?_pos t k hk,List.getElem?_eq_getElem (by simpa using hk)];rfl
  · rw [getElem?_neg t k hk,List.getElem?_eq_none (by simpa using hk)]
def lowS (lo : Option D) : Option Nat:=match lo with|none=>some 0|some d=>nat? d
def highS (n : Nat) (hi : Option D) : Option Nat:=match hi with|none=>some n|some d=>nat? d
theorem sliceD_eq {T E : TypeId} {sz b : Nat} {z : List Value} {x : D} {lo hi : Option D} {n l u : Nat} (hu : P.underlying T = some (.slice E)) (hinf : inf P E = some (sz,b,z)) (hn : slcS x = some n) (elo : lowS lo = some l) (ehi : highS n hi = some u) (hlu : l ≤ u ∧ u ≤ n) :
    sliceD P H T x lo hi none = subS H sz E x l u:=by
  unfold sliceD
  simp only [hu,hinf]
  unfold slcS at hn
  unfold lowS at elo
  unfold highS at ehi
  split at hn<;>first|cases hn|skip
  all_goals
    cases lo<;>cases hi<;>simp only at elo ehi ⊢
    all_goals (try (injection elo with elo;subst elo))
    all_goals (try (injection ehi with ehi;subst ehi))
    all_goals (try simp only [elo])
    all_goals (try simp only [ehi])
    all_goals (rw [if_pos hlu];rfl)
theorem sliceD_mx {T E : TypeId} {sz b : Nat} {z : List Value} {x y : D} {lo hi : Option D} {n l : Nat} (hu : P.underlying T = some (.slice E)) (hinf : inf P E = some (sz,b,z)) (hn : slcS x = some n) (elo : lowS lo = some l) (ehi : highS n hi = some l) (hlu : l ≤ n) (hy : nat? y = some l) (hs : hi.isSome = true) :
    sliceD P H T x lo hi (some y) = some (mxS x):=by
  unfold sliceD
  simp only [hu,hinf]
  unfold slcS at hn
  unfold lowS at elo
  unfold highS at ehi
  split at hn<;>first|cases hn|skip
  all_goals
    cases lo<;>cases hi<;>simp only at elo ehi ⊢
    all_goals (try (cases hs;done))
    all_goals (try (injection elo with elo;subst elo))
    all_goals (try simp only [elo])
    all_goals (try simp only [ehi])
    all_goals (rw [if_pos ⟨Nat.le_refl _,hlu⟩];simp only [hy];rw [if_pos (by simp)];rfl)
theorem nilq_ok {A : Nat → Prop} {N : Nat} {T : TypeId} {k : Nat} {x y : D} {u v : Value} {K : Bool → Prop} (hk : kindOf P T = some k) (hx : R P w φ A N x u) (hy : R P w φ A N y v) (h : nilqS k x y K) :
    ∃ b,(Op.equal T u v).run P w = .ok b w ∧ (∀ op xo yo,(eqGuard op T xo yo u v).run P w = .ok () w) ∧ Go.binOp .eql T u v = (do pure (.bool (← Op.equal T u v))) ∧ Go.binOp .neq T u v = (do pure (.bool (!(← Op.equal T u v)))) ∧ K b:=by
  unfold nilqS at h
  split at h
  · rename_i xs n
    obtain ⟨rfl,h0,h1⟩:=h
    have hv : v = .slice none 0 0:=hy.v_inv
    subst hv
    obtain ⟨E,hu⟩ : ∃ E,P.underlying T = some (.slice E):=by
      unfold kindOf at hk
      split at hk<;>first|cases hk|skip
      exact ⟨_,by assumption⟩
    have eq : ∀ (a : Option Addr) (m c : Nat),(Op.equal T (.slice a m c) (.slice none 0 0)).run P w = .ok a.isNone w:=by
      intro a m c
      have : ∀ n,(Op.equalIn (n + 1) T (.slice a m c) (.slice none 0 0)).run P w = .ok a.isNone w:=fun n=>by
        cases a<;>simp [Op.equalIn,run_underlying hu]
      exact this 9999
    cases hx with
    | f hx =>
      cases hx with
      | s cs hn hl hc hr=>exact ⟨false,eq _ _ _,fun op xo yo=>by unfold eqGuard;split<;>rfl,rfl,rfl,h1⟩
      | s0=>exact ⟨true,eq _ _ _,fun op xo yo=>by unfold eqGuard;split<;>rfl,rfl,rfl,h0 rfl⟩
  · rename_i n
    obtain ⟨rfl,h0,h1⟩:=h
    have hv : v = .slice none 0 0:=hy.v_inv
    subst hv
    obtain ⟨E,hu⟩ : ∃ E,P.underlying T = some (.slice E):=by
      unfold kindOf at hk
      split at hk<;>first|cases hk|skip
      exact ⟨_,by assumption⟩
    have eq : ∀ (a : Option Addr) (m c : Nat),(Op.equal T (.slice a m c) (.slice none 0 0)).run P w = .ok a.isNone w:=by
      intro a m c
      have : ∀ n,(Op.equalIn (n + 1) T (.slice a m c) (.slice none 0 0)).run P w = .ok a.isNone w:=fun n=>by
        cases a<;>simp [Op.equalIn,run_underlying hu]
      exact this 9999
    cases hx with
    | sl p a b c d e=>exact ⟨false,eq _ _ _,fun op xo yo=>by unfold eqGuard;split<;>rfl,rfl,rfl,h1⟩
    | @sl0 _ _ a _ =>
      cases a with
      | none=>exact ⟨true,eq _ _ _,fun op xo yo=>by unfold eqGuard;split<;>rfl,rfl,rfl,h0 rfl⟩
      | some a=>exact ⟨false,eq _ _ _,fun op xo yo=>by unfold eqGuard;split<;>rfl,rfl,rfl,h1⟩
  · obtain ⟨b,h1,h2⟩:=bind'_ex h
    have : eqNil P T x y = some b:=by
      unfold nilS at h1
      unfold eqNil
      split at h1
      · rename_i i c j d h1' h2'
        simp only [hk,h1',h2']
        exact h1
      · cases h1
    obtain ⟨g1,g2,g3,g4⟩:=equal_nil (w:=w) hx hy this
    exact ⟨b,g1,g2,g3,g4,h2⟩
set_option maxHeartbeats 2000000 in
theorem stepS_ok (hP : Good P) (h : HR P w φ X H) {ts : List D} {a : Act} (hts : Rs P w φ (Av X φ H) H.length ts a.tmps.toList) {o : Oper} {so : SOp} {K : D → List Row → Prop} (hr : resOp? P o = some so) (hs : stepS P ts H so K) :
    OpOk P o a w fun v w'=>∃ d H',K d H' ∧ LeavesW P w φ X H v w' d H':=by
  have hev:=fun x=>R.eval hts x
  have via : ∀ e : Eff,stepD P noCalling ts H o = some e → K e.res (e.heap H) → OpOk P o a w fun v w'=>∃ d H',K d H' ∧ LeavesW P w φ X H v w' d H':=by
    intro e he hk K' Q hK
    exact step_ok hP (noCalling_ok P) h hts he K' Q (fun v w' hl=>hK v w' ⟨_,_,hk,LeavesW.of hl⟩)
  have quiet : ∀ (d : D) (v : Value),(execOp a.eval o).run P w = .ok (.value v) w → R P w φ (Av X φ H) H.length d v → K d H → OpOk P o a w fun v w'=>∃ d H',K d H' ∧ LeavesW P w φ X H v w' d H':=by
    intro d v hx hd hk
    refine OpOk.value hx ⟨d,H,hk,?_⟩
    have:=LeavesW.of (Leaves.quiet h hd)
    rwa [heap0] at this
  have val : ∀ (d : D) (s : Sem Value),(execOp a.eval o = do pure (.value (← s))) → (∃ v,s.run P w = .ok v w ∧ R P w φ (Av X φ H) H.length d v) → K d H → OpOk P o a w fun v w'=>∃ d H',K d H' ∧ LeavesW P w φ X H v w' d H':=by
    rintro d s hs ⟨v,h1,h2⟩ hk
    exact quiet d v (by rw [hs];simp [h1]) h2 hk
  have yields : ∀ (e : Eff) (s : Sem Value),(execOp a.eval o = do pure (.value (← s))) → (∃ v w',s.run P w = .ok v w' ∧ Leaves P w φ X H e v w') → K e.res (e.heap H) → OpOk P o a w fun v w'=>∃ d H',K d H' ∧ LeavesW P w φ X H v w' d H':=by
    rintro e s hs ⟨v,w',h1,h2⟩ hk
    exact OpOk.value (v:=v) (w':=w') (by rw [hs];simp [h1]) ⟨_,_,hk,LeavesW.of h2⟩
  obtain ⟨dst,op,ty,pos,after,guard⟩:=o
  unfold resOp? at hr
  cases op<;>dsimp only at hr
  case move x =>
    rw [Option.map_eq_some_iff] at hr
    obtain ⟨y,hy,rfl⟩:=hr
    refine via ⟨eval ts x,[],[]⟩ rfl ?_
    rw [heap0,← sv_ok hy];exact hs
  case assign x =>
    rw [Option.map_eq_some_iff] at hr
    obtain ⟨y,hy,rfl⟩:=hr
    refine via ⟨eval ts x,[],[]⟩ rfl ?_
    rw [heap0,← sv_ok hy];exact hs
  case pick c x y =>
    split at hr
    · rename_i c' x' y' hc hx hy
      injection hr with hr
      subst hr
      simp only [stepS,pickS,sv_ok hc,sv_ok hx,sv_ok hy] at hs
      split at hs
      · rename_i t ht
        refine via ⟨if t then eval ts x else eval ts y,[],[]⟩ (by unfold stepD;simp only [ht]) ?_
        rw [heap0]
        cases t
        · exact hs.2 rfl
        · exact hs.1 rfl
      · exact hs.elim
    · cases hr
  case alloc T =>
    split at hr
    · rename_i n b z hi
      injection hr with hr
      subst hr
      refine via ⟨.pt H.length 0,[],[.box T (z.map .v)]⟩ (by unfold stepD;simp only [hi]) ?_
      rw [heap1];exact hs
    · cases hr
  case box T x =>
    rw [Option.map_eq_some_iff] at hr
    obtain ⟨y,hy,rfl⟩:=hr
    obtain ⟨cs,h1,h2⟩:=bind'_ex hs
    rw [sv_ok hy] at h1
    unfold boxD at h1
    split at h1
    · rename_i hc
      injection h1 with h1
      subst h1
      refine via ⟨.pt H.length 0,[],[.box T (eval ts x).cells]⟩ (by unfold stepD;simp only [if_pos hc]) ?_
      rw [heap1];exact h2
    · cases h1
  case load T x =>
    split at hr
    · rename_i y hT hy
      injection hr with hr
      subst hr
      obtain ⟨d,h1,h2⟩:=bind'_ex hs
      rw [sv_ok hy] at h1
      refine via ⟨d,[],[]⟩ (by unfold stepD;simp only [load1_eq hT h1];rfl) ?_
      rw [heap0];exact h2
    · rename_i n b z y hT hi hy
      injection hr with hr
      subst hr
      obtain ⟨d,h1,h2⟩:=bind'_ex hs
      rw [sv_ok hy] at h1
      refine via ⟨d,[],[]⟩ (by unfold stepD;simp only [loadA_eq hT hi h1];rfl) ?_
      rw [heap0];exact h2
    · cases hr
  case store T x y =>
    split at hr
    · rename_i n b z x' y' hi hx hy
      injection hr with hr
      subst hr
      obtain ⟨H',h1,h2⟩:=bind'_ex hs
      rw [sv_ok hx,sv_ok hy] at h1
      obtain ⟨e,g1,g2,g3⟩:=storeS_eq hi h1
      refine via e (by unfold stepD;exact g1) ?_
      rw [g2,g3];exact h2
    · cases hr
  case lookup T m k ok =>
    split at hr
    · rename_i K E m' k' hu hm hk
      split at hr
      · rename_i z hz
        injection hr with hr
        subst hr
        obtain ⟨d,h1,h2⟩:=bind'_ex hs
        rw [sv_ok hm,sv_ok hk] at h1
        refine via ⟨d,[],[]⟩ (by unfold stepD;simp only [lookS_eq hu hz h1];rfl) ?_
        rw [heap0];exact h2
      · cases hr
    · cases hr
  case mapUpdate T m k x =>
    split at hr
    · rename_i K E m' k' x' hu hm hk hx
      injection hr with hr
      subst hr
      obtain ⟨H',h1,h2⟩:=bind'_ex hs
      rw [sv_ok hm,sv_ok hk,sv_ok hx] at h1
      obtain ⟨e,g1,g2,g3⟩:=mputS_eq hu h1
      refine via e (by unfold stepD;exact g1) ?_
      rw [g2,g3];exact h2
    · cases hr
  case insert T m k x =>
    split at hr
    · rename_i K E m' k' x' hu hm hk hx
      injection hr with hr
      subst hr
      obtain ⟨H',h1,h2⟩:=bind'_ex hs
      rw [sv_ok hm,sv_ok hk,sv_ok hx] at h1
      obtain ⟨e,g1,g2,g3⟩:=mputS_eq hu h1
      refine via e (by unfold stepD;exact g1) ?_
      rw [g2,g3];exact h2
    · cases hr
  case nilCheck x =>
    rw [Option.map_eq_some_iff] at hr
    obtain ⟨y,hy,rfl⟩:=hr
    obtain ⟨d,h1,h2⟩:=bind'_ex hs
    rw [sv_ok hy] at h1
    refine via ⟨d,[],[]⟩ ?_ (by rw [heap0];exact h2)
    unfold nilcD at h1
    unfold stepD
    dsimp only
    split at h1<;>first|cases h1|skip
    all_goals (rename_i hx;simp only [hx])
  case fieldAddr T x f =>
    split at hr
    · rename_i off U y hf hy
      split at hr
      · rename_i sz b z hi
        split at hr
        · cases hr
        · rename_i hsz
          injection hr with hr
          subst hr
          obtain ⟨d,h1,h2⟩:=bind'_ex hs
          rw [sv_ok hy] at h1
          refine via ⟨d,[],[]⟩ ?_ (by rw [heap0];exact h2)
          have : fieldAddrD P T (eval ts x) f = some d:=by
            unfold fieldAddrD
            simp only [hf,hi,if_neg hsz]
            unfold offD at h1
            split at h1<;>first|cases h1|skip
            all_goals (rename_i hx;simp only [hx])
          unfold stepD
          simp only [this];rfl
      · cases hr
    · cases hr
  case field T x f =>
    split at hr
    · rename_i off U y hf hy
      have key : ∀ d,fieldD P T (eval ts x) f = some d → K d H → OpOk P _ a w fun v w'=>∃ d H',K d H' ∧ LeavesW P w φ X H v w' d H':=fun d hd hk =>
        val d (Instr.field T (a.eval x) f) (by simp [execOp]) (field_ok (hev x) hd) hk
      split at hr
      · rename_i hT
        injection hr with hr
        subst hr
        obtain ⟨d,h1,h2⟩:=bind'_ex hs
        rw [sv_ok hy] at h1
        refine key d ?_ h2
        unfold fld1 at h1
        unfold fieldD
        split at h1
        · rename_i ds hx
          simp only [hf,hx,asVal,hT]
          exact h1
        · cases h1
      · rename_i n b z hT hi
        injection hr with hr
        subst hr
        obtain ⟨d,h1,h2⟩:=bind'_ex hs
        rw [sv_ok hy] at h1
        refine key d ?_ h2
        unfold fldA at h1
        unfold fieldD
        split at h1
        · rename_i ds hx
          simp only [hf,hx,asVal,hT,hi]
          exact h1
        · cases h1
      · cases hr
    · cases hr
  case indexAddr T x i =>
    split at hr
    · rename_i E x' i' hu hx hi
      split at hr
      · rename_i sz b z hinf
        split at hr
        · rename_i hsz
          injection hr with hr
          subst hr
          simp only [stepS,idxS,sv_ok hx,sv_ok hi] at hs
          split at hs
          · rename_i q n hq
            split at hs
            · rename_i r off m hx'
              obtain ⟨⟨g0,g1⟩,g2⟩:=hs
              refine via ⟨.pt r (off + n.toNat * sz),[],[]⟩ ?_ (by rw [heap0];exact g2)
              unfold stepD
              simp only [indexAddrD,hu,hq,nat?,if_pos g0,hinf,hx']
              rw [if_pos (by omega)];rfl
            · rename_i xs m hx'
              obtain ⟨⟨g0,g1⟩,g2⟩:=hs
              refine via ⟨.rf (xs.drop (n.toNat * sz)),[],[]⟩ ?_ (by rw [heap0];exact g2)
              unfold stepD
              simp only [indexAddrD,hu,hq,nat?,if_pos g0,hinf,hx']
              rw [if_pos ⟨by omega,hsz⟩];rfl
            · exact hs.elim
          · exact hs.elim
        · cases hr
      · cases hr
    · rename_i n E x' i' hu hx hi
      split at hr
      · rename_i sz b z hinf
        injection hr with hr
        subst hr
        simp only [stepS,arrS,sv_ok hx,sv_ok hi] at hs
        split at hs
        · rename_i q k hq
          split at hs
          · rename_i r off hx'
            obtain ⟨⟨g0,g1⟩,g2⟩:=hs
            refine via ⟨.pt r (off + k.toNat * sz),[],[]⟩ ?_ (by rw [heap0];exact g2)
            unfold stepD
            simp only [indexAddrD,hu,hq,nat?,if_pos g0,hinf,hx']
            rw [if_pos (by omega)];rfl
          · exact hs.elim
        · exact hs.elim
      · cases hr
    · cases hr
  case extract x i =>
    rw [Option.map_eq_some_iff] at hr
    obtain ⟨y,hy,rfl⟩:=hr
    obtain ⟨d,h1,h2⟩:=bind'_ex hs
    rw [sv_ok hy] at h1
    refine via ⟨d,[],[]⟩ ?_ (by rw [heap0];exact h2)
    unfold extD at h1
    unfold stepD
    dsimp only
    split at h1
    · rename_i ds hx
      simp only [hx,h1];rfl
    · cases h1
  case binOp op T x y U =>
    split at hr
    · rename_i x' y' hx hy
      have rx:=hev x
      have ry:=hev y
      have bin : stepS P ts H (.bin op x' y') K → OpOk P ⟨dst,.binOp op T x y U,ty,pos,after,guard⟩ a w fun v w'=>∃ d H',K d H' ∧ LeavesW P w φ X H v w' d H':=by
        intro hs
        simp only [stepS,binS,sv_ok hx,sv_ok hy] at hs
        split at hs
        · rename_i k n k' m ex ey
          obtain ⟨rfl,hs⟩:=hs
          rw [ex] at rx;rw [ey] at ry
          obtain ⟨v,h1,h2,h3⟩:=int_run (P:=P) (w:=w) (T:=T) hs
          refine quiet _ v (run_exec_bin (op:=op) rfl ?_ ?_) (.f (.v h2)) h3
          · rw [rx.v_inv,ry.v_inv,guard_ok];rfl
          · rw [rx.v_inv,ry.v_inv];exact h1
        · rename_i s t ex ey
          rw [ex] at rx;rw [ey] at ry
          obtain ⟨v,h1,h2,h3⟩:=str_run (P:=P) (w:=w) (T:=T) hs
          refine quiet _ v (run_exec_bin (op:=op) rfl ?_ ?_) (.f (.v h2)) h3
          · rw [rx.v_inv,ry.v_inv];unfold eqGuard;cases op<;>rfl
          · rw [rx.v_inv,ry.v_inv];exact h1
        · exact hs.elim
      split at hr
      · rename_i k hk
        cases op<;>dsimp only at hr<;>first|cases hr|skip
        · simp only [stepS,sv_ok hx,sv_ok hy] at hs
          obtain ⟨b,g1,g2,g3,_,h2⟩:=nilq_ok (P:=P) (w:=w) hk rx ry hs
          refine quiet (D.bool b) (.bool b) ?_ (one_v rfl) (by simpa using h2)
          simp [execOp,g2,g3,g1]
        · simp only [stepS,sv_ok hx,sv_ok hy] at hs
          obtain ⟨b,g1,g2,_,g3,h2⟩:=nilq_ok (P:=P) (w:=w) hk rx ry hs
          refine quiet (D.bool !b) (.bool !b) ?_ (one_v rfl) (by simpa using h2)
          simp [execOp,g2,g3,g1]
      · split at hr<;>first|cases hr|skip
        · exact bin hs
        · exact bin hs
        · rename_i hT
          simp only [stepS,binbS,sv_ok hx,sv_ok hy] at hs
          split at hs
          · rename_i s t ex ey
            rw [ex] at rx;rw [ey] at ry
            obtain ⟨v,h1,h2,h3⟩:=bool_run (P:=P) (w:=w) (T:=T) hT hs
            refine quiet _ v (run_exec_bin (op:=op) rfl ?_ ?_) (.f (.v h2)) h3
            · rw [rx.v_inv,ry.v_inv];unfold eqGuard;cases op<;>rfl
            · rw [rx.v_inv,ry.v_inv];exact h1
          · exact hs.elim
        · rename_i fs hT
          split at hr
          case isFalse=>cases hr
          rename_i hq
          split at hr<;>first|cases hr|skip
          all_goals
            rename_i ks hk
            simp only [stepS,aeqS,sv_ok hx,sv_ok hy] at hs
            split at hs
            case h_2=>exact hs.elim
            rename_i dx dy ex ey
            rw [ex] at rx;rw [ey] at ry
            obtain ⟨b,hb,hK⟩:=bind'_ex hs
            obtain ⟨h1,h2,xs,ys,e1,e2⟩:=aeq_run hT hk hq.1 hb rx ry
          · refine quiet (D.bool b) (.bool b) (run_exec_bin (op:=.eql) rfl ?_ h1) (one_v rfl) (by simpa using hK)
            rw [e1,e2];exact run_eqGuard_agg w .eql T x y xs ys hq.2
          · refine quiet (D.bool !b) (.bool !b) (run_exec_bin (op:=.neq) rfl ?_ h2) (one_v rfl) (by simpa using hK)
            rw [e1,e2];exact run_eqGuard_agg w .neq T x y xs ys hq.2
    · cases hr
  case unOp op T x =>
    cases op<;>dsimp only at hr<;>first|cases hr|skip
    rw [Option.map_eq_some_iff] at hr
    obtain ⟨y,hy,rfl⟩:=hr
    obtain ⟨d,h1,h2⟩:=bind'_ex hs
    rw [sv_ok hy] at h1
    have rx:=hev x
    unfold notS at h1
    split at h1
    · rename_i b hx
      injection h1 with h1
      subst h1
      rw [hx] at rx
      refine quiet _ (.bool !b) ?_ (one_v rfl) h2
      simp [execOp,rx.v_inv,Op.unary]
    · cases h1
  case makeFunc fn first caps =>
    cases fn with
    | func f =>
      dsimp only at hr
      split at hr
      · rename_i hf
        rw [Option.map_eq_some_iff] at hr
        obtain ⟨ys,hys,rfl⟩:=hr
        refine via ⟨.fn f (caps.toList.map (eval ts)),[],[]⟩ (by unfold stepD;simp only [if_pos hf]) ?_
        rw [heap0,← svs_ok hys];exact hs
      · cases hr
    | _=>cases hr
  case makeMap T r =>
    cases r<;>dsimp only at hr<;>first|cases hr|skip
    refine via ⟨.mp H.length,[],[.map []]⟩ rfl ?_
    rw [heap1];exact hs
  case makeSlice T l c =>
    split at hr
    · rename_i E sz b z l' c' hT hl hc
      injection hr with hr
      subst hr
      obtain ⟨hu,hi,hsz⟩:=slcE_ok hT
      obtain ⟨n,h1,hs⟩:=bind'_ex hs
      obtain ⟨m,h2,hs⟩:=bind'_ex hs
      rw [sv_ok hl] at h1
      rw [sv_ok hc] at h2
      obtain ⟨⟨g0,g1,g2,g3,g4⟩,hk⟩:=hs
      refine via ⟨.sl H.length 0 n.toNat,[],[.data E ((List.range (n.toNat * sz)).map fun j=>F.v (z.getD (j % sz) Go.undef))]⟩ ?_ ?_
      · unfold stepD
        simp only [makeSliceD,hu,intOf_ok h1,intOf_ok h2,hi]
        rw [if_pos ⟨g0,g1,g2,g3,g4,hsz⟩]
      · rw [heap1]
        have : ∀ j,(z.map F.v).getD j (.v Go.undef) = F.v (z.getD j Go.undef):=by
          intro j
          simp [List.getD_eq_getElem?_getD]
        simpa only [this] using hk
    · cases hr
  case build T ps =>
    split at hr
    · rename_i fs n b z hu hi
      split at hr
      · rename_i hall
        rw [Option.map_eq_some_iff] at hr
        obtain ⟨ys,hys,rfl⟩:=hr
        obtain ⟨ds,h1,h2⟩:=bind'_ex hs
        refine val (.ag ds) (Instr.build T (ps.map fun (i,x)=>(i,a.eval x))) (by simp [execOp]) (build_ok hts ?_) h2
        unfold buildD
        simp only [hu,hi,if_pos hall]
        exact congrArg (Option.map D.ag) (fill_parts hys h1)
      · cases hr
    · cases hr
  case buildSlice T n ps =>
    split at hr
    · rename_i E sz b z hT
      obtain ⟨hu,hi,hsz⟩:=slcE_ok hT
      split at hr
      · rename_i hn
        rw [Option.map_eq_some_iff] at hr
        obtain ⟨ys,hys,rfl⟩:=hr
        obtain ⟨ds,h1,hs⟩:=bind'_ex hs
        obtain ⟨⟨xs,us⟩,h2,hk⟩:=bind'_ex hs
        dsimp only at hk
        have hf:=fill_elems hys h1
        have hb : buildSliceD P H T n (ps.toList.map fun p=>(p.1,eval ts p.2)) = some ⟨.sl H.length 0 n,us,[.data E xs]⟩:=by
          unfold buildSliceD
          simp only [hu,hi]
          rcases hn with ⟨hn1,hn2⟩|⟨rfl,hn2⟩
          · rw [if_pos ⟨hsz,hn1,hn2⟩]
            simp only [hf,h2]
          · have hp : ps.toList = []:=by simpa using hn2
            rw [if_neg (by omega),if_pos ⟨hsz,rfl,by simp [hp]⟩]
            rw [hp] at hf
            simp [fillD] at hf
            subst hf
            simp [freezeAll] at h2
            obtain ⟨rfl,rfl⟩:=h2
            rfl
        refine yields ⟨.sl H.length 0 n,us,[.data E xs]⟩ (Instr.buildSlice T n (ps.map fun (i,x)=>(i,a.eval x))) (by simp [execOp]) (buildSlice_ok h hts hb) ?_
        simpa [Eff.heap] using hk
      · cases hr
    · cases hr
  case slice T x lo hi mx =>
    split at hr
    · rename_i E sz b z x' lo' hi' mx' hT hx hlo hhi hmx
      obtain ⟨hu,hinf,hsz⟩:=slcE_ok hT
      injection hr with hr
      subst hr
      obtain ⟨n,h1,hs⟩:=bind'_ex hs
      obtain ⟨l,h2,hs⟩:=bind'_ex hs
      obtain ⟨u,h3,hs⟩:=bind'_ex hs
      obtain ⟨⟨g1,g2,g3⟩,hs⟩:=hs
      rw [sv_ok hx] at h1
      have elo : lowS (lo.map (eval ts)) = some l.toNat:=by
        cases lo with
        | none=>simp [svo] at hlo;subst hlo;simp at h2;subst h2;rfl
        | some v =>
          simp only [svo,Option.map_eq_some_iff] at hlo
          obtain ⟨v',hv,rfl⟩:=hlo
          simp only [sv_ok hv] at h2
          simp only [lowS,Option.map_some,intOf_ok h2,nat?,if_pos g1]
      have ehi : highS n (hi.map (eval ts)) = some u.toNat:=by
        cases hi with
        | none=>simp [svo] at hhi;subst hhi;simp at h3;subst h3;simp [highS]
        | some v =>
          simp only [svo,Option.map_eq_some_iff] at hhi
          obtain ⟨v',hv,rfl⟩:=hhi
          simp only [sv_ok hv] at h3
          simp only [highS,Option.map_some,intOf_ok h3,nat?,if_pos (show 0 ≤ u by omega)]
      have opt : ∀ (q : Option Operand) (y : D),q.map (eval ts) = some y → ∃ v,q.map a.eval = some v ∧ R P w φ (Av X φ H) H.length y v:=by
        intro q y hq
        rw [Option.map_eq_some_iff] at hq
        obtain ⟨p,rfl,rfl⟩:=hq
        exact ⟨_,rfl,hev p⟩
      have non : ∀ (q : Option Operand),q.map (eval ts) = none → q.map a.eval = none:=by
        intro q hq
        cases q<;>simp at hq ⊢
      have key : ∀ d,sliceD P H T (eval ts x) (lo.map (eval ts)) (hi.map (eval ts)) (mx.map (eval ts)) = some d → K d H → OpOk P ⟨dst,.slice T x lo hi mx,ty,pos,after,guard⟩ a w fun v w'=>∃ d H',K d H' ∧ LeavesW P w φ X H v w' d H':=fun d hd hk =>
        val d (Instr.sliceAt T (a.eval x) (lo.map a.eval) (hi.map a.eval) (mx.map a.eval)) (by simp [execOp]) (slice_ok h (hev x) (opt lo) (non lo) (opt hi) (non hi) (opt mx) (non mx) hd) hk
      have hlu : l.toNat ≤ u.toNat ∧ u.toNat ≤ n:=by omega
      cases mx with
      | none =>
        simp only [svo,Option.some.injEq] at hmx
        subst hmx
        obtain ⟨d,k1,k2⟩:=bind'_ex hs
        rw [sv_ok hx] at k1
        refine key d ?_ k2
        rw [← k1];exact sliceD_eq hu hinf h1 elo ehi hlu
      | some v =>
        simp only [svo,Option.map_eq_some_iff] at hmx
        obtain ⟨v',hv,rfl⟩:=hmx
        dsimp only at hs
        rw [sv_ok hv,sv_ok hx] at hs
        obtain ⟨⟨k1,k2,k3⟩,hs⟩:=hs
        subst k2
        have k3' : (hi.map (eval ts)).isSome = true:=by
          cases hi with
          | none=>simp [svo] at hhi;subst hhi;simp at k3
          | some _=>rfl
        have k4 : nat? (eval ts v) = some l.toNat:=by simp only [intOf_ok k1,nat?,if_pos g1]
        have k5:=sliceD_mx (H:=H) hu hinf h1 elo ehi hlu.2 k4 k3'
        exact key _ k5 hs
    · rename_i x' lo' hi' _ hx hlo hhi hmx
      split at hr
      · rename_i hu
        injection hr with hr
        subst hr
        obtain ⟨d,h1,h2⟩:=bind'_ex hs
        rw [sv_ok hx,svo_ok hlo,svo_ok hhi] at h1
        have opt : ∀ (q : Option Operand) (y : D),q.map (eval ts) = some y → ∃ v,q.map a.eval = some v ∧ R P w φ (Av X φ H) H.length y v:=by
          intro q y hq
          rw [Option.map_eq_some_iff] at hq
          obtain ⟨p,rfl,rfl⟩:=hq
          exact ⟨_,rfl,hev p⟩
        have non : ∀ (q : Option Operand),q.map (eval ts) = none → q.map a.eval = none:=by
          intro q hq
          cases q<;>simp at hq ⊢
        have hmn : mx = none:=by
          cases mx with
          | none=>rfl
          | some v=>simp [svo] at hmx
        subst hmn
        exact val d (Instr.sliceAt T (a.eval x) (lo.map a.eval) (hi.map a.eval) ((none : Option Operand).map a.eval)) (by simp [execOp]) (slice_ok h (hev x) (opt lo) (non lo) (opt hi) (non hi) (opt none) (non none) (ssubS_eq hu h1)) h2
      · cases hr
    · cases hr
  case convert s d x =>
    split at hr
    · rename_i k1 k x' hs' hd hx
      injection hr with hr
      subst hr
      obtain ⟨y,h1,h2⟩:=bind'_ex hs
      rw [sv_ok hx] at h1
      have rx:=hev x
      unfold convS at h1
      split at h1
      · rename_i q m hm
        injection h1 with h1
        subst h1
        rw [hm] at rx
        refine quiet _ (.int k (k.wrap m)) ?_ (one_v rfl) h2
        have : (convert s d (.int q m)).run P w = .ok (.int k (k.wrap m)) w:=by
          simp [convert,run_underlying hs',run_underlying hd,Conv.intToInt]
        simp [execOp,rx.v_inv,this]
      · cases h1
    · rename_i E x' hs' hd hx
      split at hr
      · rename_i hE
        injection hr with hr
        subst hr
        obtain ⟨t,h1,h2,h3⟩:=bind'_ex hs
        rw [sv_ok hx] at h1
        have h1:=strOf_ok h1
        have hc : convertD P H s d (eval ts x) = some ⟨.f (.s (t.data.toList.map fun b=>.v (.int .u8 b.toNat)) t.size),[],[]⟩:=by
          unfold convertD
          simp only [hs',hd,hE,h1,if_pos h2]
        exact yields _ (convert s d (a.eval x)) (by simp [execOp]) (convert_ok h (hev x) hc) (by rw [heap0];exact h3)
      · cases hr
    · rename_i E x' hs' hd hx
      split at hr
      · rename_i b z hE hi
        injection hr with hr
        subst hr
        obtain ⟨⟨m,xs⟩,h1,hs⟩:=bind'_ex hs
        dsimp only at hs
        obtain ⟨l,h2,h3,h4⟩:=bind'_ex hs
        rw [sv_ok hx] at h1
        have h5:=elemsS_eq hi h1
        have hc : convertD P H s d (eval ts x) = some ⟨.v (.string ⟨l.toArray⟩),[],[]⟩:=by
          unfold convertD
          simp only [hs',hd,hE,hi,h5,h2]
          rw [if_pos (by simpa using h3)]
        exact yields _ (convert s d (a.eval x)) (by simp [execOp]) (convert_ok h (hev x) hc) (by rw [heap0];exact h4)
      · cases hr
    · cases hr
  case index T x i =>
    split at hr
    · rename_i x' i' hu hx hi
      injection hr with hr
      subst hr
      obtain ⟨t,h1,hs⟩:=bind'_ex hs
      obtain ⟨n,h2,hs⟩:=bind'_ex hs
      obtain ⟨b,h3,h4⟩:=bind'_ex hs
      rw [sv_ok hx] at h1
      rw [sv_ok hi] at h2
      have rx:=hev x
      have ri:=hev i
      rw [strOf_ok h1] at rx
      rw [intOf_ok h2] at ri
      refine quiet _ (.int .u8 b.toNat) ?_ (one_v rfl) h4
      have hb : (if 0 ≤ n then t[n.toNat]? else none) = some b:=by
        split at h3
        · rename_i h0
          rw [if_pos h0,ba_get,h3]
        · cases h3
      have : (Instr.index T (.string t) (.int .i64 n)).run P w = .ok (.int .u8 b.toNat) w:=by
        simp [Instr.index,asIntOf,run_underlying hu,hb]
      simp [execOp,rx.v_inv,ri.v_inv,this]
    · cases hr
  case call c =>
    obtain ⟨callee,args,argTypes⟩:=c
    have two : ∀ (p q : SV),svs args.toList = some [p,q] → ∃ x y,args = #[x,y] ∧ sv x = some p ∧ sv y = some q:=by
      intro p q hq
      obtain ⟨l⟩:=args
      match l,hq with
      | [x,y],hq =>
        simp only [svs] at hq
        split at hq
        · rename_i a1 a2 h1 h2
          injection hq with hq;injection hq with e1 e2
          subst e1;subst e2
          split at h2
          · rename_i b1 b2 h3 h4
            simp at h2 h4
            obtain ⟨rfl,rfl⟩:=h2
            exact ⟨x,y,rfl,h1,h3⟩
          · cases h2
        · cases hq
      | [],hq=>simp [svs] at hq
      | [x],hq=>simp only [svs] at hq;split at hq<;>simp at hq;rename_i h2;simp [svs] at h2;subst h2;simp at hq
      | x :: y :: z :: l,hq =>
        exfalso
        have : ∀ {l : List Operand} {ys : List SV},svs l = some ys → ys.length = l.length:=fun {l ys} h=>by
          have:=congrArg List.length (svs_ok (ts:=[]) h)
          simpa using this
        have:=this hq
        simp at this
    have one : ∀ (p : SV),svs args.toList = some [p] → ∃ x,args = #[x] ∧ sv x = some p:=by
      intro p hq
      have hl : args.toList.length = 1:=by
        have:=congrArg List.length (svs_ok (ts:=[]) hq)
        simp at this
        simp;omega
      obtain ⟨l⟩:=args
      match l,hl with
      | [x],_ =>
        simp only [svs] at hq
        cases hx : sv x with
        | none=>rw [hx] at hq;simp at hq
        | some y=>rw [hx] at hq;simp at hq;subst hq;exact ⟨x,rfl,hx⟩
    have bi : ∀ (b : Builtin) (v : Value) (w' : World) (d : D) (H' : List Row),callee = .builtin b → (∀ (ty : TypeId) (cs : Array Bool),(builtin b argTypes ty cs (args.map a.eval)).run P w = .ok (.value v) w') → LeavesW P w φ X H v w' d H' → K d H' → OpOk P ⟨dst,.call ⟨callee,args,argTypes⟩,ty,pos,after,guard⟩ a w fun v w'=>∃ d H',K d H' ∧ LeavesW P w φ X H v w' d H':=by
      rintro b v w' d H' rfl hr hl hk
      refine OpOk.value (v:=v) (w':=w') ?_ ⟨d,H',hk,hl⟩
      unfold execOp
      simp only [resolve,invoke,Sem.run_bind,Sem.run_pure,Result.andThen_ok]
      exact hr _ _
    have qu : ∀ (d : D) (v : Value),R P w φ (Av X φ H) H.length d v → LeavesW P w φ X H v w d H:=by
      intro d v hd
      have:=LeavesW.of (Leaves.quiet h hd)
      rwa [heap0] at this
    split at hr
    · rename_i m k t u hca hl hty
      simp only at hca hl hty
      split at hr
      · rename_i K E hu
        injection hr with hr
        subst hr
        obtain ⟨p,q,rfl,hp,hq⟩:=two m k hl
        have e2 : argTypes = #[t,u]:=Array.toList_inj.1 (by simpa using hty)
        subst e2
        obtain ⟨H',g1,g2⟩:=bind'_ex hs
        rw [sv_ok hp,sv_ok hq] at g1
        obtain ⟨e,f1,f2,f3⟩:=mdelS_eq hu g1
        obtain ⟨v,w',h1,h2⟩:=mapDel_ok (ty:=ty) (u:=u) h (hev p) (hev q) f1
        have h3:=LeavesW.of h2
        rw [f2,f3] at h3
        refine bi .delete v w' _ _ hca (fun ty cs=>?_) h3 g2
        have h5 : (Builtin.delete_ #[t,u] ty #[a.eval p,a.eval q]).run P w = .ok v w':=h1
        simp [builtin,h5]
      · cases hr
    · rename_i s x t u hca hl hty
      simp only at hca hl hty
      split at hr
      · rename_i htu
        subst htu
        split at hr
        · rename_i E sz b z hT
          obtain ⟨hu,hi,hsz⟩:=slcE_ok hT
          split at hr
          · rename_i hz
            injection hr with hr
            subst hr
            obtain ⟨p,q,rfl,hp,hq⟩:=two s x hl
            have e2 : argTypes = #[t,t]:=Array.toList_inj.1 (by simpa using hty)
            subst e2
            simp only [stepS,sv_ok hp,sv_ok hq] at hs
            obtain ⟨e,he,hk⟩:=appS_eq hu hi hsz hz hs
            obtain ⟨v,w',h1,h2⟩:=append_ok (ty:=ty) h (hev p) (hev q) he
            refine bi .append v w' _ _ hca (fun ty cs=>?_) (LeavesW.of h2) hk
            have h5 : (Builtin.append_ #[t,t] ty #[a.eval p,a.eval q]).run P w = .ok v w':=h1
            simp [builtin,h5]
          · cases hr
        · cases hr
      · cases hr
    · rename_i x t hca hl hty
      simp only at hca hl hty
      obtain ⟨p,rfl,hp⟩:=one x hl
      have e2 : argTypes = #[t]:=Array.toList_inj.1 (by simpa using hty)
      subst e2
      have len : ∀ n : Nat,lenD P H t (eval ts p) = some n → K (D.int n) H → OpOk P ⟨dst,.call ⟨callee,#[p],#[t]⟩,ty,pos,after,guard⟩ a w fun v w'=>∃ d H',K d H' ∧ LeavesW P w φ X H v w' d H':=by
        intro n hn hk
        refine bi .len (goInt n) w _ _ hca (fun ty cs=>?_) (qu (D.int n) (goInt n) (one_v rfl)) hk
        have:=len_ok (ty:=ty) h (hev p) hn
        simp [builtin,this]
      split at hr
      · rename_i E hu
        injection hr with hr
        subst hr
        obtain ⟨n,h1,h2⟩:=bind'_ex hs
        rw [sv_ok hp] at h1
        refine len n ?_ h2
        unfold lenD
        simp only [hu]
        unfold slcS at h1
        unfold sliceLen
        split at h1<;>first|cases h1|skip
        all_goals (rename_i hx;rw [hx];try rfl)
      · rename_i K' E hu
        injection hr with hr
        subst hr
        obtain ⟨es,h1,h2⟩:=bind'_ex hs
        rw [sv_ok hp] at h1
        refine len es.length ?_ h2
        unfold lenD
        simp only [hu,h1,Option.map_some]
      · rename_i hu
        injection hr with hr
        subst hr
        obtain ⟨s,h1,h2⟩:=bind'_ex hs
        rw [sv_ok hp] at h1
        have rp:=hev p
        rw [strOf_ok h1] at rp
        refine bi .len (goInt s.size) w _ _ hca (fun ty cs=>?_) (qu (D.int s.size) (goInt s.size) (one_v rfl)) h2
        have : (Builtin.len_ #[t] ty #[a.eval p]).run P w = .ok (goInt s.size) w:=by
          rw [rp.v_inv]
          simp [Builtin.len_,run_underlying hu]
        simp [builtin,this]
      · cases hr
    · rename_i x y hca hl
      simp only at hca hl
      injection hr with hr
      subst hr
      obtain ⟨p,q,rfl,hp,hq⟩:=two x y hl
      obtain ⟨n,h1,hs⟩:=bind'_ex hs
      obtain ⟨m,h2,hs⟩:=bind'_ex hs
      rw [sv_ok hp] at h1
      rw [sv_ok hq] at h2
      have rp:=hev p
      have rq:=hev q
      rw [intOf_ok h1] at rp
      rw [intOf_ok h2] at rq
      refine bi .min (.int .i64 (min n m)) w _ _ hca (fun ty cs=>?_) (qu _ _ (one_v rfl)) hs
      have : (Builtin.min_ argTypes ty #[a.eval p,a.eval q]).run P w = .ok (.int .i64 (min n m)) w:=by
        rw [rp.v_inv,rq.v_inv]
        simp [Builtin.min_,Builtin.min2]
        split<;>omega
      simp [builtin,this]
    · rename_i x y hca hl
      simp only at hca hl
      injection hr with hr
      subst hr
      obtain ⟨p,q,rfl,hp,hq⟩:=two x y hl
      obtain ⟨n,h1,hs⟩:=bind'_ex hs
      obtain ⟨m,h2,hs⟩:=bind'_ex hs
      rw [sv_ok hp] at h1
      rw [sv_ok hq] at h2
      have rp:=hev p
      have rq:=hev q
      rw [intOf_ok h1] at rp
      rw [intOf_ok h2] at rq
      refine bi .max (.int .i64 (max n m)) w _ _ hca (fun ty cs=>?_) (qu _ _ (one_v rfl)) hs
      have : (Builtin.max_ argTypes ty #[a.eval p,a.eval q]).run P w = .ok (.int .i64 (max n m)) w:=by
        rw [rp.v_inv,rq.v_inv]
        simp [Builtin.max_,Builtin.max2]
        split<;>omega
      simp [builtin,this]
    · rename_i f xs hca hl
      simp only at hca hl
      split at hr
      · rename_i f' hf
        injection hr with hr
        subst hr
        refine stepW_ok hP h hts ?_
        unfold stepW
        simp only [hca]
        simp only [stepS,sv_ok hf,svs_ok hl] at hs
        exact hs
      · cases hr
    · cases hr
  all_goals cases hr
theorem resOp_ok (hP : Good P) (h : HR P w φ X H) {ts : List D} {a : Act} (hts : Rs P w φ (Av X φ H) H.length ts a.tmps.toList) {o : Oper} {K : D → List Row → Prop} (hs : stepS P ts H (resOp P o) K) :
    OpOk P o a w fun v w'=>∃ d H',K d H' ∧ LeavesW P w φ X H v w' d H':=by
  unfold resOp at hs
  split at hs
  · exact stepS_ok hP h hts ‹_› hs
  · exact stepW_ok hP h hts hs
end
end Go.Proofs.YtgbbpelfpagdoaaGreatDoor.Mir
namespace Go.Proofs.YtgbbpelfpagdoaaGreatDoor.Mir
open Go Go.RowKit
def SOp.vs : SOp → List SV
  | .mv x=>[x]
  | .pick c a b=>[c,a,b]
  | .alloc _ _=>[]
  | .box _ x=>[x]
  | .load1 a=>[a]
  | .loadA _ a=>[a]
  | .store _ a x=>[a,x]
  | .nilc x=>[x]
  | .off _ a=>[a]
  | .fld1 _ x=>[x]
  | .fldA _ _ x=>[x]
  | .idx _ x i=>[x,i]
  | .arr _ _ x i=>[x,i]
  | .ext _ x=>[x]
  | .bin _ x y=>[x,y]
  | .binb _ x y=>[x,y]
  | .aeq _ _ x y=>[x,y]
  | .nilq _ _ x y=>[x,y]
  | .unot x=>[x]
  | .fn _ caps=>caps
  | .mkmap=>[]
  | .mkslice _ _ _ _ l c=>[l,c]
  | .bld _ ps=>ps.map fun p=>p.2.2
  | .bsl _ _ _ _ ps=>ps.map fun p=>p.2
  | .app _ _ _ s x=>[s,x]
  | .slen x=>[x]
  | .mlen x=>[x]
  | .sub _ _ x lo hi mx=>x :: (lo.toList ++ hi.toList ++ mx.toList)
  | .conv _ x=>[x]
  | .s2b x=>[x]
  | .b2s x=>[x]
  | .strlen x=>[x]
  | .sidx x i=>[x,i]
  | .mm _ x y=>[x,y]
  | .ssub x lo hi=>x :: (lo.toList ++ hi.toList)
  | .look _ _ _ m k=>[m,k]
  | .mput _ m k x=>[m,k,x]
  | .mdel _ m k=>[m,k]
  | .call f args=>f :: args
  | .raw _=>[]
def SOp.looks : SOp → Bool
  | .load1 _|.loadA _ _|.store _ _ _|.bsl _ _ _ _ _|.app _ _ _ _ _|.mlen _|.sub _ _ _ _ _ _|.b2s _|.look _ _ _ _ _|.mput _ _ _ _|.mdel _ _ _|.call _ _|.raw _=>true
  | _=>false
def SOp.turns : SOp → Bool
  | .store _ _ _|.bsl _ _ _ _ _|.app _ _ _ _ _|.mput _ _ _ _|.mdel _ _ _|.call _ _|.raw _=>true
  | _=>false
def dedN : List Nat → List Nat
  | []=>[]
  | x :: xs=>if xs.contains x then dedN xs else x :: dedN xs
def refsL : List D → List Nat
  | []=>[]
  | d :: ds=>d.refs ++ refsL ds
def rowRefs (o : Option Row) : List Nat:=match o with
  | some row=>row.refs
  | none=>[]
def lvl (H : List Row) : List Nat → List Nat
  | []=>[]
  | r :: rs=>r :: (rowRefs H[r]? ++ lvl H rs)
def viewS (ts : List D) (H : List Row) (o : SOp) : List Nat :=
  match o with
  | .call f args=>dedN (lvl H (lvl H (lvl H (refsL (args.map (SV.ev ts)) ++ (f.ev ts).refs))))
  | o=>if o.looks then dedN (refsL (o.vs.map (SV.ev ts))) else []
def effS (w : Bool) (V : List Nat) (n : Nat) (d : D) (H' : List Row) : Eff:=⟨d,if w then V.map fun r=>(r,H'.getD r .dead) else [],H'.drop n⟩
def chkS (n0 : Nat) (own : List Nat) (m : Nat) (V : List Nat) (ds : List D) (M : List Row) (e : Eff) (log : List (List Nat × List Nat)) : Bool :=
  V.all (refIn n0 own m) && (ds.all fun d=>d.refs.all (refIn n0 own m)) && (M.all fun r=>r.refs.all (refIn n0 own m)) && effOk n0 own m M.length e && (e.upd.all fun p=>V.contains p.1 && decide (p.1 < M.length)) && okPairs m V (e.upd.map (·.1)) 0 log
def Chk (b : Bool) : Prop:=b = true
def callD0 (P : Program) (fd : D) (args : List D) (H : List Row) (K : D → List Row → Prop) : Prop :=
  ∃ g caps d0 H0,fd = .fn g caps ∧ Con P g (args ++ caps) H (fun d H'=>d = d0 ∧ H' = H0) ∧ K d0 H0
def stepD0 (P : Program) (ts : List D) (H : List Row) (o : SOp) (K : D → List Row → Prop) : Prop :=
  match o with
  | .call f args=>callD0 P (f.ev ts) (args.map (SV.ev ts)) H K
  | .nilq _ _ _ _=>False
  | .raw _=>False
  | o=>stepS P ts H o K
def callDr (P : Program) (fd : D) (args : List D) (H : List Row) (K : Bool → D → List Row → Prop) : Prop:=∃ w,callD0 P fd args H (K w)
def stepDr (P : Program) (ts : List D) (H : List Row) (o : SOp) (K : Bool → D → List Row → Prop) : Prop :=
  match o with
  | .call f args=>callDr P (f.ev ts) (args.map (SV.ev ts)) H K
  | .nilq _ _ _ _=>False
  | .raw _=>False
  | o=>stepS P ts H o (K o.turns)
def wpDr (P : Program) (b : List Nat) (n0 : Nat) : List SI → Nat → List Nat → List (List Nat × List Nat) → St → (St → Prop) → Prop
  | [],_,_,_,s,K=>K ⟨s.ts,s.H,[]⟩
  | o :: rest,i,own,log,s,K =>
    wantS s.ts o.guard
      (stepDr P s.ts (maskV (viewS s.ts s.H o.op) s.H) o.op fun w d H' =>
        H' = (effS w (viewS s.ts s.H o.op) s.H.length d H').heap (maskV (viewS s.ts s.H o.op) s.H) ∧
        Chk (chkS n0 own (b.getD i 0) (viewS s.ts s.H o.op) (o.op.vs.map (SV.ev s.ts)) (maskV (viewS s.ts s.H o.op) s.H) (effS w (viewS s.ts s.H o.op) s.H.length d H') log) ∧
        wpDr P b n0 rest (i + 1) (own ++ (effS w (viewS s.ts s.H o.op) s.H.length d H').news.map fun _=>i) (log ++ [(viewS s.ts s.H o.op,(effS w (viewS s.ts s.H o.op) s.H.length d H').upd.map (·.1))])
          ⟨putD! s.ts o.dst d,(effS w (viewS s.ts s.H o.op) s.H.length d H').heap s.H,[]⟩ K)
      (wpDr P b n0 rest (i + 1) own (log ++ [([],[])]) ⟨putD! s.ts o.dst D.undef,s.H,[]⟩ K)
section
variable {P : Program}
theorem svs_mem : ∀ {xs : List Operand} {ys : List SV},svs xs = some ys → ∀ x ∈ xs,∃ y ∈ ys,sv x = some y
  | [],_,_,x,hx=>by simp at hx
  | z :: xs,ys,h,x,hx=>by
    simp only [svs] at h
    split at h
    · rename_i y ys' hy hys
      injection h with h
      subst h
      rcases List.mem_cons.1 hx with rfl|hx
      · exact ⟨y,List.mem_cons_self,hy⟩
      · obtain ⟨q,h1,h2⟩:=svs_mem hys x hx
        exact ⟨q,List.mem_cons_of_mem _ h1,h2⟩
    · cases h
theorem sParts_mem {fs : Array Go.Field} : ∀ {l : List (Nat × Operand)} {ys : List (Nat × Nat × SV)},sParts P fs l = some ys → ∀ p ∈ l,∃ y ∈ ys.map (fun p=>p.2.2),sv p.2 = some y
  | [],_,_,p,hp=>by simp at hp
  | (i,x) :: l,ys,h,p,hp=>by
    simp only [sParts] at h
    split at h
    · rename_i f y ys' hfi hx hl
      split at h
      · injection h with h
        subst h
        rcases List.mem_cons.1 hp with rfl|hp
        · exact ⟨y,by simp,hx⟩
        · obtain ⟨q,h1,h2⟩:=sParts_mem hl p hp
          exact ⟨q,by rw [List.map_cons];exact List.mem_cons_of_mem _ h1,h2⟩
      · cases h
    · cases h
theorem sElems_mem {sz : Nat} : ∀ {l : List (Nat × Operand)} {ys : List (Nat × SV)},sElems sz l = some ys → ∀ p ∈ l,∃ y ∈ ys.map (fun p=>p.2),sv p.2 = some y
  | [],_,_,p,hp=>by simp at hp
  | (i,x) :: l,ys,h,p,hp=>by
    simp only [sElems] at h
    split at h
    · rename_i y ys' hx hl
      injection h with h
      subst h
      rcases List.mem_cons.1 hp with rfl|hp
      · exact ⟨y,by simp,hx⟩
      · obtain ⟨q,h1,h2⟩:=sElems_mem hl p hp
        exact ⟨q,by rw [List.map_cons];exact List.mem_cons_of_mem _ h1,h2⟩
    · cases h
theorem svo_mem {q : Option Operand} {r : Option SV} (h : svo q = some r) : ∀ x ∈ q.toList,∃ y ∈ r.toList,sv x = some y:=by
  intro x hx
  cases q with
  | none=>simp at hx
  | some z =>
    simp at hx
    subst hx
    simp only [svo,Option.map_eq_some_iff] at h
    obtain ⟨y,hy,rfl⟩:=h
    exact ⟨y,by simp,hy⟩
theorem vs_all {o : Oper} {so : SOp} (h : resOp? P o = some so) : ∀ x ∈ o.op.operands,∃ v ∈ so.vs,sv x = some v:=by
  obtain ⟨dst,op,ty,pos,after,guard⟩:=o
  unfold resOp? at h
  intro x hx
  have one : ∀ {f : SV → SOp} {z : Operand},(sv z).map f = some so → x = z → (∀ y,y ∈ (f y).vs) → ∃ v ∈ so.vs,sv x = some v:=by
    intro f z h e hf
    rw [Option.map_eq_some_iff] at h
    obtain ⟨y,hy,rfl⟩:=h
    exact ⟨y,hf y,by rw [e];exact hy⟩
  cases op<;>dsimp only at h hx
  case move z=>exact one h (by simpa [Op.operands] using hx) (by simp [SOp.vs])
  case assign z=>exact one h (by simpa [Op.operands] using hx) (by simp [SOp.vs])
  case box T z=>exact one h (by simpa [Op.operands] using hx) (by simp [SOp.vs])
  case nilCheck z=>exact one h (by simpa [Op.operands] using hx) (by simp [SOp.vs])
  case extract z i=>exact one h (by simpa [Op.operands] using hx) (by simp [SOp.vs])
  case unOp op T z=>cases op<;>dsimp only at h<;>first|cases h|exact one h (by simpa [Op.operands] using hx) (by simp [SOp.vs])
  case alloc T=>simp [Op.operands] at hx
  case pick c p q =>
    split at h
    · rename_i c' p' q' h1 h2 h3
      injection h with h
      subst h
      simp [Op.operands] at hx
      rcases hx with rfl|rfl|rfl
      · exact ⟨c',by simp [SOp.vs],h1⟩
      · exact ⟨p',by simp [SOp.vs],h2⟩
      · exact ⟨q',by simp [SOp.vs],h3⟩
    · cases h
  case load T z =>
    simp [Op.operands] at hx
    subst hx
    split at h
    · rename_i y _ hy;injection h with h;subst h;exact ⟨y,by simp [SOp.vs],hy⟩
    · rename_i n b z y _ _ hy;injection h with h;subst h;exact ⟨y,by simp [SOp.vs],hy⟩
    · cases h
  case store T p q =>
    split at h
    · rename_i n b z p' q' _ h1 h2
      injection h with h
      subst h
      simp [Op.operands] at hx
      rcases hx with rfl|rfl
      · exact ⟨p',by simp [SOp.vs],h1⟩
      · exact ⟨q',by simp [SOp.vs],h2⟩
    · cases h
  case fieldAddr T z f =>
    simp [Op.operands] at hx
    subst hx
    split at h
    · rename_i o U y _ hy
      split at h
      · split at h
        · cases h
        · injection h with h;subst h;exact ⟨y,by simp [SOp.vs],hy⟩
      · cases h
    · cases h
  case field T z f =>
    simp [Op.operands] at hx
    subst hx
    split at h
    · rename_i o U y _ hy
      split at h
      · injection h with h;subst h;exact ⟨y,by simp [SOp.vs],hy⟩
      · injection h with h;subst h;exact ⟨y,by simp [SOp.vs],hy⟩
      · cases h
    · cases h
  case indexAddr T p q =>
    simp [Op.operands] at hx
    split at h
    · rename_i E p' q' _ h1 h2
      split at h
      · split at h
        · injection h with h
          subst h
          rcases hx with rfl|rfl
          · exact ⟨p',by simp [SOp.vs],h1⟩
          · exact ⟨q',by simp [SOp.vs],h2⟩
        · cases h
      · cases h
    · rename_i n E p' q' _ h1 h2
      split at h
      · injection h with h
        subst h
        rcases hx with rfl|rfl
        · exact ⟨p',by simp [SOp.vs],h1⟩
        · exact ⟨q',by simp [SOp.vs],h2⟩
      · cases h
    · cases h
  case index T p q =>
    simp [Op.operands] at hx
    split at h
    · rename_i p' q' _ h1 h2
      injection h with h
      subst h
      rcases hx with rfl|rfl
      · exact ⟨p',by simp [SOp.vs],h1⟩
      · exact ⟨q',by simp [SOp.vs],h2⟩
    · cases h
  case binOp op T p q U =>
    simp [Op.operands] at hx
    split at h
    · rename_i p' q' h1 h2
      have fin : p' ∈ so.vs → q' ∈ so.vs → ∃ v ∈ so.vs,sv x = some v:=by
        intro g1 g2
        rcases hx with rfl|rfl
        · exact ⟨p',g1,h1⟩
        · exact ⟨q',g2,h2⟩
      split at h
      · cases op<;>dsimp only at h<;>first|(injection h with h;subst h;exact fin (by simp [SOp.vs]) (by simp [SOp.vs]))|cases h
      · split at h<;>first|(injection h with h;subst h;exact fin (by simp [SOp.vs]) (by simp [SOp.vs]))|cases h|(split at h;(· split at h<;>first|(injection h with h;subst h;exact fin (by simp [SOp.vs]) (by simp [SOp.vs]))|cases h);(· cases h))
    · cases h
  case makeFunc fn first caps =>
    cases fn with
    | func f =>
      dsimp only at h
      split at h
      · rename_i hf
        rw [Option.map_eq_some_iff] at h
        obtain ⟨ys,hys,rfl⟩:=h
        have hf' : first = #[]:=by simpa using hf
        subst hf'
        simp [Op.operands] at hx
        obtain ⟨y,h1,h2⟩:=svs_mem hys x (by simpa using hx)
        exact ⟨y,h1,h2⟩
      · cases h
    | _=>cases h
  case makeMap T r =>
    cases r<;>dsimp only at h<;>first|cases h|skip
    simp [Op.operands] at hx
  case makeSlice T p q =>
    simp [Op.operands] at hx
    split at h
    · rename_i E sz b z p' q' _ h1 h2
      injection h with h
      subst h
      rcases hx with rfl|rfl
      · exact ⟨p',by simp [SOp.vs],h1⟩
      · exact ⟨q',by simp [SOp.vs],h2⟩
    · cases h
  case build T ps =>
    simp [Op.operands] at hx
    split at h
    · split at h
      · rw [Option.map_eq_some_iff] at h
        obtain ⟨ys,hys,rfl⟩:=h
        obtain ⟨i,hi⟩:=hx
        obtain ⟨y,h1,h2⟩:=sParts_mem hys (i,x) (by simpa using hi)
        exact ⟨y,h1,h2⟩
      · cases h
    · cases h
  case buildSlice T n ps =>
    simp [Op.operands] at hx
    split at h
    · split at h
      · rw [Option.map_eq_some_iff] at h
        obtain ⟨ys,hys,rfl⟩:=h
        obtain ⟨i,hi⟩:=hx
        obtain ⟨y,h1,h2⟩:=sElems_mem hys (i,x) (by simpa using hi)
        exact ⟨y,h1,h2⟩
      · cases h
    · cases h
  case slice T z lo hi mx =>
    split at h
    · rename_i E sz b zz z' lo' hi' mx' _ h1 h2 h3 h4
      injection h with h
      subst h
      simp [Op.operands] at hx
      have opt : ∀ {q : Option Operand} {r : Option SV},svo q = some r → q = some x → ∃ y ∈ r.toList,sv x = some y:=fun hq e=>svo_mem hq x (by rw [e];simp)
      rcases hx with rfl|hx|hx|hx
      · exact ⟨z',by simp [SOp.vs],h1⟩
      · obtain ⟨y,g1,g2⟩:=opt h2 hx;exact ⟨y,by simp [SOp.vs] at g1 ⊢;simp [g1],g2⟩
      · obtain ⟨y,g1,g2⟩:=opt h3 hx;exact ⟨y,by simp [SOp.vs] at g1 ⊢;simp [g1],g2⟩
      · obtain ⟨y,g1,g2⟩:=opt h4 hx;exact ⟨y,by simp [SOp.vs] at g1 ⊢;simp [g1],g2⟩
    · rename_i z' lo' hi' _ h1 h2 h3 h4
      split at h
      · injection h with h
        subst h
        have hmn : mx = none:=by
          cases mx with
          | none=>rfl
          | some v=>simp [svo] at h4
        subst hmn
        simp [Op.operands] at hx
        have opt : ∀ {q : Option Operand} {r : Option SV},svo q = some r → q = some x → ∃ y ∈ r.toList,sv x = some y:=fun hq e=>svo_mem hq x (by rw [e];simp)
        rcases hx with rfl|hx|hx
        · exact ⟨z',by simp [SOp.vs],h1⟩
        · obtain ⟨y,g1,g2⟩:=opt h2 hx;exact ⟨y,by simp [SOp.vs] at g1 ⊢;simp [g1],g2⟩
        · obtain ⟨y,g1,g2⟩:=opt h3 hx;exact ⟨y,by simp [SOp.vs] at g1 ⊢;simp [g1],g2⟩
      · cases h
    · cases h
  case lookup T m k ok =>
    split at h
    · rename_i K E m' k' hu hm hk
      split at h
      · injection h with h
        subst h
        simp [Op.operands] at hx
        rcases hx with rfl|rfl
        · exact ⟨m',by simp [SOp.vs],hm⟩
        · exact ⟨k',by simp [SOp.vs],hk⟩
      · cases h
    · cases h
  case mapUpdate T m k z =>
    split at h
    · rename_i K E m' k' z' hu hm hk hz
      injection h with h
      subst h
      simp [Op.operands] at hx
      rcases hx with rfl|rfl|rfl
      · exact ⟨m',by simp [SOp.vs],hm⟩
      · exact ⟨k',by simp [SOp.vs],hk⟩
      · exact ⟨z',by simp [SOp.vs],hz⟩
    · cases h
  case insert T m k z =>
    split at h
    · rename_i K E m' k' z' hu hm hk hz
      injection h with h
      subst h
      simp [Op.operands] at hx
      rcases hx with rfl|rfl|rfl
      · exact ⟨m',by simp [SOp.vs],hm⟩
      · exact ⟨k',by simp [SOp.vs],hk⟩
      · exact ⟨z',by simp [SOp.vs],hz⟩
    · cases h
  case convert p q z =>
    simp [Op.operands] at hx
    subst hx
    split at h
    · rename_i y _ _ hy;injection h with h;subst h;exact ⟨y,by simp [SOp.vs],hy⟩
    · rename_i E y _ _ hy
      split at h
      · injection h with h;subst h;exact ⟨y,by simp [SOp.vs],hy⟩
      · cases h
    · rename_i E y _ _ hy
      split at h
      · injection h with h;subst h;exact ⟨y,by simp [SOp.vs],hy⟩
      · cases h
    · cases h
  case call c =>
    obtain ⟨callee,args,argTypes⟩:=c
    simp only [Op.operands,Call.operands] at hx
    have bi : ∀ {b : Builtin} {ys : List SV},callee = .builtin b → svs args.toList = some ys → (∀ y ∈ ys,y ∈ so.vs) → ∃ v ∈ so.vs,sv x = some v:=by
      rintro b ys rfl hys hall
      obtain ⟨y,h1,h2⟩:=svs_mem hys x (by simpa using hx)
      exact ⟨y,hall y h1,h2⟩
    split at h
    · rename_i p q t u hca hl hty
      split at h
      · injection h with h;subst h;exact bi hca hl (by simp [SOp.vs])
      · cases h
    · rename_i p q t u hca hl hty
      split at h
      · split at h
        · split at h
          · injection h with h;subst h;exact bi hca hl (by simp [SOp.vs])
          · cases h
        · cases h
      · cases h
    · rename_i p t hca hl hty
      split at h<;>first|(injection h with h;subst h;exact bi hca hl (by simp [SOp.vs]))|cases h
    · rename_i p q hca hl
      injection h with h;subst h;exact bi hca hl (by simp [SOp.vs])
    · rename_i p q hca hl
      injection h with h;subst h;exact bi hca hl (by simp [SOp.vs])
    · rename_i f xs hca hl
      simp only at hca hl
      split at h
      · rename_i f' hf
        injection h with h
        subst h
        subst hca
        simp at hx
        rcases hx with rfl|hx
        · exact ⟨f',by simp [SOp.vs],hf⟩
        · obtain ⟨y,h1,h2⟩:=svs_mem hl x (by simpa using hx)
          exact ⟨y,by simp [SOp.vs,h1],h2⟩
      · cases h
    · cases h
  all_goals cases h
theorem svs_from : ∀ {xs : List Operand} {ys : List SV},svs xs = some ys → ∀ y ∈ ys,∃ x ∈ xs,sv x = some y
  | [],ys,h,y,hy=>by simp [svs] at h;subst h;simp at hy
  | z :: xs,ys,h,y,hy=>by
    simp only [svs] at h
    split at h
    · rename_i y' ys' hz hys
      injection h with h
      subst h
      rcases List.mem_cons.1 hy with rfl|hy
      · exact ⟨z,List.mem_cons_self,hz⟩
      · obtain ⟨q,h1,h2⟩:=svs_from hys y hy
        exact ⟨q,List.mem_cons_of_mem _ h1,h2⟩
    · cases h
theorem sParts_from {fs : Array Go.Field} : ∀ {l : List (Nat × Operand)} {ys : List (Nat × Nat × SV)},sParts P fs l = some ys → ∀ y ∈ ys.map (fun p=>p.2.2),∃ p ∈ l,sv p.2 = some y
  | [],ys,h,y,hy=>by simp [sParts] at h;subst h;simp at hy
  | (i,x) :: l,ys,h,y,hy=>by
    simp only [sParts] at h
    split at h
    · rename_i f y' ys' hfi hx hl
      split at h
      · injection h with h
        subst h
        rw [List.map_cons] at hy
        rcases List.mem_cons.1 hy with rfl|hy
        · exact ⟨(i,x),List.mem_cons_self,hx⟩
        · obtain ⟨q,h1,h2⟩:=sParts_from hl y hy
          exact ⟨q,List.mem_cons_of_mem _ h1,h2⟩
      · cases h
    · cases h
theorem sElems_from {sz : Nat} : ∀ {l : List (Nat × Operand)} {ys : List (Nat × SV)},sElems sz l = some ys → ∀ y ∈ ys.map (fun p=>p.2),∃ p ∈ l,sv p.2 = some y
  | [],ys,h,y,hy=>by simp [sElems] at h;subst h;simp at hy
  | (i,x) :: l,ys,h,y,hy=>by
    simp only [sElems] at h
    split at h
    · rename_i y' ys' hx hl
      injection h with h
      subst h
      rw [List.map_cons] at hy
      rcases List.mem_cons.1 hy with rfl|hy
      · exact ⟨(i,x),List.mem_cons_self,hx⟩
      · obtain ⟨q,h1,h2⟩:=sElems_from hl y hy
        exact ⟨q,List.mem_cons_of_mem _ h1,h2⟩
    · cases h
theorem vs_from {o : Oper} {so : SOp} (h : resOp? P o = some so) : ∀ v ∈ so.vs,∃ x ∈ o.op.operands,sv x = some v:=by
  obtain ⟨dst,op,ty,pos,after,guard⟩:=o
  unfold resOp? at h
  intro v hv
  have one : ∀ {f : SV → SOp} {z : Operand},(sv z).map f = some so → (∀ y,∀ v ∈ (f y).vs,v = y) → z ∈ op.operands → ∃ x ∈ op.operands,sv x = some v:=by
    intro f z h hf hz
    rw [Option.map_eq_some_iff] at h
    obtain ⟨y,hy,rfl⟩:=h
    exact ⟨z,hz,by rw [hf y v hv];exact hy⟩
  cases op<;>dsimp only at h ⊢
  case move z=>exact one h (by simp [SOp.vs]) (by simp [Op.operands])
  case assign z=>exact one h (by simp [SOp.vs]) (by simp [Op.operands])
  case box T z=>exact one h (by simp [SOp.vs]) (by simp [Op.operands])
  case nilCheck z=>exact one h (by simp [SOp.vs]) (by simp [Op.operands])
  case extract z i=>exact one h (by simp [SOp.vs]) (by simp [Op.operands])
  case unOp op T z=>cases op<;>dsimp only at h<;>first|cases h|exact one h (by simp [SOp.vs]) (by simp [Op.operands])
  case alloc T =>
    split at h
    · injection h with h;subst h;simp [SOp.vs] at hv
    · cases h
  case pick c p q =>
    split at h
    · rename_i c' p' q' h1 h2 h3
      injection h with h
      subst h
      simp [SOp.vs] at hv
      rcases hv with rfl|rfl|rfl
      · exact ⟨c,by simp [Op.operands],h1⟩
      · exact ⟨p,by simp [Op.operands],h2⟩
      · exact ⟨q,by simp [Op.operands],h3⟩
    · cases h
  case load T z =>
    split at h
    · rename_i y _ hy;injection h with h;subst h;simp [SOp.vs] at hv;subst hv;exact ⟨z,by simp [Op.operands],hy⟩
    · rename_i n b zz y _ _ hy;injection h with h;subst h;simp [SOp.vs] at hv;subst hv;exact ⟨z,by simp [Op.operands],hy⟩
    · cases h
  case store T p q =>
    split at h
    · rename_i n b z p' q' _ h1 h2
      injection h with h
      subst h
      simp [SOp.vs] at hv
      rcases hv with rfl|rfl
      · exact ⟨p,by simp [Op.operands],h1⟩
      · exact ⟨q,by simp [Op.operands],h2⟩
    · cases h
  case fieldAddr T z f =>
    split at h
    · rename_i o U y _ hy
      split at h
      · split at h
        · cases h
        · injection h with h;subst h;simp [SOp.vs] at hv;subst hv;exact ⟨z,by simp [Op.operands],hy⟩
      · cases h
    · cases h
  case field T z f =>
    split at h
    · rename_i o U y _ hy
      split at h
      · injection h with h;subst h;simp [SOp.vs] at hv;subst hv;exact ⟨z,by simp [Op.operands],hy⟩
      · injection h with h;subst h;simp [SOp.vs] at hv;subst hv;exact ⟨z,by simp [Op.operands],hy⟩
      · cases h
    · cases h
  case indexAddr T p q =>
    have fin : ∀ {p' q' : SV},sv p = some p' → sv q = some q' → (v = p' ∨ v = q') → ∃ x ∈ (Op.indexAddr T p q).operands,sv x = some v:=by
      rintro p' q' h1 h2 (rfl|rfl)
      · exact ⟨p,by simp [Op.operands],h1⟩
      · exact ⟨q,by simp [Op.operands],h2⟩
    split at h
    · rename_i E p' q' _ h1 h2
      split at h
      · split at h
        · injection h with h;subst h;exact fin h1 h2 (by simpa [SOp.vs] using hv)
        · cases h
      · cases h
    · rename_i n E p' q' _ h1 h2
      split at h
      · injection h with h;subst h;exact fin h1 h2 (by simpa [SOp.vs] using hv)
      · cases h
    · cases h
  case index T p q =>
    split at h
    · rename_i p' q' _ h1 h2
      injection h with h
      subst h
      simp [SOp.vs] at hv
      rcases hv with rfl|rfl
      · exact ⟨p,by simp [Op.operands],h1⟩
      · exact ⟨q,by simp [Op.operands],h2⟩
    · cases h
  case binOp op T p q U =>
    split at h
    · rename_i p' q' h1 h2
      have fin : (v = p' ∨ v = q') → ∃ x ∈ (Op.binOp op T p q U).operands,sv x = some v:=by
        rintro (rfl|rfl)
        · exact ⟨p,by simp [Op.operands],h1⟩
        · exact ⟨q,by simp [Op.operands],h2⟩
      split at h
      · cases op<;>dsimp only at h<;>first|(injection h with h;subst h;exact fin (by simpa [SOp.vs] using hv))|cases h
      · split at h<;>first|(injection h with h;subst h;exact fin (by simpa [SOp.vs] using hv))|cases h|(split at h;(· split at h<;>first|(injection h with h;subst h;exact fin (by simpa [SOp.vs] using hv))|cases h);(· cases h))
    · cases h
  case makeFunc fn first caps =>
    cases fn with
    | func f =>
      dsimp only at h
      split at h
      · rw [Option.map_eq_some_iff] at h
        obtain ⟨ys,hys,rfl⟩:=h
        obtain ⟨x,h1,h2⟩:=svs_from hys v hv
        exact ⟨x,by simp [Op.operands];right;simpa using h1,h2⟩
      · cases h
    | _=>cases h
  case makeMap T r =>
    cases r<;>dsimp only at h<;>first|cases h|skip
    simp [SOp.vs] at hv
  case makeSlice T p q =>
    split at h
    · rename_i E sz b z p' q' _ h1 h2
      injection h with h
      subst h
      simp [SOp.vs] at hv
      rcases hv with rfl|rfl
      · exact ⟨p,by simp [Op.operands],h1⟩
      · exact ⟨q,by simp [Op.operands],h2⟩
    · cases h
  case build T ps =>
    split at h
    · split at h
      · rw [Option.map_eq_some_iff] at h
        obtain ⟨ys,hys,rfl⟩:=h
        obtain ⟨q,h1,h2⟩:=sParts_from hys v hv
        exact ⟨q.2,by simp [Op.operands];exact ⟨q.1,by simpa using h1⟩,h2⟩
      · cases h
    · cases h
  case buildSlice T n ps =>
    split at h
    · split at h
      · rw [Option.map_eq_some_iff] at h
        obtain ⟨ys,hys,rfl⟩:=h
        obtain ⟨q,h1,h2⟩:=sElems_from hys v hv
        exact ⟨q.2,by simp [Op.operands];exact ⟨q.1,by simpa using h1⟩,h2⟩
      · cases h
    · cases h
  case slice T z lo hi mx =>
    split at h
    · rename_i E sz b zz z' lo' hi' mx' _ h1 h2 h3 h4
      injection h with h
      subst h
      have opt : ∀ {q : Option Operand} {r : Option SV},svo q = some r → r = some v → ∃ x,q = some x ∧ sv x = some v:=by
        intro q r hq e
        subst e
        cases q with
        | none=>simp [svo] at hq
        | some x=>simp only [svo,Option.map_eq_some_iff] at hq;obtain ⟨y,hy,e⟩:=hq;injection e with e;subst e;exact ⟨x,rfl,hy⟩
      simp [SOp.vs] at hv
      rcases hv with rfl|hv|hv|hv
      · exact ⟨z,by simp [Op.operands],h1⟩
      · obtain ⟨x,g1,g2⟩:=opt h2 hv;exact ⟨x,by simp [Op.operands,g1],g2⟩
      · obtain ⟨x,g1,g2⟩:=opt h3 hv;exact ⟨x,by simp [Op.operands,g1],g2⟩
      · obtain ⟨x,g1,g2⟩:=opt h4 hv;exact ⟨x,by simp [Op.operands,g1],g2⟩
    · rename_i z' lo' hi' _ h1 h2 h3 h4
      split at h
      · injection h with h
        subst h
        have opt : ∀ {q : Option Operand} {r : Option SV},svo q = some r → r = some v → ∃ x,q = some x ∧ sv x = some v:=by
          intro q r hq e
          subst e
          cases q with
          | none=>simp [svo] at hq
          | some x=>simp only [svo,Option.map_eq_some_iff] at hq;obtain ⟨y,hy,e⟩:=hq;injection e with e;subst e;exact ⟨x,rfl,hy⟩
        simp [SOp.vs] at hv
        rcases hv with rfl|hv|hv
        · exact ⟨z,by simp [Op.operands],h1⟩
        · obtain ⟨x,g1,g2⟩:=opt h2 hv;exact ⟨x,by simp [Op.operands,g1],g2⟩
        · obtain ⟨x,g1,g2⟩:=opt h3 hv;exact ⟨x,by simp [Op.operands,g1],g2⟩
      · cases h
    · cases h
  case lookup T m k ok =>
    split at h
    · rename_i K E m' k' hu hm hk
      split at h
      · injection h with h
        subst h
        simp [SOp.vs] at hv
        rcases hv with rfl|rfl
        · exact ⟨m,by simp [Op.operands],hm⟩
        · exact ⟨k,by simp [Op.operands],hk⟩
      · cases h
    · cases h
  case mapUpdate T m k z =>
    split at h
    · rename_i K E m' k' z' hu hm hk hz
      injection h with h
      subst h
      simp [SOp.vs] at hv
      rcases hv with rfl|rfl|rfl
      · exact ⟨m,by simp [Op.operands],hm⟩
      · exact ⟨k,by simp [Op.operands],hk⟩
      · exact ⟨z,by simp [Op.operands],hz⟩
    · cases h
  case insert T m k z =>
    split at h
    · rename_i K E m' k' z' hu hm hk hz
      injection h with h
      subst h
      simp [SOp.vs] at hv
      rcases hv with rfl|rfl|rfl
      · exact ⟨m,by simp [Op.operands],hm⟩
      · exact ⟨k,by simp [Op.operands],hk⟩
      · exact ⟨z,by simp [Op.operands],hz⟩
    · cases h
  case convert p q z =>
    have fin : ∀ {y : SV},sv z = some y → v = y → ∃ x ∈ (Op.convert p q z).operands,sv x = some v:=by
      rintro y hy rfl
      exact ⟨z,by simp [Op.operands],hy⟩
    split at h
    · rename_i y _ _ hy;injection h with h;subst h;exact fin hy (by simpa [SOp.vs] using hv)
    · rename_i E y _ _ hy
      split at h
      · injection h with h;subst h;exact fin hy (by simpa [SOp.vs] using hv)
      · cases h
    · rename_i E y _ _ hy
      split at h
      · injection h with h;subst h;exact fin hy (by simpa [SOp.vs] using hv)
      · cases h
    · cases h
  case call c =>
    obtain ⟨callee,args,argTypes⟩:=c
    have bi : ∀ {b : Builtin} {ys : List SV},callee = .builtin b → svs args.toList = some ys → (v ∈ ys) → ∃ x ∈ (Op.call ⟨callee,args,argTypes⟩).operands,sv x = some v:=by
      rintro b ys rfl hys hall
      obtain ⟨x,h1,h2⟩:=svs_from hys v hall
      exact ⟨x,by simpa [Op.operands,Call.operands] using h1,h2⟩
    split at h
    · rename_i p q t u hca hl hty
      split at h
      · injection h with h;subst h;exact bi hca hl (by simpa [SOp.vs] using hv)
      · cases h
    · rename_i p q t u hca hl hty
      split at h
      · split at h
        · split at h
          · injection h with h;subst h;exact bi hca hl (by simpa [SOp.vs] using hv)
          · cases h
        · cases h
      · cases h
    · rename_i p t hca hl hty
      split at h<;>first|(injection h with h;subst h;exact bi hca hl (by simpa [SOp.vs] using hv))|cases h
    · rename_i p q hca hl
      injection h with h;subst h;exact bi hca hl (by simpa [SOp.vs] using hv)
    · rename_i p q hca hl
      injection h with h;subst h;exact bi hca hl (by simpa [SOp.vs] using hv)
    · rename_i f xs hca hl
      simp only at hca hl
      split at h
      · rename_i f' hf
        injection h with h
        subst h
        subst hca
        simp [SOp.vs] at hv
        rcases hv with rfl|hv
        · exact ⟨f,by simp [Op.operands,Call.operands],hf⟩
        · obtain ⟨x,h1,h2⟩:=svs_from hl v hv
          exact ⟨x,by simp [Op.operands,Call.operands];right;simpa using h1,h2⟩
      · cases h
    · cases h
  all_goals cases h
theorem wantS_ok {ops : List Oper} {o : Oper} {i : SI} (hr : resI P ops o = some i) {ts : List D} {p q : Prop} (h : wantS ts i.guard p q) : ∃ b,wantedD ops ts o = some b ∧ (if b then p else q):=by
  unfold resI at hr
  unfold wantedD
  split at hr
  · rename_i hg
    injection hr with hr
    subst hr
    simp only [hg]
    exact ⟨true,rfl,h⟩
  · rename_i j w hg
    split at hr
    · rename_i o' ho
      split at hr
      · rename_i t ht
        injection hr with hr
        subst hr
        simp only [hg,ho,ht]
        unfold wantS at h
        dsimp only at h
        split at h
        · rename_i b hb
          simp only [hb]
          refine ⟨_,rfl,?_⟩
          cases w<;>cases b<;>simp [Bsel] at h ⊢<;>exact h
        · rename_i xs hb
          simp only [hb]
          exact ⟨false,rfl,by simpa using h⟩
        · exact h.elim
      · cases hr
    · cases hr
theorem resI_parts {ops : List Oper} {o : Oper} {i : SI} (hr : resI P ops o = some i) : i.dst = o.dst ∧ i.op = resOp P o:=by
  unfold resI at hr
  split at hr
  · injection hr with hr;subst hr;exact ⟨rfl,rfl⟩
  · split at hr
    · split at hr
      · injection hr with hr;subst hr;exact ⟨rfl,rfl⟩
      · cases hr
    · cases hr
theorem stepD0_congr {ts ts' : List D} {H : List Row} {so : SOp} {K : D → List Row → Prop} (hv : ∀ v ∈ so.vs,v.ev ts' = v.ev ts) : stepD0 P ts' H so K = stepD0 P ts H so K:=by
  cases so<;>simp only [stepD0,stepS,SOp.vs,List.mem_cons,List.not_mem_nil,or_false,forall_eq_or_imp,forall_eq,List.mem_append,Option.mem_toList] at hv ⊢
  case pick=>rw [hv.1,hv.2.1,hv.2.2]
  case bin=>rw [hv.1,hv.2]
  case binb=>rw [hv.1,hv.2]
  case aeq=>rw [hv.1,hv.2]
  case store=>rw [hv.1,hv.2]
  case idx=>rw [hv.1,hv.2]
  case arr=>rw [hv.1,hv.2]
  case mkslice=>rw [hv.1,hv.2]
  case app=>rw [hv.1,hv.2]
  case sidx=>rw [hv.1,hv.2]
  case mm=>rw [hv.1,hv.2]
  case ssub x lo hi =>
    have e1:=hv.1
    have e2 : ∀ v,lo = some v → v.ev ts' = v.ev ts:=fun v h=>hv.2 v (.inl h)
    have e3 : ∀ v,hi = some v → v.ev ts' = v.ev ts:=fun v h=>hv.2 v (.inr h)
    rw [e1]
    cases lo<;>cases hi<;>simp only [Option.some.injEq,forall_eq',reduceCtorEq,false_implies,implies_true] at e2 e3<;>simp only [Option.map_some,Option.map_none,e2,e3]
  case look=>rw [hv.1,hv.2]
  case mput=>rw [hv.1,hv.2.1,hv.2.2]
  case mdel=>rw [hv.1,hv.2]
  case fn caps =>
    have : caps.map (SV.ev ts') = caps.map (SV.ev ts):=List.map_congr_left hv
    rw [this]
  case call f args =>
    have : args.map (SV.ev ts') = args.map (SV.ev ts):=List.map_congr_left fun v hm=>hv.2 v hm
    rw [this,hv.1]
  case bld z ps =>
    have : (ps.map fun p=>(p.1,p.2.1,p.2.2.ev ts')) = ps.map fun p=>(p.1,p.2.1,p.2.2.ev ts):=List.map_congr_left fun q hq=>by
      rw [hv q.2.2 (List.mem_map.2 ⟨q,hq,rfl⟩)]
    rw [this]
  case bsl T sz len z ps =>
    have : (ps.map fun p=>(p.1,sz,p.2.ev ts')) = ps.map fun p=>(p.1,sz,p.2.ev ts):=List.map_congr_left fun q hq=>by
      rw [hv q.2 (List.mem_map.2 ⟨q,hq,rfl⟩)]
    rw [this]
  case sub sz E x lo hi mx =>
    have e1:=hv.1
    have e2 : ∀ v,lo = some v → v.ev ts' = v.ev ts:=fun v h=>hv.2 v (.inl (.inl h))
    have e3 : ∀ v,hi = some v → v.ev ts' = v.ev ts:=fun v h=>hv.2 v (.inl (.inr h))
    have e4 : ∀ v,mx = some v → v.ev ts' = v.ev ts:=fun v h=>hv.2 v (.inr h)
    rw [e1]
    cases lo<;>cases hi<;>cases mx<;>simp only [Option.some.injEq,forall_eq',reduceCtorEq,false_implies,implies_true] at e2 e3 e4<;>simp only [e2,e3,e4]
  all_goals first|rfl|rw [hv]
theorem intDet {op : BinOp} {k : IntKind} {a b : Int} {H : List Row} {K : D → List Row → Prop} (h : intS op k a b fun d=>K d H) : ∃ d H',K d H' ∧ intS op k a b fun d1=>d1 = d ∧ H = H':=by
  have two : ∀ {c : Prop} {x y : D},Two c (K x H) (K y H) → ∃ d H',K d H' ∧ Two c (x = d ∧ H = H') (y = d ∧ H = H'):=by
    intro c x y h
    rcases two_ok h with ⟨hc,hg⟩|⟨hc,hg⟩
    · exact ⟨x,H,hg,fun _=>⟨rfl,rfl⟩,fun h=>absurd hc h⟩
    · exact ⟨y,H,hg,fun h=>absurd h hc,fun _=>⟨rfl,rfl⟩⟩
  cases op<;>simp only [intS] at h ⊢
  case add=>exact ⟨_,_,h,rfl,rfl⟩
  case sub=>exact ⟨_,_,h,rfl,rfl⟩
  case mul=>exact ⟨_,_,h,rfl,rfl⟩
  case quo=>exact ⟨_,_,h.2,h.1,rfl,rfl⟩
  case rem=>exact ⟨_,_,h.2,h.1,rfl,rfl⟩
  all_goals exact two h
theorem strDet {op : BinOp} {a b : ByteArray} {H : List Row} {K : D → List Row → Prop} (h : strS op a b fun d=>K d H) : ∃ d H',K d H' ∧ strS op a b fun d1=>d1 = d ∧ H = H':=by
  have two : ∀ {c : Prop} {x y : D},Two c (K x H) (K y H) → ∃ d H',K d H' ∧ Two c (x = d ∧ H = H') (y = d ∧ H = H'):=by
    intro c x y h
    rcases two_ok h with ⟨hc,hg⟩|⟨hc,hg⟩
    · exact ⟨x,H,hg,fun _=>⟨rfl,rfl⟩,fun h=>absurd hc h⟩
    · exact ⟨y,H,hg,fun h=>absurd h hc,fun _=>⟨rfl,rfl⟩⟩
  cases op<;>simp only [strS] at h ⊢
  case add=>exact ⟨_,_,h.2,h.1,rfl,rfl⟩
  all_goals exact two h
theorem stepD0_det {ts : List D} {H : List Row} {so : SOp} {K : D → List Row → Prop} (h : stepD0 P ts H so K) : ∃ d H',K d H' ∧ stepD0 P ts H so fun d1 H1=>d1 = d ∧ H1 = H':=by
  have bnd : ∀ {α : Type} {o : Option α} {f : α → D} {g : α → List Row},bind' o (fun a=>K (f a) (g a)) → ∃ d H',K d H' ∧ bind' o fun a=>f a = d ∧ g a = H':=by
    intro α o f g h
    obtain ⟨a,ha,h1⟩:=bind'_ex h
    exact ⟨_,_,h1,by rw [ha];exact ⟨rfl,rfl⟩⟩
  cases so<;>simp only [stepD0,stepS] at h ⊢
  case mv=>exact ⟨_,_,h,rfl,rfl⟩
  case alloc=>exact ⟨_,_,h,rfl,rfl⟩
  case fn=>exact ⟨_,_,h,rfl,rfl⟩
  case mkmap=>exact ⟨_,_,h,rfl,rfl⟩
  case pick c p q =>
    unfold pickS at h ⊢
    split at h
    · rename_i t ht
      cases t
      · rw [Bsel_false] at h;exact ⟨_,_,h,by rw [Bsel_false];exact ⟨rfl,rfl⟩⟩
      · rw [Bsel_true] at h;exact ⟨_,_,h,by rw [Bsel_true];exact ⟨rfl,rfl⟩⟩
    · exact h.elim
  case idx sz x i =>
    unfold idxS at h ⊢
    split at h
    · split at h
      · exact ⟨_,_,h.2,h.1,rfl,rfl⟩
      · exact ⟨_,_,h.2,h.1,rfl,rfl⟩
      · exact h.elim
    · exact h.elim
  case arr sz n x i =>
    unfold arrS at h ⊢
    split at h
    · split at h
      · exact ⟨_,_,h.2,h.1,rfl,rfl⟩
      · exact h.elim
    · exact h.elim
  case bin op x y =>
    unfold binS at h ⊢
    split at h
    · obtain ⟨d,H',h1,h2⟩:=intDet h.2
      exact ⟨d,H',h1,h.1,h2⟩
    · exact strDet h
    · exact h.elim
  case aeq eq ks x y =>
    unfold aeqS at h ⊢
    split at h
    · obtain ⟨b,hb,h⟩:=bind'_ex h
      exact ⟨_,_,h,bind'_of hb ⟨rfl,rfl⟩⟩
    · exact h.elim
  case binb op x y =>
    unfold binbS at h ⊢
    split at h
    · cases op<;>simp only [boolS] at h ⊢<;>exact ⟨_,_,h,rfl,rfl⟩
    · exact h.elim
  case mkslice T sz b z l c =>
    obtain ⟨p,hp,h⟩:=bind'_ex h
    obtain ⟨q,hq,h⟩:=bind'_ex h
    exact ⟨_,_,h.2,bind'_of hp (bind'_of hq ⟨h.1,rfl,rfl⟩)⟩
  case bsl T sz len z ps =>
    obtain ⟨p,hp,h⟩:=bind'_ex h
    obtain ⟨q,hq,h⟩:=bind'_ex h
    exact ⟨_,_,h,bind'_of hp (bind'_of hq ⟨rfl,rfl⟩)⟩
  case app T sz b s x =>
    unfold appS at h ⊢
    obtain ⟨⟨m,ys⟩,hp,h⟩:=bind'_ex h
    dsimp only at h
    rw [hp]
    show ∃ d H',K d H' ∧ _
    simp only [bind'_some]
    split at h
    · rcases two_ok h with ⟨hc,hg⟩|⟨hc,hg⟩
      · exact ⟨_,_,hg,fun _=>⟨rfl,rfl⟩,fun h=>absurd hc h⟩
      · exact ⟨_,_,hg.2.2.2,fun h=>absurd h hc,fun _=>⟨hg.1,hg.2.1,hg.2.2.1,rfl,rfl⟩⟩
    · rcases two_ok h with ⟨hc,hg⟩|⟨hc,hg⟩
      · exact ⟨_,_,hg,fun _=>⟨rfl,rfl⟩,fun h=>absurd hc h⟩
      · exact ⟨_,_,hg.2.2.2,fun h=>absurd h hc,fun _=>⟨hg.1,hg.2.1,hg.2.2.1,rfl,rfl⟩⟩
    · rcases two_ok h with ⟨hc,hg⟩|⟨hc,hg⟩
      · exact ⟨_,_,hg,fun _=>⟨rfl,rfl⟩,fun h=>absurd hc h⟩
      · split at hg
        · exact ⟨_,_,hg.2.2.2.2.2,fun h=>absurd h hc,fun _=>⟨hg.1,hg.2.1,hg.2.2.1,hg.2.2.2.1,hg.2.2.2.2.1,rfl,rfl⟩⟩
        · exact hg.elim
    · exact ⟨_,_,h.2,h.1,rfl,rfl⟩
    · exact h.elim
  case sub sz E x lo hi mx =>
    obtain ⟨n,hn,h⟩:=bind'_ex h
    obtain ⟨l,hl,h⟩:=bind'_ex h
    obtain ⟨u,hu,h⟩:=bind'_ex h
    rw [hn]
    simp only [bind'_some]
    rw [hl]
    simp only [bind'_some]
    rw [hu]
    simp only [bind'_some]
    cases mx with
    | none =>
      obtain ⟨d,hd,h2⟩:=bind'_ex h.2
      exact ⟨_,_,h2,h.1,by show bind' _ _;rw [hd];exact ⟨rfl,rfl⟩⟩
    | some v=>exact ⟨_,_,h.2.2,h.1,h.2.1,rfl,rfl⟩
  case s2b x =>
    obtain ⟨p,hp,h⟩:=bind'_ex h
    exact ⟨_,_,h.2,by rw [hp];exact ⟨h.1,rfl,rfl⟩⟩
  case b2s x =>
    obtain ⟨p,hp,h⟩:=bind'_ex h
    obtain ⟨q,hq,h⟩:=bind'_ex h
    exact ⟨_,_,h.2,bind'_of hp (bind'_of hq ⟨h.1,rfl,rfl⟩)⟩
  case sidx x i =>
    obtain ⟨p,hp,h⟩:=bind'_ex h
    obtain ⟨q,hq,h⟩:=bind'_ex h
    obtain ⟨r,hr,h⟩:=bind'_ex h
    exact ⟨_,_,h,bind'_of hp (bind'_of hq (bind'_of hr ⟨rfl,rfl⟩))⟩
  case mm m x y =>
    obtain ⟨p,hp,h⟩:=bind'_ex h
    obtain ⟨q,hq,h⟩:=bind'_ex h
    exact ⟨_,_,h,bind'_of hp (bind'_of hq ⟨rfl,rfl⟩)⟩
  case call f args =>
    obtain ⟨g,caps,d0,H0,h1,h2,h3⟩:=h
    exact ⟨d0,H0,h3,g,caps,d0,H0,h1,h2,rfl,rfl⟩
  all_goals first|exact bnd h|exact h.elim
theorem stepD0_step {ts : List D} {H : List Row} {so : SOp} {K : D → List Row → Prop} (h : stepD0 P ts H so K) : stepS P ts H so K:=by
  cases so<;>simp only [stepD0] at h
  case call f args =>
    obtain ⟨g,caps,d0,H0,h1,h2,h3⟩:=h
    exact ⟨g,caps,h1,h2.mono fun d H' ⟨e1,e2⟩=>by rw [e1,e2];exact h3⟩
  all_goals first|exact h|exact h.elim
theorem stepDr_one {ts : List D} {H : List Row} {so : SOp} {K : Bool → D → List Row → Prop} (h : stepDr P ts H so K) : ∃ w d H',K w d H' ∧ stepD0 P ts H so fun d1 H1=>d1 = d ∧ H1 = H':=by
  have e : ∃ w,stepD0 P ts H so (K w):=by
    cases so
    case call f args=>exact h
    all_goals first|exact ⟨false,h⟩|exact ⟨true,h⟩
  obtain ⟨w,h⟩:=e
  exact ⟨w,stepD0_det h⟩
theorem leaves_of {w w' : World} {φ : Nat → Nat × Nat} {X : Nat → Prop} {M H' : List Row} {d : D} {v : Value} {e : Eff} (h : LeavesW P w φ X M v w' d H') (hd : e.res = d) (hH : H' = e.heap M) : Leaves P w φ X M e v w':=by
  obtain ⟨φ',ons,hh,hr⟩:=h
  subst hd;subst hH
  exact ⟨φ',ons.same,hh,hr,ons.keep,ons.fresh⟩
theorem maskH {V : List Nat} {H : List Row} : (maskV V H).length = H.length:=maskV_len
theorem wpDr_tr (hP : Good P) {ops : List Oper} {b : List Nat} {n0 : Nat} {K : St → Prop} : ∀ (rest : List Oper) (is : List SI) (i : Nat) (pre : List Rec) (own : List Nat) (s : St),resIs P ops rest = some is → wpDr P b n0 is i own (pre.map fun r=>(r.view,r.upd.map (·.1))) s K →
    ∃ recs s',Tr P ops b n0 rest i pre own s recs s' ∧ K ⟨s'.ts,s'.H,[]⟩
  | [],is,i,pre,own,s,hi,h=>by
    simp [resIs] at hi
    subst hi
    exact ⟨[],s,.nil,h⟩
  | o :: rest,is,i,pre,own,s,hi,h=>by
    simp only [resIs] at hi
    split at hi
    · rename_i it is' h1 h2
      injection hi with hi
      subst hi
      obtain ⟨e1,e2⟩:=resI_parts h1
      simp only [wpDr] at h
      obtain ⟨bb,hb,h⟩:=wantS_ok h1 h
      cases bb with
      | false =>
        rw [if_neg (by simp)] at h
        rw [e1] at h
        obtain ⟨recs,s',htr,hk⟩:=wpDr_tr hP rest is' (i + 1) (pre ++ [⟨D.undef,[],[],s.H.length,[]⟩]) own ⟨putD! s.ts o.dst D.undef,s.H,s.dirty⟩ h2 (by simpa using wpDr_dirty h)
        exact ⟨⟨D.undef,[],[],s.H.length,[]⟩ :: recs,s',.cons (r:=⟨D.undef,[],[],s.H.length,[]⟩) ⟨rfl,.inl ⟨hb,rfl,rfl,rfl,rfl⟩⟩ (by simpa [applyUpd] using htr),hk⟩
      | true =>
        rw [if_pos rfl] at h
        obtain ⟨w,d,H',⟨hH,hchk,hk⟩,hdet⟩:=stepDr_one h
        obtain ⟨V,hV⟩ : ∃ V,V = viewS s.ts s.H it.op:=⟨_,rfl⟩
        rw [← hV] at hH hchk hk hdet
        obtain ⟨e,he⟩ : ∃ e,e = effS w V s.H.length d H':=⟨_,rfl⟩
        rw [← he] at hH hchk hk
        have hres : e.res = d:=by rw [he];rfl
        unfold Chk chkS at hchk
        simp only [Bool.and_eq_true,List.all_eq_true,decide_eq_true_eq] at hchk
        obtain ⟨⟨⟨⟨⟨c1,c2⟩,c3⟩,c4⟩,c5⟩,c6⟩:=hchk
        rw [maskH] at c4
        have hraw : ∃ so,resOp? P o = some so ∧ it.op = so:=by
          rw [e2]
          unfold resOp
          cases hr : resOp? P o with
          | some so=>exact ⟨so,rfl,rfl⟩
          | none =>
            exfalso
            rw [e2] at hdet
            unfold resOp at hdet
            rw [hr] at hdet
            exact hdet
        obtain ⟨so,hso,hop⟩:=hraw
        rw [hop] at hdet c2
        have step : StepOk P s.ts (maskV V s.H) o ⟨e.res,e.upd,e.news⟩:=by
          intro ts' heq w φ X a hM hts
          have hv : ∀ v ∈ so.vs,v.ev ts' = v.ev s.ts:=vs_same hso heq
          have h3 : stepD0 P ts' (maskV V s.H) so fun d1 H1=>d1 = d ∧ H1 = H':=by rw [stepD0_congr hv];exact hdet
          have h4:=stepS_ok hP hM hts hso (stepD0_step h3)
          refine OpOk.mono h4 ?_
          rintro v w' ⟨d1,H1,⟨rfl,rfl⟩,hl⟩
          exact leaves_of hl hres hH
        have hin : inOk n0 own (b.getD i 0) s.ts (maskV V s.H) o = true:=by
          unfold inOk
          rw [Bool.and_eq_true]
          refine ⟨?_,List.all_eq_true.2 fun r hr=>List.all_eq_true.2 (c3 r hr)⟩
          simp only [List.all_eq_true]
          intro x hx q hq
          obtain ⟨v,hv,hsv⟩:=vs_all hso x (by simpa using hx)
          rw [← sv_ok hsv] at hq
          exact c2 _ (List.mem_map.2 ⟨v,hv,rfl⟩) q hq
        obtain ⟨recs,s',htr,hk'⟩:=wpDr_tr hP rest is' (i + 1) (pre ++ [⟨e.res,e.upd,e.news,s.H.length,V⟩]) (own ++ e.news.map fun _=>i) ⟨putD! s.ts o.dst e.res,applyUpd s.H e.upd ++ e.news,e.upd.map (·.1) ++ s.dirty⟩ h2 (by
          rw [hres,← e1]
          simpa [Eff.heap] using wpDr_dirty hk)
        refine ⟨_,s',.cons ⟨rfl,.inr ⟨hb,step,c1,fun p hp=>?_,fun j q hq=>?_,hin,c4⟩⟩ htr,hk'⟩
        · have:=c5 p hp
          rw [maskH] at this
          exact ⟨by simpa using this.1,this.2⟩
        · have:=okPairs_spec c6 j (q.view,q.upd.map (·.1)) (by rw [List.getElem?_map,hq];rfl)
          rw [Nat.zero_add] at this
          refine this.imp id (fun ⟨g1,g2⟩=>⟨fun p hp=>g1 p.1 (List.mem_map.2 ⟨p,hp,rfl⟩),fun p hp=>g2 p.1 (List.mem_map.2 ⟨p,hp,rfl⟩)⟩)
    · cases hi
where
  wpDr_dirty {P : Program} {b : List Nat} {n0 : Nat} {K : St → Prop} {is : List SI} {i : Nat} {own : List Nat} {log : List (List Nat × List Nat)} {ts : List D} {H : List Row} {d1 d2 : List Nat} (h : wpDr P b n0 is i own log ⟨ts,H,d1⟩ K) : wpDr P b n0 is i own log ⟨ts,H,d2⟩ K:=by
    cases is with
    | nil=>exact h
    | cons o rest=>simpa only [wpDr] using h
  vs_same {P : Program} {o : Oper} {so : SOp} (h : resOp? P o = some so) {ts ts' : List D} (heq : ∀ x ∈ o.op.operands,eval ts' x = eval ts x) : ∀ v ∈ so.vs,v.ev ts' = v.ev ts:=by
    intro v hv
    obtain ⟨x,hx,hsv⟩:=vs_from h v hv
    rw [sv_ok hsv,sv_ok hsv,heq x hx]
theorem draw_wp (hP : Good P) {X : Nat → Prop} {id : Nat} {ops : Array Oper} {is : List SI} {Q : Exit → Act → World → Prop} {w0 w : World} {φ0 φ : Nat → Nat × Nat} {H0 : List Row} {s : St} {a : Act} {K : St → Prop}
    (hi : resIs P ops.toList ops.toList = some is) (hd : drawOk ops.toList (Region.before ops).toList = true) (hw : wpDr P (Region.before ops).toList s.H.length is 0 [] [] s K) (h : RunW P X w0 φ0 H0 w φ s a)
    (hQ : ∀ s' a' w' φ',K s' → RunW P X w0 φ0 H0 w' φ' s' a' → Q .normal a' w') : (Code.region id ops true).wp P Q a w:=by
  obtain ⟨recs,s',htr,hk⟩:=wpDr_tr hP ops.toList is 0 [] [] s hi hw
  refine draw_tr (X:=X) hP hd htr ⟨h.sim,Ons.refl _ _ _ _,fun r row hr=>(h.sim.heap.rows r row hr).isLow,fun _ _ _=>rfl⟩ (fun a' w' φ' hr=>hQ ⟨s'.ts,s'.H,[]⟩ a' w' φ' hk ⟨⟨hr.sim.heap,hr.sim.tmps,hr.sim.defers⟩,h.ons.trans hr.ons⟩)
end
end Go.Proofs.YtgbbpelfpagdoaaGreatDoor.Mir
namespace Go.Proofs.YtgbbpelfpagdoaaGreatDoor.Mir
open Go Go.RowKit
inductive SCode where
  | ops (l : List SI)
  | drw (l : List SI) (b : List Nat)
  | seq (a b : SCode)
  | cond (c : SV) (a b : SCode)
  | block (id : Nat) (a : SCode)
  | loop (a : SCode)
  | exit (id : Nat)
  | ret
  | skip
  | other (c : Code)
def SI.a (t : Nat) (o : SOp) : SI:=⟨some t,o,none⟩
def SI.n (o : SOp) : SI:=⟨none,o,none⟩
def SI.g (d : Option Nat) (o : SOp) (t : Nat) (w : Bool) : SI:=⟨d,o,some (t,w)⟩
theorem wpS_nil {P : Program} {s : St} {K : St → Prop} : wpS P [] s K = K s:=id rfl
theorem wpS_a {P : Program} {t : Nat} {o : SOp} {l : List SI} {ts : List D} {H : List Row} {dr : List Nat} {K : St → Prop} : wpS P (.a t o :: l) ⟨ts,H,dr⟩ K = stepS P ts H o fun d H'=>wpS P l ⟨ts.set t d,H',[]⟩ K:=id rfl
theorem wpS_n {P : Program} {o : SOp} {l : List SI} {ts : List D} {H : List Row} {dr : List Nat} {K : St → Prop} : wpS P (.n o :: l) ⟨ts,H,dr⟩ K = stepS P ts H o fun d H'=>wpS P l ⟨ts,H',[]⟩ K:=id rfl
def wantV (d : Option D) (w : Bool) (p q : Prop) : Prop:=match d with
  | some (.f (.v (.bool b)))=>if w then Bsel b p q else Bsel b q p
  | some (.tp _)=>q
  | _=>False
@[congr] theorem wantV_congr {d d' : Option D} {w : Bool} {p q : Prop} (h : d = d') : wantV d w p q = wantV d' w p q:=by rw [h]
theorem wpS_g {P : Program} {d : Option Nat} {o : SOp} {t : Nat} {w : Bool} {l : List SI} {ts : List D} {H : List Row} {dr : List Nat} {K : St → Prop} : wpS P (.g d o t w :: l) ⟨ts,H,dr⟩ K = wantV ts[t]? w (stepS P ts H o fun r H'=>wpS P l ⟨putD! ts d r,H',[]⟩ K) (wpS P l ⟨putD! ts d D.undef,H,[]⟩ K):=id rfl
@[congr] theorem wpS_congr {P : Program} {l : List SI} {s s' : St} {K : St → Prop} (h : s = s') : wpS P l s K = wpS P l s' K:=by rw [h]
@[congr] theorem binS_congr {op : BinOp} {a a' b b' : D} {K : D → Prop} (h : a = a') (g : b = b') : binS op a b K = binS op a' b' K:=by rw [h,g]
@[congr] theorem aeqS_congr {eq : Bool} {ks : List Nat} {a a' b b' : D} {K : D → Prop} (h : a = a') (g : b = b') : aeqS eq ks a b K = aeqS eq ks a' b' K:=by rw [h,g]
@[congr] theorem binbS_congr {op : BinOp} {a a' b b' : D} {K : D → Prop} (h : a = a') (g : b = b') : binbS op a b K = binbS op a' b' K:=by rw [h,g]
@[congr] theorem idxS_congr {sz : Nat} {a a' b b' : D} {K : D → Prop} (h : a = a') (g : b = b') : idxS sz a b K = idxS sz a' b' K:=by rw [h,g]
@[congr] theorem pickS_congr {a a' : D} {p q : Prop} (h : a = a') : pickS a p q = pickS a' p q:=by rw [h]
@[congr] theorem appS_congr {H H' : List Row} {T : TypeId} {sz b : Nat} {s s' x x' : D} {K : D → List Row → Prop} (h : H = H') (g : s = s') (k : x = x') : appS H T sz b s x K = appS H' T sz b s' x' K:=by rw [h,g,k]
def compC (P : Program) : Code → SCode
  | .region id ops false=>match resIs P ops.toList ops.toList with
    | some l=>.ops l
    | none=>.other (.region id ops false)
  | .region id ops true=>match resIs P ops.toList ops.toList with
    | some l=>if drawOk ops.toList (Region.before ops).toList = true then .drw l (Region.before ops).toList else .other (.region id ops true)
    | none=>.other (.region id ops true)
  | .seq a b=>.seq (compC P a) (compC P b)
  | .cond c a b=>match sv c with
    | some v=>.cond v (compC P a) (compC P b)
    | none=>.other (.cond c a b)
  | .block id a=>.block id (compC P a)
  | .loop a=>.loop (compC P a)
  | .exit id=>.exit id
  | .ret=>.ret
  | .skip=>.skip
  | .label _=>.skip
  | c=>.other c
section
variable {P : Program}
theorem wpS_ok (hP : Good P) {X : Nat → Prop} {ops : Array Oper} {Q : Exit → Act → World → Prop} {w0 : World} {φ0 : Nat → Nat × Nat} {H0 : List Row} {K : St → Prop} : ∀ (rest : List Oper) (is : List SI) (k : Nat) (s : St) (w : World) (φ : Nat → Nat × Nat) (a : Act),(∀ j,rest[j]? = ops[k + j]?) →
    resIs P ops.toList rest = some is → wpS P is s K → RunW P X w0 φ0 H0 w φ s a → (∀ s' a' w' φ',K s' → RunW P X w0 φ0 H0 w' φ' s' a' → Q .normal a' w') → wpOps P ops Q (List.range' k rest.length) a w
  | [],is,k,s,w,φ,a,_,hi,hr,hs,hQ=>by
    simp [resIs] at hi
    subst hi
    exact hQ s a w φ hr hs
  | o :: rest,is,k,s,w,φ,a,hk,hi,hr,hs,hQ=>by
    simp only [resIs] at hi
    split at hi
    · rename_i i is' h1 h2
      injection hi with hi
      subst hi
      have ho : ops[k]? = some o:=by have:=hk 0;simpa using this.symm
      have hk' : ∀ j,rest[j]? = ops[k + 1 + j]?:=fun j=>by have:=hk (j + 1);simpa [Nat.add_assoc,Nat.add_comm 1 j] using this
      simp only [List.length_cons,List.range'_succ,wpOps,ho]
      obtain ⟨e1,e2⟩:=resI_parts h1
      simp only [wpS] at hr
      obtain ⟨b,hb,hr⟩:=wantS_ok h1 hr
      rw [wanted_ok hs.sim.tmps hb]
      cases b with
      | true =>
        rw [if_pos rfl] at hr ⊢
        rw [e1,e2] at hr
        refine .inl (resOp_ok hP hs.sim.heap hs.sim.tmps hr _ _ ?_)
        rintro v w' ⟨d,H',h3,h4⟩
        obtain ⟨φ',h5⟩:=hs.step h4 o.dst
        exact wpS_ok hP rest is' (k + 1) _ w' φ' _ hk' h2 h3 h5 hQ
      | false =>
        rw [if_neg (by simp)] at hr ⊢
        rw [e1] at hr
        exact wpS_ok hP rest is' (k + 1) _ w φ _ hk' h2 hr (hs.skip o.dst) hQ
    · cases hi
def HS (P : Program) (n0 : Nat) (c : SCode) (s : St) (Q : Out → St → Prop) : Prop:=∀ k,compC P k = c → HC P n0 k s Q
variable {n0 : Nat} {s : St} {Q : Out → St → Prop}
theorem HS.ops (hP : Good P) {l : List SI} (h : wpS P l s (Q .normal)) : HS P n0 (.ops l) s Q:=by
  intro k hk X w0 φ0 H0 w φ a K _ hr hK
  cases k with
  | region id ops draw =>
    cases draw with
    | true=>simp only [compC] at hk;split at hk<;>first|cases hk|(split at hk<;>cases hk)
    | false =>
      simp only [compC] at hk
      split at hk
      · rename_i l' hl
        injection hk with hk
        subst hk
        refine wp_region ?_
        rw [List.range_eq_range',← Array.length_toList]
        exact wpS_ok hP ops.toList l' 0 s w φ a (fun j=>by simp) hl h hr (fun s' a' w' φ' hq hr'=>hK .normal s' w' φ' a' hq hr')
      · cases hk
  | cond c a b=>simp only [compC] at hk;split at hk<;>cases hk
  | _=>simp [compC] at hk
theorem HS.drw (hP : Good P) {l : List SI} {b : List Nat} (h : ∀ K : St → Prop,(∀ s',Q .normal s' → K s') → wpDr P b s.H.length l 0 [] [] s K) : HS P n0 (.drw l b) s Q:=by
  intro k hk X w0 φ0 H0 w φ a K _ hr hK
  cases k with
  | region id ops draw =>
    cases draw with
    | false=>simp only [compC] at hk;split at hk<;>cases hk
    | true =>
      simp only [compC] at hk
      split at hk
      · rename_i l' hl
        split at hk
        · rename_i hd
          injection hk with h1 h2
          subst h1;subst h2
          exact draw_wp hP hl hd (h (Q .normal) fun _ h=>h) hr (fun s' a' w' φ' hq hr'=>hK .normal s' w' φ' a' hq hr')
        · cases hk
      · cases hk
  | cond c a b=>simp only [compC] at hk;split at hk<;>cases hk
  | _=>simp [compC] at hk
theorem HS.seq {x y : SCode} (h : HS P n0 x s (thenQ (fun s'=>HS P n0 y s' Q) Q)) : HS P n0 (.seq x y) s Q:=by
  intro k hk
  cases k with
  | seq a b =>
    simp only [compC] at hk
    injection hk with h1 h2
    refine HC.seq ((h a h1).mono ?_)
    intro o s' hq
    cases o with
    | normal=>exact hq b h2
    | exit i=>exact hq
    | ret=>exact hq
  | region id ops draw=>cases draw<;>simp only [compC] at hk<;>first|(split at hk<;>first|cases hk|(split at hk<;>cases hk))|cases hk
  | cond c a b=>simp only [compC] at hk;split at hk<;>cases hk
  | _=>simp [compC] at hk
theorem HS.block {id : Nat} {x : SCode} (h : HS P n0 x s (blockQ id Q)) : HS P n0 (.block id x) s Q:=by
  intro k hk
  cases k with
  | block i a =>
    simp only [compC] at hk
    injection hk with h1 h2
    subst h1
    exact HC.block (h a h2)
  | region id ops draw=>cases draw<;>simp only [compC] at hk<;>first|(split at hk<;>first|cases hk|(split at hk<;>cases hk))|cases hk
  | cond c a b=>simp only [compC] at hk;split at hk<;>cases hk
  | _=>simp [compC] at hk
theorem HS.cond {c : SV} {x y : SCode} (h : condW (c.ev s.ts) (HS P n0 x s Q) (HS P n0 y s Q)) : HS P n0 (.cond c x y) s Q:=by
  intro k hk
  cases k with
  | cond c' a b =>
    simp only [compC] at hk
    split at hk
    · rename_i v hv
      injection hk with h1 h2 h3
      subst h1
      refine HC.cond ?_
      rw [← sv_ok hv]
      unfold condW at h ⊢
      split at h
      · exact ⟨fun e=>h.1 e a h2,fun e=>h.2 e b h3⟩
      · exact h.elim
    · cases hk
  | region id ops draw=>cases draw<;>simp only [compC] at hk<;>first|(split at hk<;>first|cases hk|(split at hk<;>cases hk))|cases hk
  | _=>simp [compC] at hk
theorem HS.exit {id : Nat} (h : Q (.exit id) s) : HS P n0 (.exit id) s Q:=by
  intro k hk
  cases k with
  | exit i=>simp only [compC] at hk;injection hk with h1;subst h1;exact HC.exit h
  | region id ops draw=>cases draw<;>simp only [compC] at hk<;>first|(split at hk<;>first|cases hk|(split at hk<;>cases hk))|cases hk
  | cond c a b=>simp only [compC] at hk;split at hk<;>cases hk
  | _=>simp [compC] at hk
theorem HS.ret (h : Q .ret s) : HS P n0 .ret s Q:=by
  intro k hk
  cases k with
  | ret=>exact HC.ret h
  | region id ops draw=>cases draw<;>simp only [compC] at hk<;>first|(split at hk<;>first|cases hk|(split at hk<;>cases hk))|cases hk
  | cond c a b=>simp only [compC] at hk;split at hk<;>cases hk
  | _=>simp [compC] at hk
theorem HS.skip (h : Q .normal s) : HS P n0 .skip s Q:=by
  intro k hk
  cases k with
  | skip=>exact HC.skip h
  | label l=>exact HC.label h
  | region id ops draw=>cases draw<;>simp only [compC] at hk<;>first|(split at hk<;>first|cases hk|(split at hk<;>cases hk))|cases hk
  | cond c a b=>simp only [compC] at hk;split at hk<;>cases hk
  | _=>simp [compC] at hk
theorem HS.view {c : SCode} {s' : St} (hv : View P n0 s s') (h : HS P n0 c s' Q) : HS P n0 c s Q:=fun k hk=>(h k hk).view hv
theorem HS.mono {c : SCode} {Q' : Out → St → Prop} (h : HS P n0 c s Q) (hq : ∀ o s',Q o s' → Q' o s') : HS P n0 c s Q':=fun k hk=>(h k hk).mono hq
end
end Go.Proofs.YtgbbpelfpagdoaaGreatDoor.Mir
