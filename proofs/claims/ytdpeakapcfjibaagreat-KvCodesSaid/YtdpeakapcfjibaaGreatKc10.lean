/- Texts laid into one file: MirSum, MirExtQ, Has, KvKn, KvC, KvCodesIn. -/
import Derived.Test.YtdpeakapcfjibaaGreatKc09
set_option linter.unusedVariables false
set_option linter.unusedSimpArgs false
namespace Go.Proofs.YtdpeakapcfjibaaGreat.Mir
open Go Go.RowKit
def byteF : F → Option UInt8
  | .v (.int .u8 (.ofNat k))=>match Nat.blt k 256 with
    | true=>some (UInt8.ofNat k)
    | false=>none
  | _=>none
def bytesF : List F → Option (List UInt8)
  | []=>some []
  | x :: xs=>match byteF x with
    | some b=>match bytesF xs with
      | some bs=>some (b :: bs)
      | none=>none
    | none=>none
abbrev u8F (b : UInt8) : F:=.v (.int .u8 (b.toNat : Nat))
theorem byteF_ok {x : F} {b : UInt8} (h : byteF x = some b) : x = u8F b:=by
  unfold byteF at h
  split at h
  · rename_i k
    split at h
    · rename_i hk
      cases h
      have hk : k < 256:=Nat.blt_eq.mp hk
      have : (UInt8.ofNat k).toNat = k:=by simp;omega
      rw [u8F,this];rfl
    · cases h
  · cases h
theorem bytesF_ok : ∀ {xs : List F} {bs : List UInt8},bytesF xs = some bs → xs = bs.map u8F
  | [],bs,h=>by cases h;rfl
  | x :: xs,bs,h=>by
    unfold bytesF at h
    split at h
    · rename_i b hb
      split at h
      · rename_i cs hcs
        cases h
        rw [byteF_ok hb,bytesF_ok hcs];rfl
      · cases h
    · cases h
def bytesD (H : List Row) : D → Option (List UInt8)
  | .f (.v (.slice none 0 0))=>some []
  | .f .e=>some []
  | .f (.s xs n)=>match Nat.beq xs.length n with
    | true=>bytesF xs
    | false=>none
  | .sl r off n=>match Nat.beq n 0 with
    | true=>some []
    | false=>match H[r]? with
      | some (.data _ xs)=>match Nat.ble (off + n) xs.length with
        | true=>bytesF ((xs.drop off).take n)
        | false=>none
      | some (.froz _ xs)=>match Nat.ble (off + n) xs.length with
        | true=>bytesF ((xs.drop off).take n)
        | false=>none
      | _=>none
  | _=>none
def tabV (d m : Int) (ws : List Nat) : List Value:=[Value.int .u32 d,.int .i32 0,.int .u32 0,.int .i64 m] ++ ws.map (fun n : Nat=>Value.int .u32 n)
def tabD (d m : Int) (ws : List Nat) : List D:=(tabV d m ws).map fun v=>.f (.v v)
def eqW : List D → List Nat → Bool
  | [],[]=>true
  | .f (.v (.int .u32 (.ofNat k))) :: ds,n :: ns=>match Nat.beq k n with
    | true=>eqW ds ns
    | false=>false
  | _,_=>false
theorem eqW_eq : ∀ {ds : List D} {ns : List Nat},eqW ds ns = true → ds = ns.map fun n : Nat=>.f (.v (.int .u32 n))
  | [],[],_=>rfl
  | d :: ds,n :: ns,h=>by
    unfold eqW at h
    split at h
    · rename_i heq;cases heq
    · rename_i k es n' ns' h1 h2
      cases h1;cases h2
      split at h
      · rename_i hk
        obtain rfl:=Nat.eq_of_beq_eq_true hk
        rw [eqW_eq h];rfl
      · cases h
    · cases h
  | [],n :: ns,h=>by simp [eqW] at h
  | d :: ds,[],h=>by cases d<;>simp [eqW] at h
def fromW (b m : Bool) : Option Bool:=match b with
  | true=>some m
  | false=>none
theorem fromW_eq {b m m' : Bool} (h : fromW b m = some m') : b = true ∧ m' = m:=by
  cases b
  · cases h
  · cases h;exact ⟨rfl,rfl⟩
def madeOf : List D → Option Bool
  | .f (.v (.int .u32 (.ofNat d))) :: .f (.v (.int .i32 (.ofNat 0))) :: .f (.v (.int .u32 (.ofNat 0))) :: .f (.v (.int .i64 (.ofNat m))) :: ws=>match d,m with
    | 1,1=>fromW (eqW ws tab256) true
    | 0,0=>fromW (eqW ws zeros256) false
    | _,_=>none
  | _=>none
def tabOf : Bool → List D
  | true=>tabD 1 1 tab256
  | false=>tabD 0 0 zeros256
theorem madeOf_ok {cs : List D} {m : Bool} (h : madeOf cs = some m) : cs = tabOf m:=by
  unfold madeOf at h
  split at h
  · rename_i d k ws
    split at h
    · obtain ⟨he,rfl⟩:=fromW_eq h
      rw [eqW_eq he]
      simp only [tabOf,tabD,tabV,List.map_append,List.map_map]
      rfl
    · obtain ⟨he,rfl⟩:=fromW_eq h
      rw [eqW_eq he]
      simp only [tabOf,tabD,tabV,List.map_append,List.map_map]
      rfl
    · cases h
  · cases h
def sumG : List D → List Row → Option Eff
  | [.pt r 0,d],H=>match H[r]? with
    | some (.box T cs)=>match Nat.beq T 198 with
      | true=>match madeOf cs with
        | some m=>match bytesD H d with
          | some bs=>match Nat.ble bs.length 16777216 with
            | true=>some ⟨.f (.v (.int .u32 (crcN bs : Nat))),(match m with|true=>[]|false=>[(r,.box 198 (tabD 1 1 tab256))]),[]⟩
            | false=>none
          | none=>none
        | none=>none
      | false=>none
    | _=>none
  | _,_=>none
theorem two_args {P : Program} {w : World} {φ : Nat → Nat × Nat} {A : Nat → Prop} {N : Nat} {d e : D} {vs : Array Value} (h : Rs P w φ A N [d,e] vs.toList) : ∃ u v,vs = #[u,v] ∧ R P w φ A N d u ∧ R P w φ A N e v:=by
  obtain ⟨l⟩:=vs
  obtain ⟨h1,h2⟩:=h
  match l,h1 with
  | [u,v],_=>exact ⟨u,v,rfl,h2 0 d u rfl rfl,h2 1 e v rfl rfl⟩
theorem Rs.vals {P : Program} {w : World} {φ : Nat → Nat × Nat} {A : Nat → Prop} {N : Nat} {l us : List Value} (h : Rs P w φ A N (l.map fun v=>D.f (.v v)) us) : us = l:=by
  obtain ⟨h1,h2⟩:=h
  rw [List.length_map] at h1
  refine List.ext_getElem h1 fun i hi hj=>?_
  have:=h2 i (.f (.v l[i])) us[i] (by rw [List.getElem?_map,List.getElem?_eq_getElem hj];rfl) (List.getElem?_eq_getElem hi)
  generalize us[i] = u at this ⊢
  generalize l[i] = x at this ⊢
  cases this with|f h=>cases h with|v _=>rfl
theorem Rs.ofvals {P : Program} {w : World} {φ : Nat → Nat × Nat} {A : Nat → Prop} {N : Nat} {l : List Value} (h : ∀ v ∈ l,v.oneCell' = true) : Rs P w φ A N (l.map fun v=>D.f (.v v)) l:=by
  refine ⟨by rw [List.length_map],fun i d u hd hu=>?_⟩
  rw [List.getElem?_map,hu] at hd
  cases hd
  exact .f (.v (h u (List.mem_of_getElem? hu)))
theorem set_same {α : Type} {l : List α} {r : Nat} {x : α} (h : l[r]? = some x) : l.set r x = l:=by
  apply List.ext_getElem?
  intro i
  rw [List.getElem?_set]
  split
  · rename_i e
    subst e
    rw [if_pos (List.getElem?_eq_some_iff.1 h).1,h]
  · rfl
theorem RFs.bytes {w : World} {A : Nat → Prop} {bs : List UInt8} {us : List Value} (h : RFs w A (bs.map u8F) us) : us = u8s bs:=by
  obtain ⟨h1,h2⟩:=h
  rw [List.length_map] at h1
  refine List.ext_getElem (by rw [u8s,List.length_map];exact h1) fun i hi hj=>?_
  have hb : i < bs.length:=by omega
  have:=h2 i (u8F bs[i]) us[i] (by rw [List.getElem?_map,List.getElem?_eq_getElem hb];rfl) (List.getElem?_eq_getElem hi)
  simp only [u8s,List.getElem_map]
  generalize us[i] = u at this
  cases this with|v _=>rfl
section
variable {P : Program} {w w' : World} {φ : Nat → Nat × Nat} {X : Nat → Prop} {H : List Row}
theorem bytes_in (hH : HR P w φ X H) {d : D} {v : Value} (hd : R P w φ (Av X φ H) H.length d v) {bs : List UInt8} (hb : bytesD H d = some bs) {q : Nat} {row : Row} (hq : H[q]? = some row) (hl : row.live = true) (hnd : ∀ T xs,row ≠ .data T xs) :
    ∃ a c,v = .slice a bs.length c ∧ Rd w a (u8s bs) ∧ (bs ≠ [] → ∀ ad,a = some ad → ad.block ≠ (φ q).1):=by
  have hlive : Av X φ H (φ q).1:=.inr (live_of hq hl)
  unfold bytesD at hb
  split at hb
  · cases hb
    cases hd with|f h=>cases h with|v _ =>
    exact ⟨none,0,rfl,Rd.nil _ _,fun h=>absurd rfl h⟩
  · cases hb
    cases hd with|f h=>cases h with|e =>
    exact ⟨_,0,rfl,Rd.nil _ _,fun h=>absurd rfl h⟩
  · rename_i xs n
    split at hb
    · rename_i hn
      obtain rfl:=Nat.eq_of_beq_eq_true hn
      have hx:=bytesF_ok hb
      cases hd with|f h =>
      cases h with
      | s cs hn2 hlen hc hr =>
        have hcs : cs = u8s bs:=RFs.bytes (w:=w) (A:=Av X φ H) (by rw [← hx];exact ⟨hlen,hr⟩)
        refine ⟨_,_,by rw [hx,List.length_map],.inr ⟨_,rfl,fun j u hu=>(hc j u (by rw [hcs];exact hu)).1⟩,fun hne ad had=>?_⟩
        cases had
        rintro rfl'
        obtain ⟨b,bs',rfl⟩:=List.exists_cons_of_ne_nil hne
        exact (hc 0 (.int .u8 (b.toNat : Nat)) (by rw [hcs];rfl)).2 (by rw [rfl'];exact hlive)
      | s0 =>
        cases hb
        exact ⟨none,0,rfl,Rd.nil _ _,fun h=>absurd rfl h⟩
    · cases hb
  · rename_i r off n
    split at hb
    · rename_i hn
      obtain rfl:=Nat.eq_of_beq_eq_true hn
      cases hb
      cases hd with
      | sl _ _ _ _ _=>exact ⟨_,_,rfl,Rd.nil _ _,fun h=>absurd rfl h⟩
      | sl0 _=>exact ⟨_,_,rfl,Rd.nil _ _,fun h=>absurd rfl h⟩
    · rename_i hn
      have hn0 : n ≠ 0:=fun e=>by rw [e] at hn;cases hn
      have key : ∀ {pre us post xs : List Value} {fs : List F} {T : TypeId} {fr : Nat × Nat},w.heap[(φ r).1]? = some (.cells (pre ++ us ++ post).toArray T fr) → pre.length = (φ r).2 → RFs w (Av X φ H) fs us → off + n ≤ fs.length → bytesF ((fs.drop off).take n) = some bs →
          (φ r).1 ≠ (φ q).1 → ∃ a c,v = .slice a bs.length c ∧ Rd w a (u8s bs) ∧ (bs ≠ [] → ∀ ad,a = some ad → ad.block ≠ (φ q).1):=by
        intro pre us post _ fs T fr hb1 hp hrf hle hbs hne
        have hx:=bytesF_ok hbs
        have hlen : bs.length = n:=by
          have:=congrArg List.length hx
          rw [List.length_map,List.length_take,List.length_drop] at this
          omega
        have hus : (us.drop off).take n = u8s bs:=by
          apply RFs.bytes (w:=w) (A:=Av X φ H)
          rw [← hx]
          refine ⟨by rw [List.length_take,List.length_drop,List.length_take,List.length_drop,hrf.1],fun i x u hxi hui=>?_⟩
          rw [List.getElem?_take] at hxi hui
          split at hxi
          · rename_i hi
            rw [if_pos hi] at hui
            rw [List.getElem?_drop] at hxi hui
            exact hrf.2 _ _ _ hxi hui
          · cases hxi
        cases hd with
        | sl _ hcap hcells hi hsz =>
          refine ⟨_,_,by rw [hlen],.inr ⟨_,rfl,fun j u hu=>?_⟩,fun _ ad had=>by cases had;exact hne⟩
          rw [← hus,List.getElem?_take] at hu
          split at hu
          · rename_i hj
            rw [List.getElem?_drop] at hu
            have hlt : off + j < us.length:=(List.getElem?_eq_some_iff.1 hu).1
            have hadd : (⟨(φ r).1,(φ r).2 + off,none⟩ : Addr).add j = ⟨(φ r).1,(φ r).2 + off + j,none⟩:=by simp [Addr.add]
            rw [hadd,cellH hb1]
            simp only [List.getElem?_toArray]
            rw [List.getElem?_append_left (by rw [List.length_append];omega),List.getElem?_append_right (by omega),← hu]
            congr 1;omega
          · cases hu
        | sl0 _=>exact absurd rfl hn0
      split at hb
      · rename_i T xs hrow
        split at hb
        · rename_i hle
          obtain ⟨pre,us,post,g1,g2,g3⟩:=hH.rows r _ hrow (fun e=>by subst e;have:=Nat.le_of_ble_eq_true hle;simp at this;omega)
          refine key (xs:=[]) g1 g2 g3 (Nat.le_of_ble_eq_true hle) hb fun e=>?_
          have:=hH.apart r q _ _ hrow hq (live_data (fun e=>by subst e;have:=Nat.le_of_ble_eq_true hle;simp at this;omega)) hl e
          subst this
          rw [hrow] at hq
          cases hq
          exact hnd _ _ rfl
        · cases hb
      · rename_i T xs hrow
        split at hb
        · rename_i hle
          obtain ⟨g0,pre,us,post,fr,g1,g2,g3⟩:=hH.rows r _ hrow
          refine key (xs:=[]) g1 g2 g3 (Nat.le_of_ble_eq_true hle) hb fun e=>g0 (by rw [e];exact hlive)
        · cases hb
      · cases hb
  · cases hb
end
theorem sum_ok : Sound Tryz.prog 139 sumG:=by
  intro args H e hg w φ X vs hH hargs
  unfold sumG at hg
  split at hg
  · rename_i r d
    split at hg
    · rename_i T cs hrow
      split at hg
      · rename_i hT
        obtain rfl:=Nat.eq_of_beq_eq_true hT
        split at hg
        · rename_i m hm
          split at hg
          · rename_i bs hbs
            split at hg
            · rename_i hlen
              cases hg
              obtain ⟨u,v,rfl,hu,hv⟩:=two_args hargs
              cases hu with|pt hrl =>
              obtain ⟨h0,cs',h1,h2,h3⟩:=hH.rows r _ hrow
              have hcs:=madeOf_ok hm
              have hts : TS w (φ r).1 m ∧ cs'.size = 260:=by
                cases m
                · have : cs'.toList = tabV 0 0 zeros256:=by rw [hcs] at h2;exact Rs.vals h2
                  refine ⟨⟨by rw [zeros256,List.length_replicate],h1.trans ?_⟩,by rw [← Array.length_toList,this,tabV,List.length_append,List.length_map,zeros256,List.length_replicate];rfl⟩
                  rw [← Array.toArray_toList (xs:=cs'),this];rfl
                · have : cs'.toList = tabV 1 1 tab256:=by rw [hcs] at h2;exact Rs.vals h2
                  refine ⟨⟨by rw [tab256,List.length_map,List.length_range],h1.trans ?_⟩,by rw [← Array.length_toList,this,tabV,List.length_append,List.length_map,tab256,List.length_map,List.length_range];rfl⟩
                  rw [← Array.toArray_toList (xs:=cs'),this];rfl
              obtain ⟨a,c,rfl,hrd,hne⟩:=bytes_in hH hv hbs hrow rfl (fun _ _ h=>by cases h)
              rw [h0]
              refine (sum_any (φ r).1 m a c bs w hts.1 hrd hne (by have:=Nat.le_of_ble_eq_true hlen;omega)).mono ?_
              rintro e w' ⟨rfl,hts',ch⟩
              have hc' : w'.heap[(φ r).1]? = some (.cells (tabV 1 1 tab256).toArray 198 (0,0)):=hts'.2
              have hk : Keep (fun b=>true = true ∧ b = (φ r).1) w w':=by
                refine ⟨ch.size,fun b hb hn=>ch.block b hb (fun e=>hn ⟨rfl,e⟩),fun b cs T fr hc=>?_,ch.os,ch.tape,ch.output⟩
                by_cases hbr : b = (φ r).1
                · subst hbr
                  rw [h1] at hc
                  cases hc
                  refine ⟨_,_,hc',?_⟩
                  rw [hts.2,List.size_toArray,tabV,List.length_append,List.length_map,tab256,List.length_map,List.length_range];rfl
                · exact ⟨cs,fr,(ch.block b (block_lt hc) hbr).trans hc,rfl⟩
              have hone : ∀ v ∈ tabV 1 1 tab256,v.oneCell' = true:=by
                intro v hv
                rcases List.mem_append.1 hv with hv|hv
                · simp only [List.mem_cons,List.not_mem_nil,or_false] at hv
                  rcases hv with rfl|rfl|rfl|rfl<;>rfl
                · obtain ⟨n,_,rfl⟩:=List.mem_map.1 hv
                  rfl
              obtain ⟨t1,t2,_⟩:=hH.turn (row':=.box 198 (tabD 1 1 tab256)) hrow hk (fun _=>rfl) (fun _=>⟨h0,_,hc',Rs.ofvals hone,fun u hu=>hone u (by simpa using hu)⟩)
              cases m
              · exact ⟨_,rfl,φ,fun _ _=>rfl,by simpa [Eff.heap,applyUpd] using t1,.f (.v rfl),hk.mono (fun b _ hb=>by rw [hb.2];exact live_of hrow rfl),by simpa [Eff.heap,applyUpd] using t2⟩
              · have hset : H.set r (.box 198 (tabD 1 1 tab256)) = H:=by
                  rw [hcs] at hrow
                  exact set_same hrow
                rw [hset] at t1 t2
                exact ⟨_,rfl,φ,fun _ _=>rfl,by simpa [Eff.heap,applyUpd] using t1,.f (.v rfl),hk.mono (fun b _ hb=>by rw [hb.2];exact live_of hrow rfl),by simpa [Eff.heap,applyUpd] using t2⟩
            · cases hg
          · cases hg
        · cases hg
      · cases hg
    · cases hg
  · cases hg
end Go.Proofs.YtdpeakapcfjibaaGreat.Mir
namespace Go.Proofs.YtdpeakapcfjibaaGreat.Mir
open Go Go.RowKit
def extQ : Ext:=fun f=>match Nat.beq f 139 with
  | true=>some sumG
  | false=>match Nat.beq f 104 with
    | true=>some (sortedG 128 3 sortI)
    | false=>match Nat.beq f 57 with
      | true=>some cloneG
      | false=>none
theorem extQ_ok : ∀ f g,extQ f = some g → Sound Tryz.prog f g:=by
  intro f g h
  unfold extQ at h
  split at h
  · rename_i hf
    obtain rfl:=Nat.eq_of_beq_eq_true hf
    cases h
    exact sum_ok
  · split at h
    · rename_i hf
      obtain rfl:=Nat.eq_of_beq_eq_true hf
      cases h
      exact sortedI_ok
    · split at h
      · rename_i hf
        obtain rfl:=Nat.eq_of_beq_eq_true hf
        cases h
        exact clone_ok
      · cases h
theorem has_of {P : Program} {f : FuncId} (h : ((P.funcs[f]?).bind fun fn=>fn.body).isSome = true) : ∃ fn,P.funcs[f]? = some fn ∧ fn.body.isSome = true:=by
  cases hf : P.funcs[f]? with
  | none=>rw [hf] at h;cases h
  | some fn=>rw [hf] at h;exact ⟨fn,rfl,h⟩
theorem kv_run : isTrue (runF Tryz.prog extQ 60 37 [] []) = true:=by kernel_rfl
theorem c_kv_known : Con Tryz.prog 37 [] [] fun r H'=>r = D.bool true ∧ H' = [] :=
  (Con.run good extQ_ok (has_of (by kernel_rfl)) (isTrue_eq (by rw [← runF_eq];exact kv_run))).mono fun _ _ h=>h
instance {H : List Row} {K : D → List Row → Prop} : Wa (callW Tryz.prog (.fn 37 []) [] H K) (K (.f (.v (.bool true))) H):=⟨fun h=>callW_pure c_kv_known rfl rfl rfl h⟩
set_option maxHeartbeats 2000000
theorem c_hand_FewL (b : Bs) (n : Int) (h0 : 0 ≤ n) (hb : b.length ≤ 140737488355328) : Con Tryz.prog 14 [.f (fY b),D.int n] [] fun r H'=>r = .sl 0 0 (fewL b n).length ∧ H' = [dW (fewL b n)]:=by
  refine Con.walk good fn_hand_Few (by simp) ?_
  unfold s_hand_Few
  simp only [argsE]
  have hl : (fewL b n).length ≤ 140737488355328:=by unfold fewL;rw [List.length_take];omega
  repeat' (with_reducible first|refine Wx.h ?_|refine Wb.h fun K hK=>?_|(refine hK _ ?_;clear hK K)|(refine wT ?_ ?_;assumption)|(refine wF ?_ ?_;assumption)|(refine Wy.h ?_ ?_;kernel_rfl)|refine Wq.h ?_ ?_<;>intro h<;>try (exfalso;omega)|refine Wu.h ?_ ?_<;>intro h<;>try simp only [h]|((fail_if_success refine Wz.h ?_);first|simp (disch:=omega) only [↓LD,LA,loadA_rf,seval,subS_few,List.length_map]|(refine And.intro ?_ ?_;omega)|simp only [D.int,D.bool]))
  · have h1 : fewL b n = []:=List.eq_nil_of_length_eq_zero (by assumption)
    rw [h1]
    exact endG rfl rfl (ef:=⟨.sl 0 0 0,[],[dW []]⟩) (by kernel_rfl) ⟨rfl,rfl⟩
  · exact endG rfl rfl (ef:=⟨.sl 0 0 (fewL b n).length,[],[dW (fewL b n)]⟩) (by kernel_rfl) ⟨rfl,rfl⟩
theorem xor_byte {x y : UInt8} : IntKind.u8.wrap ((BitVec.ofInt IntKind.u8.bits (x.toNat : Int) ^^^ BitVec.ofInt IntKind.u8.bits (y.toNat : Int)).toNat : Nat) = ((x ^^^ y).toNat : Int):=by
  have hx:=x.toNat_lt
  have hy:=y.toNat_lt
  rw [u8_wrap,BitVec.toNat_xor]
  show (((BitVec.ofInt 8 (x.toNat : Int)).toNat ^^^ (BitVec.ofInt 8 (y.toNat : Int)).toNat : Nat) : Int) % _ = _
  rw [BitVec.toNat_ofInt,BitVec.toNat_ofInt]
  have h1 : (((x.toNat : Nat) : Int) % ((2 ^ 8 : Nat) : Int)).toNat = x.toNat:=by omega
  have h2 : (((y.toNat : Nat) : Int) % ((2 ^ 8 : Nat) : Int)).toNat = y.toNat:=by omega
  rw [h1,h2,UInt8.toNat_xor]
  have h3 : x.toNat ^^^ y.toNat < 2 ^ 8:=Nat.xor_lt_two_pow (by omega) (by omega)
  omega
instance {k v : Bs} {b : Bool} {H : List Row} {K : D → List Row → Prop} : Wa (callW Tryz.prog (.fn 33 []) [.ag [.f (.v (.string (BB k))),.f (.v (.bool b)),.f (fY v)]] H K) (K (.tp [.f (fY (layC ⟨k,b,v⟩).1),.f (.v (.int .i64 (layC ⟨k,b,v⟩).2))]) H):=⟨fun h=>callW_pure (c_kv_Lay ⟨k,b,v⟩) rfl rfl rfl h⟩
instance {k v : Bs} {b : Bool} {H : List Row} {K : D → List Row → Prop} : Wa (callW Tryz.prog (.fn 34 []) [.ag [.f (.v (.string (BB k))),.f (.v (.bool b)),.f (fY v)]] H K) (K (.tp [.f (fY (layC ⟨k,b,v⟩).1),.f (.v (.int .i64 (layC ⟨k,b,v⟩).2))]) H):=⟨fun h=>callW_pure (c_rk_Lay ⟨k,b,v⟩) rfl rfl rfl h⟩
instance {z : Bs} {H : List Row} {K : D → List Row → Prop} [hz : Kn (z.length ≤ 140737488355328)] : Wa (callW Tryz.prog (.fn 35 []) [.f (fY z)] H K) (K (.tp [chD (readC z).1,.f (.v (.int .i64 (readC z).2))]) H):=⟨fun h=>callW_pure (c_kv_Read z hz.h) rfl rfl rfl h⟩
instance {z : Bs} {H : List Row} {K : D → List Row → Prop} [hz : Kn (z.length ≤ 140737488355328)] : Wa (callW Tryz.prog (.fn 36 []) [.f (fY z)] H K) (K (.tp [chD (readC z).1,.f (.v (.int .i64 (readC z).2))]) H):=⟨fun h=>callW_pure (c_rk_Read z hz.h) rfl rfl rfl h⟩
theorem few_all {b : Bs} : fewL b (b.length : Int) = b:=by unfold fewL;rw [List.take_of_length_le (by omega)]
theorem set_map_u {l : Bs} {i : Nat} {x : UInt8} : (l.map uF).set i (.v (.int .u8 (x.toNat : Int))) = (l.set i x).map uF:=by rw [List.map_set]
theorem layC_pos {c : Ch7} (h : (layC c).2 = 0) : 0 < (layC c).1.length:=by
  unfold layC at h ⊢
  split
  · rename_i hb;rw [if_pos hb] at h;cases h
  · unfold layB;simp [beB_len];omega
def bxC (c : Ch7) : Row:=.box 58 [.f (.v (.string (BB c.key))),.f (.v (.bool c.has)),.f (fY c.val)]
set_option maxRecDepth 100000 in
theorem c_law_KvCodes (c : Ch7) (raw : Bs) (near : List Rk) (how at' : Int) (by' : UInt8) (hraw : raw.length ≤ 140737488355328) : Con Tryz.prog 7 [chD c,.f (fY raw),.f (fRk near),D.int how,D.int at',.f (.v (.int .u8 by'.toNat))] [] fun r H'=>r = D.bool true ∧ H' = []:=by
  refine Con.walk good fn_law_KvCodes (by simp) ?_
  unfold s_law_KvCodes
  simp only [argsE]
  have p3:=tmod_lt (x:=how) (n:=3) (by omega)
  have p3':=tmod_gt (x:=how) (n:=3) (by omega)
  have p5:=tmod_lt (x:=how) (n:=5) (by omega)
  have p5':=tmod_gt (x:=how) (n:=5) (by omega)
  refine HS.seq ?_
  repeat' (with_reducible first|refine Wa.h ?_|refine Wr.h ?_|refine Wb.h fun K hK=>?_|(refine hK _ ?_;clear hK K)|(refine wT ?_ ?_;assumption)|(refine wF ?_ ?_;assumption)|(refine Wy.h ?_ ?_;kernel_rfl)|refine Wq.h ?_ ?_<;>intro h<;>try (exfalso;omega)|refine Wu.h ?_ ?_<;>intro h<;>try simp only [h]|((fail_if_success refine Wz.h ?_);first|simp (disch:=omega) only [↓LD,LA,loadA_rf,seval]|(refine And.intro ?_ ?_;omega)|simp only [D.int,D.bool]))
  refine HS.seq ?_
  refine HS.cutn (fun c : Ch7=>⟨frm 118 [(1,.f (fY raw)),(3,D.int how),(4,D.int at'),(5,.f (.v (.int .u8 by'.toNat))),(6,.pt 0 0),(12,jF)],[bxC c],[]⟩) (fun _=>True) ?_ ?_
  · repeat' (with_reducible first|refine Wx.h ?_|refine Wb.h fun K hK=>?_|(refine hK _ ?_;clear hK K)|(refine wT ?_ ?_;assumption)|(refine wF ?_ ?_;assumption)|(refine Wy.h ?_ ?_;kernel_rfl)|refine Wq.h ?_ ?_<;>intro h<;>try (exfalso;omega)|refine Wu.h ?_ ?_<;>intro h<;>try simp only [h]|((fail_if_success refine Wz.h ?_);first|simp (disch:=omega) only [↓LD,LA,loadA_rf,seval,slcS_fRk]|(refine And.intro ?_ ?_;omega)|simp only [D.int,D.bool]))
    · have hl1 : (near.take 1).map chOf = [chOf (gt near 0)]:=by
        rw [show (1 : Nat) = 0 + 1 from rfl,List.take_succ_eq_append_getElem (by omega),← gt_eq (by omega)];rfl
      refine callW_pure (c_law_kvlist near 1 (by decide)) rfl rfl rfl ?_
      rw [hl1]
      generalize chOf (gt near 0) = c0
      simp only [fCh,List.flatMap_cons,List.flatMap_nil,List.append_nil,Ch7.cs,List.length_cons,List.length_nil]
      repeat' (with_reducible first|refine Wx.h ?_|refine Wb.h fun K hK=>?_|(refine hK _ ?_;clear hK K)|(refine wT ?_ ?_;assumption)|(refine wF ?_ ?_;assumption)|(refine Wy.h ?_ ?_;kernel_rfl)|refine Wq.h ?_ ?_<;>intro h<;>try (exfalso;omega)|refine Wu.h ?_ ?_<;>intro h<;>try simp only [h]|((fail_if_success refine Wz.h ?_);first|simp (disch:=omega) only [↓LD,LA,loadA_rf,seval]|(refine And.intro ?_ ?_;omega)|simp only [D.int,D.bool]))
      exact OutN.mk [1,3,4,5,6,12] c0 (by kernel_rfl) trivial
    all_goals exact OutN.mk [1,3,4,5,6,12] c (by kernel_rfl) trivial
  · rintro c _ s' hv
    refine thenQ_n ?_
    refine HS.view hv ?_
    clear hv s'
    obtain ⟨k,hs,v⟩:=c
    simp only [bxC]
    generalize hlc : layC ⟨k,hs,v⟩ = lc
    have hlen:=layC_len ⟨k,hs,v⟩
    have hpos:=@layC_pos ⟨k,hs,v⟩
    rw [hlc] at hlen hpos
    obtain ⟨b,f⟩:=lc
    dsimp only at hlen hpos
    refine HS.seq ?_
    repeat' (with_reducible first|refine Wa.h ?_|refine Wr.h ?_|refine Wb.h fun K hK=>?_|(refine hK _ ?_;clear hK K)|(refine wT ?_ ?_;assumption)|(refine wF ?_ ?_;assumption)|(refine Wy.h ?_ ?_;kernel_rfl)|refine Wq.h ?_ ?_<;>intro h<;>try (exfalso;omega)|refine Wu.h ?_ ?_<;>intro h<;>try simp only [h]|((fail_if_success refine Wz.h ?_);first|simp (disch:=omega) only [↓LD,LA,loadA_rf,seval,hlc]|(refine And.intro ?_ ?_;omega)|simp only [D.int,D.bool]))
    refine HS.seq ?_
    repeat' (with_reducible first|refine Wa.h ?_|refine Wr.h ?_|refine Wb.h fun K hK=>?_|(refine hK _ ?_;clear hK K)|(refine wT ?_ ?_;assumption)|(refine wF ?_ ?_;assumption)|(refine Wy.h ?_ ?_;kernel_rfl)|refine Wq.h ?_ ?_<;>intro h<;>try (exfalso;omega)|refine Wu.h ?_ ?_<;>intro h<;>try simp only [h]|((fail_if_success refine Wz.h ?_);first|simp (disch:=omega) only [↓LD,LA,loadA_rf,seval,hlc]|(refine And.intro ?_ ?_;omega)|simp only [D.int,D.bool]))
    refine HS.seq ?_
    refine HS.seq ?_
    repeat' (with_reducible first|refine Wa.h ?_|refine Wr.h ?_|refine Wb.h fun K hK=>?_|(refine hK _ ?_;clear hK K)|(refine wT ?_ ?_;assumption)|(refine wF ?_ ?_;assumption)|(refine Wy.h ?_ ?_;kernel_rfl)|refine Wq.h ?_ ?_<;>intro h<;>try (exfalso;omega)|refine Wu.h ?_ ?_<;>intro h<;>try simp only [h]|((fail_if_success refine Wz.h ?_);first|simp (disch:=omega) only [↓LD,LA,loadA_rf,seval,bytes_map]|(refine And.intro ?_ ?_;omega)|simp only [D.int,D.bool]))
    refine HS.seq ?_
    repeat' (with_reducible first|refine Wa.h ?_|refine Wr.h ?_|refine Wb.h fun K hK=>?_|(refine hK _ ?_;clear hK K)|(refine wT ?_ ?_;assumption)|(refine wF ?_ ?_;assumption)|(refine Wy.h ?_ ?_;kernel_rfl)|refine Wq.h ?_ ?_<;>intro h<;>try (exfalso;omega)|refine Wu.h ?_ ?_<;>intro h<;>try simp only [h]|((fail_if_success refine Wz.h ?_);first|simp (disch:=omega) only [↓LD,LA,loadA_rf,seval]|(refine And.intro ?_ ?_;omega)|simp only [D.int,D.bool]))
    refine callW_emb (c_hand_FewL raw raw.length (by omega) hraw) [] (by kernel_rfl) rfl rfl ?_
    rintro _ _ ⟨rfl,rfl⟩
    simp (disch:=omega) only [↓LD,LA,loadA_rf,seval,ren,List.getElem?_nil,few_all,dW]
    repeat' (with_reducible first|refine Wa.h ?_|refine Wr.h ?_|refine Wb.h fun K hK=>?_|(refine hK _ ?_;clear hK K)|(refine wT ?_ ?_;assumption)|(refine wF ?_ ?_;assumption)|(refine Wy.h ?_ ?_;kernel_rfl)|refine Wq.h ?_ ?_<;>intro h<;>try (exfalso;omega)|refine Wu.h ?_ ?_<;>intro h<;>try simp only [h]|((fail_if_success refine Wz.h ?_);first|simp (disch:=omega) only [↓LD,LA,loadA_rf,seval]|(refine And.intro ?_ ?_;omega)|simp only [D.int,D.bool]))
    refine HS.seq ?_
    refine HS.cutn (fun z : Nat × Bs=>⟨frm 118 [(12,jF),(17,.sl 0 0 z.1)],[dW z.2],[]⟩) (fun z=>z.1 = z.2.length ∧ z.2.length ≤ 140737488355328) ?_ ?_
    · repeat' (with_reducible first|refine Wx.h ?_|refine Wb.h fun K hK=>?_|(refine hK _ ?_;clear hK K)|(refine wT ?_ ?_;assumption)|(refine wF ?_ ?_;assumption)|(refine Wy.h ?_ ?_;kernel_rfl)|refine Wq.h ?_ ?_<;>intro h<;>try (exfalso;omega)|refine Wu.h ?_ ?_<;>intro h<;>try simp only [h]|((fail_if_success refine Wz.h ?_);first|simp (disch:=omega) only [↓LD,LA,loadA_rf,seval]|(refine And.intro ?_ ?_;omega)|simp only [D.int,D.bool]))
      · have hf : f = 0:=by assumption
        have hb0:=hpos hf
        have pk:=pick_in (x:=at') (n:=b.length) (by omega)
        refine callW_emb (c_hand_FewL b b.length (by omega) (by omega)) [] (by kernel_rfl) rfl rfl ?_
        rintro _ _ ⟨rfl,rfl⟩
        simp (disch:=omega) only [↓LD,LA,loadA_rf,seval,ren,List.getElem?_nil,few_all,dW]
        repeat' (with_reducible first|refine Wx.h ?_|refine Wb.h fun K hK=>?_|(refine hK _ ?_;clear hK K)|(refine wT ?_ ?_;assumption)|(refine wF ?_ ?_;assumption)|(refine Wy.h ?_ ?_;kernel_rfl)|refine Wq.h ?_ ?_<;>intro h<;>try (exfalso;omega)|refine Wu.h ?_ ?_<;>intro h<;>try simp only [h]|((fail_if_success refine Wz.h ?_);first|simp (disch:=omega) only [↓LD,LA,loadA_rf,seval,List.length_map,xor_byte]|(refine And.intro ?_ ?_;omega)|simp only [D.int,D.bool]))
        rw [set_map_u]
        exact OutN.mk [12,17] (b.length,b.set (pick at' b.length).toNat (gt b (pick at' b.length).toNat ^^^ by')) (by kernel_rfl) ⟨by simp,by simp;omega⟩
      all_goals exact OutN.mk [12,17] (raw.length,raw) (by kernel_rfl) ⟨rfl,hraw⟩
    · rintro ⟨n,z⟩ ⟨hn,hz⟩ s' hv
      dsimp only at hn hz hv
      subst hn
      refine thenQ_n ?_
      refine HS.view hv ?_
      clear hv s'
      haveI : Kn (z.length ≤ 140737488355328):=⟨hz⟩
      generalize hrd : readC z = rd
      obtain ⟨⟨k1,h1,v1⟩,g⟩:=rd
      refine HS.view (View.fzd 17 rfl rfl inf_u8 (by simp) (by decide) (by omega)) ?_
      rw [show (F.s (List.map uF z) (List.length z)) = fY z from rfl]
      repeat' (with_reducible first|refine Wx.h ?_|refine Wb.h fun K hK=>?_|(refine hK _ ?_;clear hK K)|(refine wT ?_ ?_;assumption)|(refine wF ?_ ?_;assumption)|(refine Wy.h ?_ ?_;kernel_rfl)|refine Wq.h ?_ ?_<;>intro h<;>try (exfalso;omega)|refine Wu.h ?_ ?_<;>intro h<;>try simp only [h]|((fail_if_success refine Wz.h ?_);first|simp (disch:=omega) only [↓LD,LA,loadA_rf,seval,hrd,bytes_map]|(refine And.intro ?_ ?_;omega)|simp only [D.int,D.bool]))
      · exact end1 rfl rfl (by kernel_rfl) .f ⟨rfl,rfl⟩
      · simp at h
end Go.Proofs.YtdpeakapcfjibaaGreat.Mir
namespace Go.Proofs.YtdpeakapcfjibaaGreat
open Go Go.RowKit
abbrev ChIn:=ByteArray × Bool × Option Addr × Nat × List UInt8
def chV (x : ChIn) : List Value:=[.string x.1,.bool x.2.1,.slice x.2.2.1 x.2.2.2.2.length x.2.2.2.1]
def chOk (W : World) (x : ChIn) : Prop:=InS byteCell (fun _=>True) 1 W x.2.2.1 x.2.2.2.1 x.2.2.2.2
theorem reader_ch (W : World) : Reader Tryz.prog W 58 chV (chOk W) :=
  Reader.map (reader_struct Tryz.underlying58 (by kernel_rfl) (freader_cons (m:=1) rfl (by kernel_rfl) (reader_string Tryz.underlying9)
    (freader_cons (m:=1) rfl (by kernel_rfl) (reader_bool Tryz.underlying4) (freader_cons (m:=1) rfl (by kernel_rfl) (reader_slice (n:=1) (B:=1) Tryz.underlying29 (by kernel_rfl) (by kernel_rfl) (fun _=>rfl) (reader_byte Tryz.underlying5)) (freader_nil _)))))
    (fun x=>(x.1,x.2.1,x.2.2.1)) (fun _ _=>rfl) (fun _ h=>h.2.2.1)
set_option maxRecDepth 100000 in
theorem open_S_change {H : Type} {enc : TypeId × Value → H} {W : World} {ts : List TypeId} {ds : List (DataW H)} (hsz : (DataW.weightsEach Tryz.prog ts ds).all (· ≤ reachBytes) = true) {d : DataW H} {ps : List MemPlace} (j : Nat) (htj : ts[j]? = some 58) (hdj : ds[j]? = some d)
    {base : Nat} {v : Value} (hv : Value.okWide Tryz.prog W .any base 58 v) (h : DataW.Trod enc Tryz.prog W 0 (fun _=>true) true 58 v d ps) : ∃ x : ChIn,v = .agg (chV x).toArray ∧ chOk W x :=
  open_struct_arg hsz j htj hdj Tryz.underlying58 (reader_ch W) hv h
def chI (x : ChIn) : Mir.Ch7:=⟨x.1.data.toList,x.2.1,x.2.2.2.2⟩
theorem Mir.rf_str {W : World} {A : Nat → Prop} {s : ByteArray} : Mir.RF W A (.v (.string (Mir.BB s.data.toList))) (.string s):=by
  have e : Mir.BB s.data.toList = s:=by cases s;simp [Mir.BB]
  rw [e];exact .v rfl
theorem r_ch {W : World} {φ : Nat → Nat × Nat} {A : Nat → Prop} {N : Nat} (hA : ∀ b,¬ A b) {x : ChIn} (h : chOk W x) : Mir.R Tryz.prog W φ A N (Mir.chD (chI x)) (.agg (chV x).toArray) :=
  Mir.r_ag (xs:=Mir.Ch7.cs (chI x)) (.cons Mir.rf_str (.cons (.v rfl) (.cons (Mir.rf_bytes hA h) .nil))) (by intro u hu;simp [chV] at hu;rcases hu with rfl|rfl|rfl<;>rfl)
abbrev RkIn:=Int × Int × Option Addr × Nat × List UInt8
def rkV (x : RkIn) : List Value:=[.int .i64 x.1,.int .i64 x.2.1,.slice x.2.2.1 x.2.2.2.2.length x.2.2.2.1]
def rkOk (W : World) (x : RkIn) : Prop:=InS byteCell (fun _=>True) 1 W x.2.2.1 x.2.2.2.1 x.2.2.2.2
theorem reader_rk (W : World) : Reader Tryz.prog W 125 rkV (rkOk W) :=
  Reader.map (reader_struct Tryz.underlying125 (by kernel_rfl) (freader_cons (m:=1) rfl (by kernel_rfl) (reader_int Tryz.underlying3)
    (freader_cons (m:=1) rfl (by kernel_rfl) (reader_int Tryz.underlying3) (freader_cons (m:=1) rfl (by kernel_rfl) (reader_slice (n:=1) (B:=1) Tryz.underlying29 (by kernel_rfl) (by kernel_rfl) (fun _=>rfl) (reader_byte Tryz.underlying5)) (freader_nil _)))))
    (fun x=>(x.1,x.2.1,x.2.2.1)) (fun _ _=>rfl) (fun _ h=>h.2.2.1)
theorem open_rks {H : Type} {enc : TypeId × Value → H} {W : World} {ts : List TypeId} {ds : List (DataW H)} (hsz : (DataW.weightsEach Tryz.prog ts ds).all (· ≤ reachBytes) = true) {d : DataW H} {ps : List MemPlace} (j : Nat) (htj : ts[j]? = some 59) (hdj : ds[j]? = some d)
    {a : Option Addr} {len cap : Nat} (h : DataW.Trod enc Tryz.prog W 0 (fun _=>true) true 59 (.slice a len cap) d ps) : ∃ xs : List RkIn,xs.length = len ∧ InS rkV (rkOk W) 40 W a cap xs :=
  open_slice_arg (n:=3) (B:=40) (f:=rkV) hsz j htj hdj Tryz.underlying59 (by kernel_rfl) (by kernel_rfl) (fun _=>rfl) (reader_rk W) h
def rkI (x : RkIn) : Mir.Rk:=⟨x.1,x.2.1,x.2.2.2.2⟩
theorem rf_rks {W : World} {A : Nat → Prop} (hA : ∀ b,¬ A b) {a : Option Addr} {c : Nat} {xs : List RkIn} (h : InS rkV (rkOk W) 40 W a c xs) : Mir.RF W A (Mir.fRk (xs.map rkI)) (.slice a xs.length c):=by
  have h1:=Mir.rf_in (A:=A) (g:=fun x=>Mir.Rk.cs (rkI x)) h hA fun x hx=>.cons (.v rfl) (.cons (.v rfl) (.cons (Mir.rf_bytes hA hx) .nil))
  have e : Mir.fRk (xs.map rkI) = .s (xs.flatMap fun x=>Mir.Rk.cs (rkI x)) xs.length:=by rw [Mir.fRk,List.flatMap_map,List.length_map]
  rw [e];exact h1
theorem kvCodes_walk (W : World) (x : ChIn) (a0 : Option Addr) (c0 : Nat) (raw : List UInt8) (a1 : Option Addr) (c1 : Nat) (near : List RkIn) (how at' b : Int) (hx : chOk W x) (h0 : InS byteCell (fun _=>True) 1 W a0 c0 raw) (h1 : InS rkV (rkOk W) 40 W a1 c1 near) (_ : -9223372036854775808 ≤ how ∧ how ≤ 9223372036854775807) (_ : -9223372036854775808 ≤ at' ∧ at' ≤ 9223372036854775807) (hb : 0 ≤ b ∧ b ≤ 255) :
    Calls Tryz.prog 7 #[.agg (chV x).toArray,.slice a0 raw.length c0,.slice a1 near.length c1,.int .i64 how,.int .i64 at',.int .u8 b] W fun e w'=>e = .returned (.bool true) ∧ Below W.heap.size W w' :=
  Mir.Con.calls (Mir.c_law_KvCodes (chI x) raw (near.map rkI) how at' (UInt8.ofNat b.toNat) (by have:=h0.lc;have:=h0.sz;omega)) (fun p hp=>by cases hp) fun _ hA=>.one (r_ch hA hx) (.one (.f (Mir.rf_bytes hA h0)) (.one (.f (rf_rks hA h1)) (.one (.f (.v rfl)) (.one (.f (.v rfl)) (.one (by
    have e : ((UInt8.ofNat b.toNat).toNat : Int) = b:=by
      have : (UInt8.ofNat b.toNat).toNat = b.toNat:=by simp;omega
      rw [this,Int.toNat_of_nonneg hb.1]
    rw [e];exact .f (.v rfl)) .none)))))
end Go.Proofs.YtdpeakapcfjibaaGreat
