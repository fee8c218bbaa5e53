/- Texts laid into one file: V, Lv, By, Lay, Vb, Be, COctet, CRefOc, OcA, OcB, CHand, Hand, Pk, CFew, Hf, OcC, OcD, CKvC, CRefKvC. -/
import Derived.Test.YtdpeakapcfjibaaGreatKc07
set_option linter.unusedVariables false
set_option linter.unusedSimpArgs false
namespace Go.Proofs.YtdpeakapcfjibaaGreat.Mir
open Go Go.RowKit
inductive Wk (N : Nat) : D → D → Prop
  | refl {d : D} : Wk N d d
  | junk {d : D} : Wk N d .junk
  | ns : Wk N (.f (.v (.slice none 0 0))) (.f (.s [] 0))
  | es : Wk N (.f .e) (.f (.s [] 0))
  | ne : Wk N (.f (.v (.slice none 0 0))) (.f .e)
  | no {r : Nat} : r < N → Wk N (.f (.v (.slice none 0 0))) (.sl r 0 0)
  | eo {r : Nat} : r < N → Wk N (.f .e) (.sl r 0 0)
  | os {r o : Nat} : Wk N (.sl r o 0) (.f (.s [] 0))
theorem Wk.ok {P : Program} {w : World} {φ : Nat → Nat × Nat} {A : Nat → Prop} {N : Nat} {d d' : D} (h : Wk N d d') {u : Value} (hr : R P w φ A N d u) : R P w φ A N d' u:=by
  cases h with
  | refl=>exact hr
  | junk=>exact .junk
  | ns=>cases hr with|f h=>cases h with|v _=>exact .f .s0
  | es =>
    cases hr with|f h=>cases h with|@e a =>
    cases a with
    | none=>exact .f .s0
    | some a=>exact .f (.s [] (Nat.le_refl _) rfl (fun i u hu=>by simp at hu) (fun i x u hx=>by simp at hx))
  | ne=>cases hr with|f h=>cases h with|v _=>exact .f .e
  | no h=>cases hr with|f h'=>cases h' with|v _=>exact .sl0 h
  | eo h=>cases hr with|f h'=>cases h' with|e=>exact .sl0 h
  | os =>
    cases hr with
    | sl hp=>omega
    | @sl0 _ _ a _ =>
      cases a with
      | none=>exact .f .s0
      | some a=>exact .f (.s [] (Nat.le_refl _) rfl (fun i u hu=>by simp at hu) (fun i x u hx=>by simp at hx))
section
variable {P : Program} {n0 : Nat}
theorem View.slot {n : Nat} {e : List (Nat × D)} {H : List Row} {dr : List Nat} (i : Nat) (d' : D) (hw : Wk H.length (look i e) d') : View P n0 ⟨Mir.frm n e,H,dr⟩ ⟨Mir.frm n ((i,d') :: e),H,[]⟩:=by
  intro X w0 φ0 H0 w φ a _ hr
  refine ⟨φ,⟨⟨hr.sim.heap,⟨?_,fun j d u hd hu=>?_⟩,hr.sim.defers⟩,hr.ons⟩⟩
  · have:=hr.sim.tmps.1;dsimp only at this ⊢;rw [this,frm_len,frm_len]
  · dsimp only at hd ⊢
    have hj : j < n:=by have:=(List.getElem?_eq_some_iff.1 hd).1;rwa [frm_len] at this
    rw [frm_get hj] at hd
    injection hd with hd
    simp only [look] at hd
    split at hd
    · rename_i e';subst e';subst hd
      exact hw.ok (hr.sim.tmps.2 i _ u (by dsimp only;rw [frm_get hj]) hu)
    · subst hd
      exact hr.sim.tmps.2 j _ u (by dsimp only;rw [frm_get hj]) hu
theorem View.bcell {ts : List D} {H : List Row} {dr : List Nat} (r i : Nat) (c' : D) {T : TypeId} {xs : List D} {c : D} (hH : H[r]? = some (.box T xs)) (hx : xs[i]? = some c) (hw : Wk H.length c c') :
    View P n0 ⟨ts,H,dr⟩ ⟨ts,H.set r (.box T (xs.set i c')),[]⟩:=by
  intro X w0 φ0 H0 w φ a _ hr
  have hlt : r < H.length:=(List.getElem?_eq_some_iff.1 hH).1
  have hget : ∀ (q : Nat) (row : Row),(H.set r (.box T (xs.set i c')))[q]? = some row → (q = r ∧ row = .box T (xs.set i c')) ∨ H[q]? = some row:=by
    intro q row h
    rw [List.getElem?_set] at h
    split at h
    · rename_i e;subst e
      try rw [if_pos hlt] at h
      exact .inl ⟨rfl,(Option.some.inj h).symm⟩
    · exact .inr h
  have hback : ∀ (q : Nat) (row : Row),H[q]? = some row → ∃ row' : Row,(H.set r (.box T (xs.set i c')))[q]? = some row' ∧ row'.live = row.live:=by
    intro q row h
    rw [List.getElem?_set]
    split
    · rename_i e;subst e
      try rw [if_pos hlt]
      rw [hH] at h
      cases h
      exact ⟨_,rfl,rfl⟩
    · exact ⟨row,h,rfl⟩
  have hlive : ∀ b,Live φ (H.set r (.box T (xs.set i c'))) b ↔ Live φ H b:=by
    intro b
    constructor
    · rintro ⟨q,row,h1,h2,h3⟩
      rcases hget q row h1 with ⟨rfl,rfl⟩|h
      · exact ⟨q,_,hH,rfl,h3⟩
      · exact ⟨q,row,h,h2,h3⟩
    · rintro ⟨q,row,h1,h2,h3⟩
      obtain ⟨row',h4,h5⟩:=hback q row h1
      exact ⟨q,row',h4,by rw [h5];exact h2,h3⟩
  have hav : Av X φ (H.set r (.box T (xs.set i c'))) = Av X φ H:=funext fun b=>propext (or_congr Iff.rfl (hlive b))
  have hlen : (H.set r (.box T (xs.set i c'))).length = H.length:=List.length_set
  refine ⟨φ,⟨⟨?_,?_,?_,hr.sim.heap.old,fun p hp=>by rw [hav];exact hr.sim.heap.gl p hp⟩,?_,hr.sim.defers⟩,⟨?_,hr.ons.same,hr.ons.keep,fun b h=>hr.ons.fresh b ((hlive b).1 h)⟩⟩
  · intro q row h
    dsimp only at h ⊢
    rw [hav,hlen]
    rcases hget q row h with ⟨rfl,rfl⟩|h
    · obtain ⟨h0,cs,hc,⟨hl,hg⟩,hone⟩:=hr.sim.heap.rows q _ hH
      refine ⟨h0,cs,hc,⟨by rw [List.length_set];exact hl,fun j d u hd hu=>?_⟩,hone⟩
      rw [List.getElem?_set] at hd
      split at hd
      · rename_i e;subst e
        have hd : some c' = some d:=by first|exact hd|(split at hd<;>first|exact hd|cases hd)
        cases hd
        exact hw.ok (hg i _ u hx hu)
      · exact hg j d u hd hu
    · exact hr.sim.heap.rows q row h
  · intro q s row row' h1 h2 h3 h4 h5
    have k : ∀ (q : Nat) (row : Row),(H.set r (.box T (xs.set i c')))[q]? = some row → row.live = true → ∃ row0,H[q]? = some row0 ∧ row0.live = true:=by
      intro q row h hl
      rcases hget q row h with ⟨rfl,rfl⟩|h
      · exact ⟨_,hH,rfl⟩
      · exact ⟨row,h,hl⟩
    obtain ⟨a1,b1,c1⟩:=k q row h1 h3
    obtain ⟨a2,b2,c2⟩:=k s row' h2 h4
    exact hr.sim.heap.apart q s a1 a2 b1 b2 c1 c2 h5
  · intro q row h1 h3
    rcases hget q row h1 with ⟨rfl,rfl⟩|h
    · exact hr.sim.heap.off q _ hH rfl
    · exact hr.sim.heap.off q row h h3
  · dsimp only
    rw [hav,hlen]
    exact hr.sim.tmps
  · dsimp only
    rw [hlen]
    exact hr.ons.len
theorem View.void {ts : List D} {H : List Row} {dr : List Nat} (U : TypeId) : View P n0 ⟨ts,H,dr⟩ ⟨ts,H ++ [.data U []],[]⟩:=by
  intro X w0 φ0 H0 w φ a _ hr
  have get : ∀ (q : Nat) (row : Row),(H ++ [Row.data U []])[q]? = some row → row = .data U [] ∨ H[q]? = some row:=by
    intro q row h
    by_cases hq : q < H.length
    · rw [List.getElem?_append_left hq] at h;exact .inr h
    · have h1:=(List.getElem?_eq_some_iff.1 h).1
      simp at h1
      obtain rfl : q = H.length:=by omega
      simp at h
      exact .inl h.symm
  have hlive : ∀ b,Live φ (H ++ [Row.data U []]) b ↔ Live φ H b:=by
    intro b
    constructor
    · rintro ⟨q,row,h1,h2,h3⟩
      rcases get q row h1 with rfl|h
      · simp [Row.live] at h2
      · exact ⟨q,row,h,h2,h3⟩
    · rintro ⟨q,row,h1,h2,h3⟩
      exact ⟨q,row,by rw [List.getElem?_append_left (List.getElem?_eq_some_iff.1 h1).1];exact h1,h2,h3⟩
  have hav : Av X φ (H ++ [Row.data U []]) = Av X φ H:=funext fun b=>propext (or_congr Iff.rfl (hlive b))
  have hlen : H.length ≤ (H ++ [Row.data U []]).length:=by simp
  have live0 : ∀ (q : Nat) (row : Row),(H ++ [Row.data U []])[q]? = some row → row.live = true → H[q]? = some row:=by
    intro q row h hl
    rcases get q row h with rfl|h
    · simp [Row.live] at hl
    · exact h
  refine ⟨φ,⟨⟨fun q row h=>?_,fun q s row row' h1 h2 h3 h4 h5=>hr.sim.heap.apart q s row row' (live0 q row h1 h3) (live0 s row' h2 h4) h3 h4 h5,fun q row h hl=>hr.sim.heap.off q row (live0 q row h hl) hl,hr.sim.heap.old,fun p hp=>by rw [hav];exact hr.sim.heap.gl p hp⟩,?_,hr.sim.defers⟩,
    ⟨Nat.le_trans hr.ons.len hlen,hr.ons.same,hr.ons.keep,fun b h=>hr.ons.fresh b ((hlive b).1 h)⟩⟩
  · dsimp only
    rw [hav]
    rcases get q row h with rfl|h
    · exact fun hne=>absurd rfl hne
    · exact (hr.sim.heap.rows q row h).upper hlen
  · dsimp only
    rw [hav]
    exact ⟨hr.sim.tmps.1,fun i d u hd hu=>(hr.sim.tmps.2 i d u hd hu).upper hlen⟩
theorem View.shed {ts : List D} {H : List Row} {dr : List Nat} (r : Nat) {row : Row} (hH : H[r]? = some row) : View P n0 ⟨ts,H,dr⟩ ⟨ts,H.set r .dead,[]⟩:=by
  intro X w0 φ0 H0 w φ a _ hr
  obtain ⟨h1,h2,h3⟩:=hr.sim.heap.turn (row':=.dead) hH (Keep.refl _ w) (by simp [Row.live]) (fun _=>trivial)
  have hlive : ∀ b,Live φ (H.set r .dead) b → Live φ H b:=by
    rintro b ⟨q,row',g1,g2,g3⟩
    rw [List.getElem?_set] at g1
    split at g1
    · rename_i e
      have g1 : some Row.dead = some row':=by first|exact g1|(split at g1<;>first|exact g1|cases g1)
      cases g1
      simp [Row.live] at g2
    · exact ⟨q,row',g1,g2,g3⟩
  refine ⟨φ,⟨⟨h1,⟨hr.sim.tmps.1,fun i d u hd hu=>?_⟩,hr.sim.defers⟩,⟨by dsimp only;rw [List.length_set];exact hr.ons.len,hr.ons.same,hr.ons.keep,fun b h=>hr.ons.fresh b (hlive b h)⟩⟩⟩
  dsimp only at hd ⊢
  rw [List.length_set]
  exact (hr.sim.tmps.2 i d u hd hu).keep (L:=fun _=>False) (Keep.refl _ _) (fun _ h=>h.elim) (fun b _ hb=>hb.imp id (hlive b)) (fun _ _=>rfl) (Nat.le_refl _)
theorem View.fzd {n : Nat} {e : List (Nat × D)} {H : List Row} {dr : List Nat} (i : Nat) {r m k b : Nat} {T : TypeId} {xs : List F} {z : List Value} (ht : look i e = .sl r 0 m) (hr : H[r]? = some (.data T xs)) (hi : inf P T = some (k,b,z)) (hn : xs.length = m * k) (hin : i < n) (hk : 0 < k) :
    View P n0 ⟨Mir.frm n e,H,dr⟩ ⟨Mir.frm n ((i,.f (.s xs m)) :: e),H.set r .dead,[]⟩:=by
  by_cases hm : m = 0
  · subst hm
    have hx : xs = []:=List.eq_nil_of_length_eq_zero (by omega)
    subst hx
    exact (View.slot i (.f (.s [] 0)) (by rw [ht];exact .os)).trans (View.shed r hr)
  · have h2:=View.frz (P:=P) (n0:=n0) (dr:=dr) (n:=n) (H:=H) i ht hr hi hm hn hin hk
    have h3:=View.shed (P:=P) (n0:=n0) (ts:=Mir.frm n ((i,.f (.s xs m)) :: e)) (H:=H.set r (.froz T xs)) (dr:=[]) r (List.getElem?_set_self (List.getElem?_eq_some_iff.1 hr).1)
    rw [List.set_set] at h3
    exact h2.trans h3
end
end Go.Proofs.YtdpeakapcfjibaaGreat.Mir
namespace Go.Proofs.YtdpeakapcfjibaaGreat.Mir
open Go Go.RowKit
def NextV (P : Program) (n0 : Nat) {α : Type} (st : α → St) (p : α → Prop) (m : α → Nat) (x : α) (s : St) : Prop:=∃ y,View P n0 s (st y) ∧ p y ∧ m y < m x
instance {P : Program} {n0 : Nat} {α : Type} {st : α → St} {p : α → Prop} {m : α → Nat} {x : α} {s : St} : Wz (NextV P n0 st p m x s):=⟨id⟩
theorem callW_pure {P : Program} {g : FuncId} {args : List D} {H : List Row} {d0 : D} {K : D → List Row → Prop} (h : Con P g args [] fun d H'=>d = d0 ∧ H' = []) (hb : embOk [] H.length [] args = true)
    (ha : args.map (renE (ren [] H.length)) = args) (hd : renE (ren [] H.length) d0 = d0) (hk : K d0 H) : callW P (.fn g []) args H K:=by
  refine callW_emb h [] hb ?_ rfl ?_
  · rw [List.append_nil,ha]
  · intro d H' hq
    rw [hq.1,hq.2]
    show K (renE (ren [] H.length) d0) (H ++ [])
    rw [hd,List.append_nil];exact hk
class Kn (p : Prop) : Prop where h : p
theorem callDr_pure {P : Program} {g : FuncId} {args : List D} {H : List Row} {d0 : D} {K : Bool → D → List Row → Prop} (h : Con P g args [] fun d H'=>d = d0 ∧ H' = []) (hb : embOk [] H.length [] args = true)
    (ha : args.map (renE (ren [] H.length)) = args) (hd : renE (ren [] H.length) d0 = d0) (hk : K true d0 H) : callDr P (.fn g []) args H K:=by
  refine callDr_emb h [] hb ?_ rfl ?_
  · rw [List.append_nil,ha]
  · show K true (renE (ren [] H.length) d0) (H ++ [])
    rw [hd,List.append_nil];exact hk
section
variable {P : Program} {w : World} {φ : Nat → Nat × Nat} {X : Nat → Prop} {H : List Row}
end
inductive WF : F → F → Prop
  | refl {x : F} : WF x x
  | ns : WF (.v (.slice none 0 0)) (.s [] 0)
  | es : WF .e (.s [] 0)
  | s {xs ys : List F} {n : Nat} : xs.length = ys.length → (∀ (i : Nat) (x y : F),xs[i]? = some x → ys[i]? = some y → WF x y) → WF (.s xs n) (.s ys n)
theorem WF.ok {w : World} {A : Nat → Prop} {x y : F} (h : WF x y) : ∀ {u : Value},RF w A x u → RF w A y u:=by
  induction h with
  | refl=>exact fun h=>h
  | ns=>intro u hr;cases hr with|v _=>exact .s0
  | es =>
    intro u hr
    cases hr with
    | @e a =>
    cases a with
    | none=>exact .s0
    | some a=>exact .s [] (Nat.le_refl _) rfl (fun i u hu=>by simp at hu) (fun i x u hx=>by simp at hx)
  | @s xs ys n hl hw ih =>
    intro u hr
    cases hr with
    | s cs h1 h2 h3 h4 =>
      refine .s cs h1 (h2.trans hl) h3 (fun i y u hy hu=>?_)
      have hi : i < xs.length:=by rw [hl];exact (List.getElem?_eq_some_iff.1 hy).1
      have hx : xs[i]? = some xs[i]:=List.getElem?_eq_getElem hi
      exact ih i _ y hx hy (h4 i _ u hx hu)
    | s0 =>
      obtain rfl : ys = []:=List.eq_nil_of_length_eq_zero (by simpa using hl.symm)
      exact .s0
inductive WFs : List F → List F → Prop
  | nil : WFs [] []
  | refl {xs : List F} : WFs xs xs
  | cons {x y : F} {xs ys : List F} : WF x y → WFs xs ys → WFs (x :: xs) (y :: ys)
theorem WFs.at {xs ys : List F} (h : WFs xs ys) : xs.length = ys.length ∧ ∀ (i : Nat) (x y : F),xs[i]? = some x → ys[i]? = some y → WF x y:=by
  induction h with
  | nil=>exact ⟨rfl,fun i x y h=>by simp at h⟩
  | refl=>exact ⟨rfl,fun i x y h k=>by rw [h] at k;cases k;exact .refl⟩
  | cons h1 _ ih =>
    refine ⟨by simp [ih.1],fun i x y hx hy=>?_⟩
    cases i with
    | zero=>simp at hx hy;subst hx;subst hy;exact h1
    | succ i=>exact ih.2 i x y (by simpa using hx) (by simpa using hy)
theorem WF.ls {xs ys : List F} {n : Nat} (h : WFs xs ys) : WF (.s xs n) (.s ys n):=.s h.at.1 h.at.2
inductive WD : D → D → Prop
  | refl {d : D} : WD d d
  | f {x y : F} : WF x y → WD (.f x) (.f y)
  | ag {ds es : List D} : ds.length = es.length → (∀ (i : Nat) (d e : D),ds[i]? = some d → es[i]? = some e → WD d e) → WD (.ag ds) (.ag es)
theorem WD.ok {P : Program} {w : World} {φ : Nat → Nat × Nat} {A : Nat → Prop} {N : Nat} {d d' : D} (h : WD d d') : ∀ {u : Value},R P w φ A N d u → R P w φ A N d' u:=by
  induction h with
  | refl=>exact fun h=>h
  | f h=>intro u hr;cases hr with|f hr=>exact .f (h.ok hr)
  | @ag ds es hl hw ih =>
    intro u hr
    cases hr with
    | ag hs hr h1 =>
      refine .ag (by rw [hs,hl]) (fun i d' u hd hu=>?_) h1
      have hi : i < ds.length:=by rw [hl];exact (List.getElem?_eq_some_iff.1 hd).1
      have hx : ds[i]? = some ds[i]:=List.getElem?_eq_getElem hi
      exact ih i _ d' hx hd (hr i _ u hx hu)
inductive WDs : List D → List D → Prop
  | nil : WDs [] []
  | cons {x y : D} {xs ys : List D} : WD x y → WDs xs ys → WDs (x :: xs) (y :: ys)
theorem WDs.at {xs ys : List D} (h : WDs xs ys) : xs.length = ys.length ∧ ∀ (i : Nat) (x y : D),xs[i]? = some x → ys[i]? = some y → WD x y:=by
  induction h with
  | nil=>exact ⟨rfl,fun i x y h=>by simp at h⟩
  | cons h1 _ ih =>
    refine ⟨by simp [ih.1],fun i x y hx hy=>?_⟩
    cases i with
    | zero=>simp at hx hy;subst hx;subst hy;exact h1
    | succ i=>exact ih.2 i x y (by simpa using hx) (by simpa using hy)
theorem WD.ags {ds es : List D} (h : WDs ds es) : WD (.ag ds) (.ag es):=.ag h.at.1 h.at.2
theorem Con.less {P : Program} {f : FuncId} {args args' : List D} {H : List Row} {Q : D → List Row → Prop} (h : Con P f args H Q) (ha : WDs args' args) : Con P f args' H Q :=
  ⟨h.1,fun w φ X vs hH hv=>h.2 w φ X vs hH ⟨hv.1.trans ha.at.1,fun i d' u hd hu=>by
    have hi : i < args'.length:=by rw [ha.at.1];exact (List.getElem?_eq_some_iff.1 hd).1
    have hx : args'[i]? = some args'[i]:=List.getElem?_eq_getElem hi
    exact (ha.at.2 i _ d' hx hd).ok (hv.2 i _ u hx hu)⟩⟩
theorem callW_less {P : Program} {g : FuncId} {args args0 : List D} {H : List Row} {K : D → List Row → Prop} (h : callW P (.fn g []) args0 H K) (ha : WDs args args0) : callW P (.fn g []) args H K:=by
  obtain ⟨g',caps',e,hc⟩:=h
  injection e with e1 e2
  subst e1;subst e2
  rw [List.append_nil] at hc
  exact ⟨g,[],rfl,by rw [List.append_nil];exact hc.less ha⟩
end Go.Proofs.YtdpeakapcfjibaaGreat.Mir
namespace Go.Proofs.YtdpeakapcfjibaaGreat.Mir
open Go Go.RowKit
theorem View.cell {P : Program} {n0 : Nat} {ts : List D} {H : List Row} {dr : List Nat} {r i : Nat} {T : TypeId} {xs : List D} {c : D} {x : F} (hH : H[r]? = some (.box T xs)) (hx : xs[i]? = some c) (hf : freeze1 P H c = some (x,[])) :
    View P n0 ⟨ts,H,dr⟩ ⟨ts,H.set r (.box T (xs.set i (.f x))),[]⟩:=by
  intro X w0 φ0 H0 w φ a _ hr
  have hlt : r < H.length:=(List.getElem?_eq_some_iff.1 hH).1
  have hget : ∀ (q : Nat) (row : Row),(H.set r (.box T (xs.set i (.f x))))[q]? = some row → (q = r ∧ row = .box T (xs.set i (.f x))) ∨ H[q]? = some row:=by
    intro q row h
    rw [List.getElem?_set] at h
    split at h
    · rename_i e;subst e
      try rw [if_pos hlt] at h
      exact .inl ⟨rfl,(Option.some.inj h).symm⟩
    · exact .inr h
  have hback : ∀ (q : Nat) (row : Row),H[q]? = some row → ∃ row' : Row,(H.set r (.box T (xs.set i (.f x))))[q]? = some row' ∧ row'.live = row.live:=by
    intro q row h
    rw [List.getElem?_set]
    split
    · rename_i e;subst e
      try rw [if_pos hlt]
      rw [hH] at h
      cases h
      exact ⟨_,rfl,rfl⟩
    · exact ⟨row,h,rfl⟩
  have hlive : ∀ b,Live φ (H.set r (.box T (xs.set i (.f x)))) b ↔ Live φ H b:=by
    intro b
    constructor
    · rintro ⟨q,row,h1,h2,h3⟩
      rcases hget q row h1 with ⟨rfl,rfl⟩|h
      · exact ⟨q,_,hH,rfl,h3⟩
      · exact ⟨q,row,h,h2,h3⟩
    · rintro ⟨q,row,h1,h2,h3⟩
      obtain ⟨row',h4,h5⟩:=hback q row h1
      exact ⟨q,row',h4,by rw [h5];exact h2,h3⟩
  have hav : Av X φ (H.set r (.box T (xs.set i (.f x)))) = Av X φ H:=funext fun b=>propext (or_congr Iff.rfl (hlive b))
  have hlen : (H.set r (.box T (xs.set i (.f x)))).length = H.length:=List.length_set
  refine ⟨φ,⟨⟨?_,?_,?_,hr.sim.heap.old,fun p hp=>by rw [hav];exact hr.sim.heap.gl p hp⟩,?_,hr.sim.defers⟩,⟨?_,hr.ons.same,hr.ons.keep,fun b h=>hr.ons.fresh b ((hlive b).1 h)⟩⟩
  · intro q row h
    dsimp only at h ⊢
    rw [hav,hlen]
    rcases hget q row h with ⟨rfl,rfl⟩|h
    · obtain ⟨h0,cs,hc,⟨hl,hg⟩,hone⟩:=hr.sim.heap.rows q _ hH
      refine ⟨h0,cs,hc,⟨by rw [List.length_set];exact hl,fun j d u hd hu=>?_⟩,hone⟩
      rw [List.getElem?_set] at hd
      split at hd
      · rename_i e;subst e
        have hd : some (D.f x) = some d:=by first|exact hd|(split at hd<;>first|exact hd|cases hd)
        cases hd
        have:=hg i _ u hx hu
        exact .f (freeze1_ok hr.sim.heap this hf).2
      · exact hg j d u hd hu
    · exact hr.sim.heap.rows q row h
  · intro q s row row' h1 h2 h3 h4 h5
    have k : ∀ (q : Nat) (row : Row),(H.set r (.box T (xs.set i (.f x))))[q]? = some row → row.live = true → ∃ row0,H[q]? = some row0 ∧ row0.live = true:=by
      intro q row h hl
      rcases hget q row h with ⟨rfl,rfl⟩|h
      · exact ⟨_,hH,rfl⟩
      · exact ⟨row,h,hl⟩
    obtain ⟨a1,b1,c1⟩:=k q row h1 h3
    obtain ⟨a2,b2,c2⟩:=k s row' h2 h4
    exact hr.sim.heap.apart q s a1 a2 b1 b2 c1 c2 h5
  · intro q row h1 h3
    rcases hget q row h1 with ⟨rfl,rfl⟩|h
    · exact hr.sim.heap.off q _ hH rfl
    · exact hr.sim.heap.off q row h h3
  · dsimp only
    rw [hav,hlen]
    exact hr.sim.tmps
  · dsimp only
    rw [hlen]
    exact hr.ons.len
theorem View.lay {P : Program} {n0 : Nat} {ts : List D} {H : List Row} {dr : List Nat} (q : Nat) {T : TypeId} {ys : List F} (hq : H[q]? = some (.data T ys)) (hne : ys ≠ []) : View P n0 ⟨ts,H,dr⟩ ⟨ts,H.set q (.froz T ys),[]⟩:=by
  intro X w0 φ0 H0 w φ a _ hr
  obtain ⟨g1,g2,g3,g4⟩:=hr.sim.heap.freeze hq hne
  have hlen : (H.set q (.froz T ys)).length = H.length:=List.length_set
  refine ⟨φ,⟨⟨g1,⟨hr.sim.tmps.1,fun j d u hd hu=>?_⟩,hr.sim.defers⟩,⟨?_,hr.ons.same,hr.ons.keep,fun b hb=>hr.ons.fresh b (g4 b hb)⟩⟩⟩
  · dsimp only at hd ⊢
    rw [hlen]
    exact (hr.sim.tmps.2 j d u hd hu).keep (L:=fun _=>False) (Keep.refl _ _) (fun _ h=>h.elim) g2 (fun _ _=>rfl) (Nat.le_refl _)
  · dsimp only;rw [hlen];exact hr.ons.len
theorem View.fixb {P : Program} {n0 : Nat} {ts : List D} {H : List Row} {dr : List Nat} (r i q : Nat) {m k b : Nat} {T U : TypeId} {xs : List D} {ys : List F} {z : List Value} (hH : H[r]? = some (.box T xs)) (hx : xs[i]? = some (.sl q 0 m)) (hq : H[q]? = some (.data U ys)) (hi : inf P U = some (k,b,z)) (hm : m ≠ 0) (hn : ys.length = m * k) (hk : 0 < k) :
    View P n0 ⟨ts,H,dr⟩ ⟨ts,(H.set q (.froz U ys)).set r (.box T (xs.set i (.f (.s ys m)))),[]⟩:=by
  have hne : q ≠ r:=fun e=>by subst e;rw [hH] at hq;cases hq
  have hlt : q < H.length:=(List.getElem?_eq_some_iff.1 hq).1
  refine (View.lay q hq (fun e=>by rw [e] at hn;have:=Nat.mul_pos (Nat.pos_of_ne_zero hm) hk;simp at hn;omega)).trans (View.cell (c:=.sl q 0 m) (by rw [List.getElem?_set_ne hne];exact hH) hx (fix_froz (by rw [List.getElem?_set_self hlt]) hi hm hn))
theorem callW_own {P : Program} {g : FuncId} {args : List D} {H : List Row} {r : Nat} {row row' : Row} {d0 : D} {K : D → List Row → Prop} (h : Con P g (.pt 0 0 :: args) [row] fun d H'=>d = d0 ∧ H' = [row']) (hr : H[r]? = some row)
    (hb : embOk [0] 1 [row] (.pt 0 0 :: args) = true) (ha : ∀ ρ,args.map (renE ρ) = args) (h1 : ∀ ρ,renR ρ row = row) (h2 : ∀ ρ,renR ρ row' = row') (hd : ∀ ρ,renE ρ d0 = d0) (hk : K d0 (H.set r row')) : callW P (.fn g []) (.pt r 0 :: args) H K:=by
  have hlt : r < H.length:=(List.getElem?_eq_some_iff.1 hr).1
  refine callW_emb h [r] ?_ ?_ ?_ ?_
  · unfold embOk at hb ⊢
    simp only [Bool.and_eq_true] at hb ⊢
    refine ⟨⟨⟨⟨rfl,rfl⟩,hb.1.1.2⟩,hb.1.2⟩,?_⟩
    simp [hlt]
  · rw [List.append_nil,List.map_cons,ha];rfl
  · simp only [List.map_cons,List.map_nil,h1]
    rw [List.getD_eq_getElem?_getD,hr];rfl
  · intro d H' hq
    rw [hq.1,hq.2]
    show K (renE (ren [r] H.length) d0) (H.set r (renR (ren [r] H.length) row') ++ [])
    rw [hd,h2,List.append_nil];exact hk
end Go.Proofs.YtdpeakapcfjibaaGreat.Mir
namespace Go.Proofs.YtdpeakapcfjibaaGreat
def beB : Nat → Nat → List UInt8
  | 0,_=>[]
  | n + 1,v=>UInt8.ofNat (v / 256 ^ n) :: beB n v
def beN (bs : List UInt8) : Nat:=bs.foldl (fun v c=>v * 256 + c.toNat) 0
theorem beB_len (n v : Nat) : (beB n v).length = n:=by
  induction n with
  | zero=>rfl
  | succ n ih=>simp [beB,ih]
theorem ofNat_toNat (k : Nat) : (UInt8.ofNat k).toNat = k % 256:=by simp
theorem beN_snoc (bs : List UInt8) (c : UInt8) : beN (bs ++ [c]) = beN bs * 256 + c.toNat:=by simp [beN]
theorem beN_lt (bs : List UInt8) : beN bs < 256 ^ bs.length:=by
  suffices h : ∀ (l : List UInt8),beN l.reverse < 256 ^ l.length by
    have:=h bs.reverse
    simpa using this
  intro l
  induction l with
  | nil=>simp [beN]
  | cons c l ih =>
    have:=c.toNat_lt
    rw [List.reverse_cons,beN_snoc,List.length_cons,Nat.pow_succ]
    omega
end Go.Proofs.YtdpeakapcfjibaaGreat
namespace Go.Proofs.YtdpeakapcfjibaaGreat.Mir
open Go Go.RowKit
def s_oc_NewWriter : SCode :=
  (jq ([.a 0 (.mv (.c (.f (.v (.pointer none)))))]) (jq ([.a 1 (.bld [jN] []),.a 2 (.box 171 (.t 1)),jm 0 2]) .ret))
theorem fn_oc_NewWriter : Fn Tryz.prog 74 3 [.t 0] s_oc_NewWriter:=.of Tryz.func74 (by kernel_rfl)
def s_oc_put : SCode :=
  (jq ([jm 7 2,jb 8 .sub 7 1,jm 6 8]) (.block 0 (.loop (.seq (jq ([jm 9 6,jb 10 .geq 9 0]) (jc 10 .skip (.exit 0))) (.seq (.block 1 (.drw [jm 13 0,jm
 14 0,jn 15 14,jo 16 0 15,jl 17 16,jm 18 1,jm 19 6,.a 20 (.bin .mul (kI 8) (.t 19)),jB 21 .shr 18 20,.a 22 (.conv .u8 (.t 21)),.a 23 (.bsl 5 1
 1 [(.f (.v (.int .u8 0)))] [(0,(.t 22))]),.a 24 (.app 5 1 1 (.t 17) (.t 23)),jn 25 13,jo 26 0 25,.n (.store 1 (.t 26) (.t 24))] [0,0,2,6,14,
 0,0,64,224,480,992,2046,4095,8191,16383])) (.ops [jm 11 6,jb 12 .sub 11 1,jm 6 12]))))))
theorem fn_oc_put : Fn Tryz.prog 111 27 [] s_oc_put:=.of Tryz.func111 (by kernel_rfl)
def s_oc_WU8 : SCode :=
  (.ops [jm 4 0,jm 5 1,.a 6 (.conv .u64 (.t 5)),.a 7 (.call (kC 111) [(.t 4),(.t 6),(kI 1)])])
theorem fn_oc_WU8 : Fn Tryz.prog 75 8 [] s_oc_WU8:=.of Tryz.func75 (by kernel_rfl)
def s_oc_WU16 : SCode :=
  (.ops [jm 4 0,jm 5 1,.a 6 (.conv .u64 (.t 5)),.a 7 (.call (kC 111) [(.t 4),(.t 6),(kI 2)])])
theorem fn_oc_WU16 : Fn Tryz.prog 112 8 [] s_oc_WU16:=.of Tryz.func112 (by kernel_rfl)
def s_oc_WRaw : SCode :=
  (.ops (ap [jm 4 0,jm 5 0,jn 6 5,jo 7 0 6,jl 8 7,jm 9 1,.a 10 (.app 5 1 1 (.t 8) (.t 9))] [jn 11 4,jo 12 0 11,.n (.store 1 (.t 12) (.t 10))]))
theorem fn_oc_WRaw : Fn Tryz.prog 113 13 [] s_oc_WRaw:=.of Tryz.func113 (by kernel_rfl)
def s_oc_WShort : SCode :=
  (jq ([.a 4 (.mv kF)]) (.seq (jq ([jm 5 1,je 6 5,jb 7 .gtr 6 65535]) (jc 7 (jq ([.a 4 (.mv kF)]) .ret) .skip)) (jq ([jm 8 0,jm 9 1,je 10 9,.a 11
 (.call (kC 112) [(.t 8),(.t 10)])]) (jq ([jm 12 0,jm 13 1,.a 14 (.call (kC 113) [(.t 12),(.t 13)])]) (jq ([.a 4 (.mv kT)]) .ret)))))
theorem fn_oc_WShort : Fn Tryz.prog 78 15 [.t 4] s_oc_WShort:=.of Tryz.func78 (by kernel_rfl)
def s_oc_WText : SCode :=
  (jq ([.a 4 (.mv kF)]) (jq ((ap [jm 5 0,jm 6 1,.a 7 (.s2b (.t 6)),.a 8 (.call (kC 78) [(.t 5),(.t 7)])] [jm 4 8])) .ret))
theorem fn_oc_WText : Fn Tryz.prog 76 9 [.t 4] s_oc_WText:=.of Tryz.func76 (by kernel_rfl)
def s_oc_Bytes : SCode :=
  (jq ([.a 2 (.mv kN)]) (jq ((ap [.a 3 (.bsl 5 1 0 [] []),jm 4 0,jn 5 4,jo 6 0 5,jl 7 6,.a 8 (.app 5 1 1 (.t 3) (.t 7))] [jm 2 8])) .ret))
theorem fn_oc_Bytes : Fn Tryz.prog 77 9 [.t 2] s_oc_Bytes:=.of Tryz.func77 (by kernel_rfl)
def s_oc_NewReader : SCode :=
  (jq ([.a 2 (.mv (.c (.f (.v (.pointer none)))))]) (jq ((ap [.a 3 (.bsl 5 1 0 [] []),jm 4 0,.a 5 (.app 5 1 1 (.t 3) (.t 4))] [.a 6 (.bld [jN,jF] [(0,
 1,(.t 5))]),.a 7 (.box 173 (.t 6)),jm 2 7])) .ret))
theorem fn_oc_NewReader : Fn Tryz.prog 81 8 [.t 2] s_oc_NewReader:=.of Tryz.func81 (by kernel_rfl)
def s_oc_get : SCode :=
  (jq ([.a 4 (.mv (.c (.f (.v (.int .u64 0)))))]) (jq ([.a 5 (.mv (.c (.f (.v (.int .u64 0)))))]) (.seq (jq ((ap [jm 8 0,jm 9 1,.a 10 (.call (kC 116)
 [(.t 8),(.t 9)])] [je 11 10,jk 12 0])) (.block 0 (.loop (jq ([jB 13 .lss 12 11]) (.seq (jc 13 .skip (.exit 0)) (.seq (.block 1 (jq ([jx 14 1 10 12,
 jl 15 14,jm 7 15]) (.ops [jm 16 5,.a 17 (.bin .shl (.t 16) (.c (.f (.v (.int .u64 8))))),jm 18 7,.a 19 (.conv .u64 (.t 18)),jB 20 .or 17 19,jm 5
 20]))) (.ops [jb 21 .add 12 1,jm 12 21]))))))) (jq ([jm 22 5,jm 4 22]) .ret))))
theorem fn_oc_get : Fn Tryz.prog 115 23 [.t 4] s_oc_get:=.of Tryz.func115 (by kernel_rfl)
def s_oc_RU8 : SCode :=
  (jq ([jk 2 0]) (jq ((ap [jm 3 0,.a 4 (.call (kC 115) [(.t 3),(kI 1)])] [.a 5 (.conv .i64 (.t 4)),jm 2 5])) .ret))
theorem fn_oc_RU8 : Fn Tryz.prog 82 6 [.t 2] s_oc_RU8:=.of Tryz.func82 (by kernel_rfl)
def s_oc_RU16 : SCode :=
  (jq ([jk 2 0]) (jq ((ap [jm 3 0,.a 4 (.call (kC 115) [(.t 3),(kI 2)])] [.a 5 (.conv .i64 (.t 4)),jm 2 5])) .ret))
theorem fn_oc_RU16 : Fn Tryz.prog 117 6 [.t 2] s_oc_RU16:=.of Tryz.func117 (by kernel_rfl)
def s_oc_RRaw : SCode :=
  (jq ([.a 4 (.mv kN)]) (.seq (jq ((ap [jm 6 0,jn 7 6,jo 8 1 7,jl 9 8,jm 10 9,gM 11 1 10 false] (ap [jG 12 (.bin .lss (.t 11) (kI 0)) 10 false] (ap
 [.a 13 (.pick (.t 10) kT (.t 12)),jm 14 13,gM 15 1 14 false] (ap [gM 16 0 14 false,gN 17 16 14 false,gO 18 0 17 14 false,gL 19 18 14 false,jG 20
 (.slen (.t 19)) 14 false,jG 21 (.bin .gtr (.t 15) (.t 20)) 14 false] [.a 22 (.pick (.t 14) kT (.t 21))]))))) (jc 22 (jq ([jm 23 0,jm 24 0,jn 25 23,
 jo 26 0 25,.n (.store 1 (.t 26) kN),jn 27 24,jo 28 1 27,.n (.store 1 (.t 28) kT)]) (jq ([.a 4 (.mv kN)]) .ret)) .skip)) (jq ((ap [.a 29 (.bsl 5 1 0
 [] []),jm 30 0,jn 31 30,jo 32 0 31,jl 33 32,jm 34 1,.a 35 (.sub 1 5 (.t 33) none (some (.t 34)) none),.a 36 (.app 5 1 1 (.t 29) (.t 35))] [jm 5
 36])) (jq ([jm 37 0,jm 38 0,jn 39 38,jo 40 0 39,jl 41 40,jm 42 1,.a 43 (.sub 1 5 (.t 41) (some (.t 42)) none none),jn 44 37,jo 45 0 44,.n
 (.store 1 (.t 45) (.t 43))]) (jq ([jm 46 5,jm 4 46]) .ret)))))
theorem fn_oc_RRaw : Fn Tryz.prog 116 47 [.t 4] s_oc_RRaw:=.of Tryz.func116 (by kernel_rfl)
def s_oc_RShort : SCode :=
  (jq ([.a 2 (.mv kN)]) (jq ((ap [jm 3 0,jm 4 0,.a 5 (.call (kC 117) [(.t 4)])] (ap [.a 6 (.call (kC 116) [(.t 3),(.t 5)])] [jm 2 6]))) .ret))
theorem fn_oc_RShort : Fn Tryz.prog 84 7 [.t 2] s_oc_RShort:=.of Tryz.func84 (by kernel_rfl)
def s_oc_RText : SCode :=
  (jq ([.a 2 (.mv (.c (.f (.v (.string ⟨#[]⟩)))))]) (jq ((ap [jm 3 0,.a 4 (.call (kC 84) [(.t 3)])] [.a 5 (.b2s (.t 4)),jm 2 5])) .ret))
theorem fn_oc_RText : Fn Tryz.prog 83 6 [.t 2] s_oc_RText:=.of Tryz.func83 (by kernel_rfl)
def s_ro_put : SCode :=
  (jq ([jm 7 2,jb 8 .sub 7 1,jm 6 8]) (.block 0 (.loop (.seq (jq ([jm 9 6,jb 10 .geq 9 0]) (jc 10 .skip (.exit 0))) (.seq (.block 1 (.ops (ap [jm 13
 0,jm 14 0,jn 15 14,jo 16 0 15,jl 17 16,jm 18 1,jm 19 6,.a 20 (.bin .mul (kI 8) (.t 19)),.a 21 (.conv .u64 (.t 20)),jB 22 .shr 18 21,.a 23
 (.conv .u8 (.t 22)),.a 24 (.bsl 5 1 1 [(.f (.v (.int .u8 0)))] [(0,(.t 23))]),.a 25 (.app 5 1 1 (.t 17) (.t 24))] [jn 26 13,jo 27 0 26,.n (.store
 1 (.t 27) (.t 25))]))) (.ops [jm 11 6,jb 12 .sub 11 1,jm 6 12]))))))
theorem fn_ro_put : Fn Tryz.prog 101 28 [] s_ro_put:=.of Tryz.func101 (by kernel_rfl)
def s_ro_WU8 : SCode :=
  (.ops [jm 4 0,jm 5 1,.a 6 (.conv .u64 (.t 5)),.a 7 (.call (kC 101) [(.t 4),(.t 6),(kI 1)])])
theorem fn_ro_WU8 : Fn Tryz.prog 49 8 [] s_ro_WU8:=.of Tryz.func49 (by kernel_rfl)
def s_ro_WU16 : SCode :=
  (.ops [jm 4 0,jm 5 1,.a 6 (.conv .u64 (.t 5)),.a 7 (.call (kC 101) [(.t 4),(.t 6),(kI 2)])])
theorem fn_ro_WU16 : Fn Tryz.prog 114 8 [] s_ro_WU16:=.of Tryz.func114 (by kernel_rfl)
def s_ro_WRaw : SCode :=
  (.ops (ap [jm 4 0,jm 5 0,jn 6 5,jo 7 0 6,jl 8 7,jm 9 1,.a 10 (.app 5 1 1 (.t 8) (.t 9))] [jn 11 4,jo 12 0 11,.n (.store 1 (.t 12) (.t 10))]))
theorem fn_ro_WRaw : Fn Tryz.prog 52 13 [] s_ro_WRaw:=.of Tryz.func52 (by kernel_rfl)
def s_ro_WShort : SCode :=
  (jq ([.a 4 (.mv kF)]) (.seq (jq ([jm 5 1,je 6 5,jb 7 .gtr 6 65535]) (jc 7 (jq ([.a 4 (.mv kF)]) .ret) .skip)) (jq ([jm 8 0,jm 9 1,je 10 9,.a 11
 (.call (kC 114) [(.t 8),(.t 10)])]) (jq ([jm 12 0,jm 13 1,.a 14 (.call (kC 52) [(.t 12),(.t 13)])]) (jq ([.a 4 (.mv kT)]) .ret)))))
theorem fn_ro_WShort : Fn Tryz.prog 80 15 [.t 4] s_ro_WShort:=.of Tryz.func80 (by kernel_rfl)
def s_ro_WText : SCode :=
  (jq ([.a 4 (.mv kF)]) (jq ((ap [jm 5 0,jm 6 1,.a 7 (.s2b (.t 6)),.a 8 (.call (kC 80) [(.t 5),(.t 7)])] [jm 4 8])) .ret))
theorem fn_ro_WText : Fn Tryz.prog 79 9 [.t 4] s_ro_WText:=.of Tryz.func79 (by kernel_rfl)
def s_ro_get : SCode :=
  (jq ([.a 4 (.mv (.c (.f (.v (.int .u64 0)))))]) (jq ((ap [jm 8 0,jm 9 1,.a 10 (.call (kC 119) [(.t 8),(.t 9)])] [jm 5 10])) (jq ([.a 6 (.mv (.c (.f
 (.v (.int .u64 0)))))]) (.seq (jq ([jk 7 0]) (.block 0 (.loop (.seq (jq ([jm 11 7,jm 12 5,je 13 12,jB 14 .lss 11 13]) (jc 14 .skip (.exit 0))) (.seq
 (.block 1 (.ops [jm 17 6,.a 18 (.bin .shl (.t 17) (.c (.f (.v (.int .u64 8))))),jm 19 5,jm 20 7,jx 21 1 19 20,jl 22 21,.a 23 (.conv .u64 (.t
 22)),jB 24 .add 18 23,jm 6 24])) (.ops [jm 15 7,jb 16 .add 15 1,jm 7 16])))))) (jq ([jm 25 6,jm 4 25]) .ret)))))
theorem fn_ro_get : Fn Tryz.prog 118 26 [.t 4] s_ro_get:=.of Tryz.func118 (by kernel_rfl)
def s_ro_RU8 : SCode :=
  (jq ([jk 2 0]) (jq ((ap [jm 3 0,.a 4 (.call (kC 118) [(.t 3),(kI 1)])] [.a 5 (.conv .i64 (.t 4)),jm 2 5])) .ret))
theorem fn_ro_RU8 : Fn Tryz.prog 86 6 [.t 2] s_ro_RU8:=.of Tryz.func86 (by kernel_rfl)
def s_ro_RU16 : SCode :=
  (jq ([jk 2 0]) (jq ((ap [jm 3 0,.a 4 (.call (kC 118) [(.t 3),(kI 2)])] [.a 5 (.conv .i64 (.t 4)),jm 2 5])) .ret))
theorem fn_ro_RU16 : Fn Tryz.prog 120 6 [.t 2] s_ro_RU16:=.of Tryz.func120 (by kernel_rfl)
def s_ro_RRaw : SCode :=
  (jq ([.a 4 (.mv kN)]) (.seq (jq ((ap [jm 6 0,jn 7 6,jo 8 1 7,jl 9 8,jm 10 9,gM 11 1 10 false] (ap [jG 12 (.bin .lss (.t 11) (kI 0)) 10 false] (ap
 [.a 13 (.pick (.t 10) kT (.t 12)),jm 14 13,gM 15 1 14 false] (ap [gM 16 0 14 false,gN 17 16 14 false,gO 18 0 17 14 false,gL 19 18 14 false,jG 20
 (.slen (.t 19)) 14 false,jG 21 (.bin .gtr (.t 15) (.t 20)) 14 false] [.a 22 (.pick (.t 14) kT (.t 21))]))))) (jc 22 (jq ([jm 23 0,jn 24 23,jo 25 1
 24,.n (.store 1 (.t 25) kT)]) (jq ([jm 26 0,jn 27 26,jo 28 0 27,.n (.store 1 (.t 28) kN)]) (jq ([.a 4 (.mv kN)]) .ret))) .skip)) (jq ((ap [.a 29
 (.bsl 5 1 0 [] []),jm 30 0,jn 31 30,jo 32 0 31,jl 33 32,jm 34 1,.a 35 (.sub 1 5 (.t 33) none (some (.t 34)) none),.a 36 (.app 5 1 1 (.t 29) (.t
 35))] [jm 5 36])) (jq ([jm 37 0,jm 38 0,jn 39 38,jo 40 0 39,jl 41 40,jm 42 1,.a 43 (.sub 1 5 (.t 41) (some (.t 42)) none none),jn 44 37,jo 45 0
 44,.n (.store 1 (.t 45) (.t 43))]) (jq ([jm 46 5,jm 4 46]) .ret)))))
theorem fn_ro_RRaw : Fn Tryz.prog 119 47 [.t 4] s_ro_RRaw:=.of Tryz.func119 (by kernel_rfl)
def s_ro_RShort : SCode :=
  (jq ([.a 2 (.mv kN)]) (jq ((ap [jm 3 0,jm 4 0,.a 5 (.call (kC 120) [(.t 4)])] (ap [.a 6 (.call (kC 119) [(.t 3),(.t 5)])] [jm 2 6]))) .ret))
theorem fn_ro_RShort : Fn Tryz.prog 88 7 [.t 2] s_ro_RShort:=.of Tryz.func88 (by kernel_rfl)
def s_ro_RText : SCode :=
  (jq ([.a 2 (.mv (.c (.f (.v (.string ⟨#[]⟩)))))]) (jq ((ap [jm 3 0,.a 4 (.call (kC 88) [(.t 3)])] [.a 5 (.b2s (.t 4)),jm 2 5])) .ret))
theorem fn_ro_RText : Fn Tryz.prog 87 6 [.t 2] s_ro_RText:=.of Tryz.func87 (by kernel_rfl)
set_option maxHeartbeats 2000000
theorem app_map_u {l : Bs} {x : UInt8} : l.map uF ++ [.v (.int .u8 (x.toNat : Int))] = (l ++ [x]).map uF:=by rw [List.map_append];rfl
def dW (l : Bs) : Row:=.data 5 (l.map uF)
def wB (T : TypeId) (q : Nat) (l : Bs) : Row:=.box T [.sl q 0 l.length]
def wS (T : TypeId) (l : Bs) : Option Bs → List Row
  | none=>[wB T 1 l,dW l]
  | some c=>[wB T 2 c,.dead,dW c]
theorem u8_wrap (a : Int) : IntKind.u8.wrap a = a % 256:=rfl
theorem u64_wrap (a : Int) : IntKind.u64.wrap a = a % 18446744073709551616:=rfl
theorem byte_eq {v k : Nat} (hk : k < 8) : IntKind.u8.wrap ((v : Int).fdiv (2 ^ min (8 * (k : Int)).toNat IntKind.u64.bits)) = ((UInt8.ofNat (v / 256 ^ k)).toNat : Int):=by
  rw [u8_wrap,ofNat_toNat,show min (8 * (k : Int)).toNat IntKind.u64.bits = 8 * k by show min _ 64 = _;omega,Int.fdiv_eq_ediv_of_nonneg _ (by exact Int.pow_nonneg (by decide))]
  rw [show (256 : Nat) ^ k = 2 ^ (8 * k) by rw [Nat.pow_mul]]
  simp only [Int.natCast_emod,Int.natCast_ediv,Int.natCast_pow]
  rfl
set_option maxRecDepth 100000 in
theorem c_oc_put (l : Bs) (v n : Nat) (hn : n + 1 ≤ 8) (hv : v < 18446744073709551616) (hl : l.length ≤ 140737488350000) : Con Tryz.prog 111 [.pt 0 0,.f (.v (.int .u64 v)),D.int (n + 1 : Nat)] [wB 171 1 l,dW l] fun r H'=>r = .tp [] ∧ H' = [wB 171 2 (l ++ beB (n + 1) v),.dead,dW (l ++ beB (n + 1) v)]:=by
  refine Con.walk good fn_oc_put (by simp) ?_
  unfold s_oc_put
  simp only [argsE,wB,dW]
  repeat' (with_reducible first|refine Wx.h ?_|refine Wb.h fun K hK=>?_|(refine hK _ ?_;clear hK K)|(refine wT ?_ ?_;assumption)|(refine wF ?_ ?_;assumption)|(refine Wy.h ?_ ?_;kernel_rfl)|refine Wq.h ?_ ?_<;>intro h<;>try (exfalso;omega)|refine Wu.h ?_ ?_<;>intro h<;>try simp only [h]|((fail_if_success refine Wz.h ?_);first|simp (disch:=omega) only [↓LD,LA,loadA_rf,seval]|(refine And.intro ?_ ?_;omega)|simp only [D.int,D.bool]))
  refine HS.loopG [0,1,6] (fun x : Int × Option Bs=>⟨frm 27 [(0,.pt 0 0),(1,.f (.v (.int .u64 v))),(6,D.int x.1)],wS 171 l x.2,[]⟩) (fun x=>(-1 ≤ x.1 ∧ x.1 < 8) ∧ (x.2.getD l).length ≤ l.length + 8 ∧ l ++ beB (n + 1) v = x.2.getD l ++ beB (x.1 + 1).toNat v ∧ (x.1 < 0 → x.2.isSome = true)) (fun x=>(x.1 + 1).toNat) (((n + 1 : Nat) : Int) - 1,none) (by kernel_rfl) ⟨⟨by dsimp only;omega,by dsimp only;omega⟩,by simp,by simp only [Option.getD_none];congr 2;omega,by dsimp only;omega⟩ ?_
  rintro ⟨i,o⟩ ⟨⟨h0,h8⟩,hc,he,hs⟩
  dsimp only at h0 h8 hc he hs
  by_cases hi : 0 ≤ i
  · obtain ⟨k,rfl⟩:=Int.eq_ofNat_of_zero_le hi
    have hx:=byte_eq (v:=v) (k:=k) (by omega)
    have hw : IntKind.u64.wrap (8 * (k : Int)) = 8 * (k : Int):=by rw [u64_wrap];omega
    have hbe : beB ((k : Int) + 1).toNat v = UInt8.ofNat (v / 256 ^ k) :: beB k v:=by rw [show ((k : Int) + 1).toNat = k + 1 by omega];rfl
    rw [hbe] at he
    rcases o with _|c<;>simp only [Option.getD_none,Option.getD_some] at hc he
    all_goals
      repeat' (with_reducible first|refine Wx.h ?_|refine We.h fun K hK=>?_|refine Wd.h fun K M hK hM=>?_|(refine hK _ _ _ _ ?_;clear hK K;try clear hM M)|(refine hM ?_;clear hM M;try clear hK K)|refine Wb.h fun K hK=>?_|(refine hK _ ?_;clear hK K)|(refine wT ?_ ?_;assumption)|(refine wF ?_ ?_;assumption)|(refine Wy.h ?_ ?_;kernel_rfl)|refine Wq.h ?_ ?_<;>intro h<;>try (exfalso;omega)|refine Wu.h ?_ ?_<;>intro h<;>try simp only [h]|((fail_if_success refine Wz.h ?_);first|simp (disch:=omega) only [↓LD,LA,loadA_rf,seval,wS,wB,dW,hw,hx,app_map_u]|(refine And.intro ?_ ?_;omega)|simp only [D.int,D.bool]))
    · rw [show l.length + 1 = (l ++ [UInt8.ofNat (v / 256 ^ k)]).length by simp]
      exact Next.mk ((k : Int) - 1,some (l ++ [UInt8.ofNat (v / 256 ^ k)])) (by kernel_rfl) ⟨⟨by dsimp only;omega,by dsimp only;omega⟩,by simp,by dsimp only;rw [show ((k : Int) - 1 + 1).toNat = k by omega,he];simp,fun _=>rfl⟩ (by dsimp only;omega)
    · rw [show c.length + 1 = (c ++ [UInt8.ofNat (v / 256 ^ k)]).length by simp]
      refine Next.mk ((k : Int) - 1,some (c ++ [UInt8.ofNat (v / 256 ^ k)])) (by kernel_rfl) ⟨⟨by dsimp only;omega,by dsimp only;omega⟩,?_,by dsimp only;rw [show ((k : Int) - 1 + 1).toNat = k by omega,he];simp,fun _=>rfl⟩ (by dsimp only;omega)
      have h1:=congrArg List.length he
      simp only [List.length_append,List.length_cons,beB_len,Option.getD_some,List.length_nil] at h1 ⊢
      omega
  · rcases o with _|c
    · exact absurd (hs (by omega)) (by simp)
    repeat' (with_reducible first|refine Wx.h ?_|refine Wb.h fun K hK=>?_|(refine hK _ ?_;clear hK K)|(refine wT ?_ ?_;assumption)|(refine wF ?_ ?_;assumption)|(refine Wy.h ?_ ?_;kernel_rfl)|refine Wq.h ?_ ?_<;>intro h<;>try (exfalso;omega)|refine Wu.h ?_ ?_<;>intro h<;>try simp only [h]|((fail_if_success refine Wz.h ?_);first|simp (disch:=omega) only [↓LD,LA,loadA_rf,seval,wS,wB,dW]|(refine And.intro ?_ ?_;omega)|simp only [D.int,D.bool]))
    rw [show (i + 1).toNat = 0 by omega,Option.getD_some,beB,List.append_nil] at he
    rw [he]
    exact end0 ⟨rfl,rfl⟩
set_option maxRecDepth 100000 in
theorem c_ro_put (l : Bs) (v n : Nat) (hn : n + 1 ≤ 8) (hv : v < 18446744073709551616) (hl : l.length ≤ 140737488350000) : Con Tryz.prog 101 [.pt 0 0,.f (.v (.int .u64 v)),D.int (n + 1 : Nat)] [wB 93 1 l,dW l] fun r H'=>r = .tp [] ∧ H' = [wB 93 2 (l ++ beB (n + 1) v),.dead,dW (l ++ beB (n + 1) v)]:=by
  refine Con.walk good fn_ro_put (by simp) ?_
  unfold s_ro_put
  simp only [argsE,wB,dW]
  repeat' (with_reducible first|refine Wx.h ?_|refine Wb.h fun K hK=>?_|(refine hK _ ?_;clear hK K)|(refine wT ?_ ?_;assumption)|(refine wF ?_ ?_;assumption)|(refine Wy.h ?_ ?_;kernel_rfl)|refine Wq.h ?_ ?_<;>intro h<;>try (exfalso;omega)|refine Wu.h ?_ ?_<;>intro h<;>try simp only [h]|((fail_if_success refine Wz.h ?_);first|simp (disch:=omega) only [↓LD,LA,loadA_rf,seval]|(refine And.intro ?_ ?_;omega)|simp only [D.int,D.bool]))
  refine HS.loopG [0,1,6] (fun x : Int × Option Bs=>⟨frm 28 [(0,.pt 0 0),(1,.f (.v (.int .u64 v))),(6,D.int x.1)],wS 93 l x.2,[]⟩) (fun x=>(-1 ≤ x.1 ∧ x.1 < 8) ∧ (x.2.getD l).length ≤ l.length + 8 ∧ l ++ beB (n + 1) v = x.2.getD l ++ beB (x.1 + 1).toNat v ∧ (x.1 < 0 → x.2.isSome = true)) (fun x=>(x.1 + 1).toNat) (((n + 1 : Nat) : Int) - 1,none) (by kernel_rfl) ⟨⟨by dsimp only;omega,by dsimp only;omega⟩,by simp,by simp only [Option.getD_none];congr 2;omega,by dsimp only;omega⟩ ?_
  rintro ⟨i,o⟩ ⟨⟨h0,h8⟩,hc,he,hs⟩
  dsimp only at h0 h8 hc he hs
  by_cases hi : 0 ≤ i
  · obtain ⟨k,rfl⟩:=Int.eq_ofNat_of_zero_le hi
    have hx:=byte_eq (v:=v) (k:=k) (by omega)
    have hw : IntKind.u64.wrap (8 * (k : Int)) = 8 * (k : Int):=by rw [u64_wrap];omega
    have hbe : beB ((k : Int) + 1).toNat v = UInt8.ofNat (v / 256 ^ k) :: beB k v:=by rw [show ((k : Int) + 1).toNat = k + 1 by omega];rfl
    rw [hbe] at he
    rcases o with _|c<;>simp only [Option.getD_none,Option.getD_some] at hc he
    all_goals
      repeat' (with_reducible first|refine Wx.h ?_|refine We.h fun K hK=>?_|refine Wd.h fun K M hK hM=>?_|(refine hK _ _ _ _ ?_;clear hK K;try clear hM M)|(refine hM ?_;clear hM M;try clear hK K)|refine Wb.h fun K hK=>?_|(refine hK _ ?_;clear hK K)|(refine wT ?_ ?_;assumption)|(refine wF ?_ ?_;assumption)|(refine Wy.h ?_ ?_;kernel_rfl)|refine Wq.h ?_ ?_<;>intro h<;>try (exfalso;omega)|refine Wu.h ?_ ?_<;>intro h<;>try simp only [h]|((fail_if_success refine Wz.h ?_);first|simp (disch:=omega) only [↓LD,LA,loadA_rf,seval,wS,wB,dW,hw,hx,app_map_u]|(refine And.intro ?_ ?_;omega)|simp only [D.int,D.bool]))
    · rw [show l.length + 1 = (l ++ [UInt8.ofNat (v / 256 ^ k)]).length by simp]
      exact Next.mk ((k : Int) - 1,some (l ++ [UInt8.ofNat (v / 256 ^ k)])) (by kernel_rfl) ⟨⟨by dsimp only;omega,by dsimp only;omega⟩,by simp,by dsimp only;rw [show ((k : Int) - 1 + 1).toNat = k by omega,he];simp,fun _=>rfl⟩ (by dsimp only;omega)
    · rw [show c.length + 1 = (c ++ [UInt8.ofNat (v / 256 ^ k)]).length by simp]
      refine Next.mk ((k : Int) - 1,some (c ++ [UInt8.ofNat (v / 256 ^ k)])) (by kernel_rfl) ⟨⟨by dsimp only;omega,by dsimp only;omega⟩,?_,by dsimp only;rw [show ((k : Int) - 1 + 1).toNat = k by omega,he];simp,fun _=>rfl⟩ (by dsimp only;omega)
      have h1:=congrArg List.length he
      simp only [List.length_append,List.length_cons,beB_len,Option.getD_some,List.length_nil] at h1 ⊢
      omega
  · rcases o with _|c
    · exact absurd (hs (by omega)) (by simp)
    repeat' (with_reducible first|refine Wx.h ?_|refine Wb.h fun K hK=>?_|(refine hK _ ?_;clear hK K)|(refine wT ?_ ?_;assumption)|(refine wF ?_ ?_;assumption)|(refine Wy.h ?_ ?_;kernel_rfl)|refine Wq.h ?_ ?_<;>intro h<;>try (exfalso;omega)|refine Wu.h ?_ ?_<;>intro h<;>try simp only [h]|((fail_if_success refine Wz.h ?_);first|simp (disch:=omega) only [↓LD,LA,loadA_rf,seval,wS,wB,dW]|(refine And.intro ?_ ?_;omega)|simp only [D.int,D.bool]))
    rw [show (i + 1).toNat = 0 by omega,Option.getD_some,beB,List.append_nil] at he
    rw [he]
    exact end0 ⟨rfl,rfl⟩
theorem c_oc_WU8 (l : Bs) (v : Nat) (hv : v < 9223372036854775808) (hl : l.length ≤ 140737488350000) : Con Tryz.prog 75 [.pt 0 0,D.int v] [wB 171 1 l,dW l] fun r H'=>r = .tp [] ∧ H' = [wB 171 2 (l ++ beB 1 v),.dead,dW (l ++ beB 1 v)]:=by
  refine Con.walk good fn_oc_WU8 (by simp) ?_
  unfold s_oc_WU8
  simp only [argsE]
  have hw : IntKind.u64.wrap (v : Int) = v:=by rw [u64_wrap];omega
  repeat' (with_reducible first|refine Wx.h ?_|refine Wb.h fun K hK=>?_|(refine hK _ ?_;clear hK K)|(refine wT ?_ ?_;assumption)|(refine wF ?_ ?_;assumption)|(refine Wy.h ?_ ?_;kernel_rfl)|refine Wq.h ?_ ?_<;>intro h<;>try (exfalso;omega)|refine Wu.h ?_ ?_<;>intro h<;>try simp only [h]|((fail_if_success refine Wz.h ?_);first|simp (disch:=omega) only [↓LD,LA,loadA_rf,seval,hw]|(refine And.intro ?_ ?_;omega)|simp only [D.int,D.bool]))
  refine callW_emb (c_oc_put l v (1 - 1) (by omega) (by omega) hl) [0,1] (by kernel_rfl) rfl rfl ?_
  rintro _ _ ⟨rfl,rfl⟩
  simp (disch:=omega) only [↓LD,LA,loadA_rf,seval,ren,List.getElem?_nil,wB,dW]
  repeat' (with_reducible first|refine Wx.h ?_|refine Wb.h fun K hK=>?_|(refine hK _ ?_;clear hK K)|(refine wT ?_ ?_;assumption)|(refine wF ?_ ?_;assumption)|(refine Wy.h ?_ ?_;kernel_rfl)|refine Wq.h ?_ ?_<;>intro h<;>try (exfalso;omega)|refine Wu.h ?_ ?_<;>intro h<;>try simp only [h]|((fail_if_success refine Wz.h ?_);first|simp (disch:=omega) only [↓LD,LA,loadA_rf,seval]|(refine And.intro ?_ ?_;omega)|simp only [D.int,D.bool]))
  exact end0 ⟨rfl,rfl⟩
theorem c_oc_WU16 (l : Bs) (v : Nat) (hv : v < 9223372036854775808) (hl : l.length ≤ 140737488350000) : Con Tryz.prog 112 [.pt 0 0,D.int v] [wB 171 1 l,dW l] fun r H'=>r = .tp [] ∧ H' = [wB 171 2 (l ++ beB 2 v),.dead,dW (l ++ beB 2 v)]:=by
  refine Con.walk good fn_oc_WU16 (by simp) ?_
  unfold s_oc_WU16
  simp only [argsE]
  have hw : IntKind.u64.wrap (v : Int) = v:=by rw [u64_wrap];omega
  repeat' (with_reducible first|refine Wx.h ?_|refine Wb.h fun K hK=>?_|(refine hK _ ?_;clear hK K)|(refine wT ?_ ?_;assumption)|(refine wF ?_ ?_;assumption)|(refine Wy.h ?_ ?_;kernel_rfl)|refine Wq.h ?_ ?_<;>intro h<;>try (exfalso;omega)|refine Wu.h ?_ ?_<;>intro h<;>try simp only [h]|((fail_if_success refine Wz.h ?_);first|simp (disch:=omega) only [↓LD,LA,loadA_rf,seval,hw]|(refine And.intro ?_ ?_;omega)|simp only [D.int,D.bool]))
  refine callW_emb (c_oc_put l v (2 - 1) (by omega) (by omega) hl) [0,1] (by kernel_rfl) rfl rfl ?_
  rintro _ _ ⟨rfl,rfl⟩
  simp (disch:=omega) only [↓LD,LA,loadA_rf,seval,ren,List.getElem?_nil,wB,dW]
  repeat' (with_reducible first|refine Wx.h ?_|refine Wb.h fun K hK=>?_|(refine hK _ ?_;clear hK K)|(refine wT ?_ ?_;assumption)|(refine wF ?_ ?_;assumption)|(refine Wy.h ?_ ?_;kernel_rfl)|refine Wq.h ?_ ?_<;>intro h<;>try (exfalso;omega)|refine Wu.h ?_ ?_<;>intro h<;>try simp only [h]|((fail_if_success refine Wz.h ?_);first|simp (disch:=omega) only [↓LD,LA,loadA_rf,seval]|(refine And.intro ?_ ?_;omega)|simp only [D.int,D.bool]))
  exact end0 ⟨rfl,rfl⟩
theorem c_ro_WU16 (l : Bs) (v : Nat) (hv : v < 9223372036854775808) (hl : l.length ≤ 140737488350000) : Con Tryz.prog 114 [.pt 0 0,D.int v] [wB 93 1 l,dW l] fun r H'=>r = .tp [] ∧ H' = [wB 93 2 (l ++ beB 2 v),.dead,dW (l ++ beB 2 v)]:=by
  refine Con.walk good fn_ro_WU16 (by simp) ?_
  unfold s_ro_WU16
  simp only [argsE]
  have hw : IntKind.u64.wrap (v : Int) = v:=by rw [u64_wrap];omega
  repeat' (with_reducible first|refine Wx.h ?_|refine Wb.h fun K hK=>?_|(refine hK _ ?_;clear hK K)|(refine wT ?_ ?_;assumption)|(refine wF ?_ ?_;assumption)|(refine Wy.h ?_ ?_;kernel_rfl)|refine Wq.h ?_ ?_<;>intro h<;>try (exfalso;omega)|refine Wu.h ?_ ?_<;>intro h<;>try simp only [h]|((fail_if_success refine Wz.h ?_);first|simp (disch:=omega) only [↓LD,LA,loadA_rf,seval,hw]|(refine And.intro ?_ ?_;omega)|simp only [D.int,D.bool]))
  refine callW_emb (c_ro_put l v (2 - 1) (by omega) (by omega) hl) [0,1] (by kernel_rfl) rfl rfl ?_
  rintro _ _ ⟨rfl,rfl⟩
  simp (disch:=omega) only [↓LD,LA,loadA_rf,seval,ren,List.getElem?_nil,wB,dW]
  repeat' (with_reducible first|refine Wx.h ?_|refine Wb.h fun K hK=>?_|(refine hK _ ?_;clear hK K)|(refine wT ?_ ?_;assumption)|(refine wF ?_ ?_;assumption)|(refine Wy.h ?_ ?_;kernel_rfl)|refine Wq.h ?_ ?_<;>intro h<;>try (exfalso;omega)|refine Wu.h ?_ ?_<;>intro h<;>try simp only [h]|((fail_if_success refine Wz.h ?_);first|simp (disch:=omega) only [↓LD,LA,loadA_rf,seval]|(refine And.intro ?_ ?_;omega)|simp only [D.int,D.bool]))
  exact end0 ⟨rfl,rfl⟩
set_option maxHeartbeats 2000000
theorem app_map_uu {l m : Bs} : l.map uF ++ m.map uF = (l ++ m).map uF:=by rw [List.map_append]
theorem take_u {l : Bs} : (l.map uF).take l.length = l.map uF:=by rw [List.take_of_length_le (by simp)]
def wR (T : TypeId) (l b : Bs) : List Row:=if b.length = 0 then [wB T 1 l,dW l] else [wB T 2 (l ++ b),.dead,dW (l ++ b)]
theorem c_oc_WRaw (l b : Bs) (hl : l.length + b.length ≤ 140737488350000) : Con Tryz.prog 113 [.pt 0 0,.f (fY b)] [wB 171 1 l,dW l] fun r H'=>r = .tp [] ∧ H' = wR 171 l b:=by
  refine Con.walk good fn_oc_WRaw (by simp) ?_
  unfold s_oc_WRaw
  simp only [argsE,wB,dW]
  repeat' (with_reducible first|refine Wx.h ?_|refine Wb.h fun K hK=>?_|(refine hK _ ?_;clear hK K)|(refine wT ?_ ?_;assumption)|(refine wF ?_ ?_;assumption)|(refine Wy.h ?_ ?_;kernel_rfl)|refine Wq.h ?_ ?_<;>intro h<;>try (exfalso;omega)|refine Wu.h ?_ ?_<;>intro h<;>try simp only [h]|((fail_if_success refine Wz.h ?_);first|simp (disch:=omega) only [↓LD,LA,loadA_rf,seval,app_map_uu]|(refine And.intro ?_ ?_;omega)|simp only [D.int,D.bool]))
  · have e : b = []:=List.eq_nil_of_length_eq_zero (by assumption)
    subst e
    exact end0 ⟨rfl,rfl⟩
  · rw [← List.length_append]
    rw [wR,if_neg (by assumption)]
    exact RetS.gather (ds:=[]) (e:=⟨.tp [],[(0,wB 171 2 (l ++ b)),(1,.dead)],[dW (l ++ b)]⟩) rfl (by kernel_rfl) ⟨rfl,rfl⟩
theorem c_ro_WRaw (l b : Bs) (hl : l.length + b.length ≤ 140737488350000) : Con Tryz.prog 52 [.pt 0 0,.f (fY b)] [wB 93 1 l,dW l] fun r H'=>r = .tp [] ∧ H' = wR 93 l b:=by
  refine Con.walk good fn_ro_WRaw (by simp) ?_
  unfold s_ro_WRaw
  simp only [argsE,wB,dW]
  repeat' (with_reducible first|refine Wx.h ?_|refine Wb.h fun K hK=>?_|(refine hK _ ?_;clear hK K)|(refine wT ?_ ?_;assumption)|(refine wF ?_ ?_;assumption)|(refine Wy.h ?_ ?_;kernel_rfl)|refine Wq.h ?_ ?_<;>intro h<;>try (exfalso;omega)|refine Wu.h ?_ ?_<;>intro h<;>try simp only [h]|((fail_if_success refine Wz.h ?_);first|simp (disch:=omega) only [↓LD,LA,loadA_rf,seval,app_map_uu]|(refine And.intro ?_ ?_;omega)|simp only [D.int,D.bool]))
  · have e : b = []:=List.eq_nil_of_length_eq_zero (by assumption)
    subst e
    exact end0 ⟨rfl,rfl⟩
  · rw [← List.length_append]
    rw [wR,if_neg (by assumption)]
    exact RetS.gather (ds:=[]) (e:=⟨.tp [],[(0,wB 93 2 (l ++ b)),(1,.dead)],[dW (l ++ b)]⟩) rfl (by kernel_rfl) ⟨rfl,rfl⟩
def shB (b : Bs) : Bs:=beB 2 b.length ++ b
theorem c_oc_WShort (l b : Bs) (hl : l.length ≤ 1000000) (hb : b.length ≤ 65535) : Con Tryz.prog 78 [.pt 0 0,.f (fY b)] [wB 171 1 l,dW l] fun r H'=>r = D.bool true ∧ H' = [wB 171 2 (l ++ shB b),.dead,dW (l ++ shB b)]:=by
  refine Con.walk good fn_oc_WShort (by simp) ?_
  unfold s_oc_WShort
  simp only [argsE]
  repeat' (with_reducible first|refine Wx.h ?_|refine Wb.h fun K hK=>?_|(refine hK _ ?_;clear hK K)|(refine wT ?_ ?_;assumption)|(refine wF ?_ ?_;assumption)|(refine Wy.h ?_ ?_;kernel_rfl)|refine Wq.h ?_ ?_<;>intro h<;>try (exfalso;omega)|refine Wu.h ?_ ?_<;>intro h<;>try simp only [h]|((fail_if_success refine Wz.h ?_);first|simp (disch:=omega) only [↓LD,LA,loadA_rf,seval]|(refine And.intro ?_ ?_;omega)|simp only [D.int,D.bool]))
  refine callW_emb (c_oc_WU16 l b.length (by omega) (by omega)) [0,1] (by kernel_rfl) rfl rfl ?_
  rintro _ _ ⟨rfl,rfl⟩
  simp (disch:=omega) only [↓LD,LA,loadA_rf,seval,ren,List.getElem?_nil,wB,dW]
  repeat' (with_reducible first|refine Wx.h ?_|refine Wb.h fun K hK=>?_|(refine hK _ ?_;clear hK K)|(refine wT ?_ ?_;assumption)|(refine wF ?_ ?_;assumption)|(refine Wy.h ?_ ?_;kernel_rfl)|refine Wq.h ?_ ?_<;>intro h<;>try (exfalso;omega)|refine Wu.h ?_ ?_<;>intro h<;>try simp only [h]|((fail_if_success refine Wz.h ?_);first|simp (disch:=omega) only [↓LD,LA,loadA_rf,seval]|(refine And.intro ?_ ?_;omega)|simp only [D.int,D.bool]))
  refine callW_emb (c_oc_WRaw (l ++ beB 2 b.length) b (by simp [beB_len];omega)) [0,2] (by kernel_rfl) rfl rfl ?_
  rintro _ _ ⟨rfl,rfl⟩
  by_cases h0 : b.length = 0
  · obtain rfl : b = []:=List.eq_nil_of_length_eq_zero h0
    simp (disch:=omega) only [↓LD,LA,loadA_rf,seval,ren,List.getElem?_nil,wR,if_pos,wB,dW]
    repeat' (with_reducible first|refine Wx.h ?_|refine Wb.h fun K hK=>?_|(refine hK _ ?_;clear hK K)|(refine wT ?_ ?_;assumption)|(refine wF ?_ ?_;assumption)|(refine Wy.h ?_ ?_;kernel_rfl)|refine Wq.h ?_ ?_<;>intro h<;>try (exfalso;omega)|refine Wu.h ?_ ?_<;>intro h<;>try simp only [h]|((fail_if_success refine Wz.h ?_);first|simp (disch:=omega) only [↓LD,LA,loadA_rf,seval]|(refine And.intro ?_ ?_;omega)|simp only [D.int,D.bool]))
    exact endG rfl rfl (ef:=⟨D.bool true,[(0,wB 171 2 (l ++ shB [])),(1,.dead)],[dW (l ++ shB [])]⟩) (by kernel_rfl) ⟨rfl,rfl⟩
  · simp (disch:=omega) only [↓LD,LA,loadA_rf,seval,ren,List.getElem?_nil,wR,if_neg h0,wB,dW]
    repeat' (with_reducible first|refine Wx.h ?_|refine Wb.h fun K hK=>?_|(refine hK _ ?_;clear hK K)|(refine wT ?_ ?_;assumption)|(refine wF ?_ ?_;assumption)|(refine Wy.h ?_ ?_;kernel_rfl)|refine Wq.h ?_ ?_<;>intro h<;>try (exfalso;omega)|refine Wu.h ?_ ?_<;>intro h<;>try simp only [h]|((fail_if_success refine Wz.h ?_);first|simp (disch:=omega) only [↓LD,LA,loadA_rf,seval]|(refine And.intro ?_ ?_;omega)|simp only [D.int,D.bool]))
    simp only [List.append_assoc]
    exact endG rfl rfl (ef:=⟨D.bool true,[(0,wB 171 2 (l ++ shB b)),(1,.dead)],[dW (l ++ shB b)]⟩) (by kernel_rfl) ⟨rfl,rfl⟩
theorem c_oc_WText (l b : Bs) (hl : l.length ≤ 1000000) (hb : b.length ≤ 65535) : Con Tryz.prog 76 [.pt 0 0,.f (.v (.string (BB b)))] [wB 171 1 l,dW l] fun r H'=>r = D.bool true ∧ H' = [wB 171 2 (l ++ shB b),.dead,dW (l ++ shB b)]:=by
  refine Con.walk good fn_oc_WText (by simp) ?_
  unfold s_oc_WText
  simp only [argsE]
  repeat' (with_reducible first|refine Wx.h ?_|refine Wb.h fun K hK=>?_|(refine hK _ ?_;clear hK K)|(refine wT ?_ ?_;assumption)|(refine wF ?_ ?_;assumption)|(refine Wy.h ?_ ?_;kernel_rfl)|refine Wq.h ?_ ?_<;>intro h<;>try (exfalso;omega)|refine Wu.h ?_ ?_<;>intro h<;>try simp only [h]|((fail_if_success refine Wz.h ?_);first|simp (disch:=omega) only [↓LD,LA,loadA_rf,seval]|(refine And.intro ?_ ?_;omega)|simp only [D.int,D.bool]))
  refine callW_emb (c_oc_WShort l b hl hb) [0,1] (by kernel_rfl) rfl rfl ?_
  rintro _ _ ⟨rfl,rfl⟩
  simp (disch:=omega) only [↓LD,LA,loadA_rf,seval,ren,List.getElem?_nil,wB,dW]
  repeat' (with_reducible first|refine Wx.h ?_|refine Wb.h fun K hK=>?_|(refine hK _ ?_;clear hK K)|(refine wT ?_ ?_;assumption)|(refine wF ?_ ?_;assumption)|(refine Wy.h ?_ ?_;kernel_rfl)|refine Wq.h ?_ ?_<;>intro h<;>try (exfalso;omega)|refine Wu.h ?_ ?_<;>intro h<;>try simp only [h]|((fail_if_success refine Wz.h ?_);first|simp (disch:=omega) only [↓LD,LA,loadA_rf,seval]|(refine And.intro ?_ ?_;omega)|simp only [D.int,D.bool]))
  exact endG rfl rfl (ef:=⟨D.bool true,[(0,wB 171 2 (l ++ shB b)),(1,.dead)],[dW (l ++ shB b)]⟩) (by kernel_rfl) ⟨rfl,rfl⟩
theorem c_ro_WShort (l b : Bs) (hl : l.length ≤ 1000000) (hb : b.length ≤ 65535) : Con Tryz.prog 80 [.pt 0 0,.f (fY b)] [wB 93 1 l,dW l] fun r H'=>r = D.bool true ∧ H' = [wB 93 2 (l ++ shB b),.dead,dW (l ++ shB b)]:=by
  refine Con.walk good fn_ro_WShort (by simp) ?_
  unfold s_ro_WShort
  simp only [argsE]
  repeat' (with_reducible first|refine Wx.h ?_|refine Wb.h fun K hK=>?_|(refine hK _ ?_;clear hK K)|(refine wT ?_ ?_;assumption)|(refine wF ?_ ?_;assumption)|(refine Wy.h ?_ ?_;kernel_rfl)|refine Wq.h ?_ ?_<;>intro h<;>try (exfalso;omega)|refine Wu.h ?_ ?_<;>intro h<;>try simp only [h]|((fail_if_success refine Wz.h ?_);first|simp (disch:=omega) only [↓LD,LA,loadA_rf,seval]|(refine And.intro ?_ ?_;omega)|simp only [D.int,D.bool]))
  refine callW_emb (c_ro_WU16 l b.length (by omega) (by omega)) [0,1] (by kernel_rfl) rfl rfl ?_
  rintro _ _ ⟨rfl,rfl⟩
  simp (disch:=omega) only [↓LD,LA,loadA_rf,seval,ren,List.getElem?_nil,wB,dW]
  repeat' (with_reducible first|refine Wx.h ?_|refine Wb.h fun K hK=>?_|(refine hK _ ?_;clear hK K)|(refine wT ?_ ?_;assumption)|(refine wF ?_ ?_;assumption)|(refine Wy.h ?_ ?_;kernel_rfl)|refine Wq.h ?_ ?_<;>intro h<;>try (exfalso;omega)|refine Wu.h ?_ ?_<;>intro h<;>try simp only [h]|((fail_if_success refine Wz.h ?_);first|simp (disch:=omega) only [↓LD,LA,loadA_rf,seval]|(refine And.intro ?_ ?_;omega)|simp only [D.int,D.bool]))
  refine callW_emb (c_ro_WRaw (l ++ beB 2 b.length) b (by simp [beB_len];omega)) [0,2] (by kernel_rfl) rfl rfl ?_
  rintro _ _ ⟨rfl,rfl⟩
  by_cases h0 : b.length = 0
  · obtain rfl : b = []:=List.eq_nil_of_length_eq_zero h0
    simp (disch:=omega) only [↓LD,LA,loadA_rf,seval,ren,List.getElem?_nil,wR,if_pos,wB,dW]
    repeat' (with_reducible first|refine Wx.h ?_|refine Wb.h fun K hK=>?_|(refine hK _ ?_;clear hK K)|(refine wT ?_ ?_;assumption)|(refine wF ?_ ?_;assumption)|(refine Wy.h ?_ ?_;kernel_rfl)|refine Wq.h ?_ ?_<;>intro h<;>try (exfalso;omega)|refine Wu.h ?_ ?_<;>intro h<;>try simp only [h]|((fail_if_success refine Wz.h ?_);first|simp (disch:=omega) only [↓LD,LA,loadA_rf,seval]|(refine And.intro ?_ ?_;omega)|simp only [D.int,D.bool]))
    exact endG rfl rfl (ef:=⟨D.bool true,[(0,wB 93 2 (l ++ shB [])),(1,.dead)],[dW (l ++ shB [])]⟩) (by kernel_rfl) ⟨rfl,rfl⟩
  · simp (disch:=omega) only [↓LD,LA,loadA_rf,seval,ren,List.getElem?_nil,wR,if_neg h0,wB,dW]
    repeat' (with_reducible first|refine Wx.h ?_|refine Wb.h fun K hK=>?_|(refine hK _ ?_;clear hK K)|(refine wT ?_ ?_;assumption)|(refine wF ?_ ?_;assumption)|(refine Wy.h ?_ ?_;kernel_rfl)|refine Wq.h ?_ ?_<;>intro h<;>try (exfalso;omega)|refine Wu.h ?_ ?_<;>intro h<;>try simp only [h]|((fail_if_success refine Wz.h ?_);first|simp (disch:=omega) only [↓LD,LA,loadA_rf,seval]|(refine And.intro ?_ ?_;omega)|simp only [D.int,D.bool]))
    simp only [List.append_assoc]
    exact endG rfl rfl (ef:=⟨D.bool true,[(0,wB 93 2 (l ++ shB b)),(1,.dead)],[dW (l ++ shB b)]⟩) (by kernel_rfl) ⟨rfl,rfl⟩
theorem c_ro_WText (l b : Bs) (hl : l.length ≤ 1000000) (hb : b.length ≤ 65535) : Con Tryz.prog 79 [.pt 0 0,.f (.v (.string (BB b)))] [wB 93 1 l,dW l] fun r H'=>r = D.bool true ∧ H' = [wB 93 2 (l ++ shB b),.dead,dW (l ++ shB b)]:=by
  refine Con.walk good fn_ro_WText (by simp) ?_
  unfold s_ro_WText
  simp only [argsE]
  repeat' (with_reducible first|refine Wx.h ?_|refine Wb.h fun K hK=>?_|(refine hK _ ?_;clear hK K)|(refine wT ?_ ?_;assumption)|(refine wF ?_ ?_;assumption)|(refine Wy.h ?_ ?_;kernel_rfl)|refine Wq.h ?_ ?_<;>intro h<;>try (exfalso;omega)|refine Wu.h ?_ ?_<;>intro h<;>try simp only [h]|((fail_if_success refine Wz.h ?_);first|simp (disch:=omega) only [↓LD,LA,loadA_rf,seval]|(refine And.intro ?_ ?_;omega)|simp only [D.int,D.bool]))
  refine callW_emb (c_ro_WShort l b hl hb) [0,1] (by kernel_rfl) rfl rfl ?_
  rintro _ _ ⟨rfl,rfl⟩
  simp (disch:=omega) only [↓LD,LA,loadA_rf,seval,ren,List.getElem?_nil,wB,dW]
  repeat' (with_reducible first|refine Wx.h ?_|refine Wb.h fun K hK=>?_|(refine hK _ ?_;clear hK K)|(refine wT ?_ ?_;assumption)|(refine wF ?_ ?_;assumption)|(refine Wy.h ?_ ?_;kernel_rfl)|refine Wq.h ?_ ?_<;>intro h<;>try (exfalso;omega)|refine Wu.h ?_ ?_<;>intro h<;>try simp only [h]|((fail_if_success refine Wz.h ?_);first|simp (disch:=omega) only [↓LD,LA,loadA_rf,seval]|(refine And.intro ?_ ?_;omega)|simp only [D.int,D.bool]))
  exact endG rfl rfl (ef:=⟨D.bool true,[(0,wB 93 2 (l ++ shB b)),(1,.dead)],[dW (l ++ shB b)]⟩) (by kernel_rfl) ⟨rfl,rfl⟩
theorem c_oc_WU8n (v : Nat) (hv : v < 9223372036854775808) : Con Tryz.prog 75 [.pt 0 0,D.int v] [.box 171 [jN]] fun r H'=>r = .tp [] ∧ H' = [wB 171 1 (beB 1 v),dW (beB 1 v)]:=by
  refine Con.walk good fn_oc_WU8 (by simp) ?_
  unfold s_oc_WU8
  simp only [argsE]
  have hw : IntKind.u64.wrap (v : Int) = v:=by rw [u64_wrap];omega
  refine HS.view (View.void 5) ?_
  refine HS.view (View.bcell 0 0 (.sl 1 0 0) rfl rfl (.no (by decide))) ?_
  repeat' (with_reducible first|refine Wx.h ?_|refine Wb.h fun K hK=>?_|(refine hK _ ?_;clear hK K)|(refine wT ?_ ?_;assumption)|(refine wF ?_ ?_;assumption)|(refine Wy.h ?_ ?_;kernel_rfl)|refine Wq.h ?_ ?_<;>intro h<;>try (exfalso;omega)|refine Wu.h ?_ ?_<;>intro h<;>try simp only [h]|((fail_if_success refine Wz.h ?_);first|simp (disch:=omega) only [↓LD,LA,loadA_rf,seval,hw]|(refine And.intro ?_ ?_;omega)|simp only [D.int,D.bool]))
  refine callW_emb (c_oc_put [] v 0 (by omega) (by omega) (by simp)) [0,1] (by kernel_rfl) rfl rfl ?_
  rintro _ _ ⟨rfl,rfl⟩
  simp (disch:=omega) only [↓LD,LA,loadA_rf,seval,ren,List.getElem?_nil,wB,dW]
  repeat' (with_reducible first|refine Wx.h ?_|refine Wb.h fun K hK=>?_|(refine hK _ ?_;clear hK K)|(refine wT ?_ ?_;assumption)|(refine wF ?_ ?_;assumption)|(refine Wy.h ?_ ?_;kernel_rfl)|refine Wq.h ?_ ?_<;>intro h<;>try (exfalso;omega)|refine Wu.h ?_ ?_<;>intro h<;>try simp only [h]|((fail_if_success refine Wz.h ?_);first|simp (disch:=omega) only [↓LD,LA,loadA_rf,seval]|(refine And.intro ?_ ?_;omega)|simp only [D.int,D.bool]))
  exact RetS.gather (ds:=[]) (e:=⟨.tp [],[(0,wB 171 1 (beB 1 v))],[dW (beB 1 v)]⟩) rfl (by kernel_rfl) ⟨rfl,rfl⟩
theorem c_ro_WU8n (v : Nat) (hv : v < 9223372036854775808) : Con Tryz.prog 49 [.pt 0 0,D.int v] [.box 93 [jN]] fun r H'=>r = .tp [] ∧ H' = [wB 93 1 (beB 1 v),dW (beB 1 v)]:=by
  refine Con.walk good fn_ro_WU8 (by simp) ?_
  unfold s_ro_WU8
  simp only [argsE]
  have hw : IntKind.u64.wrap (v : Int) = v:=by rw [u64_wrap];omega
  refine HS.view (View.void 5) ?_
  refine HS.view (View.bcell 0 0 (.sl 1 0 0) rfl rfl (.no (by decide))) ?_
  repeat' (with_reducible first|refine Wx.h ?_|refine Wb.h fun K hK=>?_|(refine hK _ ?_;clear hK K)|(refine wT ?_ ?_;assumption)|(refine wF ?_ ?_;assumption)|(refine Wy.h ?_ ?_;kernel_rfl)|refine Wq.h ?_ ?_<;>intro h<;>try (exfalso;omega)|refine Wu.h ?_ ?_<;>intro h<;>try simp only [h]|((fail_if_success refine Wz.h ?_);first|simp (disch:=omega) only [↓LD,LA,loadA_rf,seval,hw]|(refine And.intro ?_ ?_;omega)|simp only [D.int,D.bool]))
  refine callW_emb (c_ro_put [] v 0 (by omega) (by omega) (by simp)) [0,1] (by kernel_rfl) rfl rfl ?_
  rintro _ _ ⟨rfl,rfl⟩
  simp (disch:=omega) only [↓LD,LA,loadA_rf,seval,ren,List.getElem?_nil,wB,dW]
  repeat' (with_reducible first|refine Wx.h ?_|refine Wb.h fun K hK=>?_|(refine hK _ ?_;clear hK K)|(refine wT ?_ ?_;assumption)|(refine wF ?_ ?_;assumption)|(refine Wy.h ?_ ?_;kernel_rfl)|refine Wq.h ?_ ?_<;>intro h<;>try (exfalso;omega)|refine Wu.h ?_ ?_<;>intro h<;>try simp only [h]|((fail_if_success refine Wz.h ?_);first|simp (disch:=omega) only [↓LD,LA,loadA_rf,seval]|(refine And.intro ?_ ?_;omega)|simp only [D.int,D.bool]))
  exact RetS.gather (ds:=[]) (e:=⟨.tp [],[(0,wB 93 1 (beB 1 v))],[dW (beB 1 v)]⟩) rfl (by kernel_rfl) ⟨rfl,rfl⟩
theorem c_oc_Bytes (l : Bs) (hl : l.length ≤ 1000000) : Con Tryz.prog 77 [.pt 0 0] [wB 171 1 l,dW l] fun r H'=>r = .f (fY l) ∧ H' = [wB 171 1 l,dW l]:=by
  refine Con.walk good fn_oc_Bytes (by simp) ?_
  unfold s_oc_Bytes
  simp only [argsE,wB,dW]
  repeat' (with_reducible first|refine Wx.h ?_|refine Wb.h fun K hK=>?_|(refine hK _ ?_;clear hK K)|(refine wT ?_ ?_;assumption)|(refine wF ?_ ?_;assumption)|(refine Wy.h ?_ ?_;kernel_rfl)|refine Wq.h ?_ ?_<;>intro h<;>try (exfalso;omega)|refine Wu.h ?_ ?_<;>intro h<;>try simp only [h]|((fail_if_success refine Wz.h ?_);first|simp (disch:=omega) only [↓LD,LA,loadA_rf,seval,take_u,List.length_map]|(refine And.intro ?_ ?_;omega)|simp only [D.int,D.bool]))
  · obtain rfl : l = []:=List.eq_nil_of_length_eq_zero (by assumption)
    exact end1 rfl rfl (by kernel_rfl) (.sl (T:=5) (xs:=[]) rfl (fun _=>rfl)) ⟨rfl,rfl⟩
  · have h1 : ¬ l.length = 0:=by assumption
    exact end1 rfl rfl (by kernel_rfl) (.sl (T:=5) (xs:=l.map uF) rfl (fun e=>absurd e h1)) ⟨rfl,rfl⟩
theorem c_oc_NewWriter : Con Tryz.prog 74 [] [] fun r H'=>r = .pt 0 0 ∧ H' = [.box 171 [jN]]:=by
  refine Con.walk good fn_oc_NewWriter (by simp) ?_
  unfold s_oc_NewWriter
  simp only [argsE]
  repeat' (with_reducible first|refine Wx.h ?_|refine Wb.h fun K hK=>?_|(refine hK _ ?_;clear hK K)|(refine wT ?_ ?_;assumption)|(refine wF ?_ ?_;assumption)|(refine Wy.h ?_ ?_;kernel_rfl)|refine Wq.h ?_ ?_<;>intro h<;>try (exfalso;omega)|refine Wu.h ?_ ?_<;>intro h<;>try simp only [h]|((fail_if_success refine Wz.h ?_);first|simp (disch:=omega) only [↓LD,LA,loadA_rf,seval]|(refine And.intro ?_ ?_;omega)|simp only [D.int,D.bool]))
  exact endG rfl rfl (ef:=⟨.pt 0 0,[],[.box 171 [jN]]⟩) (by kernel_rfl) ⟨rfl,rfl⟩
def s_hand_Pick : SCode :=
  (jq ([jk 4 0]) (jq ([jm 5 0,jm 6 1,jB 7 .rem 5 6,jm 0 7]) (.seq (jq ([jm 8 0,jb 9 .lss 8 0]) (jc 9 (.ops [jm 10 0,jm 11 1,jB 12 .add 10 11,jm 0
 12]) .skip)) (jq ([jm 13 0,jm 4 13]) .ret))))
theorem fn_hand_Pick : Fn Tryz.prog 13 14 [.t 4] s_hand_Pick:=.of Tryz.func13 (by kernel_rfl)
set_option maxHeartbeats 2000000
def pick (x n : Int) : Int:=if x.tmod n < 0 then x.tmod n + n else x.tmod n
theorem tmod_lt {x n : Int} (hn : 0 < n) : x.tmod n < n:=Int.tmod_lt_of_pos x hn
theorem tmod_gt {x n : Int} (hn : 0 < n) : -n < x.tmod n:=by
  have:=Int.tmod_lt_of_pos (-x) hn
  rw [Int.neg_tmod] at this;omega
theorem pick_in {x n : Int} (hn : 0 < n) : 0 ≤ pick x n ∧ pick x n < n:=by
  have h1:=tmod_lt (x:=x) hn
  have h2:=tmod_gt (x:=x) hn
  unfold pick;split<;>omega
theorem c_hand_Pick (x n : Int) (hn : 0 < n) (hn2 : n ≤ 1000000) : Con Tryz.prog 13 [D.int x,D.int n] [] fun r H'=>r = D.int (pick x n) ∧ H' = []:=by
  have h1:=tmod_lt (x:=x) hn
  have h2:=tmod_gt (x:=x) hn
  refine Con.walk good fn_hand_Pick (by simp) ?_
  unfold s_hand_Pick
  simp only [argsE,List.length_cons,List.length_nil,Nat.reduceAdd]
  repeat' (with_reducible first|refine Wx.h ?_|refine Wb.h fun K hK=>?_|(refine hK _ ?_;clear hK K)|(refine wT ?_ ?_;assumption)|(refine wF ?_ ?_;assumption)|(refine Wy.h ?_ ?_;kernel_rfl)|refine Wq.h ?_ ?_<;>intro h<;>try (exfalso;omega)|refine Wu.h ?_ ?_<;>intro h<;>try simp only [h]|((fail_if_success refine Wz.h ?_);first|simp (disch:=omega) only [↓LD,LA,loadA_rf,seval]|(refine And.intro ?_ ?_;omega)|simp only [D.int,D.bool]))
  · refine end1 rfl rfl (by kernel_rfl) .f ⟨congrArg D.int ?_,rfl⟩
    rw [pick,if_pos h]
  · refine end1 rfl rfl (by kernel_rfl) .f ⟨congrArg D.int ?_,rfl⟩
    rw [pick,if_neg h]
theorem Con.run {P : Program} (hP : Good P) {ext : Ext} (hext : ∀ f g,ext f = some g → Sound P f g) {n : Nat} {f : FuncId} {args : List D} {H : List Row} {e : Eff} (hf : ∃ fn,P.funcs[f]? = some fn ∧ fn.body.isSome = true)
    (h : Mir.run P ext n f args H = some e) : Con P f args H fun r H'=>r = e.res ∧ H' = e.heap H :=
  ⟨hf,fun w φ X vs hH ha=>(run_ok hP hext n f args H e h w φ X vs hH ha).mono fun _ _ ⟨v,h1,h2⟩=>⟨v,e.res,e.heap H,h1,⟨rfl,rfl⟩,LeavesW.of h2⟩⟩
instance {x n : Int} {H : List Row} {K : D → List Row → Prop} : Wa (callW Tryz.prog (.fn 13 []) [.f (.v (.int .i64 x)),.f (.v (.int .i64 n))] H K) ((0 < n ∧ n ≤ 1000000) ∧ K (.f (.v (.int .i64 (pick x n)))) H):=⟨fun h=>callW_pure (c_hand_Pick x n h.1.1 h.1.2) rfl rfl rfl h.2⟩
instance {x n : Int} {H : List Row} {K : Bool → D → List Row → Prop} : Wa (callDr Tryz.prog (.fn 13 []) [.f (.v (.int .i64 x)),.f (.v (.int .i64 n))] H K) ((0 < n ∧ n ≤ 1000000) ∧ K true (.f (.v (.int .i64 (pick x n)))) H):=⟨fun h=>callDr_pure (c_hand_Pick x n h.1.1 h.1.2) rfl rfl rfl h.2⟩
def s_hand_Few : SCode :=
  (jq ([.a 4 (.mv kN)]) (jq ((ap [.a 5 (.bsl 5 1 0 [] []),jm 6 0,jm 7 0,je 8 7,jm 9 1,.a 10 (.mm false (.t 8) (.t 9)),.a 11 (.sub 1 5 (.t 6) none
 (some (.t 10)) none),.a 12 (.app 5 1 1 (.t 5) (.t 11))] [jm 4 12])) .ret))
theorem fn_hand_Few : Fn Tryz.prog 14 13 [.t 4] s_hand_Few:=.of Tryz.func14 (by kernel_rfl)
set_option maxHeartbeats 4000000
theorem subS_fY {H : List Row} {E : TypeId} {b : Bs} {h : Nat} (hh : h ≤ b.length) : subS H 1 E (.f (fY b)) 0 h = some (.f (fY (b.take h))):=by
  rw [fY,subS_s,fY,List.length_take,Nat.min_eq_left hh,List.map_take]
  simp
def fewL (b : Bs) (n : Int) : Bs:=b.take (min (b.length : Int) n).toNat
theorem subS_few {H : List Row} {E : TypeId} {b : Bs} {n : Int} : subS H 1 E (.f (fY b)) 0 (min (b.length : Int) n).toNat = some (.f (fY (fewL b n))):=subS_fY (by omega)
theorem fewL_len {b : Bs} {n : Int} (h : 0 ≤ n) : (fewL b n).length ≤ n.toNat:=by
  unfold fewL;rw [List.length_take];omega
theorem c_hand_Few (b : Bs) (n : Int) (h0 : 0 ≤ n) (hn : n ≤ 1000000) : Con Tryz.prog 14 [.f (fY b),D.int n] [] fun r H'=>r = .f (fY (fewL b n)) ∧ H' = []:=by
  refine Con.walk good fn_hand_Few (by simp) ?_
  unfold s_hand_Few
  simp only [argsE]
  have hl:=fewL_len (b:=b) h0
  repeat' (with_reducible first|refine Wx.h ?_|refine Wb.h fun K hK=>?_|(refine hK _ ?_;clear hK K)|(refine wT ?_ ?_;assumption)|(refine wF ?_ ?_;assumption)|(refine Wy.h ?_ ?_;kernel_rfl)|refine Wq.h ?_ ?_<;>intro h<;>try (exfalso;omega)|refine Wu.h ?_ ?_<;>intro h<;>try simp only [h]|((fail_if_success refine Wz.h ?_);first|simp (disch:=omega) only [↓LD,LA,loadA_rf,seval,subS_few,List.length_map]|(refine And.intro ?_ ?_;omega)|simp only [D.int,D.bool]))
  · have h1 : fewL b n = []:=List.eq_nil_of_length_eq_zero (by assumption)
    exact end1 rfl rfl (by kernel_rfl) (.sl (T:=5) (xs:=[]) rfl (fun _=>rfl)) ⟨by rw [h1];rfl,rfl⟩
  · have h1 : ¬ (fewL b n).length = 0:=by assumption
    exact end1 rfl rfl (by kernel_rfl) (.sl (T:=5) (xs:=(fewL b n).map uF) rfl (fun e=>absurd e h1)) ⟨rfl,rfl⟩
set_option maxHeartbeats 2000000
def rdB (T : TypeId) (b : Bs) (lack : Bool) : Row:=.box T [.f (fY b),.f (.v (.bool lack))]
def rawR (n : Nat) (b : Bs) (lack : Bool) : Bs × Bs × Bool:=if lack = true ∨ b.length < n then ([],[],true) else (b.take n,b.drop n,false)
theorem rawR_len {n : Nat} {b : Bs} {k : Bool} : (rawR n b k).1.length ≤ n:=by
  unfold rawR;split<;>simp;omega
theorem subS_fYl {H : List Row} {E : TypeId} {b : Bs} {n : Nat} (hn : n ≤ b.length) : subS H 1 E (.f (fY b)) n b.length = some (.f (fY (b.drop n))):=by
  rw [fY,subS_s,fY,List.length_drop,List.map_drop]
  simp [List.take_of_length_le]
theorem inf_u8 : inf Tryz.prog 5 = some (1,1,[.int .u8 0]):=by kernel_rfl
theorem c_oc_NewReader (b : Bs) (hb : b.length ≤ 140737488355328) : Con Tryz.prog 81 [.f (fY b)] [] fun r H'=>r = .pt 0 0 ∧ H' = [rdB 173 b false]:=by
  refine Con.walk good fn_oc_NewReader (by simp) ?_
  unfold s_oc_NewReader
  simp only [argsE]
  repeat' (with_reducible first|refine Wa.h ?_|refine Ws.h ?_|refine Wb.h fun K hK=>?_|(refine hK _ ?_;clear hK K)|(refine wT ?_ ?_;assumption)|(refine wF ?_ ?_;assumption)|(refine Wy.h ?_ ?_;kernel_rfl)|refine Wq.h ?_ ?_<;>intro h<;>try (exfalso;omega)|refine Wu.h ?_ ?_<;>intro h<;>try simp only [h]|((fail_if_success refine Wz.h ?_);first|simp (disch:=omega) only [↓LD,LA,loadA_rf,seval,List.length_map]|(refine And.intro ?_ ?_;omega)|simp only [D.int,D.bool]))
  · obtain rfl : b = []:=List.eq_nil_of_length_eq_zero (by assumption)
    refine HS.view (View.bcell 1 0 (.f (.s [] 0)) rfl rfl .os) ?_
    repeat' (with_reducible first|refine Wx.h ?_|refine Wb.h fun K hK=>?_|(refine hK _ ?_;clear hK K)|(refine wT ?_ ?_;assumption)|(refine wF ?_ ?_;assumption)|(refine Wy.h ?_ ?_;kernel_rfl)|refine Wq.h ?_ ?_<;>intro h<;>try (exfalso;omega)|refine Wu.h ?_ ?_<;>intro h<;>try simp only [h]|((fail_if_success refine Wz.h ?_);first|simp (disch:=omega) only [↓LD,LA,loadA_rf,seval]|(refine And.intro ?_ ?_;omega)|simp only [D.int,D.bool]))
    exact endG rfl rfl (ef:=⟨.pt 0 0,[],[rdB 173 [] false]⟩) (by kernel_rfl) ⟨rfl,rfl⟩
  · refine HS.view (View.fixb 2 0 1 rfl rfl rfl inf_u8 (by assumption) (by simp) (by omega)) ?_
    repeat' (with_reducible first|refine Wx.h ?_|refine Wb.h fun K hK=>?_|(refine hK _ ?_;clear hK K)|(refine wT ?_ ?_;assumption)|(refine wF ?_ ?_;assumption)|(refine Wy.h ?_ ?_;kernel_rfl)|refine Wq.h ?_ ?_<;>intro h<;>try (exfalso;omega)|refine Wu.h ?_ ?_<;>intro h<;>try simp only [h]|((fail_if_success refine Wz.h ?_);first|simp (disch:=omega) only [↓LD,LA,loadA_rf,seval]|(refine And.intro ?_ ?_;omega)|simp only [D.int,D.bool]))
    exact endG rfl rfl (ef:=⟨.pt 0 0,[],[rdB 173 b false]⟩) (by kernel_rfl) ⟨rfl,rfl⟩
set_option maxRecDepth 100000 in
theorem c_oc_RRaw (b : Bs) (lack : Bool) (n : Nat) (hb : b.length ≤ 140737488355328) : Con Tryz.prog 116 [.pt 0 0,D.int n] [rdB 173 b lack] fun r H'=>r = .f (fY (rawR n b lack).1) ∧ H' = [rdB 173 (rawR n b lack).2.1 (rawR n b lack).2.2]:=by
  refine Con.walk good fn_oc_RRaw (by simp) ?_
  unfold s_oc_RRaw
  simp only [argsE,rdB]
  by_cases hk : lack = true ∨ b.length < n
  · have hr : rawR n b lack = ([],[],true):=by rw [rawR,if_pos hk]
    rw [hr]
    cases lack
    · have hk' : (b.length : Int) < n:=by simp at hk;omega
      repeat' (with_reducible first|refine Wa.h ?_|refine Ws.h ?_|refine Wb.h fun K hK=>?_|(refine hK _ ?_;clear hK K)|(refine wT ?_ ?_;assumption)|(refine wF ?_ ?_;assumption)|(refine Wy.h ?_ ?_;kernel_rfl)|refine Wq.h ?_ ?_<;>intro h<;>try (exfalso;omega)|refine Wu.h ?_ ?_<;>intro h<;>try simp only [h]|((fail_if_success refine Wz.h ?_);first|simp (disch:=omega) only [↓LD,LA,loadA_rf,seval]|(refine And.intro ?_ ?_;omega)|simp only [D.int,D.bool]))
      refine HS.view (View.bcell 0 0 (.f (.s [] 0)) rfl rfl .ns) ?_
      repeat' (with_reducible first|refine Wx.h ?_|refine Wb.h fun K hK=>?_|(refine hK _ ?_;clear hK K)|(refine wT ?_ ?_;assumption)|(refine wF ?_ ?_;assumption)|(refine Wy.h ?_ ?_;kernel_rfl)|refine Wq.h ?_ ?_<;>intro h<;>try (exfalso;omega)|refine Wu.h ?_ ?_<;>intro h<;>try simp only [h]|((fail_if_success refine Wz.h ?_);first|simp (disch:=omega) only [↓LD,LA,loadA_rf,seval]|(refine And.intro ?_ ?_;omega)|simp only [D.int,D.bool]))
      exact end1 rfl rfl (by kernel_rfl) .nil ⟨rfl,rfl⟩
    · repeat' (with_reducible first|refine Wa.h ?_|refine Ws.h ?_|refine Wb.h fun K hK=>?_|(refine hK _ ?_;clear hK K)|(refine wT ?_ ?_;assumption)|(refine wF ?_ ?_;assumption)|(refine Wy.h ?_ ?_;kernel_rfl)|refine Wq.h ?_ ?_<;>intro h<;>try (exfalso;omega)|refine Wu.h ?_ ?_<;>intro h<;>try simp only [h]|((fail_if_success refine Wz.h ?_);first|simp (disch:=omega) only [↓LD,LA,loadA_rf,seval]|(refine And.intro ?_ ?_;omega)|simp only [D.int,D.bool]))
      refine HS.view (View.bcell 0 0 (.f (.s [] 0)) rfl rfl .ns) ?_
      repeat' (with_reducible first|refine Wx.h ?_|refine Wb.h fun K hK=>?_|(refine hK _ ?_;clear hK K)|(refine wT ?_ ?_;assumption)|(refine wF ?_ ?_;assumption)|(refine Wy.h ?_ ?_;kernel_rfl)|refine Wq.h ?_ ?_<;>intro h<;>try (exfalso;omega)|refine Wu.h ?_ ?_<;>intro h<;>try simp only [h]|((fail_if_success refine Wz.h ?_);first|simp (disch:=omega) only [↓LD,LA,loadA_rf,seval]|(refine And.intro ?_ ?_;omega)|simp only [D.int,D.bool]))
      exact end1 rfl rfl (by kernel_rfl) .nil ⟨rfl,rfl⟩
  · have hr : rawR n b lack = (b.take n,b.drop n,false):=by rw [rawR,if_neg hk]
    rw [hr]
    obtain rfl : lack = false:=by cases lack<;>simp_all
    have hn : n ≤ b.length:=by simp at hk;omega
    have s1 : ∀ H : List Row,subS H 1 5 (.f (fY b)) 0 n = some (.f (fY (b.take n))):=fun H=>subS_fY hn
    have s2 : ∀ H : List Row,subS H 1 5 (.f (fY b)) n b.length = some (.f (fY (b.drop n))):=fun H=>subS_fYl hn
    have ht : (b.take n).length ≤ 140737488355328:=by rw [List.length_take];omega
    repeat' (with_reducible first|refine Wx.h ?_|refine Wb.h fun K hK=>?_|(refine hK _ ?_;clear hK K)|(refine wT ?_ ?_;assumption)|(refine wF ?_ ?_;assumption)|(refine Wy.h ?_ ?_;kernel_rfl)|refine Wq.h ?_ ?_<;>intro h<;>try (exfalso;omega)|refine Wu.h ?_ ?_<;>intro h<;>try simp only [h]|((fail_if_success refine Wz.h ?_);first|simp (disch:=omega) only [↓LD,LA,loadA_rf,seval,s1,s2,List.length_map,Int.toNat_natCast]|(refine And.intro ?_ ?_;omega)|simp only [D.int,D.bool]))
    · have h1 : b.take n = []:=List.eq_nil_of_length_eq_zero (by assumption)
      exact end1 rfl rfl (by kernel_rfl) (.sl (T:=5) (xs:=[]) rfl (fun _=>rfl)) ⟨by rw [h1];rfl,rfl⟩
    · have h1 : ¬ (b.take n).length = 0:=by assumption
      exact end1 rfl rfl (by kernel_rfl) (.sl (T:=5) (xs:=(b.take n).map uF) rfl (fun e=>absurd e h1)) ⟨rfl,rfl⟩
set_option maxRecDepth 100000 in
theorem c_ro_RRaw (b : Bs) (lack : Bool) (n : Nat) (hb : b.length ≤ 140737488355328) : Con Tryz.prog 119 [.pt 0 0,D.int n] [rdB 137 b lack] fun r H'=>r = .f (fY (rawR n b lack).1) ∧ H' = [rdB 137 (rawR n b lack).2.1 (rawR n b lack).2.2]:=by
  refine Con.walk good fn_ro_RRaw (by simp) ?_
  unfold s_ro_RRaw
  simp only [argsE,rdB]
  by_cases hk : lack = true ∨ b.length < n
  · have hr : rawR n b lack = ([],[],true):=by rw [rawR,if_pos hk]
    rw [hr]
    cases lack
    · have hk' : (b.length : Int) < n:=by simp at hk;omega
      repeat' (with_reducible first|refine Wa.h ?_|refine Ws.h ?_|refine Wb.h fun K hK=>?_|(refine hK _ ?_;clear hK K)|(refine wT ?_ ?_;assumption)|(refine wF ?_ ?_;assumption)|(refine Wy.h ?_ ?_;kernel_rfl)|refine Wq.h ?_ ?_<;>intro h<;>try (exfalso;omega)|refine Wu.h ?_ ?_<;>intro h<;>try simp only [h]|((fail_if_success refine Wz.h ?_);first|simp (disch:=omega) only [↓LD,LA,loadA_rf,seval]|(refine And.intro ?_ ?_;omega)|simp only [D.int,D.bool]))
      refine HS.view (View.bcell 0 0 (.f (.s [] 0)) rfl rfl .ns) ?_
      repeat' (with_reducible first|refine Wx.h ?_|refine Wb.h fun K hK=>?_|(refine hK _ ?_;clear hK K)|(refine wT ?_ ?_;assumption)|(refine wF ?_ ?_;assumption)|(refine Wy.h ?_ ?_;kernel_rfl)|refine Wq.h ?_ ?_<;>intro h<;>try (exfalso;omega)|refine Wu.h ?_ ?_<;>intro h<;>try simp only [h]|((fail_if_success refine Wz.h ?_);first|simp (disch:=omega) only [↓LD,LA,loadA_rf,seval]|(refine And.intro ?_ ?_;omega)|simp only [D.int,D.bool]))
      exact end1 rfl rfl (by kernel_rfl) .nil ⟨rfl,rfl⟩
    · repeat' (with_reducible first|refine Wa.h ?_|refine Ws.h ?_|refine Wb.h fun K hK=>?_|(refine hK _ ?_;clear hK K)|(refine wT ?_ ?_;assumption)|(refine wF ?_ ?_;assumption)|(refine Wy.h ?_ ?_;kernel_rfl)|refine Wq.h ?_ ?_<;>intro h<;>try (exfalso;omega)|refine Wu.h ?_ ?_<;>intro h<;>try simp only [h]|((fail_if_success refine Wz.h ?_);first|simp (disch:=omega) only [↓LD,LA,loadA_rf,seval]|(refine And.intro ?_ ?_;omega)|simp only [D.int,D.bool]))
      refine HS.view (View.bcell 0 0 (.f (.s [] 0)) rfl rfl .ns) ?_
      repeat' (with_reducible first|refine Wx.h ?_|refine Wb.h fun K hK=>?_|(refine hK _ ?_;clear hK K)|(refine wT ?_ ?_;assumption)|(refine wF ?_ ?_;assumption)|(refine Wy.h ?_ ?_;kernel_rfl)|refine Wq.h ?_ ?_<;>intro h<;>try (exfalso;omega)|refine Wu.h ?_ ?_<;>intro h<;>try simp only [h]|((fail_if_success refine Wz.h ?_);first|simp (disch:=omega) only [↓LD,LA,loadA_rf,seval]|(refine And.intro ?_ ?_;omega)|simp only [D.int,D.bool]))
      exact end1 rfl rfl (by kernel_rfl) .nil ⟨rfl,rfl⟩
  · have hr : rawR n b lack = (b.take n,b.drop n,false):=by rw [rawR,if_neg hk]
    rw [hr]
    obtain rfl : lack = false:=by cases lack<;>simp_all
    have hn : n ≤ b.length:=by simp at hk;omega
    have s1 : ∀ H : List Row,subS H 1 5 (.f (fY b)) 0 n = some (.f (fY (b.take n))):=fun H=>subS_fY hn
    have s2 : ∀ H : List Row,subS H 1 5 (.f (fY b)) n b.length = some (.f (fY (b.drop n))):=fun H=>subS_fYl hn
    have ht : (b.take n).length ≤ 140737488355328:=by rw [List.length_take];omega
    repeat' (with_reducible first|refine Wx.h ?_|refine Wb.h fun K hK=>?_|(refine hK _ ?_;clear hK K)|(refine wT ?_ ?_;assumption)|(refine wF ?_ ?_;assumption)|(refine Wy.h ?_ ?_;kernel_rfl)|refine Wq.h ?_ ?_<;>intro h<;>try (exfalso;omega)|refine Wu.h ?_ ?_<;>intro h<;>try simp only [h]|((fail_if_success refine Wz.h ?_);first|simp (disch:=omega) only [↓LD,LA,loadA_rf,seval,s1,s2,List.length_map,Int.toNat_natCast]|(refine And.intro ?_ ?_;omega)|simp only [D.int,D.bool]))
    · have h1 : b.take n = []:=List.eq_nil_of_length_eq_zero (by assumption)
      exact end1 rfl rfl (by kernel_rfl) (.sl (T:=5) (xs:=[]) rfl (fun _=>rfl)) ⟨by rw [h1];rfl,rfl⟩
    · have h1 : ¬ (b.take n).length = 0:=by assumption
      exact end1 rfl rfl (by kernel_rfl) (.sl (T:=5) (xs:=(b.take n).map uF) rfl (fun e=>absurd e h1)) ⟨rfl,rfl⟩
theorem or_byte {v c : Nat} (hv : v < 72057594037927936) (hc : c < 256) : IntKind.u64.wrap ((BitVec.ofInt IntKind.u64.bits (IntKind.u64.wrap ((v : Int) * 2 ^ min 8 IntKind.u64.bits)) ||| BitVec.ofInt IntKind.u64.bits (c : Int)).toNat : Nat) = ((v * 256 + c : Nat) : Int):=by
  rw [u64_wrap,u64_wrap,show (2 : Int) ^ min 8 IntKind.u64.bits = 256 by rfl,show (v : Int) * 256 % 18446744073709551616 = ((v * 256 : Nat) : Int) by omega]
  rw [BitVec.toNat_or]
  show (((BitVec.ofInt 64 ((v * 256 : Nat) : Int)).toNat ||| (BitVec.ofInt 64 (c : Int)).toNat : Nat) : Int) % _ = _
  rw [BitVec.toNat_ofInt,BitVec.toNat_ofInt]
  have h1 : ((((v * 256 : Nat) : Int)) % ((2 ^ 64 : Nat) : Int)).toNat = v * 256:=by omega
  have h2 : (((c : Nat) : Int) % ((2 ^ 64 : Nat) : Int)).toNat = c:=by omega
  rw [h1,h2]
  have h3 : v * 256 ||| c = v * 256 + c:=by
    rw [show v * 256 = v <<< 8 by rw [Nat.shiftLeft_eq]]
    exact (Nat.shiftLeft_add_eq_or_of_lt (by omega) v).symm
  rw [h3]
  omega
theorem add_byte {v c : Nat} (hv : v < 72057594037927936) (hc : c < 256) : IntKind.u64.wrap (IntKind.u64.wrap ((v : Int) * 2 ^ min 8 IntKind.u64.bits) + (c : Int)) = ((v * 256 + c : Nat) : Int):=by
  rw [u64_wrap,u64_wrap,show (2 : Int) ^ min 8 IntKind.u64.bits = 256 by rfl]
  omega
set_option maxHeartbeats 2000000
theorem beN_take {l : Bs} {i : Nat} (hi : i < l.length) : beN (l.take (i + 1)) = beN (l.take i) * 256 + (gt l i).toNat:=by
  rw [List.take_succ_eq_append_getElem hi,beN_snoc,← gt_eq hi]
theorem beN_small {l : Bs} {i : Nat} (hi : i ≤ 7) : beN (l.take i) < 72057594037927936:=by
  have h:=beN_lt (l.take i)
  have : 256 ^ (l.take i).length ≤ 256 ^ 7:=Nat.pow_le_pow_right (by decide) (by rw [List.length_take];omega)
  have : (256 : Nat) ^ 7 = 72057594037927936:=by decide
  omega
set_option maxRecDepth 100000 in
theorem c_oc_get (b : Bs) (lack : Bool) (n : Nat) (hn : n ≤ 8) (hb : b.length ≤ 140737488355328) : Con Tryz.prog 115 [.pt 0 0,D.int n] [rdB 173 b lack] fun r H'=>r = .f (.v (.int .u64 (beN (rawR n b lack).1))) ∧ H' = [rdB 173 (rawR n b lack).2.1 (rawR n b lack).2.2]:=by
  have hc:=c_oc_RRaw b lack n hb
  have hrl:=rawR_len (n:=n) (b:=b) (k:=lack)
  generalize rawR n b lack = rr at hc hrl ⊢
  obtain ⟨raw,b',k'⟩:=rr
  dsimp only at hc hrl ⊢
  refine Con.walk good fn_oc_get (by simp) ?_
  unfold s_oc_get
  simp only [argsE]
  repeat' (with_reducible first|refine Wx.h ?_|refine Wb.h fun K hK=>?_|(refine hK _ ?_;clear hK K)|(refine wT ?_ ?_;assumption)|(refine wF ?_ ?_;assumption)|(refine Wy.h ?_ ?_;kernel_rfl)|refine Wq.h ?_ ?_<;>intro h<;>try (exfalso;omega)|refine Wu.h ?_ ?_<;>intro h<;>try simp only [h]|((fail_if_success refine Wz.h ?_);first|simp (disch:=omega) only [↓LD,LA,loadA_rf,seval]|(refine And.intro ?_ ?_;omega)|simp only [D.int,D.bool]))
  refine callW_own hc rfl rfl (fun _=>rfl) (fun _=>rfl) (fun _=>rfl) (fun _=>rfl) ?_
  simp only [List.set_cons_zero]
  repeat' (with_reducible first|refine Wx.h ?_|refine Wb.h fun K hK=>?_|(refine hK _ ?_;clear hK K)|(refine wT ?_ ?_;assumption)|(refine wF ?_ ?_;assumption)|(refine Wy.h ?_ ?_;kernel_rfl)|refine Wq.h ?_ ?_<;>intro h<;>try (exfalso;omega)|refine Wu.h ?_ ?_<;>intro h<;>try simp only [h]|((fail_if_success refine Wz.h ?_);first|simp (disch:=omega) only [↓LD,LA,loadA_rf,seval]|(refine And.intro ?_ ?_;omega)|simp only [D.int,D.bool]))
  refine HS.loopG [5,10,11,12] (fun i : Nat=>⟨frm 23 [(5,.f (.v (.int .u64 (beN (raw.take i))))),(10,.f (fY raw)),(11,D.int raw.length),(12,D.int i)],[rdB 173 b' k'],[]⟩) (fun i=>i ≤ raw.length) (fun i=>raw.length - i) 0 (by kernel_rfl) (Nat.zero_le _) ?_
  rintro i hi
  by_cases hil : i < raw.length
  · have h1:=beN_small (l:=raw) (i:=i) (by omega)
    have hz:=or_byte (c:=(gt raw i).toNat) h1 (gt raw i).toNat_lt
    rw [← beN_take hil] at hz
    have hw : IntKind.u64.wrap ((gt raw i).toNat : Int) = (gt raw i).toNat:=by rw [u64_wrap];have:=(gt raw i).toNat_lt;omega
    repeat' (with_reducible first|refine Wx.h ?_|refine Wb.h fun K hK=>?_|(refine hK _ ?_;clear hK K)|(refine wT ?_ ?_;assumption)|(refine wF ?_ ?_;assumption)|(refine Wy.h ?_ ?_;kernel_rfl)|refine Wq.h ?_ ?_<;>intro h<;>try (exfalso;omega)|refine Wu.h ?_ ?_<;>intro h<;>try simp only [h]|((fail_if_success refine Wz.h ?_);first|simp (disch:=omega) only [↓LD,LA,loadA_rf,seval,hw,hz]|(refine And.intro ?_ ?_;omega)|simp only [D.int,D.bool]))
    exact Next.mk (i + 1) (by kernel_rfl) (by omega) (by omega)
  · repeat' (with_reducible first|refine Wx.h ?_|refine Wb.h fun K hK=>?_|(refine hK _ ?_;clear hK K)|(refine wT ?_ ?_;assumption)|(refine wF ?_ ?_;assumption)|(refine Wy.h ?_ ?_;kernel_rfl)|refine Wq.h ?_ ?_<;>intro h<;>try (exfalso;omega)|refine Wu.h ?_ ?_<;>intro h<;>try simp only [h]|((fail_if_success refine Wz.h ?_);first|simp (disch:=omega) only [↓LD,LA,loadA_rf,seval]|(refine And.intro ?_ ?_;omega)|simp only [D.int,D.bool]))
    rw [List.take_of_length_le (by omega)]
    exact end1 rfl rfl (by kernel_rfl) .f ⟨rfl,rfl⟩
set_option maxRecDepth 100000 in
theorem c_ro_get (b : Bs) (lack : Bool) (n : Nat) (hn : n ≤ 8) (hb : b.length ≤ 140737488355328) : Con Tryz.prog 118 [.pt 0 0,D.int n] [rdB 137 b lack] fun r H'=>r = .f (.v (.int .u64 (beN (rawR n b lack).1))) ∧ H' = [rdB 137 (rawR n b lack).2.1 (rawR n b lack).2.2]:=by
  have hc:=c_ro_RRaw b lack n hb
  have hrl:=rawR_len (n:=n) (b:=b) (k:=lack)
  generalize rawR n b lack = rr at hc hrl ⊢
  obtain ⟨raw,b',k'⟩:=rr
  dsimp only at hc hrl ⊢
  refine Con.walk good fn_ro_get (by simp) ?_
  unfold s_ro_get
  simp only [argsE]
  repeat' (with_reducible first|refine Wx.h ?_|refine Wb.h fun K hK=>?_|(refine hK _ ?_;clear hK K)|(refine wT ?_ ?_;assumption)|(refine wF ?_ ?_;assumption)|(refine Wy.h ?_ ?_;kernel_rfl)|refine Wq.h ?_ ?_<;>intro h<;>try (exfalso;omega)|refine Wu.h ?_ ?_<;>intro h<;>try simp only [h]|((fail_if_success refine Wz.h ?_);first|simp (disch:=omega) only [↓LD,LA,loadA_rf,seval]|(refine And.intro ?_ ?_;omega)|simp only [D.int,D.bool]))
  refine callW_own hc rfl rfl (fun _=>rfl) (fun _=>rfl) (fun _=>rfl) (fun _=>rfl) ?_
  simp only [List.set_cons_zero]
  repeat' (with_reducible first|refine Wx.h ?_|refine Wb.h fun K hK=>?_|(refine hK _ ?_;clear hK K)|(refine wT ?_ ?_;assumption)|(refine wF ?_ ?_;assumption)|(refine Wy.h ?_ ?_;kernel_rfl)|refine Wq.h ?_ ?_<;>intro h<;>try (exfalso;omega)|refine Wu.h ?_ ?_<;>intro h<;>try simp only [h]|((fail_if_success refine Wz.h ?_);first|simp (disch:=omega) only [↓LD,LA,loadA_rf,seval]|(refine And.intro ?_ ?_;omega)|simp only [D.int,D.bool]))
  refine HS.loopG [5,6,7] (fun i : Nat=>⟨frm 26 [(5,.f (fY raw)),(6,.f (.v (.int .u64 (beN (raw.take i))))),(7,D.int i)],[rdB 137 b' k'],[]⟩) (fun i=>i ≤ raw.length) (fun i=>raw.length - i) 0 (by kernel_rfl) (Nat.zero_le _) ?_
  rintro i hi
  by_cases hil : i < raw.length
  · have h1:=beN_small (l:=raw) (i:=i) (by omega)
    have hz:=add_byte (c:=(gt raw i).toNat) h1 (gt raw i).toNat_lt
    rw [← beN_take hil] at hz
    have hw : IntKind.u64.wrap ((gt raw i).toNat : Int) = (gt raw i).toNat:=by rw [u64_wrap];have:=(gt raw i).toNat_lt;omega
    repeat' (with_reducible first|refine Wx.h ?_|refine Wb.h fun K hK=>?_|(refine hK _ ?_;clear hK K)|(refine wT ?_ ?_;assumption)|(refine wF ?_ ?_;assumption)|(refine Wy.h ?_ ?_;kernel_rfl)|refine Wq.h ?_ ?_<;>intro h<;>try (exfalso;omega)|refine Wu.h ?_ ?_<;>intro h<;>try simp only [h]|((fail_if_success refine Wz.h ?_);first|simp (disch:=omega) only [↓LD,LA,loadA_rf,seval,hw,hz]|(refine And.intro ?_ ?_;omega)|simp only [D.int,D.bool]))
    exact Next.mk (i + 1) (by kernel_rfl) (by omega) (by omega)
  · repeat' (with_reducible first|refine Wx.h ?_|refine Wb.h fun K hK=>?_|(refine hK _ ?_;clear hK K)|(refine wT ?_ ?_;assumption)|(refine wF ?_ ?_;assumption)|(refine Wy.h ?_ ?_;kernel_rfl)|refine Wq.h ?_ ?_<;>intro h<;>try (exfalso;omega)|refine Wu.h ?_ ?_<;>intro h<;>try simp only [h]|((fail_if_success refine Wz.h ?_);first|simp (disch:=omega) only [↓LD,LA,loadA_rf,seval]|(refine And.intro ?_ ?_;omega)|simp only [D.int,D.bool]))
    rw [List.take_of_length_le (by omega)]
    exact end1 rfl rfl (by kernel_rfl) .f ⟨rfl,rfl⟩
def shR (b : Bs) (k : Bool) : Bs × Bs × Bool:=rawR (beN (rawR 2 b k).1) (rawR 2 b k).2.1 (rawR 2 b k).2.2
theorem rawR_le {n : Nat} {b : Bs} {k : Bool} : (rawR n b k).2.1.length ≤ b.length:=by
  unfold rawR;split<;>simp
theorem beN_rawR {n : Nat} {b : Bs} {k : Bool} (hn : n ≤ 7) : beN (rawR n b k).1 < 72057594037927936:=by
  have h:=rawR_len (n:=n) (b:=b) (k:=k)
  have:=beN_small (l:=(rawR n b k).1) (i:=(rawR n b k).1.length) (by omega)
  rwa [List.take_length] at this
theorem c_oc_RU8 (b : Bs) (lack : Bool) (hb : b.length ≤ 140737488355328) : Con Tryz.prog 82 [.pt 0 0] [rdB 173 b lack] fun r H'=>r = D.int (beN (rawR 1 b lack).1) ∧ H' = [rdB 173 (rawR 1 b lack).2.1 (rawR 1 b lack).2.2]:=by
  have hc:=c_oc_get b lack 1 (by omega) hb
  have hv:=beN_rawR (n:=1) (b:=b) (k:=lack) (by omega)
  generalize rawR 1 b lack = rr at hc hv ⊢
  obtain ⟨raw,b',k'⟩:=rr
  dsimp only at hc hv ⊢
  refine Con.walk good fn_oc_RU8 (by simp) ?_
  unfold s_oc_RU8
  simp only [argsE]
  have hw : IntKind.i64.wrap (beN raw : Int) = beN raw:=wrap_in (by omega) (by omega)
  repeat' (with_reducible first|refine Wx.h ?_|refine Wb.h fun K hK=>?_|(refine hK _ ?_;clear hK K)|(refine wT ?_ ?_;assumption)|(refine wF ?_ ?_;assumption)|(refine Wy.h ?_ ?_;kernel_rfl)|refine Wq.h ?_ ?_<;>intro h<;>try (exfalso;omega)|refine Wu.h ?_ ?_<;>intro h<;>try simp only [h]|((fail_if_success refine Wz.h ?_);first|simp (disch:=omega) only [↓LD,LA,loadA_rf,seval]|(refine And.intro ?_ ?_;omega)|simp only [D.int,D.bool]))
  refine callW_own hc rfl rfl (fun _=>rfl) (fun _=>rfl) (fun _=>rfl) (fun _=>rfl) ?_
  simp only [List.set_cons_zero]
  repeat' (with_reducible first|refine Wx.h ?_|refine Wb.h fun K hK=>?_|(refine hK _ ?_;clear hK K)|(refine wT ?_ ?_;assumption)|(refine wF ?_ ?_;assumption)|(refine Wy.h ?_ ?_;kernel_rfl)|refine Wq.h ?_ ?_<;>intro h<;>try (exfalso;omega)|refine Wu.h ?_ ?_<;>intro h<;>try simp only [h]|((fail_if_success refine Wz.h ?_);first|simp (disch:=omega) only [↓LD,LA,loadA_rf,seval,hw]|(refine And.intro ?_ ?_;omega)|simp only [D.int,D.bool]))
  exact end1 rfl rfl (by kernel_rfl) .f ⟨rfl,rfl⟩
theorem c_oc_RU16 (b : Bs) (lack : Bool) (hb : b.length ≤ 140737488355328) : Con Tryz.prog 117 [.pt 0 0] [rdB 173 b lack] fun r H'=>r = D.int (beN (rawR 2 b lack).1) ∧ H' = [rdB 173 (rawR 2 b lack).2.1 (rawR 2 b lack).2.2]:=by
  have hc:=c_oc_get b lack 2 (by omega) hb
  have hv:=beN_rawR (n:=2) (b:=b) (k:=lack) (by omega)
  generalize rawR 2 b lack = rr at hc hv ⊢
  obtain ⟨raw,b',k'⟩:=rr
  dsimp only at hc hv ⊢
  refine Con.walk good fn_oc_RU16 (by simp) ?_
  unfold s_oc_RU16
  simp only [argsE]
  have hw : IntKind.i64.wrap (beN raw : Int) = beN raw:=wrap_in (by omega) (by omega)
  repeat' (with_reducible first|refine Wx.h ?_|refine Wb.h fun K hK=>?_|(refine hK _ ?_;clear hK K)|(refine wT ?_ ?_;assumption)|(refine wF ?_ ?_;assumption)|(refine Wy.h ?_ ?_;kernel_rfl)|refine Wq.h ?_ ?_<;>intro h<;>try (exfalso;omega)|refine Wu.h ?_ ?_<;>intro h<;>try simp only [h]|((fail_if_success refine Wz.h ?_);first|simp (disch:=omega) only [↓LD,LA,loadA_rf,seval]|(refine And.intro ?_ ?_;omega)|simp only [D.int,D.bool]))
  refine callW_own hc rfl rfl (fun _=>rfl) (fun _=>rfl) (fun _=>rfl) (fun _=>rfl) ?_
  simp only [List.set_cons_zero]
  repeat' (with_reducible first|refine Wx.h ?_|refine Wb.h fun K hK=>?_|(refine hK _ ?_;clear hK K)|(refine wT ?_ ?_;assumption)|(refine wF ?_ ?_;assumption)|(refine Wy.h ?_ ?_;kernel_rfl)|refine Wq.h ?_ ?_<;>intro h<;>try (exfalso;omega)|refine Wu.h ?_ ?_<;>intro h<;>try simp only [h]|((fail_if_success refine Wz.h ?_);first|simp (disch:=omega) only [↓LD,LA,loadA_rf,seval,hw]|(refine And.intro ?_ ?_;omega)|simp only [D.int,D.bool]))
  exact end1 rfl rfl (by kernel_rfl) .f ⟨rfl,rfl⟩
theorem c_oc_RShort (b : Bs) (lack : Bool) (hb : b.length ≤ 140737488355328) : Con Tryz.prog 84 [.pt 0 0] [rdB 173 b lack] fun r H'=>r = .f (fY (shR b lack).1) ∧ H' = [rdB 173 (shR b lack).2.1 (shR b lack).2.2]:=by
  have hc:=c_oc_RU16 b lack hb
  have hb2:=rawR_le (n:=2) (b:=b) (k:=lack)
  unfold shR
  generalize rawR 2 b lack = rr at hc hb2 ⊢
  obtain ⟨raw,b',k'⟩:=rr
  dsimp only at hc hb2 ⊢
  refine Con.walk good fn_oc_RShort (by simp) ?_
  unfold s_oc_RShort
  simp only [argsE]
  repeat' (with_reducible first|refine Wx.h ?_|refine Wb.h fun K hK=>?_|(refine hK _ ?_;clear hK K)|(refine wT ?_ ?_;assumption)|(refine wF ?_ ?_;assumption)|(refine Wy.h ?_ ?_;kernel_rfl)|refine Wq.h ?_ ?_<;>intro h<;>try (exfalso;omega)|refine Wu.h ?_ ?_<;>intro h<;>try simp only [h]|((fail_if_success refine Wz.h ?_);first|simp (disch:=omega) only [↓LD,LA,loadA_rf,seval]|(refine And.intro ?_ ?_;omega)|simp only [D.int,D.bool]))
  refine callW_own hc rfl rfl (fun _=>rfl) (fun _=>rfl) (fun _=>rfl) (fun _=>rfl) ?_
  simp only [List.set_cons_zero]
  repeat' (with_reducible first|refine Wx.h ?_|refine Wb.h fun K hK=>?_|(refine hK _ ?_;clear hK K)|(refine wT ?_ ?_;assumption)|(refine wF ?_ ?_;assumption)|(refine Wy.h ?_ ?_;kernel_rfl)|refine Wq.h ?_ ?_<;>intro h<;>try (exfalso;omega)|refine Wu.h ?_ ?_<;>intro h<;>try simp only [h]|((fail_if_success refine Wz.h ?_);first|simp (disch:=omega) only [↓LD,LA,loadA_rf,seval]|(refine And.intro ?_ ?_;omega)|simp only [D.int,D.bool]))
  refine callW_own (c_oc_RRaw b' k' (beN raw) (by omega)) rfl rfl (fun _=>rfl) (fun _=>rfl) (fun _=>rfl) (fun _=>rfl) ?_
  simp only [List.set_cons_zero]
  repeat' (with_reducible first|refine Wx.h ?_|refine Wb.h fun K hK=>?_|(refine hK _ ?_;clear hK K)|(refine wT ?_ ?_;assumption)|(refine wF ?_ ?_;assumption)|(refine Wy.h ?_ ?_;kernel_rfl)|refine Wq.h ?_ ?_<;>intro h<;>try (exfalso;omega)|refine Wu.h ?_ ?_<;>intro h<;>try simp only [h]|((fail_if_success refine Wz.h ?_);first|simp (disch:=omega) only [↓LD,LA,loadA_rf,seval]|(refine And.intro ?_ ?_;omega)|simp only [D.int,D.bool]))
  exact end1 rfl rfl (by kernel_rfl) .f ⟨rfl,rfl⟩
theorem c_oc_RText (b : Bs) (lack : Bool) (hb : b.length ≤ 140737488355328) : Con Tryz.prog 83 [.pt 0 0] [rdB 173 b lack] fun r H'=>r = .f (.v (.string (BB (shR b lack).1))) ∧ H' = [rdB 173 (shR b lack).2.1 (shR b lack).2.2]:=by
  have hc:=c_oc_RShort b lack hb
  generalize shR b lack = rr at hc ⊢
  obtain ⟨raw,b',k'⟩:=rr
  dsimp only at hc ⊢
  refine Con.walk good fn_oc_RText (by simp) ?_
  unfold s_oc_RText
  simp only [argsE]
  repeat' (with_reducible first|refine Wx.h ?_|refine Wb.h fun K hK=>?_|(refine hK _ ?_;clear hK K)|(refine wT ?_ ?_;assumption)|(refine wF ?_ ?_;assumption)|(refine Wy.h ?_ ?_;kernel_rfl)|refine Wq.h ?_ ?_<;>intro h<;>try (exfalso;omega)|refine Wu.h ?_ ?_<;>intro h<;>try simp only [h]|((fail_if_success refine Wz.h ?_);first|simp (disch:=omega) only [↓LD,LA,loadA_rf,seval]|(refine And.intro ?_ ?_;omega)|simp only [D.int,D.bool]))
  refine callW_own hc rfl rfl (fun _=>rfl) (fun _=>rfl) (fun _=>rfl) (fun _=>rfl) ?_
  simp only [List.set_cons_zero]
  repeat' (with_reducible first|refine Wx.h ?_|refine Wb.h fun K hK=>?_|(refine hK _ ?_;clear hK K)|(refine wT ?_ ?_;assumption)|(refine wF ?_ ?_;assumption)|(refine Wy.h ?_ ?_;kernel_rfl)|refine Wq.h ?_ ?_<;>intro h<;>try (exfalso;omega)|refine Wu.h ?_ ?_<;>intro h<;>try simp only [h]|((fail_if_success refine Wz.h ?_);first|simp (disch:=omega) only [↓LD,LA,loadA_rf,seval,bytes_map]|(refine And.intro ?_ ?_;omega)|simp only [D.int,D.bool]))
  exact end1 rfl rfl (by kernel_rfl) .f ⟨rfl,rfl⟩
theorem c_ro_RU8 (b : Bs) (lack : Bool) (hb : b.length ≤ 140737488355328) : Con Tryz.prog 86 [.pt 0 0] [rdB 137 b lack] fun r H'=>r = D.int (beN (rawR 1 b lack).1) ∧ H' = [rdB 137 (rawR 1 b lack).2.1 (rawR 1 b lack).2.2]:=by
  have hc:=c_ro_get b lack 1 (by omega) hb
  have hv:=beN_rawR (n:=1) (b:=b) (k:=lack) (by omega)
  generalize rawR 1 b lack = rr at hc hv ⊢
  obtain ⟨raw,b',k'⟩:=rr
  dsimp only at hc hv ⊢
  refine Con.walk good fn_ro_RU8 (by simp) ?_
  unfold s_ro_RU8
  simp only [argsE]
  have hw : IntKind.i64.wrap (beN raw : Int) = beN raw:=wrap_in (by omega) (by omega)
  repeat' (with_reducible first|refine Wx.h ?_|refine Wb.h fun K hK=>?_|(refine hK _ ?_;clear hK K)|(refine wT ?_ ?_;assumption)|(refine wF ?_ ?_;assumption)|(refine Wy.h ?_ ?_;kernel_rfl)|refine Wq.h ?_ ?_<;>intro h<;>try (exfalso;omega)|refine Wu.h ?_ ?_<;>intro h<;>try simp only [h]|((fail_if_success refine Wz.h ?_);first|simp (disch:=omega) only [↓LD,LA,loadA_rf,seval]|(refine And.intro ?_ ?_;omega)|simp only [D.int,D.bool]))
  refine callW_own hc rfl rfl (fun _=>rfl) (fun _=>rfl) (fun _=>rfl) (fun _=>rfl) ?_
  simp only [List.set_cons_zero]
  repeat' (with_reducible first|refine Wx.h ?_|refine Wb.h fun K hK=>?_|(refine hK _ ?_;clear hK K)|(refine wT ?_ ?_;assumption)|(refine wF ?_ ?_;assumption)|(refine Wy.h ?_ ?_;kernel_rfl)|refine Wq.h ?_ ?_<;>intro h<;>try (exfalso;omega)|refine Wu.h ?_ ?_<;>intro h<;>try simp only [h]|((fail_if_success refine Wz.h ?_);first|simp (disch:=omega) only [↓LD,LA,loadA_rf,seval,hw]|(refine And.intro ?_ ?_;omega)|simp only [D.int,D.bool]))
  exact end1 rfl rfl (by kernel_rfl) .f ⟨rfl,rfl⟩
theorem c_ro_RU16 (b : Bs) (lack : Bool) (hb : b.length ≤ 140737488355328) : Con Tryz.prog 120 [.pt 0 0] [rdB 137 b lack] fun r H'=>r = D.int (beN (rawR 2 b lack).1) ∧ H' = [rdB 137 (rawR 2 b lack).2.1 (rawR 2 b lack).2.2]:=by
  have hc:=c_ro_get b lack 2 (by omega) hb
  have hv:=beN_rawR (n:=2) (b:=b) (k:=lack) (by omega)
  generalize rawR 2 b lack = rr at hc hv ⊢
  obtain ⟨raw,b',k'⟩:=rr
  dsimp only at hc hv ⊢
  refine Con.walk good fn_ro_RU16 (by simp) ?_
  unfold s_ro_RU16
  simp only [argsE]
  have hw : IntKind.i64.wrap (beN raw : Int) = beN raw:=wrap_in (by omega) (by omega)
  repeat' (with_reducible first|refine Wx.h ?_|refine Wb.h fun K hK=>?_|(refine hK _ ?_;clear hK K)|(refine wT ?_ ?_;assumption)|(refine wF ?_ ?_;assumption)|(refine Wy.h ?_ ?_;kernel_rfl)|refine Wq.h ?_ ?_<;>intro h<;>try (exfalso;omega)|refine Wu.h ?_ ?_<;>intro h<;>try simp only [h]|((fail_if_success refine Wz.h ?_);first|simp (disch:=omega) only [↓LD,LA,loadA_rf,seval]|(refine And.intro ?_ ?_;omega)|simp only [D.int,D.bool]))
  refine callW_own hc rfl rfl (fun _=>rfl) (fun _=>rfl) (fun _=>rfl) (fun _=>rfl) ?_
  simp only [List.set_cons_zero]
  repeat' (with_reducible first|refine Wx.h ?_|refine Wb.h fun K hK=>?_|(refine hK _ ?_;clear hK K)|(refine wT ?_ ?_;assumption)|(refine wF ?_ ?_;assumption)|(refine Wy.h ?_ ?_;kernel_rfl)|refine Wq.h ?_ ?_<;>intro h<;>try (exfalso;omega)|refine Wu.h ?_ ?_<;>intro h<;>try simp only [h]|((fail_if_success refine Wz.h ?_);first|simp (disch:=omega) only [↓LD,LA,loadA_rf,seval,hw]|(refine And.intro ?_ ?_;omega)|simp only [D.int,D.bool]))
  exact end1 rfl rfl (by kernel_rfl) .f ⟨rfl,rfl⟩
theorem c_ro_RShort (b : Bs) (lack : Bool) (hb : b.length ≤ 140737488355328) : Con Tryz.prog 88 [.pt 0 0] [rdB 137 b lack] fun r H'=>r = .f (fY (shR b lack).1) ∧ H' = [rdB 137 (shR b lack).2.1 (shR b lack).2.2]:=by
  have hc:=c_ro_RU16 b lack hb
  have hb2:=rawR_le (n:=2) (b:=b) (k:=lack)
  unfold shR
  generalize rawR 2 b lack = rr at hc hb2 ⊢
  obtain ⟨raw,b',k'⟩:=rr
  dsimp only at hc hb2 ⊢
  refine Con.walk good fn_ro_RShort (by simp) ?_
  unfold s_ro_RShort
  simp only [argsE]
  repeat' (with_reducible first|refine Wx.h ?_|refine Wb.h fun K hK=>?_|(refine hK _ ?_;clear hK K)|(refine wT ?_ ?_;assumption)|(refine wF ?_ ?_;assumption)|(refine Wy.h ?_ ?_;kernel_rfl)|refine Wq.h ?_ ?_<;>intro h<;>try (exfalso;omega)|refine Wu.h ?_ ?_<;>intro h<;>try simp only [h]|((fail_if_success refine Wz.h ?_);first|simp (disch:=omega) only [↓LD,LA,loadA_rf,seval]|(refine And.intro ?_ ?_;omega)|simp only [D.int,D.bool]))
  refine callW_own hc rfl rfl (fun _=>rfl) (fun _=>rfl) (fun _=>rfl) (fun _=>rfl) ?_
  simp only [List.set_cons_zero]
  repeat' (with_reducible first|refine Wx.h ?_|refine Wb.h fun K hK=>?_|(refine hK _ ?_;clear hK K)|(refine wT ?_ ?_;assumption)|(refine wF ?_ ?_;assumption)|(refine Wy.h ?_ ?_;kernel_rfl)|refine Wq.h ?_ ?_<;>intro h<;>try (exfalso;omega)|refine Wu.h ?_ ?_<;>intro h<;>try simp only [h]|((fail_if_success refine Wz.h ?_);first|simp (disch:=omega) only [↓LD,LA,loadA_rf,seval]|(refine And.intro ?_ ?_;omega)|simp only [D.int,D.bool]))
  refine callW_own (c_ro_RRaw b' k' (beN raw) (by omega)) rfl rfl (fun _=>rfl) (fun _=>rfl) (fun _=>rfl) (fun _=>rfl) ?_
  simp only [List.set_cons_zero]
  repeat' (with_reducible first|refine Wx.h ?_|refine Wb.h fun K hK=>?_|(refine hK _ ?_;clear hK K)|(refine wT ?_ ?_;assumption)|(refine wF ?_ ?_;assumption)|(refine Wy.h ?_ ?_;kernel_rfl)|refine Wq.h ?_ ?_<;>intro h<;>try (exfalso;omega)|refine Wu.h ?_ ?_<;>intro h<;>try simp only [h]|((fail_if_success refine Wz.h ?_);first|simp (disch:=omega) only [↓LD,LA,loadA_rf,seval]|(refine And.intro ?_ ?_;omega)|simp only [D.int,D.bool]))
  exact end1 rfl rfl (by kernel_rfl) .f ⟨rfl,rfl⟩
theorem c_ro_RText (b : Bs) (lack : Bool) (hb : b.length ≤ 140737488355328) : Con Tryz.prog 87 [.pt 0 0] [rdB 137 b lack] fun r H'=>r = .f (.v (.string (BB (shR b lack).1))) ∧ H' = [rdB 137 (shR b lack).2.1 (shR b lack).2.2]:=by
  have hc:=c_ro_RShort b lack hb
  generalize shR b lack = rr at hc ⊢
  obtain ⟨raw,b',k'⟩:=rr
  dsimp only at hc ⊢
  refine Con.walk good fn_ro_RText (by simp) ?_
  unfold s_ro_RText
  simp only [argsE]
  repeat' (with_reducible first|refine Wx.h ?_|refine Wb.h fun K hK=>?_|(refine hK _ ?_;clear hK K)|(refine wT ?_ ?_;assumption)|(refine wF ?_ ?_;assumption)|(refine Wy.h ?_ ?_;kernel_rfl)|refine Wq.h ?_ ?_<;>intro h<;>try (exfalso;omega)|refine Wu.h ?_ ?_<;>intro h<;>try simp only [h]|((fail_if_success refine Wz.h ?_);first|simp (disch:=omega) only [↓LD,LA,loadA_rf,seval]|(refine And.intro ?_ ?_;omega)|simp only [D.int,D.bool]))
  refine callW_own hc rfl rfl (fun _=>rfl) (fun _=>rfl) (fun _=>rfl) (fun _=>rfl) ?_
  simp only [List.set_cons_zero]
  repeat' (with_reducible first|refine Wx.h ?_|refine Wb.h fun K hK=>?_|(refine hK _ ?_;clear hK K)|(refine wT ?_ ?_;assumption)|(refine wF ?_ ?_;assumption)|(refine Wy.h ?_ ?_;kernel_rfl)|refine Wq.h ?_ ?_<;>intro h<;>try (exfalso;omega)|refine Wu.h ?_ ?_<;>intro h<;>try simp only [h]|((fail_if_success refine Wz.h ?_);first|simp (disch:=omega) only [↓LD,LA,loadA_rf,seval,bytes_map]|(refine And.intro ?_ ?_;omega)|simp only [D.int,D.bool]))
  exact end1 rfl rfl (by kernel_rfl) .f ⟨rfl,rfl⟩
def s_kv_Lay : SCode :=
  (jq ([.a 1 (.box 58 (.t 0)),.a 2 (.mv kN),jk 3 0]) (.seq (jq ((ap [jo 5 0 1,jl 6 5,.a 7 (.bin .eql (.t 6) (.c (.f (.v (.string ⟨#[]⟩)))))] (ap [jm
 8 7,gO 9 0 1 8 false] (ap [gL 10 9 8 false,jG 11 (.strlen (.t 10)) 8 false,jG 12 (.bin .gtr (.t 11) (kI 255)) 8 false] (ap [.a 13 (.pick (.t 8) kT
 (.t 12)),jm 14 13,gO 15 2 1 14 false] (ap [gL 16 15 14 false,jG 17 (.slen (.t 16)) 14 false,jG 18 (.bin .gtr (.t 17) (kI 65535)) 14 false] (ap [.a
 19 (.pick (.t 14) kT (.t 18)),jm 20 19,gO 21 1 1 20 false] (ap [gL 22 21 20 false,jG 23 (.unot (.t 22)) 20 false,gM 24 23 20 false,gO 25 2 1 24
 true] (ap [gL 26 25 24 true,jG 27 (.slen (.t 26)) 24 true,jG 28 (.bin .gtr (.t 27) (kI 0)) 24 true] (ap [jG 29 (.pick (.t 24) (.t 28) kF) 20 false]
 [.a 30 (.pick (.t 20) kT (.t 29))])))))))))) (jc 30 (jq ([.a 2 (.mv kN),jk 3 1]) .ret) .skip)) (jq ((ap [.a 31 (.call (kC 74) [])] [jm 4 31])) (.seq
 (jq ([jo 32 1 1,jl 33 32,.a 34 (.unot (.t 33))]) (jc 34 (jq ([jm 35 4,.a 36 (.call (kC 75) [(.t 35),(kI 0)])]) (jq ([jm 37 4,jo 38 0 1,jl 39 38,
 .a 40 (.call (kC 76) [(.t 37),(.t 39)])]) (jq ((ap [jm 41 4,.a 42 (.call (kC 77) [(.t 41)])] [jm 2 42,jk 3 0])) .ret))) .skip)) (jq ([jm 43 4,.a 44
 (.call (kC 75) [(.t 43),(kI 1)])]) (jq ([jm 45 4,jo 46 0 1,jl 47 46,.a 48 (.call (kC 76) [(.t 45),(.t 47)])]) (jq ([jm 49 4,jo 50 2 1,jl 51 50,
 .a 52 (.call (kC 78) [(.t 49),(.t 51)])]) (jq ((ap [jm 53 4,.a 54 (.call (kC 77) [(.t 53)])] [jm 2 54,jk 3 0])) .ret))))))))
theorem fn_kv_Lay : Fn Tryz.prog 33 55 [.t 2,.t 3] s_kv_Lay:=.of Tryz.func33 (by kernel_rfl)
def s_kv_Read : SCode :=
  (jq ([.a 2 (.alloc 58 [(.f (.v (.string ⟨#[]⟩))),jF,jN]),jk 3 0]) (jq ((ap [jm 8 0,.a 9 (.call (kC 81) [(.t 8)])] [jm 4 9])) (jq ((ap [jm 10 4,.a
 11 (.call (kC 82) [(.t 10)])] (ap [jb 12 .eql 11 1] (ap [jm 13 4,.a 14 (.call (kC 83) [(.t 13)])] [.a 15 (.bld [(.f (.v (.string ⟨#[]⟩))),jF,jN]
 [(1,1,(.t 12)),(0,1,(.t 14))]),.a 5 (.alloc 58 [(.f (.v (.string ⟨#[]⟩))),jF,jN]),.n (.store 3 (.t 5) (.t 15))])))) (.seq (jq ([jo 16 1 5,jl
 17 16]) (jc 17 (.ops (ap [jm 18 4,.a 19 (.call (kC 84) [(.t 18)])] [jo 20 2 5,.n (.store 1 (.t 20) (.t 19))])) .skip)) (.seq (jq ((ap [jL 22 3 5,.a
 23 (.call (kC 33) [(.t 22)])] [jm 21 23,jE 24 0 21,jE 25 1 21,jm 6 24,jm 7 25])) (jq ((ap [jm 26 7,jb 27 .neq 26 0] (ap [jm 28 27,gM 29 6 28
 false] (ap [gM 30 0 28 false,jG 31 (.call (kC 85) [(.t 29),(.t 30)]) 28 false] [jG 32 (.unot (.t 31)) 28 false,.a 33 (.pick (.t 28) kT (.t 32))]))))
 (jc 33 (jq ([.a 34 (.bld [(.f (.v (.string ⟨#[]⟩))),jF,jN] []),.n (.store 3 (.t 2) (.t 34)),jk 3 5]) .ret) .skip))) (jq ([jL 35 3 5,.n (.store 3
 (.t 2) (.t 35)),jk 3 0]) .ret))))))
theorem fn_kv_Read : Fn Tryz.prog 35 36 [.cA 3 2,.t 3] s_kv_Read:=.of Tryz.func35 (by kernel_rfl)
def s_rk_Lay : SCode :=
  (jq ([.a 1 (.box 58 (.t 0)),.a 2 (.mv kN),jk 3 0]) (.seq (jq ((ap [jo 5 0 1,jl 6 5,.a 7 (.strlen (.t 6)),jb 8 .lss 7 1] (ap [jm 9 8,gO 10 0 1 9
 false] (ap [gL 11 10 9 false,jG 12 (.strlen (.t 11)) 9 false,jG 13 (.bin .gtr (.t 12) (kI 255)) 9 false] (ap [.a 14 (.pick (.t 9) kT (.t 13)),jm 15
 14,gO 16 2 1 15 false] (ap [gL 17 16 15 false,jG 18 (.slen (.t 17)) 15 false,jG 19 (.bin .gtr (.t 18) (kI 65535)) 15 false] (ap [.a 20 (.pick (.t
 15) kT (.t 19)),jm 21 20,gO 22 1 1 21 false] (ap [gL 23 22 21 false,jG 24 (.unot (.t 23)) 21 false,gM 25 24 21 false,gO 26 2 1 25 true] (ap [gL 27
 26 25 true,jG 28 (.slen (.t 27)) 25 true,jG 29 (.bin .gtr (.t 28) (kI 0)) 25 true] (ap [jG 30 (.pick (.t 25) (.t 29) kF) 21 false] [.a 31 (.pick (.t
 21) kT (.t 30))])))))))))) (jc 31 (jq ([.a 2 (.mv kN),jk 3 1]) .ret) .skip)) (jq ([.a 32 (.bld [jN] []),.a 33 (.box 93 (.t 32)),jm 4 33]) (.seq (jq
 ([jo 34 1 1,jl 35 34]) (jc 35 (.ops [jm 36 4,.a 37 (.call (kC 49) [(.t 36),(kI 1)])]) (.ops [jm 38 4,.a 39 (.call (kC 49) [(.t 38),(kI 0)])])))
 (jq ([jm 40 4,jo 41 0 1,jl 42 41,.a 43 (.call (kC 79) [(.t 40),(.t 42)])]) (.seq (jq ([jo 44 1 1,jl 45 44]) (jc 45 (.ops [jm 46 4,jo 47 2 1,jl
 48 47,.a 49 (.call (kC 80) [(.t 46),(.t 48)])]) .skip)) (jq ([jm 50 4,jn 51 50,jo 52 0 51,jl 53 52,jm 2 53,jk 3 0]) .ret)))))))
theorem fn_rk_Lay : Fn Tryz.prog 34 54 [.t 2,.t 3] s_rk_Lay:=.of Tryz.func34 (by kernel_rfl)
def s_rk_Read : SCode :=
  (jq ([.a 2 (.alloc 58 [(.f (.v (.string ⟨#[]⟩))),jF,jN]),jk 3 0]) (jq ([jm 8 0,.a 9 (.bld [jN,jF] [(0,1,(.t 8))]),.a 10 (.box 137 (.t 9)),jm 4
 10]) (jq ((ap [jm 11 4,.a 12 (.call (kC 86) [(.t 11)])] (ap [jb 13 .eql 12 1] (ap [jm 14 4,.a 15 (.call (kC 87) [(.t 14)])] [.a 16 (.bld [(.f (.v
 (.string ⟨#[]⟩))),jF,jN] [(1,1,(.t 13)),(0,1,(.t 15))]),.a 5 (.alloc 58 [(.f (.v (.string ⟨#[]⟩))),jF,jN]),.n (.store 3 (.t 5) (.t 16))]))))
 (.seq (jq ([jo 17 1 5,jl 18 17]) (jc 18 (.ops (ap [jm 19 4,.a 20 (.call (kC 88) [(.t 19)])] [jo 21 2 5,.n (.store 1 (.t 21) (.t 20))])) .skip)) (jq
 ((ap [jL 23 3 5,.a 24 (.call (kC 34) [(.t 23)])] [jm 22 24,jE 25 0 22,jE 26 1 22,jm 6 25,jm 7 26])) (.seq (jq ((ap [jm 27 7,jb 28 .neq 27 0] (ap
 [jm 29 28,gM 30 6 29 false] (ap [jG 31 (.b2s (.t 30)) 29 false,gM 32 0 29 false,jG 33 (.b2s (.t 32)) 29 false,jG 34 (.bin .neq (.t 31) (.t 33)) 29
 false] [.a 35 (.pick (.t 29) kT (.t 34))])))) (jc 35 (jq ([.a 36 (.bld [(.f (.v (.string ⟨#[]⟩))),jF,jN] []),.n (.store 3 (.t 2) (.t 36)),jk 3 5])
 .ret) .skip)) (jq ([jL 37 3 5,.n (.store 3 (.t 2) (.t 37)),jk 3 0]) .ret)))))))
theorem fn_rk_Read : Fn Tryz.prog 36 38 [.cA 3 2,.t 3] s_rk_Read:=.of Tryz.func36 (by kernel_rfl)
end Go.Proofs.YtdpeakapcfjibaaGreat.Mir
