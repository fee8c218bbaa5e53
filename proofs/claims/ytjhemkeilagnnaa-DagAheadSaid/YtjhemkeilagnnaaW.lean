/- A logic over the machine: what code does to frames and rows, whatever the inputs; its rules. -/
import Derived.Test.YtjhemkeilagnnaaMirFast
namespace Go.Proofs.Ytjhemkeilagnnaa.Mir
open Go Go.RowKit

structure RunW (P : Program) (X : Nat → Prop) (w0 : World) (φ0 : Nat → Nat × Nat) (H0 : List Row) (w : World) (φ : Nat → Nat × Nat) (s : St) (a : Act) : Prop where
  sim : Sim P X w φ s a
  ons : Ons X w0 φ0 H0 w φ s.H

/-- From a frame and rows on code ends in what Q tells. 'n0': how many rows there were as the function was called. -/
def HC (P : Program) (n0 : Nat) (c : Code) (s : St) (Q : Out → St → Prop) : Prop :=
  ∀ (X : Nat → Prop) (w0 : World) (φ0 : Nat → Nat × Nat) (H0 : List Row) (w : World) (φ : Nat → Nat × Nat) (a : Act) (K : Exit → Act → World → Prop), H0.length = n0 → RunW P X w0 φ0 H0 w φ s a →
    (∀ (out : Out) (s' : St) (w' : World) (φ' : Nat → Nat × Nat) (a' : Act), Q out s' → RunW P X w0 φ0 H0 w' φ' s' a' → K out.to a' w') → c.wp P K a w
@[congr] theorem HC_congr {P : Program} {n0 : Nat} {c : Code} {s s' : St} {Q : Out → St → Prop} (h : s = s') : HC P n0 c s Q = HC P n0 c s' Q := by rw [h]

def LeavesW (P : Program) (w : World) (φ : Nat → Nat × Nat) (X : Nat → Prop) (H : List Row) (v : Value) (w' : World) (d : D) (H' : List Row) : Prop :=
  ∃ φ', Ons X w φ H w' φ' H' ∧ HR P w' φ' X H' ∧ R P w' φ' (Av X φ' H') H'.length d v

/-- A function's contract: called with these, with these rows about, it returns what Q tells, and leaves rows so. -/
def Con (P : Program) (f : FuncId) (args : List D) (H : List Row) (Q : D → List Row → Prop) : Prop :=
  (∃ fn, P.funcs[f]? = some fn ∧ fn.body.isSome = true) ∧ ∀ (w : World) (φ : Nat → Nat × Nat) (X : Nat → Prop) (vs : Array Value), HR P w φ X H → Rs P w φ (Av X φ H) H.length args vs.toList →
    Calls P f vs w fun en w' => ∃ v d H', en = .returned v ∧ Q d H' ∧ LeavesW P w φ X H v w' d H'

theorem Con.mono {P : Program} {f : FuncId} {args : List D} {H : List Row} {Q Q' : D → List Row → Prop} (h : Con P f args H Q) (hq : ∀ d H', Q d H' → Q' d H') : Con P f args H Q' :=
  ⟨h.1, fun w φ X vs hH ha => (h.2 w φ X vs hH ha).mono fun _ _ ⟨v, d, H', h1, h2, h3⟩ => ⟨v, d, H', h1, hq d H' h2, h3⟩⟩

def bind' {α : Type} (o : Option α) (K : α → Prop) : Prop := match o with | some a => K a | none => False
@[congr] theorem bind'_congr {α : Type} {o o' : Option α} {K : α → Prop} (h : o = o') : bind' o K = bind' o' K := by rw [h]
theorem bind'_some {α : Type} {a : α} {K : α → Prop} : bind' (some a) K = K a := id rfl
theorem bind'_of {α : Type} {o : Option α} {a : α} {K : α → Prop} (h : o = some a) (k : K a) : bind' o K := by rw [h]; exact k
/-- Two ways by a test. -/
def Bsel (b : Bool) (p q : Prop) : Prop := (b = true → p) ∧ (b = false → q)
@[congr] theorem Bsel_congr {b b' : Bool} {p q : Prop} (h : b = b') : Bsel b p q = Bsel b' p q := by rw [h]
theorem Bsel_true {p q : Prop} : Bsel true p q = p := by simp [Bsel]
theorem Bsel_false {p q : Prop} : Bsel false p q = q := by simp [Bsel]
/-- Two ways by a fact. -/
def Two (c p q : Prop) : Prop := (c → p) ∧ (¬ c → q)
@[congr] theorem Two_congr {c c' p q : Prop} (h : c = c') : Two c p q = Two c' p q := by rw [h]
theorem Two.mk' {c p q : Prop} (h1 : c → p) (h2 : ¬ c → q) : Two c p q := ⟨h1, h2⟩
theorem Two_true {p q : Prop} : Two True p q = p := by simp [Two]
theorem Two_false {p q : Prop} : Two False p q = q := by simp [Two]

def noCalling : Calling := fun _ _ _ => none
theorem noCalling_ok (P : Program) : ∀ f, Sound P f (noCalling f) := fun _ _ _ _ h => by simp [noCalling] at h

def callW (P : Program) (fd : D) (args : List D) (H : List Row) (K : D → List Row → Prop) : Prop :=
  ∃ g caps, fd = .fn g caps ∧ Con P g (args ++ caps) H K
@[congr] theorem callW_congr {P : Program} {fd fd' : D} {args args' : List D} {H H' : List Row} {K : D → List Row → Prop} (h : fd = fd') (ha : args = args') (hh : H = H') : callW P fd args H K = callW P fd' args' H' K := by rw [h, ha, hh]

def stepW (P : Program) (ts : List D) (H : List Row) (o : Oper) (K : D → List Row → Prop) : Prop :=
  match o.op with
  | .call c => match c.callee with
    | .value f => callW P (eval ts f) (c.args.toList.map (eval ts)) H K
    | _ => bind' (stepD P noCalling ts H o) fun e => K e.res (e.heap H)
  | _ => bind' (stepD P noCalling ts H o) fun e => K e.res (e.heap H)

def wpO (P : Program) (ops : List Oper) : List Oper → St → (St → Prop) → Prop
  | [], s, K => K s
  | o :: rest, s, K => bind' (wantedD ops s.ts o) fun b => Bsel b (stepW P s.ts s.H o fun d H' => wpO P ops rest ⟨putD! s.ts o.dst d, H', []⟩ K) (wpO P ops rest ⟨putD! s.ts o.dst D.undef, s.H, []⟩ K)

section
variable {P : Program} {X : Nat → Prop} {w : World} {φ : Nat → Nat × Nat} {H : List Row}

theorem LeavesW.of {w' : World} {e : Eff} {v : Value} (h : Leaves P w φ X H e v w') : LeavesW P w φ X H v w' e.res (e.heap H) := by
  obtain ⟨φ', h1, h2, h3⟩ := h.ext
  exact ⟨φ', h1, h2, h3⟩

theorem stepW_ok (hP : Good P) (h : HR P w φ X H) {ts : List D} {a : Act} (hts : Rs P w φ (Av X φ H) H.length ts a.tmps.toList) {o : Oper} {K : D → List Row → Prop} (hs : stepW P ts H o K) :
    OpOk P o a w fun v w' => ∃ d H', K d H' ∧ LeavesW P w φ X H v w' d H' := by
  have plain : bind' (stepD P noCalling ts H o) (fun e => K e.res (e.heap H)) → OpOk P o a w fun v w' => ∃ d H', K d H' ∧ LeavesW P w φ X H v w' d H' := by
    intro hb
    unfold bind' at hb
    split at hb
    · rename_i e he
      intro K' Q hK
      exact step_ok hP (noCalling_ok P) h hts he K' Q (fun v w' hl => hK v w' ⟨_, _, hb, LeavesW.of hl⟩)
    · exact hb.elim
  unfold stepW at hs
  split at hs
  · rename_i c hop
    split at hs
    · rename_i f hca
      obtain ⟨g, caps, hf, ⟨fn, hfn, hbody⟩, hcon⟩ := hs
      obtain ⟨callee, args, argTypes⟩ := c
      simp only at hca hcon
      have hr := R.eval hts f
      rw [hf] at hr
      cases hev : a.eval f with
      | func fn' first captured =>
        rw [hev] at hr
        cases hr with
        | fn hs hrr =>
          have hargs := args_ok hts args
          refine OpOk.enter (f := g) (args := args.map a.eval ++ captured) (w' := w) ?_ ?_
          · unfold execOp
            simp only [hop, resolve, hca, Deferred.ofValue, hev, invoke, Sem.run_bind, Sem.run_pure, Result.andThen_ok]
            have := run_callFunc (w := w) hP hfn hbody (args.map a.eval ++ captured)
            simpa using this
          · have h1 := hcon w φ X (args.map a.eval ++ captured) h (by
              rw [Array.toList_append]
              exact hargs.append ⟨by simpa using hs, fun i x y hx hy => hrr i x y hx (by simpa using hy)⟩)
            refine h1.mono ?_
            rintro en w' ⟨v, d, H', rfl, h3, h4⟩
            exact ⟨v, rfl, d, H', h3, h4⟩
      | _ => rw [hev] at hr; cases hr
    · exact plain hs
  · exact plain hs

theorem RunW.step {w0 : World} {φ0 : Nat → Nat × Nat} {H0 : List Row} {s : St} {a : Act} (h : RunW P X w0 φ0 H0 w φ s a) {w' : World} {d : D} {H' : List Row} {v : Value} (hl : LeavesW P w φ X s.H v w' d H') (dst : Option Tmp) :
    ∃ φ', RunW P X w0 φ0 H0 w' φ' ⟨putD! s.ts dst d, H', []⟩ (a.put dst v) := by
  obtain ⟨φ', h1, h2, h3⟩ := hl
  exact ⟨φ', ⟨h2, (h1.rs h.sim.tmps).put h3 dst, by rw [put_defers]; exact h.sim.defers⟩, h.ons.trans h1⟩
theorem RunW.skip {w0 : World} {φ0 : Nat → Nat × Nat} {H0 : List Row} {s : St} {a : Act} (h : RunW P X w0 φ0 H0 w φ s a) (dst : Option Tmp) :
    RunW P X w0 φ0 H0 w φ ⟨putD! s.ts dst D.undef, s.H, []⟩ (a.put dst Go.undef) :=
  ⟨⟨h.sim.heap, h.sim.tmps.put R.undef dst, by rw [put_defers]; exact h.sim.defers⟩, h.ons⟩

theorem wpO_ok (hP : Good P) {ops : Array Oper} {Q : Exit → Act → World → Prop} {w0 : World} {φ0 : Nat → Nat × Nat} {H0 : List Row} {K : St → Prop} : ∀ (rest : List Oper) (k : Nat) (s : St) (w : World) (φ : Nat → Nat × Nat) (a : Act), (∀ j, rest[j]? = ops[k + j]?) →
    wpO P ops.toList rest s K → RunW P X w0 φ0 H0 w φ s a → (∀ s' a' w' φ', K s' → RunW P X w0 φ0 H0 w' φ' s' a' → Q .normal a' w') → wpOps P ops Q (List.range' k rest.length) a w
  | [], k, s, w, φ, a, _, hr, hs, hQ => hQ s a w φ hr hs
  | o :: rest, k, s, w, φ, a, hk, hr, hs, hQ => by
    have ho : ops[k]? = some o := by have := hk 0; simpa using this.symm
    have hk' : ∀ j, rest[j]? = ops[k + 1 + j]? := fun j => by have := hk (j + 1); simpa [Nat.add_assoc, Nat.add_comm 1 j] using this
    simp only [List.length_cons, List.range'_succ, wpOps, ho]
    simp only [wpO] at hr
    cases hw : wantedD ops.toList s.ts o with
    | none => rw [hw] at hr; exact hr.elim
    | some b =>
      rw [hw, bind'_some] at hr
      rw [wanted_ok hs.sim.tmps hw]
      cases b with
      | true =>
        rw [Bsel_true] at hr
        rw [if_pos rfl]
        refine .inl (stepW_ok hP hs.sim.heap hs.sim.tmps hr _ _ ?_)
        rintro v w' ⟨d, H', h1, h2⟩
        obtain ⟨φ', h3⟩ := hs.step h2 o.dst
        exact wpO_ok hP rest (k + 1) _ w' φ' _ hk' h1 h3 hQ
      | false =>
        rw [Bsel_false] at hr
        rw [if_neg (by simp)]
        exact wpO_ok hP rest (k + 1) _ w φ _ hk' hr (hs.skip o.dst) hQ

variable {n0 : Nat} {s : St} {Q : Out → St → Prop}

theorem HC.region (hP : Good P) {id : Nat} {ops : Array Oper} (h : wpO P ops.toList ops.toList s (Q .normal)) : HC P n0 (.region id ops false) s Q := by
  intro X w0 φ0 H0 w φ a K _ hr hK
  refine wp_region ?_
  rw [List.range_eq_range', ← Array.length_toList]
  exact wpO_ok hP ops.toList 0 s w φ a (fun j => by simp) h hr (fun s' a' w' φ' hq hr' => hK .normal s' w' φ' a' hq hr')

def thenQ (next : St → Prop) (Q : Out → St → Prop) : Out → St → Prop
  | .normal, s => next s
  | .exit i, s => Q (.exit i) s
  | .ret, s => Q .ret s
def blockQ (id : Nat) (Q : Out → St → Prop) : Out → St → Prop
  | .normal, s => Q .normal s
  | .exit i, s => if i = id then Q .normal s else Q (.exit i) s
  | .ret, s => Q .ret s
theorem thenQ_normal {next : St → Prop} : thenQ next Q .normal s = next s := rfl
theorem thenQ_exit {next : St → Prop} {i : Nat} : thenQ next Q (.exit i) s = Q (.exit i) s := rfl
theorem thenQ_ret {next : St → Prop} : thenQ next Q .ret s = Q .ret s := rfl
theorem blockQ_normal {id : Nat} : blockQ id Q .normal s = Q .normal s := rfl
theorem blockQ_exit {id i : Nat} : blockQ id Q (.exit i) s = if i = id then Q .normal s else Q (.exit i) s := rfl
theorem blockQ_ret {id : Nat} : blockQ id Q .ret s = Q .ret s := rfl

theorem HC.mono {c : Code} {Q' : Out → St → Prop} (h : HC P n0 c s Q) (hq : ∀ o s', Q o s' → Q' o s') : HC P n0 c s Q' :=
  fun X w0 φ0 H0 w φ a K hn hr hK => h X w0 φ0 H0 w φ a K hn hr (fun o s' w' φ' a' q => hK o s' w' φ' a' (hq o s' q))
theorem HC.skip (h : Q .normal s) : HC P n0 .skip s Q := fun _ _ _ _ w φ a _ _ hr hK => wp_skip (hK _ s w φ a h hr)
theorem HC.label {l : Nat} (h : Q .normal s) : HC P n0 (.label l) s Q := fun _ _ _ _ w φ a _ _ hr hK => wp_label (hK _ s w φ a h hr)
theorem HC.ret (h : Q .ret s) : HC P n0 .ret s Q := fun _ _ _ _ w φ a _ _ hr hK => wp_ret (hK _ s w φ a h hr)
theorem HC.exit {id : Nat} (h : Q (.exit id) s) : HC P n0 (.exit id) s Q := fun _ _ _ _ w φ a _ _ hr hK => wp_exit (hK _ s w φ a h hr)
theorem HC.seq {x y : Code} (h : HC P n0 x s (thenQ (fun s' => HC P n0 y s' Q) Q)) : HC P n0 (.seq x y) s Q := by
  intro X w0 φ0 H0 w φ a K hn hr hK
  refine wp_seq (h X w0 φ0 H0 w φ a _ hn hr ?_)
  intro out s' w' φ' a' hq hr'
  cases out with
  | normal => exact hq X w0 φ0 H0 w' φ' a' K hn hr' hK
  | exit i => exact hK _ s' w' φ' a' hq hr'
  | ret => exact hK _ s' w' φ' a' hq hr'
theorem HC.block {id : Nat} {x : Code} (h : HC P n0 x s (blockQ id Q)) : HC P n0 (.block id x) s Q := by
  intro X w0 φ0 H0 w φ a K hn hr hK
  refine wp_block (h X w0 φ0 H0 w φ a _ hn hr ?_)
  intro out s' w' φ' a' hq hr'
  cases out with
  | normal => exact hK _ s' w' φ' a' hq hr'
  | exit i =>
    rw [blockQ_exit] at hq
    show (if i = id then _ else _)
    by_cases e : i = id
    · rw [if_pos e] at hq ⊢; exact hK .normal s' w' φ' a' hq hr'
    · rw [if_neg e] at hq ⊢; exact hK (.exit i) s' w' φ' a' hq hr'
  | ret => exact hK _ s' w' φ' a' hq hr'
/-- Which way: a test that is in hand. -/
def condW (d : D) (p q : Prop) : Prop := match d with
  | .f (.v (.bool t)) => Bsel t p q
  | _ => False
@[congr] theorem condW_congr {d d' : D} {p q : Prop} (h : d = d') : condW d p q = condW d' p q := by rw [h]
theorem HC.cond {c : Operand} {x y : Code} (h : condW (eval s.ts c) (HC P n0 x s Q) (HC P n0 y s Q)) : HC P n0 (.cond c x y) s Q := by
  intro X w0 φ0 H0 w φ a K hn hr hK
  have h1 := R.eval hr.sim.tmps c
  unfold condW at h
  split at h
  · rename_i t hc
    rw [hc] at h1
    have h2 : a.eval c = .bool t := by
      generalize a.eval c = u at h1
      cases h1 with | f h1 => cases h1 with | v _ => rfl
    cases t with
    | true => rw [Bsel_true] at h; exact wp_cond h2 (h X w0 φ0 H0 w φ a K hn hr hK)
    | false => rw [Bsel_false] at h; exact wp_cond h2 (h X w0 φ0 H0 w φ a K hn hr hK)
  · exact h.elim
/-- A loop, by the states at its head: 'p': what holds of what they are told by. -/
theorem HC.loop {c : Code} {α : Type} (st : α → St) (p : α → Prop) (m : α → Nat) (x0 : α) (h0 : p x0) (hs : s = st x0)
    (hbody : ∀ x, p x → HC P n0 c (st x) (thenQ (fun s' => ∃ y, s' = st y ∧ p y ∧ m y < m x) Q)) : HC P n0 (.loop c) s Q := by
  intro X w0 φ0 H0 w φ a K hn hr hK
  subst hs
  refine wp_loop_rounds (m x0 + 1) ?_
  have key : ∀ (k : Nat) (x : α) (w : World) (φ : Nat → Nat × Nat) (a : Act), m x ≤ k → p x → RunW P X w0 φ0 H0 w φ (st x) a → Code.rounds P c K (k + 1) a w := by
    intro k
    induction k with
    | zero =>
      intro x w φ a hm hp hr
      rw [rounds_succ]
      refine hbody x hp X w0 φ0 H0 w φ a _ hn hr ?_
      intro out s' w' φ' a' hq hr'
      cases out with
      | normal => obtain ⟨y, _, _, hlt⟩ := hq; omega
      | exit i => exact hK _ s' w' φ' a' hq hr'
      | ret => exact hK _ s' w' φ' a' hq hr'
    | succ k ih =>
      intro x w φ a hm hp hr
      rw [rounds_succ]
      refine hbody x hp X w0 φ0 H0 w φ a _ hn hr ?_
      intro out s' w' φ' a' hq hr'
      cases out with
      | normal =>
        obtain ⟨y, rfl, hp', hlt⟩ := hq
        exact ih y w' φ' a' (by omega) hp' hr'
      | exit i => exact hK _ s' w' φ' a' hq hr'
      | ret => exact hK _ s' w' φ' a' hq hr'
  exact key (m x0) x0 w φ a (Nat.le_refl _) h0 hr

/-- The same frame and rows, looked at otherwise. -/
def View (P : Program) (n0 : Nat) (s s' : St) : Prop :=
  ∀ (X : Nat → Prop) (w0 : World) (φ0 : Nat → Nat × Nat) (H0 : List Row) (w : World) (φ : Nat → Nat × Nat) (a : Act), H0.length = n0 → RunW P X w0 φ0 H0 w φ s a → ∃ φ', RunW P X w0 φ0 H0 w φ' s' a
theorem HC.view {c : Code} {s' : St} (hv : View P n0 s s') (h : HC P n0 c s' Q) : HC P n0 c s Q := by
  intro X w0 φ0 H0 w φ a K hn hr hK
  obtain ⟨φ', hr'⟩ := hv X w0 φ0 H0 w φ a hn hr
  exact h X w0 φ0 H0 w φ' a K hn hr' hK
theorem View.trans {s1 s2 s3 : St} (h : View P n0 s1 s2) (k : View P n0 s2 s3) : View P n0 s1 s3 := fun X w0 φ0 H0 w φ a hn hr => by
  obtain ⟨φ1, h1⟩ := h X w0 φ0 H0 w φ a hn hr
  exact k X w0 φ0 H0 w φ1 a hn h1

/-- Slots that nobody looks at any more. -/
def maskS (keep : List Nat) : Nat → List D → List D
  | _, [] => []
  | i, d :: ds => (if keep.contains i then d else .junk) :: maskS keep (i + 1) ds
theorem maskS_get (keep : List Nat) : ∀ (ts : List D) (i j : Nat), (maskS keep i ts)[j]? = (ts[j]?).map fun d => if keep.contains (i + j) then d else .junk
  | [], _, _ => by simp [maskS]
  | d :: ds, i, 0 => by simp [maskS]
  | d :: ds, i, j + 1 => by simp only [maskS, List.getElem?_cons_succ]; rw [maskS_get keep ds (i + 1) j, Nat.add_assoc, Nat.add_comm 1 j]
theorem maskS_len (keep : List Nat) : ∀ (ts : List D) (i : Nat), (maskS keep i ts).length = ts.length
  | [], _ => rfl
  | d :: ds, i => by simp [maskS, maskS_len keep ds]
theorem View.mask (keep : List Nat) : View P n0 s ⟨maskS keep 0 s.ts, s.H, []⟩ := by
  intro X w0 φ0 H0 w φ a _ hr
  refine ⟨φ, ⟨hr.sim.heap, ⟨?_, fun i d u hd hu => ?_⟩, hr.sim.defers⟩, hr.ons⟩
  · rw [maskS_len]; exact hr.sim.tmps.1
  · dsimp only at hd
    rw [maskS_get] at hd
    cases hx : s.ts[i]? with
    | none => rw [hx] at hd; simp at hd
    | some x =>
      rw [hx] at hd
      simp at hd
      subst hd
      split
      · exact hr.sim.tmps.2 i x u hx hu
      · exact .junk
/-- Rows that nobody reaches any more go. -/
def sweepW (n0 : Nat) (keep : List Nat) (s : St) : Option St :=
  match gather n0 (.tp (maskS keep 0 s.ts)) (List.range n0) s.H with
  | some ⟨.tp ts', us, ns⟩ => some ⟨ts', applyUpd (s.H.take n0) us ++ ns, []⟩
  | _ => none
theorem View.sweep {keep : List Nat} {s' : St} (h : sweepW n0 keep s = some s') : View P n0 s s' := by
  intro X w0 φ0 H0 w φ a hn hr
  subst hn
  unfold sweepW at h
  split at h
  · rename_i ts' us ns hg
    injection h with h
    subst h
    have hts : R P w φ (Av X φ s.H) s.H.length (.tp (maskS keep 0 s.ts)) (.tuple a.tmps) := by
      refine .tp (by rw [maskS_len]; have := hr.sim.tmps.1; simpa using this) (fun i d u hd hu => ?_)
      rw [maskS_get] at hd
      cases hx : s.ts[i]? with
      | none => rw [hx] at hd; simp at hd
      | some x =>
        rw [hx] at hd
        simp at hd
        subst hd
        split
        · exact hr.sim.tmps.2 i x u hx (by simpa using hu)
        · exact .junk
    have hlt : (s.H.take H0.length).length = H0.length := by rw [List.length_take]; have := hr.ons.len; omega
    obtain ⟨ψ, h1, h2, h3, h4, h5⟩ := gather_core hr.sim.heap hr.ons.len hlt hts (fun r row hr hnd hrow => absurd (List.mem_range.2 hr) hnd) hg
    refine ⟨ψ, ⟨h2, ?_, hr.sim.defers⟩, ⟨by simp [applyUpd_length, hlt], fun r hr' => (h1 r hr').trans (hr.ons.same r hr'), hr.ons.keep, fun b hb => hr.ons.fresh b (h4 b hb)⟩⟩
    cases h3 with
    | tp hs hr => exact ⟨by simpa using hs, fun i d u hd hu => hr i d u hd (by simpa using hu)⟩
  · cases h

/-- What a function's end makes of a frame. -/
def retW (P : Program) (n0 : Nat) (results : List ResultVar) (Q : D → List Row → Prop) (s : St) : Prop :=
  bind' (resultD P s.H s.ts results) fun ds => bind' (gather n0 (one ds) (List.range n0) s.H) fun e => Q e.res (applyUpd (s.H.take n0) e.upd ++ e.news)
def endQ (P : Program) (n0 : Nat) (results : List ResultVar) (Q : D → List Row → Prop) : Out → St → Prop
  | .exit _, _ => False
  | .normal, s => retW P n0 results Q s
  | .ret, s => retW P n0 results Q s

theorem Con.of_body (hP : Good P) {f : FuncId} {fn : Func} {c : Code} (hf : P.funcs[f]? = some fn) (hb : fn.body = some c) {args : List D} {Q : D → List Row → Prop}
    (h : HC P H.length c ⟨args ++ List.replicate (fn.ntmps - args.length) D.undef, H, []⟩ (endQ P H.length fn.results.toList Q)) : Con P f args H Q := by
  refine ⟨⟨fn, hf, by rw [hb]; rfl⟩, fun w φ X vs hH hargs => calls_of_wp hf hb ?_⟩
  have hlen : vs.size = args.length := by have := hargs.1; simpa using this
  refine h X w φ H w φ _ _ rfl ⟨⟨hH, ?_, rfl⟩, Ons.refl _ _ _ _⟩ ?_
  · rw [Array.toList_append, Array.toList_replicate, hlen]
    refine hargs.append ⟨by simp, fun i d u hd hu => ?_⟩
    rw [List.getElem?_replicate] at hd hu
    split at hd
    · rename_i hi
      rw [if_pos hi] at hu
      injection hd with hd; injection hu with hu
      subst hd; subst hu
      exact R.undef
    · cases hd
  · have fin : ∀ (s : St) (a' : Act) (w' : World) (φ' : Nat → Nat × Nat), retW P H.length fn.results.toList Q s → RunW P X w φ H w' φ' s a' → a'.defers = [] ∧ ∃ v, (results fn a'.tmps).run P w' = .ok v w' ∧ ∃ v' d H', Ending.returned v = .returned v' ∧ Q d H' ∧ LeavesW P w φ X H v' w' d H' := by
      intro s a' w' φ' hq hr
      refine ⟨hr.sim.defers, ?_⟩
      unfold retW bind' at hq
      split at hq
      · rename_i ds hds
        split at hq
        · rename_i e hg
          obtain ⟨us, h1, h2⟩ := results_ok hr.sim.heap hr.sim.tmps _ _ hds
          have hone : ∃ v, (results fn a'.tmps).run P w' = .ok v w' ∧ R P w' φ' (Av X φ' s.H) s.H.length (one ds) v := by
            refine ⟨if h : us.toArray.size = 1 then us.toArray[0] else .tuple us.toArray, ?_, ?_⟩
            · unfold results
              rw [Array.mapM_eq_mapM_toList]
              simp at h1
              simp
              exact congrArg (fun r : Result (List Value) => r.andThen fun a w' => Result.ok (if h : a.length = 1 then a[0] else Value.tuple a.toArray) w') h1
            · match ds, us, h2 with
              | [], [], _ => exact .tp rfl (fun i d u hd => by simp at hd)
              | [d], [u], h2 => exact h2.2 0 d u (by simp) (by simp)
              | d :: d2 :: ds, u :: u2 :: us, h2 => exact .tp (by have := h2.1; simpa using this) (fun i d' u' hd hu => h2.2 i d' u' hd (by simpa using hu))
              | [], _ :: _, h2 => have := h2.1; simp at this
              | _ :: _, [], h2 => have := h2.1; simp at this
              | [_], _ :: _ :: _, h2 => have := h2.1; simp at this
              | _ :: _ :: _, [_], h2 => have := h2.1; simp at this
          obtain ⟨v, h3, h4⟩ := hone
          have hlt : (s.H.take H.length).length = H.length := by rw [List.length_take]; have := hr.ons.len; omega
          obtain ⟨ψ, k1, k2, k3, k4, _⟩ := gather_core hr.sim.heap hr.ons.len hlt h4 (fun r row hr hnd hrow => absurd (List.mem_range.2 hr) hnd) hg
          exact ⟨v, h3, v, e.res, _, rfl, hq, ψ, ⟨by simp [applyUpd_length, hlt], fun r hr' => (k1 r hr').trans (hr.ons.same r hr'), hr.ons.keep, fun b hb => hr.ons.fresh b (k4 b hb)⟩, k2, k3⟩
        · exact hq.elim
      · exact hq.elim
    intro out s' w' φ' a' hq hr'
    cases out with
    | normal => exact fin s' a' w' φ' hq hr'
    | exit i => exact hq.elim
    | ret => exact fin s' a' w' φ' hq hr'
end
end Go.Proofs.Ytjhemkeilagnnaa.Mir
