/- Contracts in use: how a function ends, how it is called, loops whose rows are swept. -/
import Derived.Test.YtjhemkeilagnnaaE
namespace Go.Proofs.Ytjhemkeilagnnaa.Mir
open Go Go.RowKit
set_option linter.unusedVariables false

/-- Results, looked up. -/
inductive SR where
  | t (n : Nat)
  | c1 (a : Nat)
  | cA (n a : Nat)
def compR (P : Program) : List ResultVar → Option (List SR)
  | [] => some []
  | .tmp t :: rs => (compR P rs).map (.t t :: ·)
  | .cell a T :: rs => match isAggB P T, inf P T, compR P rs with
    | some false, _, some l => some (.c1 a :: l)
    | some true, some (n, _, _), some l => some (.cA n a :: l)
    | _, _, _ => none
def resS (H : List Row) (ts : List D) : List SR → Option (List D)
  | [] => some []
  | .t n :: rs => match resS H ts rs with
    | some ds => some (ts.getD n D.undef :: ds)
    | none => none
  | .c1 a :: rs => match load1 H (ts.getD a D.undef), resS H ts rs with
    | some d, some ds => some (d :: ds)
    | _, _ => none
  | .cA n a :: rs => match loadA H n (ts.getD a D.undef), resS H ts rs with
    | some d, some ds => some (d :: ds)
    | _, _ => none

section
variable {P : Program}
theorem resS_ok {H : List Row} {ts : List D} : ∀ {rs : List ResultVar} {l : List SR} {ds : List D}, compR P rs = some l → resS H ts l = some ds → resultD P H ts rs = some ds
  | [], l, ds, h, k => by simp [compR] at h; subst h; exact k
  | .tmp t :: rs, l, ds, h, k => by
    simp only [compR, Option.map_eq_some_iff] at h
    obtain ⟨l', h1, rfl⟩ := h
    simp only [resS] at k
    split at k
    · rename_i ds' h2
      injection k with k
      subst k
      simp only [resultD, resS_ok h1 h2, Option.map_some]
    · cases k
  | .cell a T :: rs, l, ds, h, k => by
    simp only [compR] at h
    split at h
    · rename_i l' hT hl
      injection h with h
      subst h
      simp only [resS] at k
      split at k
      · rename_i d ds' h1 h2
        injection k with k
        subst k
        simp only [resultD, load1_eq hT h1, resS_ok hl h2]
      · cases k
    · rename_i n b z l' hT hi hl
      injection h with h
      subst h
      simp only [resS] at k
      split at k
      · rename_i d ds' h1 h2
        injection k with k
        subst k
        simp only [resultD, loadA_eq hT hi h1, resS_ok hl h2]
      · cases k
    · cases h

/-- The rows that a call had from its caller are not looked at. -/
def deadN : Nat → List Row → List Row
  | 0, H => H
  | _ + 1, [] => []
  | n + 1, _ :: H => .dead :: deadN n H
theorem deadN_len : ∀ (n : Nat) (H : List Row), (deadN n H).length = H.length
  | 0, _ => rfl
  | _ + 1, [] => rfl
  | n + 1, _ :: H => by simp [deadN, deadN_len n H]
theorem deadN_get : ∀ (n : Nat) (H : List Row) (r : Nat), (deadN n H)[r]? = if r < n then (H[r]?).map fun _ => .dead else H[r]?
  | 0, H, r => by simp [deadN]
  | n + 1, [], r => by simp [deadN]
  | n + 1, x :: H, 0 => by simp [deadN]
  | n + 1, x :: H, r + 1 => by simp [deadN, deadN_get n H r]
def lowB (n : Nat) (H : List Row) : Bool := H.all fun row => row.refs.all fun r => Nat.blt r n

/-- How a function may end: by its rows gathered, or by a value that lies still. -/
inductive RetS (n0 : Nat) (rs : List SR) (Q : D → List Row → Prop) (s : St) : Prop
  | gather {ds : List D} {e : Eff} : resS s.H s.ts rs = some ds → gather n0 (one ds) (List.range n0) s.H = some e → Q e.res (applyUpd (s.H.take n0) e.upd ++ e.news) → RetS n0 rs Q s
  | still {ds : List D} {d0 : D} : resS s.H s.ts rs = some ds → lowB n0 (s.H.take n0) = true → Vw (deadN n0 s.H) (one ds) d0 → Q d0 (s.H.take n0) → RetS n0 rs Q s
  | all {ds : List D} : resS s.H s.ts rs = some ds → Q (one ds) s.H → RetS n0 rs Q s
def endS (n0 : Nat) (rs : List SR) (Q : D → List Row → Prop) : Out → St → Prop
  | .exit _, _ => False
  | .normal, s => RetS n0 rs Q s
  | .ret, s => RetS n0 rs Q s
@[congr] theorem endS_congr {n0 : Nat} {rs : List SR} {Q : D → List Row → Prop} {o : Out} {s s' : St} (h : s = s') : endS n0 rs Q o s = endS n0 rs Q o s' := by rw [h]
theorem endS_ret {n0 : Nat} {rs : List SR} {Q : D → List Row → Prop} {s : St} : endS n0 rs Q .ret s = RetS n0 rs Q s := rfl
theorem endS_normal {n0 : Nat} {rs : List SR} {Q : D → List Row → Prop} {s : St} : endS n0 rs Q .normal s = RetS n0 rs Q s := rfl

def Fn (P : Program) (f : FuncId) (n : Nat) (rs : List SR) (c : SCode) : Prop := ∃ fn k, P.funcs[f]? = some fn ∧ fn.body = some k ∧ fn.ntmps = n ∧ compR P fn.results.toList = some rs ∧ compC P k = c

theorem HR.takeN {w : World} {φ : Nat → Nat × Nat} {X : Nat → Prop} {H : List Row} (h : HR P w φ X H) {n : Nat} (hl : lowB n (H.take n) = true) (hn : n ≤ H.length) : HR P w φ X (H.take n) ∧ ∀ b, Av X φ (H.take n) b → Av X φ H b := by
  have hlen : (H.take n).length = n := by simp; omega
  have get : ∀ (r : Nat) (row : Row), (H.take n)[r]? = some row → r < n ∧ H[r]? = some row := by
    intro r row hr
    rw [List.getElem?_take] at hr
    split at hr
    · exact ⟨‹_›, hr⟩
    · cases hr
  have ha : ∀ b, Av X φ (H.take n) b → Av X φ H b := by
    rintro b (hb | ⟨r, row, hr, hv, rfl⟩)
    · exact .inl hb
    · exact .inr ⟨r, row, (get r row hr).2, hv, rfl⟩
  refine ⟨⟨fun r row hr => ?_, fun r s x y hr hs => h.apart r s x y (get r x hr).2 (get s y hs).2, fun r row hr => h.off r row (get r row hr).2, h.old⟩, ha⟩
  obtain ⟨h1, h2⟩ := get r row hr
  rw [hlen]
  refine (h.rows r row h2).lower (S := (· < n)) rfl (fun r hr => ⟨rfl, hr⟩) ha (rowLow_of_refs fun q hq => ?_)
  have h3 := List.all_eq_true.1 hl row (List.mem_of_getElem? hr)
  have h4 := List.all_eq_true.1 h3 q hq
  simpa using h4

theorem end_ok {w w' : World} {φ φ' : Nat → Nat × Nat} {X : Nat → Prop} {H : List Row} {s : St} {a : Act} {fn : Func} {rs : List SR} (hrs : compR P fn.results.toList = some rs) {Q : D → List Row → Prop} (hq : RetS H.length rs Q s) (hr : RunW P X w φ H w' φ' s a) :
    a.defers = [] ∧ ∃ v, (results fn a.tmps).run P w' = .ok v w' ∧ ∃ v' d H', Ending.returned v = .returned v' ∧ Q d H' ∧ LeavesW P w φ X H v' w' d H' := by
  refine ⟨hr.sim.defers, ?_⟩
  have hone : ∀ ds, resS s.H s.ts rs = some ds → ∃ v, (results fn a.tmps).run P w' = .ok v w' ∧ R P w' φ' (Av X φ' s.H) s.H.length (one ds) v := by
    intro ds hds
    obtain ⟨us, h1, h2⟩ := results_ok hr.sim.heap hr.sim.tmps _ _ (resS_ok hrs hds)
    refine ⟨if h : us.toArray.size = 1 then us.toArray[0] else .tuple us.toArray, ?_, ?_⟩
    · unfold results
      rw [Array.mapM_eq_mapM_toList]
      simp at h1
      simp
      exact congrArg (fun r : Result (List Value) => r.andThen fun a w' => Result.ok (if h : a.length = 1 then a[0] else Value.tuple a.toArray) w') h1
    · match ds, us, h2 with
      | [], [], _ => exact .tp rfl (fun i d u hd => by simp at hd)
      | [d], [u], h2 => exact h2.2 0 d u (by simp) (by simp)
      | d :: d2 :: ds, u :: u2 :: us, h2 => exact .tp (by have := h2.1; simpa using this) (fun i d' u' hd hu => h2.2 i d' u' hd (by simpa using hu))
      | [], _ :: _, h2 => have := h2.1; simp at this
      | _ :: _, [], h2 => have := h2.1; simp at this
      | [_], _ :: _ :: _, h2 => have := h2.1; simp at this
      | _ :: _ :: _, [_], h2 => have := h2.1; simp at this
  have hlt : (s.H.take H.length).length = H.length := by rw [List.length_take]; have := hr.ons.len; omega
  cases hq with
  | gather hds hg hq =>
    obtain ⟨v, h3, h4⟩ := hone _ hds
    obtain ⟨ψ, k1, k2, k3, k4, _⟩ := gather_core hr.sim.heap hr.ons.len hlt h4 (fun r row hr hnd hrow => absurd (List.mem_range.2 hr) hnd) hg
    exact ⟨v, h3, v, _, _, rfl, hq, ψ, ⟨by simp [applyUpd_length, hlt], fun r hr' => (k1 r hr').trans (hr.ons.same r hr'), hr.ons.keep, fun b hb => hr.ons.fresh b (k4 b hb)⟩, k2, k3⟩
  | all hds hq =>
    obtain ⟨v, h3, h4⟩ := hone _ hds
    exact ⟨v, h3, v, _, _, rfl, hq, φ', hr.ons, hr.sim.heap, h4⟩
  | still hds hlow hv hq =>
    rename_i ds d0
    obtain ⟨v, h3, h4⟩ := hone _ hds
    obtain ⟨t1, t2⟩ := hr.sim.heap.takeN hlow hr.ons.len
    refine ⟨v, h3, v, d0, _, rfl, hq, φ', ⟨by rw [hlt]; exact Nat.le_refl _, hr.ons.same, hr.ons.keep, fun b hb => hr.ons.fresh b ?_⟩, t1, ?_⟩
    · obtain ⟨r, row, hx, hl, rfl⟩ := hb
      rw [List.getElem?_take] at hx
      split at hx
      · exact ⟨r, row, hx, hl, rfl⟩
      · cases hx
    · -- the old rows are others' now
      have hM : HR P w' φ' (Rest X φ' s.H (deadN H.length s.H)) (deadN H.length s.H) := by
        refine hr.sim.heap.part (S := fun r => r < s.H.length) (fun r h => by rw [deadN_len]; exact h) (fun x row hx => ?_)
        rw [deadN_get] at hx
        split at hx
        · rw [Option.map_eq_some_iff] at hx
          obtain ⟨_, _, rfl⟩ := hx
          exact .inl rfl
        · exact .inr ⟨hx, (hr.sim.heap.rows x row hx).isLow⟩
      have hA : ∀ b, Av X φ' (s.H.take H.length) b → Rest X φ' s.H (deadN H.length s.H) b := by
        rintro b (hb | ⟨r, row, hx, hl, rfl⟩)
        · exact .inl hb
        · rw [List.getElem?_take] at hx
          split at hx
          · rename_i hlt'
            refine .inr ⟨r, row, hx, hl, ?_, rfl⟩
            rw [deadN_get, if_pos hlt', hx]
            intro e
            simp at e
            subst e
            simp [Row.live] at hl
          · cases hx
      have h5 : R P w' φ' (Av (Rest X φ' s.H (deadN H.length s.H)) φ' (deadN H.length s.H)) (deadN H.length s.H).length (one ds) v := by
        rw [deadN_len]
        refine h4.lower (S := fun r => r < s.H.length) (fun r h => ⟨rfl, h⟩) (fun b hb => ?_) h4.isLow
        rcases hb with (hb | ⟨x, row, hx, hl, _, rfl⟩) | ⟨x, row, hx, hl, rfl⟩
        · exact .inl hb
        · exact .inr ⟨x, row, hx, hl, rfl⟩
        · rw [deadN_get] at hx
          split at hx
          · rw [Option.map_eq_some_iff] at hx
            obtain ⟨_, _, rfl⟩ := hx
            simp [Row.live] at hl
          · exact .inr ⟨x, row, hx, hl, rfl⟩
      have h6 := hv.ok (φ' := φ') hM hA v h5
      exact h6.upper (Nat.zero_le _)

theorem Con.fn (hP : Good P) {f : FuncId} {n : Nat} {rs : List SR} {c : SCode} (hf : Fn P f n rs c) {args : List D} {H : List Row} {Q : D → List Row → Prop}
    (h : HS P H.length c ⟨args ++ List.replicate (n - args.length) D.undef, H, []⟩ (endS H.length rs Q)) : Con P f args H Q := by
  obtain ⟨fn, k, h1, h2, h3, h4, h5⟩ := hf
  subst h3
  refine ⟨⟨fn, h1, by rw [h2]; rfl⟩, fun w φ X vs hH hargs => calls_of_wp h1 h2 ?_⟩
  have hlen : vs.size = args.length := by have := hargs.1; simpa using this
  refine h k h5 X w φ H w φ _ _ rfl ⟨⟨hH, ?_, rfl⟩, Ons.refl _ _ _ _⟩ ?_
  · rw [Array.toList_append, Array.toList_replicate, hlen]
    refine hargs.append ⟨by simp, fun i d u hd hu => ?_⟩
    rw [List.getElem?_replicate] at hd hu
    split at hd
    · rename_i hi
      rw [if_pos hi] at hu
      injection hd with hd; injection hu with hu
      subst hd; subst hu
      exact R.undef
    · cases hd
  · intro out s' w' φ' a' hq hr'
    cases out with
    | normal => exact end_ok h4 hq hr'
    | exit i => exact hq.elim
    | ret => exact end_ok h4 hq hr'

/-- A call, by a contract over the rows ι. -/
def embOk (ι : List Nat) (N : Nat) (H0 : List Row) (args0 : List D) : Bool :=
  Nat.beq ι.length H0.length && nodupB ι && (args0.all fun d => d.refs.all fun r => Nat.blt r H0.length) && (H0.all fun row => row.refs.all fun r => Nat.blt r H0.length) && ι.all fun r => Nat.blt r N
theorem nodupB_ok : ∀ {l : List Nat}, nodupB l = true → l.Nodup
  | [], _ => List.nodup_nil
  | x :: xs, h => by
    simp only [nodupB, Bool.and_eq_true, Bool.not_eq_true'] at h
    exact List.nodup_cons.2 ⟨by simpa using h.1, nodupB_ok h.2⟩
theorem callW_emb {g : FuncId} {caps args args0 : List D} {H H0 : List Row} {Q K : D → List Row → Prop} (h : Con P g args0 H0 Q) (ι : List Nat) (hb : embOk ι H.length H0 args0 = true) (ha : args ++ caps = args0.map (renE (ren ι H.length)))
    (hr : (ι.map fun r => H.getD r .dead) = H0.map (renR (ren ι H.length)))
    (hk : ∀ d0 H0', Q d0 H0' → K (renE (ren ι H.length) d0) (putRows (ren ι H.length) ι H0' H ++ (H0'.drop H0.length).map (renR (ren ι H.length)))) : callW P (.fn g caps) args H K := by
  unfold embOk at hb
  simp only [Bool.and_eq_true] at hb
  obtain ⟨⟨⟨⟨b1, b2⟩, b3⟩, b4⟩, b5⟩ := hb
  have e1 : ι.length = H0.length := Nat.eq_of_beq_eq_true b1
  refine ⟨g, caps, rfl, (h.embed e1 (nodupB_ok b2) ha (fun d hd => low_of_refs fun r hr => ?_) (fun i row hi => ⟨rowLow_of_refs fun r hr => ?_, ?_⟩)).mono ?_⟩
  · have h1 := List.all_eq_true.1 b3 d hd
    have h2 := List.all_eq_true.1 h1 r hr
    simpa using h2
  · have h1 := List.all_eq_true.1 b4 row (List.mem_of_getElem? hi)
    have h2 := List.all_eq_true.1 h1 r hr
    simpa using h2
  · have hlt : i < ι.length := by rw [e1]; exact (List.getElem?_eq_some_iff.1 hi).1
    have h1 : (ι.map fun r => H.getD r .dead)[i]? = some (H.getD ι[i] .dead) := by simp [hlt]
    rw [hr, List.getElem?_map, hi] at h1
    have h2 : ι[i] < H.length := by
      have := List.all_eq_true.1 b5 ι[i] (List.getElem_mem hlt)
      simpa using this
    refine ⟨ι[i], by simp [hlt], ?_⟩
    have h3 : H.getD ι[i] .dead = H[ι[i]] := by simp [List.getD, h2]
    rw [h3] at h1
    rw [List.getElem?_eq_getElem h2]
    exact h1.symm
  · rintro d H' ⟨d0, H0', hq, _, rfl, rfl⟩
    exact hk d0 H0' hq
theorem callW_peek {g : FuncId} {caps args args0 : List D} {H : List Row} {Q K : D → List Row → Prop} (h : Con P g args0 [] Q) (hv : Vws H (args ++ caps) args0) (hp : ∀ d H', Q d H' → PlainD d ∧ ∀ row ∈ H', PlainR row)
    (hk : ∀ d0 H0', Q d0 H0' → K (renE (ren [] H.length) d0) (H ++ H0'.map (renR (ren [] H.length)))) : callW P (.fn g caps) args H K := by
  refine ⟨g, caps, rfl, (h.peek hv hp).mono ?_⟩
  rintro d H' ⟨d0, H0', hq, rfl, rfl⟩
  exact hk d0 H0' hq

variable {n0 : Nat} {s : St} {Q : Out → St → Prop}
theorem HS.opsK (hP : Good P) {l : List SI} (h : ∀ K : St → Prop, (∀ s', Q .normal s' → K s') → wpS P l s K) : HS P n0 (.ops l) s Q := HS.ops hP (h _ fun _ h => h)
theorem HS.cond1 {c : SV} {x y : SCode} (hc : c.ev s.ts = .f (.v (.bool true))) (h : HS P n0 x s Q) : HS P n0 (.cond c x y) s Q := HS.cond (by rw [hc]; exact ⟨fun _ => h, fun e => by cases e⟩)
theorem HS.cond0 {c : SV} {x y : SCode} (hc : c.ev s.ts = .f (.v (.bool false))) (h : HS P n0 y s Q) : HS P n0 (.cond c x y) s Q := HS.cond (by rw [hc]; exact ⟨fun e => (by cases e), fun _ => h⟩)
theorem HS.condB {c : SV} {x y : SCode} {b : Bool} (hc : c.ev s.ts = .f (.v (.bool b))) (h1 : b = true → HS P n0 x s Q) (h0 : b = false → HS P n0 y s Q) : HS P n0 (.cond c x y) s Q := HS.cond (by rw [hc]; exact ⟨h1, h0⟩)
theorem thenQ_n {next : St → Prop} (h : next s) : thenQ next Q .normal s := h
theorem thenQ_x {next : St → Prop} {i : Nat} (h : Q (.exit i) s) : thenQ next Q (.exit i) s := h
theorem thenQ_r {next : St → Prop} (h : Q .ret s) : thenQ next Q .ret s := h
theorem blockQ_n {id : Nat} (h : Q .normal s) : blockQ id Q .normal s := h
theorem blockQ_hit {id : Nat} (h : Q .normal s) : blockQ id Q (.exit id) s := by rw [blockQ_exit, if_pos rfl]; exact h
theorem blockQ_miss {id i : Nat} (hne : Nat.beq i id = false) (h : Q (.exit i) s) : blockQ id Q (.exit i) s := by rw [blockQ_exit, if_neg (Nat.ne_of_beq_eq_false hne)]; exact h
theorem blockQ_r {id : Nat} (h : Q .ret s) : blockQ id Q .ret s := h
theorem endS_r {rs : List SR} {Q : D → List Row → Prop} (h : RetS n0 rs Q s) : endS n0 rs Q .ret s := h
theorem endS_n {rs : List SR} {Q : D → List Row → Prop} (h : RetS n0 rs Q s) : endS n0 rs Q .normal s := h
theorem Bsel.mk' {b : Bool} {p q : Prop} (h1 : b = true → p) (h2 : b = false → q) : Bsel b p q := ⟨h1, h2⟩
/-- A round's end: the state, swept, is one of the loop's, nearer to the end. -/
def Next (n0 : Nat) (keep : List Nat) {α : Type} (st : α → St) (p : α → Prop) (m : α → Nat) (x : α) (s : St) : Prop := ∃ y, sweepW n0 keep s = some (st y) ∧ p y ∧ m y < m x
@[congr] theorem Next_congr {n0 : Nat} {keep : List Nat} {α : Type} {st : α → St} {p : α → Prop} {m : α → Nat} {x : α} {s s' : St} (h : s = s') : Next n0 keep st p m x s = Next n0 keep st p m x s' := by rw [h]
theorem Next.mk {n0 : Nat} {keep : List Nat} {α : Type} {st : α → St} {p : α → Prop} {m : α → Nat} {x : α} {s : St} (y : α) (h : sweepW n0 keep s = some (st y)) (hp : p y) (hm : m y < m x) : Next n0 keep st p m x s := ⟨y, h, hp, hm⟩
/-- A loop whose dead slots and rows are swept at its head. -/
theorem HS.loopG {c : SCode} {α : Type} (keep : List Nat) (st : α → St) (p : α → Prop) (m : α → Nat) (x0 : α) (hs : sweepW n0 keep s = some (st x0)) (h0 : p x0)
    (hbody : ∀ x, p x → HS P n0 c (st x) (thenQ (Next n0 keep st p m x) Q)) : HS P n0 (.loop c) s Q := by
  refine HS.view (View.sweep hs) ?_
  intro k hk
  cases k with
  | loop a =>
    simp only [compC] at hk
    injection hk with h1
    intro X w0 φ0 H0 w φ a' K hn hr hK
    refine wp_loop_rounds (m x0 + 1) ?_
    have key : ∀ (k : Nat) (x : α) (w : World) (φ : Nat → Nat × Nat) (a' : Act), m x ≤ k → p x → RunW P X w0 φ0 H0 w φ (st x) a' → Code.rounds P a K (k + 1) a' w := by
      intro k
      induction k with
      | zero =>
        intro x w φ a' hm hp hr
        rw [rounds_succ]
        refine hbody x hp a h1 X w0 φ0 H0 w φ a' _ hn hr ?_
        intro out s' w' φ' a' hq hr'
        cases out with
        | normal => obtain ⟨y, _, _, hlt⟩ := hq; omega
        | exit i => exact hK _ s' w' φ' a' hq hr'
        | ret => exact hK _ s' w' φ' a' hq hr'
      | succ k ih =>
        intro x w φ a' hm hp hr
        rw [rounds_succ]
        refine hbody x hp a h1 X w0 φ0 H0 w φ a' _ hn hr ?_
        intro out s' w' φ' a'' hq hr'
        cases out with
        | normal =>
          obtain ⟨y, hsw, hp', hlt⟩ := hq
          obtain ⟨φ2, hr2⟩ := View.sweep hsw X w0 φ0 H0 w' φ' a'' hn hr'
          exact ih y w' φ2 a'' (by omega) hp' hr2
        | exit i => exact hK _ s' w' φ' a'' hq hr'
        | ret => exact hK _ s' w' φ' a'' hq hr'
    exact key (m x0) x0 w φ a' (Nat.le_refl _) h0 hr
  | region id ops draw => cases draw <;> simp only [compC] at hk <;> first | (split at hk <;> first | cases hk | (split at hk <;> cases hk)) | cases hk
  | cond c a b => simp only [compC] at hk; split at hk <;> cases hk
  | _ => simp [compC] at hk
end

theorem wrap_in {a : Int} (h1 : -9223372036854775808 ≤ a) (h2 : a ≤ 9223372036854775807) : IntKind.i64.wrap a = a := by
  have := IntWalk.i64_in a ⟨h1, h2⟩
  exact this
def gt {α : Type} [Inhabited α] (l : List α) (k : Nat) : α := l[k]!
theorem getElem?_some_of {α : Type} [Inhabited α] {l : List α} {i : Nat} (h : i < l.length) : l[i]? = some (gt l i) := by rw [gt, List.getElem?_eq_getElem h, getElem!_pos l i h]
theorem gt_eq {α : Type} [Inhabited α] {l : List α} {i : Nat} (h : i < l.length) : gt l i = l[i] := by rw [gt, getElem!_pos l i h]
theorem drop_gt {α : Type} [Inhabited α] {l : List α} {k : Nat} (h : k < l.length) : l.drop k = gt l k :: l.drop (k + 1) := by
  rw [List.drop_eq_getElem_cons h, gt_eq h]

/-- A frame, by the slots that are known. -/
def look (i : Nat) : List (Nat × D) → D
  | [] => .junk
  | (j, d) :: e => if j = i then d else look i e
def frm (n : Nat) (e : List (Nat × D)) : List D := (List.range n).map fun i => look i e
theorem frm_len (n : Nat) (e : List (Nat × D)) : (frm n e).length = n := by simp [frm]
theorem frm_get {n : Nat} {e : List (Nat × D)} {i : Nat} (h : i < n) : (frm n e)[i]? = some (look i e) := by
  unfold frm
  rw [List.getElem?_map, List.getElem?_range h]; rfl
theorem frm_getD {n : Nat} {e : List (Nat × D)} {i : Nat} {u : D} (h : i < n) : (frm n e).getD i u = look i e := by
  rw [List.getD_eq_getElem?_getD, frm_get h]; rfl
theorem frm_set {n : Nat} {e : List (Nat × D)} {i : Nat} {d : D} : (frm n e).set i d = frm n ((i, d) :: e) := by
  apply List.ext_getElem?
  intro j
  by_cases hj : j < n
  · rw [List.getElem?_set, frm_get hj, frm_get hj, frm_len]
    simp only [look]
    split
    · rename_i e; subst e; rw [if_pos hj]
    · rfl
  · rw [List.getElem?_eq_none (by simp [frm_len]; omega), List.getElem?_eq_none (by simp [frm_len]; omega)]
theorem look_cons {i j : Nat} {d : D} {e : List (Nat × D)} : look i ((j, d) :: e) = if j = i then d else look i e := id rfl
theorem look_nil {i : Nat} : look i [] = .junk := id rfl

section
variable {P : Program} {n0 : Nat} {s : St} {Q : Out → St → Prop}
theorem View.frm {n : Nat} {e : List (Nat × D)} (hl : s.ts.length = n) (h : ∀ i, i < n → look i e = .junk ∨ s.ts[i]? = some (look i e)) : View P n0 s ⟨frm n e, s.H, []⟩ := by
  intro X w0 φ0 H0 w φ a _ hr
  refine ⟨φ, ⟨hr.sim.heap, ⟨?_, fun i d u hd hu => ?_⟩, hr.sim.defers⟩, hr.ons⟩
  · rw [frm_len, hr.sim.tmps.1, hl]
  · dsimp only at hd
    have hi : i < n := by have := (List.getElem?_eq_some_iff.1 hd).1; rwa [frm_len] at this
    rw [frm_get hi] at hd
    injection hd with hd
    subst hd
    rcases h i hi with h1 | h1
    · rw [h1]; exact .junk
    · exact hr.sim.tmps.2 i _ u h1 hu
/-- Only some slots are kept. -/
def prune (live : List Nat) (e : List (Nat × D)) : List (Nat × D) := live.map fun i => (i, look i e)
theorem look_prune {live : List Nat} {e : List (Nat × D)} {i : Nat} : look i (prune live e) = .junk ∨ look i (prune live e) = look i e := by
  induction live with
  | nil => exact .inl rfl
  | cons j l ih =>
    simp only [prune, List.map_cons, look]
    split
    · rename_i e; subst e; exact .inr rfl
    · exact ih
theorem HS.prune {c : SCode} {n : Nat} {e : List (Nat × D)} {H : List Row} {dr : List Nat} (live : List Nat) (h : HS P n0 c ⟨Mir.frm n (Mir.prune live e), H, []⟩ Q) : HS P n0 c ⟨Mir.frm n e, H, dr⟩ Q := by
  refine HS.view (View.frm (s := ⟨Mir.frm n e, H, dr⟩) (frm_len _ _) (fun i hi => ?_)) h
  rcases look_prune (live := live) (e := e) (i := i) with h1 | h1
  · exact .inl h1
  · rw [h1]; exact .inr (frm_get hi)
def argsE : Nat → List D → List (Nat × D)
  | _, [] => []
  | i, d :: ds => (i, d) :: argsE (i + 1) ds
theorem look_argsE : ∀ (ds : List D) (k i : Nat), look (k + i) (argsE k ds) = .junk ∨ ds[i]? = some (look (k + i) (argsE k ds))
  | [], _, _ => .inl rfl
  | d :: ds, k, 0 => by simp [argsE, look]
  | d :: ds, k, i + 1 => by
    simp only [argsE, look]
    rw [if_neg (by omega), show k + (i + 1) = k + 1 + i by omega]
    simpa using look_argsE ds (k + 1) i
/-- A contract, by the walk through a function's text. -/
theorem Con.walk (hP : Good P) {f : FuncId} {n : Nat} {rs : List SR} {c : SCode} (hf : Fn P f n rs c) {args : List D} {H : List Row} {Q : D → List Row → Prop} (hn : args.length ≤ n)
    (h : HS P H.length c ⟨frm n (argsE 0 args), H, []⟩ (endS H.length rs Q)) : Con P f args H Q := by
  refine Con.fn hP hf (HS.view (View.frm ?_ (fun i hi => ?_)) h)
  · simp; omega
  · dsimp only
    have := look_argsE args 0 i
    rw [Nat.zero_add] at this
    rcases this with h1 | h1
    · exact .inl h1
    · have hlt := (List.getElem?_eq_some_iff.1 h1).1
      rw [List.getElem?_append_left hlt]
      exact .inr h1
end

theorem callW_self {P : Program} {g : FuncId} {caps args : List D} {H : List Row} {Q K : D → List Row → Prop} (h : Con P g (args ++ caps) H Q) (hk : ∀ d H', Q d H' → K d H') : callW P (.fn g caps) args H K := ⟨g, caps, rfl, h.mono hk⟩
theorem look_mem {i : Nat} : ∀ {e : List (Nat × D)}, look i e = .junk ∨ (i, look i e) ∈ e
  | [] => .inl rfl
  | (j, d) :: e => by
    simp only [look]
    split
    · rename_i h; subst h; exact .inr List.mem_cons_self
    · rcases look_mem (i := i) (e := e) with h | h
      · exact .inl h
      · exact .inr (List.mem_cons_of_mem _ h)
/-- A round's end where the rows are told: the slots that the loop keeps, and the rows, are as told. -/
def NextP (n : Nat) {α : Type} (st : α → List (Nat × D)) (hs : α → List Row) (p : α → Prop) (m : α → Nat) (x : α) (s : St) : Prop := ∃ y, s.H = hs y ∧ (∃ e, s.ts = frm n e ∧ (st y).map (fun q => look q.1 e) = (st y).map (·.2)) ∧ p y ∧ m y < m x
@[congr] theorem NextP_congr {n : Nat} {α : Type} {st : α → List (Nat × D)} {hs : α → List Row} {p : α → Prop} {m : α → Nat} {x : α} {s s' : St} (h : s = s') : NextP n st hs p m x s = NextP n st hs p m x s' := by rw [h]
theorem NextP.mk {α : Type} {st : α → List (Nat × D)} {hs : α → List Row} {p : α → Prop} {m : α → Nat} {x : α} {n : Nat} {e : List (Nat × D)} {H : List Row} {dr : List Nat} (y : α) (hH : H = hs y) (he : (st y).map (fun q => look q.1 e) = (st y).map (·.2)) (hp : p y) (hm : m y < m x) : NextP n st hs p m x ⟨frm n e, H, dr⟩ := ⟨y, hH, ⟨e, rfl, he⟩, hp, hm⟩
section
variable {P : Program} {n0 : Nat} {s : St} {Q : Out → St → Prop}
theorem View.told {n : Nat} {e e' : List (Nat × D)} {H : List Row} {dr : List Nat} (he : e'.map (fun q => look q.1 e) = e'.map (·.2)) : View P n0 ⟨Mir.frm n e, H, dr⟩ ⟨Mir.frm n e', H, []⟩ := by
  refine View.frm (s := ⟨Mir.frm n e, H, dr⟩) (frm_len _ _) (fun i hi => ?_)
  rcases look_mem (i := i) (e := e') with h | h
  · exact .inl h
  · refine .inr ?_
    dsimp only
    rw [frm_get hi]
    have : ∀ q ∈ e', look q.1 e = q.2 := by
      intro q hq
      obtain ⟨k, hk, rfl⟩ := List.getElem_of_mem hq
      have := congrArg (fun l => l[k]?) he
      simpa [hk] using this
    exact congrArg some (this _ h)
/-- A loop that keeps its rows as they are told. -/
theorem HS.loopP {c : SCode} {α : Type} {n : Nat} {e : List (Nat × D)} {H : List Row} {dr : List Nat} (st : α → List (Nat × D)) (hs : α → List Row) (p : α → Prop) (m : α → Nat) (x0 : α) (hH : H = hs x0) (he : (st x0).map (fun q => look q.1 e) = (st x0).map (·.2)) (h0 : p x0)
    (hbody : ∀ x, p x → HS P n0 c ⟨Mir.frm n (st x), hs x, []⟩ (thenQ (NextP n st hs p m x) Q)) : HS P n0 (.loop c) ⟨Mir.frm n e, H, dr⟩ Q := by
  subst hH
  refine HS.view (View.told he) ?_
  intro k hk
  cases k with
  | loop a =>
    simp only [compC] at hk
    injection hk with h1
    intro X w0 φ0 H0 w φ a' K hn0 hr hK
    refine wp_loop_rounds (m x0 + 1) ?_
    have key : ∀ (k : Nat) (x : α) (w : World) (φ : Nat → Nat × Nat) (a' : Act), m x ≤ k → p x → RunW P X w0 φ0 H0 w φ ⟨Mir.frm n (st x), hs x, []⟩ a' → Code.rounds P a K (k + 1) a' w := by
      have nx : ∀ (x y : α) (s' : St) (w' : World) (φ' : Nat → Nat × Nat) (a'' : Act), RunW P X w0 φ0 H0 w' φ' s' a'' → s'.H = hs y → (∃ e, s'.ts = Mir.frm n e ∧ (st y).map (fun q => look q.1 e) = (st y).map (·.2)) → ∃ φ2, RunW P X w0 φ0 H0 w' φ2 ⟨Mir.frm n (st y), hs y, []⟩ a'' := by
        rintro x y ⟨ts, H, dr⟩ w' φ' a'' hr' hy ⟨e, he1, he2⟩
        dsimp only at hy he1
        subst hy; subst he1
        exact View.told (dr := dr) he2 X w0 φ0 H0 w' φ' a'' hn0 hr'
      intro k
      induction k with
      | zero =>
        intro x w φ a' hm hp hr
        rw [rounds_succ]
        refine hbody x hp a h1 X w0 φ0 H0 w φ a' _ hn0 hr ?_
        intro out s' w' φ' a'' hq hr'
        cases out with
        | normal => obtain ⟨y, _, _, _, hlt⟩ := hq; omega
        | exit i => exact hK _ s' w' φ' a'' hq hr'
        | ret => exact hK _ s' w' φ' a'' hq hr'
      | succ k ih =>
        intro x w φ a' hm hp hr
        rw [rounds_succ]
        refine hbody x hp a h1 X w0 φ0 H0 w φ a' _ hn0 hr ?_
        intro out s' w' φ' a'' hq hr'
        cases out with
        | normal =>
          obtain ⟨y, hy, he, hp', hlt⟩ := hq
          obtain ⟨φ2, hr2⟩ := nx x y s' w' φ' a'' hr' hy he
          exact ih y w' φ2 a'' (by omega) hp' hr2
        | exit i => exact hK _ s' w' φ' a'' hq hr'
        | ret => exact hK _ s' w' φ' a'' hq hr'
    exact key (m x0) x0 w φ a' (Nat.le_refl _) h0 hr
  | region id ops draw => cases draw <;> simp only [compC] at hk <;> first | (split at hk <;> first | cases hk | (split at hk <;> cases hk)) | cases hk
  | cond c a b => simp only [compC] at hk; split at hk <;> cases hk
  | _ => simp [compC] at hk
end
section
variable {P : Program} {n0 : Nat} {Q : D → List Row → Prop}
theorem end1 {n t : Nat} {e : List (Nat × D)} {H : List Row} {dr : List Nat} {d d0 : D} (ht : Nat.blt t n = true) (h : look t e = d) (hl : lowB n0 (H.take n0) = true) (hv : Vw (deadN n0 H) d d0) (q : Q d0 (H.take n0)) : RetS n0 [.t t] Q ⟨frm n e, H, dr⟩ := by
  refine .still (ds := [d]) ?_ hl hv q
  simp only [resS]
  rw [frm_getD (by simpa using ht), h]
/-- Ends with all its rows. -/
theorem endA {n t : Nat} {e : List (Nat × D)} {H : List Row} {dr : List Nat} {d : D} (ht : Nat.blt t n = true) (h : look t e = d) (q : Q d H) : RetS n0 [.t t] Q ⟨frm n e, H, dr⟩ := by
  refine .all (ds := [d]) ?_ q
  simp only [resS]
  rw [frm_getD (by simpa using ht), h]
theorem endA2 {n t u : Nat} {e : List (Nat × D)} {H : List Row} {dr : List Nat} {d f : D} (ht : Nat.blt t n = true) (hu : Nat.blt u n = true) (h : look t e = d) (k : look u e = f) (q : Q (.tp [d, f]) H) : RetS n0 [.t t, .t u] Q ⟨frm n e, H, dr⟩ := by
  refine .all (ds := [d, f]) ?_ q
  simp only [resS]
  rw [frm_getD (by simpa using ht), frm_getD (by simpa using hu), h, k]
theorem end2 {n t u : Nat} {e : List (Nat × D)} {H : List Row} {dr : List Nat} {d f d0 : D} (ht : Nat.blt t n = true) (hu : Nat.blt u n = true) (h : look t e = d) (k : look u e = f) (hl : lowB n0 (H.take n0) = true) (hv : Vw (deadN n0 H) (.tp [d, f]) d0) (q : Q d0 (H.take n0)) : RetS n0 [.t t, .t u] Q ⟨frm n e, H, dr⟩ := by
  refine .still (ds := [d, f]) ?_ hl hv q
  simp only [resS]
  rw [frm_getD (by simpa using ht), frm_getD (by simpa using hu), h, k]
theorem endG2 {n t u : Nat} {e : List (Nat × D)} {H : List Row} {dr : List Nat} {d f : D} {ef : Eff} (ht : Nat.blt t n = true) (hu : Nat.blt u n = true) (h : look t e = d) (k : look u e = f) (hg : gather n0 (.tp [d, f]) (List.range n0) H = some ef) (q : Q ef.res (applyUpd (H.take n0) ef.upd ++ ef.news)) : RetS n0 [.t t, .t u] Q ⟨frm n e, H, dr⟩ := by
  refine .gather (ds := [d, f]) ?_ hg q
  simp only [resS]
  rw [frm_getD (by simpa using ht), frm_getD (by simpa using hu), h, k]
theorem end0 {e : List (Nat × D)} {n : Nat} {H : List Row} {dr : List Nat} (q : Q (.tp []) H) : RetS n0 [] Q ⟨frm n e, H, dr⟩ := .all (ds := []) rfl q
/-- Ends in rows of its own: a value, and the rows that are left. -/
theorem endG {n t : Nat} {e : List (Nat × D)} {H : List Row} {dr : List Nat} {d : D} {ef : Eff} (ht : Nat.blt t n = true) (h : look t e = d) (hg : gather n0 d (List.range n0) H = some ef) (q : Q ef.res (applyUpd (H.take n0) ef.upd ++ ef.news)) : RetS n0 [.t t] Q ⟨frm n e, H, dr⟩ := by
  refine .gather (ds := [d]) ?_ hg q
  simp only [resS]
  rw [frm_getD (by simpa using ht), h]
end
end Go.Proofs.Ytjhemkeilagnnaa.Mir
