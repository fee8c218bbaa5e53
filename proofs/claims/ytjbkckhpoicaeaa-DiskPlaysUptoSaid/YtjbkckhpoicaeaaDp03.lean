/- Texts laid into one file: MirSeq, MirCongr, MirLog, MirMerge, MirDraw, MirCode, MirUse, MirFast. -/
import Derived.Test.YtjbkckhpoicaeaaDp02
import Derived.LoopN
import Derived.Scope
import Derived.Test.YtjbkckhpoicaeaaRows
import Derived.KernelRfl

set_option linter.unusedVariables false
set_option linter.unusedSimpArgs false
/- The machine's runs against the model's: regions in one order. -/
namespace Go.Proofs.Ytjbkckhpoicaeaa.Mir
open Go Go.RowKit

/-- What a frame and a heap are. -/
structure Sim (P : Program) (X : Nat → Prop) (w : World) (φ : Nat → Nat × Nat) (s : St) (a : Act) : Prop where
  heap : HR P w φ X s.H
  tmps : Rs P w φ (Av X φ s.H) s.H.length s.ts a.tmps.toList
  defers : a.defers = []

/-- How a world may have gone on. -/
structure Ons (X : Nat → Prop) (w : World) (φ : Nat → Nat × Nat) (H : List Row) (w' : World) (φ' : Nat → Nat × Nat) (H' : List Row) : Prop where
  len : H.length ≤ H'.length
  same : ∀ r, r < H.length → φ' r = φ r
  keep : Keep (Live φ H) w w'
  fresh : ∀ b, Live φ' H' b → Live φ H b ∨ w.heap.size ≤ b

theorem Ons.refl (X : Nat → Prop) (w : World) (φ : Nat → Nat × Nat) (H : List Row) : Ons X w φ H w φ H := ⟨Nat.le_refl _, fun _ _ => rfl, Keep.refl _ _, fun _ h => .inl h⟩
theorem Ons.trans {X : Nat → Prop} {w w1 w2 : World} {φ φ1 φ2 : Nat → Nat × Nat} {H H1 H2 : List Row} (h : Ons X w φ H w1 φ1 H1) (k : Ons X w1 φ1 H1 w2 φ2 H2) : Ons X w φ H w2 φ2 H2 := by
  refine ⟨Nat.le_trans h.len k.len, fun r hr => (k.same r (Nat.lt_of_lt_of_le hr h.len)).trans (h.same r hr), h.keep.trans k.keep (fun i hi hl => ?_), fun b hb => ?_⟩
  · rcases h.fresh i hl with h1 | h1
    · exact h1
    · omega
  · rcases k.fresh b hb with h1 | h1
    · exact h.fresh b h1
    · exact .inr (Nat.le_trans h.keep.size h1)
theorem Ons.av {X : Nat → Prop} {w w' : World} {φ φ' : Nat → Nat × Nat} {H H' : List Row} (h : Ons X w φ H w' φ' H') : ∀ b, b < w.heap.size → Av X φ' H' b → Av X φ H b := by
  rintro b hb (hx | hx)
  · exact .inl hx
  · rcases h.fresh b hx with h1 | h1
    · exact .inr h1
    · omega
theorem Ons.rs {P : Program} {X : Nat → Prop} {w w' : World} {φ φ' : Nat → Nat × Nat} {H H' : List Row} (h : Ons X w φ H w' φ' H') {ds : List D} {us : List Value} (hd : Rs P w φ (Av X φ H) H.length ds us) : Rs P w' φ' (Av X φ' H') H'.length ds us :=
  hd.keep h.keep (fun b hb => .inr hb) h.av h.same h.len

theorem Leaves.ext {P : Program} {w : World} {φ : Nat → Nat × Nat} {X : Nat → Prop} {H : List Row} {e : Eff} {v : Value} {w' : World} (h : Leaves P w φ X H e v w') :
    ∃ φ', Ons X w φ H w' φ' (e.heap H) ∧ HR P w' φ' X (e.heap H) ∧ R P w' φ' (Av X φ' (e.heap H)) (e.heap H).length e.res v := by
  obtain ⟨φ', h1, h2, h3, h4, h5⟩ := h
  exact ⟨φ', ⟨by rw [heap_length]; omega, h1, h4, h5⟩, h2, h3⟩

theorem Rs.set {P : Program} {w : World} {φ : Nat → Nat × Nat} {A : Nat → Prop} {N : Nat} {ds : List D} {us : List Value} (h : Rs P w φ A N ds us) {d : D} {u : Value} (hd : R P w φ A N d u) (t : Nat) : Rs P w φ A N (ds.set t d) (us.set t u) := by
  refine ⟨by simp [h.1], fun i x y hx hy => ?_⟩
  rw [List.getElem?_set] at hx hy
  by_cases e : t = i
  · rw [if_pos e] at hx hy
    split at hx
    · rw [if_pos (by have := h.1; omega)] at hy
      injection hx with hx; injection hy with hy
      subst hx; subst hy
      exact hd
    · cases hx
  · rw [if_neg e] at hx hy
    exact h.2 i x y hx hy

theorem Rs.put {P : Program} {w : World} {φ : Nat → Nat × Nat} {A : Nat → Prop} {N : Nat} {ds : List D} {a : Act} (h : Rs P w φ A N ds a.tmps.toList) {d : D} {u : Value} (hd : R P w φ A N d u) (t : Option Tmp) : Rs P w φ A N (putD! ds t d) (a.put t u).tmps.toList := by
  cases t with
  | none => exact h
  | some t =>
    have := h.set hd t
    simpa [putD!, Act.put, Array.toList_setIfInBounds] using this
theorem put_defers (a : Act) (t : Option Tmp) (u : Value) : (a.put t u).defers = a.defers := by cases t <;> rfl

theorem wanted_ok {P : Program} {w : World} {φ : Nat → Nat × Nat} {A : Nat → Prop} {N : Nat} {ts : List D} {a : Act} (h : Rs P w φ A N ts a.tmps.toList) {ops : Array Oper} {o : Oper} {b : Bool} (hw : wantedD ops.toList ts o = some b) : Region.wanted o (yielded ops a.tmps) = b := by
  unfold wantedD at hw
  unfold Region.wanted
  cases hg : o.guard with
  | none => rw [hg] at hw; simpa using hw
  | some p =>
    obtain ⟨j, want⟩ := p
    rw [hg] at hw
    simp only at hw ⊢
    split at hw
    · rename_i q hq
      split at hw
      · rename_i t ht
        have hq' : ops[j]? = some q := by simpa using hq
        have key : ∀ d, ts[t]? = some d → ∃ u, a.tmps[t]? = some u ∧ R P w φ A N d u := by
          intro d hd
          obtain ⟨u, hu, hr⟩ := h.get hd
          exact ⟨u, by simpa using hu, hr⟩
        split at hw
        · rename_i c hc
          obtain ⟨u, hu, hr⟩ := key _ hc
          cases hr with | f hr => cases hr with | v _ =>
          injection hw with hw
          subst hw
          simp [yielded, hq', ht, hu]
        · rename_i x hnb hx
          obtain ⟨u, hu, hr⟩ := key _ hx
          cases hr with | f hr => cases hr with | v _ =>
          injection hw with hw
          subst hw
          cases x <;> simp [yielded, hq', ht, hu]
          exact absurd rfl (hnb _)
        · rename_i ds hx
          obtain ⟨u, hu, hr⟩ := key _ hx
          cases hr with | tp _ _ =>
          injection hw with hw
          subst hw
          simp [yielded, hq', ht, hu]
        · cases hw
      · cases hw
    · cases hw

/-- What holds all along a function's run. 'w0', 'φ0', 'H0': as it was called. -/
structure Run (P : Program) (X : Nat → Prop) (w0 : World) (φ0 : Nat → Nat × Nat) (H0 : List Row) (w : World) (φ : Nat → Nat × Nat) (s : St) (a : Act) : Prop where
  sim : Sim P X w φ s a
  ons : Ons X w0 φ0 H0 w φ s.H
  low : ∀ (r : Nat) (row : Row), H0[r]? = some row → RowLow (· < H0.length) row
  clean : ∀ r : Nat, r < H0.length → r ∉ s.dirty → s.H[r]? = H0[r]?


section
variable {P : Program} {X : Nat → Prop}

theorem applyUpd_other : ∀ (us : List (Nat × Row)) (B : List Row) (r : Nat), (∀ p ∈ us, p.1 ≠ r) → (applyUpd B us)[r]? = B[r]?
  | [], _, _, _ => rfl
  | (i, x) :: us, B, r, hp => by
    show (applyUpd (B.set i x) us)[r]? = _
    rw [applyUpd_other us _ r (fun p hp' => hp p (List.mem_cons_of_mem _ hp')), List.getElem?_set_ne (hp (i, x) List.mem_cons_self)]

/-- One step more. -/
theorem Run.step {w0 w w' : World} {φ0 φ φ' : Nat → Nat × Nat} {H0 : List Row} {s : St} {a : Act} (h : Run P X w0 φ0 H0 w φ s a) {e : Eff} (h1 : Ons X w φ s.H w' φ' (e.heap s.H)) (h2 : HR P w' φ' X (e.heap s.H)) {v : Value} (h3 : R P w' φ' (Av X φ' (e.heap s.H)) (e.heap s.H).length e.res v) (dst : Option Tmp) :
    Run P X w0 φ0 H0 w' φ' ⟨putD! s.ts dst e.res, e.heap s.H, e.upd.map (·.1) ++ s.dirty⟩ (a.put dst v) := by
  refine ⟨⟨h2, (h1.rs h.sim.tmps).put h3 dst, by rw [put_defers]; exact h.sim.defers⟩, h.ons.trans h1, h.low, fun r hr hnd => ?_⟩
  dsimp only at hnd ⊢
  rw [List.mem_append, not_or] at hnd
  have hlt : r < s.H.length := Nat.lt_of_lt_of_le hr h.ons.len
  unfold Eff.heap
  rw [List.getElem?_append_left (by rw [applyUpd_length]; exact hlt), applyUpd_other _ _ r (fun p hp e => hnd.1 (List.mem_map.2 ⟨p, hp, e⟩))]
  exact h.clean r hr hnd.2

theorem Run.skip {w0 w : World} {φ0 φ : Nat → Nat × Nat} {H0 : List Row} {s : St} {a : Act} (h : Run P X w0 φ0 H0 w φ s a) (dst : Option Tmp) : Run P X w0 φ0 H0 w φ ⟨putD! s.ts dst D.undef, s.H, s.dirty⟩ (a.put dst Go.undef) :=
  ⟨⟨h.sim.heap, h.sim.tmps.put R.undef dst, by rw [put_defers]; exact h.sim.defers⟩, h.ons, h.low, h.clean⟩

theorem runSeq_ok (hP : Good P) {call : Calling} (hcall : ∀ f, Sound P f (call f)) {ops : Array Oper} {Q : Exit → Act → World → Prop} {w0 : World} {φ0 : Nat → Nat × Nat} {H0 : List Row} : ∀ (rest : List Oper) (k : Nat) (s s' : St) (w : World) (φ : Nat → Nat × Nat) (a : Act), (∀ j, rest[j]? = ops[k + j]?) →
    runSeq P call ops.toList rest s = some s' → Run P X w0 φ0 H0 w φ s a → (∀ a' w' φ', Run P X w0 φ0 H0 w' φ' s' a' → Q .normal a' w') → wpOps P ops Q (List.range' k rest.length) a w
  | [], k, s, s', w, φ, a, _, hr, hs, hQ => by
    simp [runSeq] at hr
    subst hr
    exact hQ a w φ hs
  | o :: rest, k, s, s', w, φ, a, hk, hr, hs, hQ => by
    have ho : ops[k]? = some o := by have := hk 0; simpa using this.symm
    have hk' : ∀ j, rest[j]? = ops[k + 1 + j]? := fun j => by have := hk (j + 1); simpa [Nat.add_assoc, Nat.add_comm 1 j] using this
    simp only [List.length_cons, List.range'_succ, wpOps, ho]
    simp only [runSeq] at hr
    split at hr
    · rename_i hwant
      rw [wanted_ok hs.sim.tmps hwant, if_pos rfl]
      split at hr
      · rename_i e he
        refine .inl (step_ok hP hcall hs.sim.heap hs.sim.tmps he _ _ (fun v w' hl => ?_))
        obtain ⟨φ', h1, h2, h3⟩ := hl.ext
        exact runSeq_ok hP hcall rest (k + 1) _ s' w' φ' _ hk' hr (hs.step h1 h2 h3 o.dst) hQ
      · cases hr
    · rename_i hwant
      rw [wanted_ok hs.sim.tmps hwant, if_neg (by simp)]
      exact runSeq_ok hP hcall rest (k + 1) _ s' w φ _ hk' hr (hs.skip o.dst) hQ
    · cases hr
end

end Go.Proofs.Ytjbkckhpoicaeaa.Mir

/- A step looks only at its operands. -/
namespace Go.Proofs.Ytjbkckhpoicaeaa.Mir
open Go Go.RowKit

theorem pureD_congr {P : Program} {ts ts' : List D} {o : Oper} (h : ∀ x ∈ o.op.operands, eval ts x = eval ts' x) : pureD P ts o = pureD P ts' o := by
  unfold pureD
  have hall : (o.op.operands.toList.all fun x => ((eval ts x).val?).isSome) = (o.op.operands.toList.all fun x => ((eval ts' x).val?).isSome) := by
    have key : ∀ l : List Operand, (∀ x ∈ l, eval ts x = eval ts' x) → (l.all fun x => ((eval ts x).val?).isSome) = (l.all fun x => ((eval ts' x).val?).isSome) := by
      intro l hl
      induction l with
      | nil => rfl
      | cons x l ih => simp only [List.all_cons]; rw [hl x (by simp), ih (fun y hy => hl y (by simp [hy]))]
    exact key _ (fun x hx => h x (by simpa using hx))
  dsimp only
  rw [hall]
  by_cases hs : notSelect o.op = true
  · have hsel : ∀ cs b, o.op ≠ .select cs b := by
      intro cs b hb
      rw [hb] at hs
      simp [notSelect] at hs
    rw [execOp_congr (ρ := fun x => ((eval ts x).val?).getD Go.undef) (ρ' := fun x => ((eval ts' x).val?).getD Go.undef) o hsel (fun x hx => by rw [h x hx])]
  · simp [hs]

theorem callD_congr {P : Program} {call : Calling} {ts ts' : List D} {H : List Row} {c : Call} (h : ∀ x ∈ c.operands, eval ts x = eval ts' x) : callD P call ts H c = callD P call ts' H c := by
  have hargs : c.args.toList.map (eval ts) = c.args.toList.map (eval ts') := List.map_congr_left fun x hx => h x (by simp [Call.operands]; exact .inr (by simpa using hx))
  unfold callD
  rw [hargs]
  cases hc : c.callee with
  | value f => 
    have hf : eval ts f = eval ts' f := h f (by simp [Call.operands, hc])
    simp only [hf]
  | invoke r m => rfl
  | builtin b =>
    generalize List.map (eval ts') c.args.toList = l
    generalize c.argTypes.toList = t
    cases b <;> rcases l with _ | ⟨x, _ | ⟨y, _ | ⟨z, l⟩⟩⟩ <;> rcases t with _ | ⟨p, _ | ⟨q, _ | ⟨r, t⟩⟩⟩ <;> rfl

theorem parts_congr {ts ts' : List D} {ps : Array (Nat × Operand)} (h : ∀ p ∈ ps, eval ts p.2 = eval ts' p.2) : (ps.toList.map fun p => (p.1, eval ts p.2)) = (ps.toList.map fun p => (p.1, eval ts' p.2)) :=
  List.map_congr_left fun p hp => by rw [h p (by simpa using hp)]

theorem opt_congr {ts ts' : List D} {q : Option Operand} (h : ∀ x, q = some x → eval ts x = eval ts' x) : q.map (eval ts) = q.map (eval ts') := by
  cases q with
  | none => rfl
  | some x => simp [h x rfl]

set_option maxHeartbeats 2000000 in
theorem stepD_congr {P : Program} {call : Calling} {ts ts' : List D} {H : List Row} {o : Oper} (h : ∀ x ∈ o.op.operands, eval ts x = eval ts' x) : stepD P call ts H o = stepD P call ts' H o := by
  have hp := pureD_congr (P := P) h
  unfold stepD
  rw [hp]
  cases hop : o.op <;> rw [hop] at h <;> dsimp only
  case move x => rw [h x (by simp [Op.operands])]
  case assign x => rw [h x (by simp [Op.operands])]
  case pick c a b => rw [h c (by simp [Op.operands]), h a (by simp [Op.operands]), h b (by simp [Op.operands])]
  case box T x => rw [h x (by simp [Op.operands])]
  case load T x => rw [h x (by simp [Op.operands])]
  case store T x y => rw [h x (by simp [Op.operands]), h y (by simp [Op.operands])]
  case nilCheck x => rw [h x (by simp [Op.operands])]
  case makeFunc fn first captured =>
    have hc : captured.toList.map (eval ts) = captured.toList.map (eval ts') := List.map_congr_left fun x hx => h x (by simp [Op.operands]; exact .inr (by simpa using hx))
    cases fn <;> dsimp only <;> rw [hc]
  case makeMap T r => cases r <;> rfl
  case makeSlice T x y => rw [h x (by simp [Op.operands]), h y (by simp [Op.operands])]
  case fieldAddr T x f => rw [h x (by simp [Op.operands])]
  case indexAddr T x y => rw [h x (by simp [Op.operands]), h y (by simp [Op.operands])]
  case buildSlice T n ps => rw [parts_congr fun p hp => h p.2 (by simp [Op.operands]; exact ⟨p.1, hp⟩)]
  case mapUpdate T m k x => rw [h m (by simp [Op.operands]), h k (by simp [Op.operands]), h x (by simp [Op.operands])]
  case insert T m k x => rw [h m (by simp [Op.operands]), h k (by simp [Op.operands]), h x (by simp [Op.operands])]
  case lookup T m k ok => rw [h m (by simp [Op.operands]), h k (by simp [Op.operands])]
  case extract x i => rw [h x (by simp [Op.operands])]
  case call c => rw [callD_congr (ts' := ts') (fun x hx => h x (by simpa [Op.operands] using hx))]
  case slice T x lo hi mx =>
    rw [h x (by simp [Op.operands]), opt_congr (ts' := ts') (q := lo) (fun y hy => h y (by simp [Op.operands, hy])), opt_congr (ts' := ts') (q := hi) (fun y hy => h y (by simp [Op.operands, hy])), opt_congr (ts' := ts') (q := mx) (fun y hy => h y (by simp [Op.operands, hy]))]
  case field T x f => rw [h x (by simp [Op.operands])]
  case build T ps => rw [parts_congr fun p hp => h p.2 (by simp [Op.operands]; exact ⟨p.1, hp⟩)]
  case convert a b x => rw [h x (by simp [Op.operands])]
  case binOp op T x y ty =>
    have hx := h x (by simp [Op.operands])
    have hy := h y (by simp [Op.operands])
    cases op <;> dsimp only <;> rw [hx, hy]

end Go.Proofs.Ytjbkckhpoicaeaa.Mir

/- Regions that draw their order: what each operation writes. -/
namespace Go.Proofs.Ytjbkckhpoicaeaa.Mir
open Go Go.RowKit

def over {α : Type} : Option α → Option α → Option α
  | some y, _ => some y
  | none, acc => acc

/-- What a place holds behind those of the writes that were done. -/
def cont {α : Type} (E : Nat → Bool) : List (Option α) → Nat → Option α → Option α
  | [], _, acc => acc
  | w :: ws, k, acc => cont E ws (k + 1) (if E k then (over w acc) else acc)

section
variable {α : Type}
theorem cont_append (E : Nat → Bool) : ∀ (u v : List (Option α)) (k : Nat) (acc : Option α), cont E (u ++ v) k acc = cont E v (k + u.length) (cont E u k acc)
  | [], v, k, acc => by simp [cont]
  | w :: u, v, k, acc => by
    simp only [List.cons_append, cont, List.length_cons]
    rw [cont_append E u v]
    rw [show k + 1 + u.length = k + (u.length + 1) by omega]
theorem cont_none {E : Nat → Bool} : ∀ {ws : List (Option α)} {k : Nat} {acc : Option α}, (∀ j y, ws[j]? = some (some y) → E (k + j) = false) → cont E ws k acc = acc
  | [], _, _, _ => rfl
  | w :: ws, k, acc, h => by
    simp only [cont]
    have h0 : (if E k then (over w acc) else acc) = acc := by
      cases w with
      | none => simp [over]
      | some y => rw [if_neg (by have := h 0 y (by simp); simpa using this)]
    rw [h0]
    exact cont_none (fun j y hy => by have := h (j + 1) y (by simpa using hy); rwa [show k + (j + 1) = k + 1 + j by omega] at this)
theorem cont_congr {E E' : Nat → Bool} : ∀ {ws : List (Option α)} {k : Nat} {acc : Option α}, (∀ j y, ws[j]? = some (some y) → E (k + j) = E' (k + j)) → cont E ws k acc = cont E' ws k acc
  | [], _, _, _ => rfl
  | w :: ws, k, acc, h => by
    simp only [cont]
    have h0 : (if E k then (over w acc) else acc) = (if E' k then (over w acc) else acc) := by
      cases w with
      | none => simp [over]
      | some y => have := h 0 y (by simp); simp only [Nat.add_zero] at this; rw [this]
    rw [h0]
    exact cont_congr (fun j y hy => by have := h (j + 1) y (by simpa using hy); rwa [show k + (j + 1) = k + 1 + j by omega] at this)
/-- Up to a place. -/
theorem cont_pre {E : Nat → Bool} {ws : List (Option α)} {acc : Option α} (i : Nat) (h1 : ∀ j y, j < i → ws[j]? = some (some y) → E j = true) (h2 : ∀ j y, i ≤ j → ws[j]? = some (some y) → E j = false) : cont E ws 0 acc = cont (fun _ => true) (ws.take i) 0 acc := by
  conv => lhs; rw [← List.take_append_drop i ws]
  rw [cont_append, Nat.zero_add]
  rw [cont_none (ws := ws.drop i)]
  · exact cont_congr (fun j y hy => by
      rw [List.getElem?_take] at hy
      split at hy
      · rename_i hj
        simpa using h1 j y hj hy
      · simp at hy)
  · intro j y hy
    rw [List.getElem?_drop] at hy
    have hi : i < ws.length := by have := (List.getElem?_eq_some_iff.1 hy).1; omega
    rw [List.length_take, Nat.min_eq_left (by omega)]
    exact h2 (i + j) y (by omega) hy
/-- The last one tells. -/
theorem cont_hit {E : Nat → Bool} {ws : List (Option α)} {acc : Option α} {i : Nat} {y : α} (hi : ws[i]? = some (some y)) (hE : E i = true) (h2 : ∀ j y, i < j → ws[j]? = some (some y) → E j = false) : cont E ws 0 acc = some y := by
  have hlt : i < ws.length := (List.getElem?_eq_some_iff.1 hi).1
  have hsplit : ws = ws.take i ++ some y :: ws.drop (i + 1) := by
    have := List.getElem_cons_drop hlt
    have hyi : ws[i] = some y := by simpa [hlt] using hi
    rw [hyi] at this
    rw [this, List.take_append_drop]
  rw [hsplit, cont_append]
  have hl : (ws.take i).length = i := by rw [List.length_take]; omega
  simp only [cont, hl, Nat.zero_add, hE, if_true, over]
  rw [cont_none]
  intro j z hz
  rw [List.getElem?_drop] at hz
  exact h2 (i + 1 + j) z (by omega) hz
end

def lastU : List (Nat × Row) → Nat → Option Row
  | [], _ => none
  | (i, r) :: us, x => match lastU us x with
    | some y => some y
    | none => if i = x then some r else none

theorem applyUpd_get : ∀ (us : List (Nat × Row)) (H : List Row) (x : Nat), x < H.length → (applyUpd H us)[x]? = over (lastU us x) H[x]?
  | [], H, x, _ => rfl
  | (i, r) :: us, H, x, hx => by
    show (applyUpd (H.set i r) us)[x]? = _
    rw [applyUpd_get us (H.set i r) x (by simpa using hx)]
    simp only [lastU]
    cases lastU us x with
    | some y => rfl
    | none =>
      by_cases e : i = x
      · subst e; simp [hx, over]
      · simp [e, over]
theorem lastU_mem : ∀ {us : List (Nat × Row)} {x : Nat} {y : Row}, lastU us x = some y → (x, y) ∈ us
  | (i, r) :: us, x, y, h => by
    simp only [lastU] at h
    cases hl : lastU us x with
    | some z => rw [hl] at h; injection h with h; subst h; exact List.mem_cons_of_mem _ (lastU_mem hl)
    | none =>
      rw [hl] at h
      simp only at h
      split at h
      · rename_i e
        injection h with h
        subst e; subst h
        exact List.mem_cons_self
      · cases h

/-- What an operation did. -/
structure Rec where
  res : D
  upd : List (Nat × Row)
  news : List Row
  base : Nat
  view : List Nat

def wr (x : Nat) (r : Rec) : Option Row := if r.base ≤ x then r.news[x - r.base]? else lastU r.upd x
def sw (t : Nat) (p : Oper × Rec) : Option D := if p.1.dst = some t then some p.2.res else none

/-- What an operation does to rows, of whatever frame that holds the same operands. -/
def StepOk (P : Program) (ts : List D) (M : List Row) (o : Oper) (e : Eff) : Prop :=
  ∀ ts' : List D, (∀ x ∈ o.op.operands, eval ts' x = eval ts x) → ∀ (w : World) (φ : Nat → Nat × Nat) (X : Nat → Prop) (a : Act), HR P w φ X M → Rs P w φ (Av X φ M) M.length ts' a.tmps.toList → OpOk P o a w (Leaves P w φ X M e)
theorem StepOk.of_stepD {P : Program} (hP : Good P) {call : Calling} (hcall : ∀ f, Sound P f (call f)) {ts : List D} {M : List Row} {o : Oper} {e : Eff} (h : stepD P call ts M o = some e) : StepOk P ts M o e := by
  intro ts' heq w φ X a hM hts
  exact step_ok hP hcall hM hts ((stepD_congr heq).trans h)

section
variable (P : Program) (ops : List Oper) (b : List Nat) (n0 : Nat)

/-- How an operation came to it. 'pre': what those ahead of it did. -/
structure Fact (i : Nat) (pre : List Rec) (own : List Nat) (s : St) (o : Oper) (r : Rec) : Prop where
  base : r.base = s.H.length
  how : (wantedD ops s.ts o = some false ∧ r.res = D.undef ∧ r.upd = [] ∧ r.news = [] ∧ r.view = []) ∨
    (wantedD ops s.ts o = some true ∧ StepOk P s.ts (maskV r.view s.H) o ⟨r.res, r.upd, r.news⟩ ∧ (∀ x ∈ r.view, refIn n0 own (b.getD i 0) x = true) ∧
      (∀ p ∈ r.upd, p.1 ∈ r.view ∧ p.1 < s.H.length) ∧ (∀ j q, pre[j]? = some q → (b.getD i 0).testBit j = true ∨ ((∀ p ∈ q.upd, p.1 ∉ r.view) ∧ ∀ p ∈ r.upd, p.1 ∉ q.view)) ∧
      inOk n0 own (b.getD i 0) s.ts (maskV r.view s.H) o = true ∧ effOk n0 own (b.getD i 0) s.H.length ⟨r.res, r.upd, r.news⟩ = true)

inductive Tr : List Oper → Nat → List Rec → List Nat → St → List Rec → St → Prop
  | nil {i : Nat} {pre : List Rec} {own : List Nat} {s : St} : Tr [] i pre own s [] s
  | cons {o : Oper} {rest : List Oper} {i : Nat} {pre : List Rec} {own : List Nat} {s : St} {r : Rec} {recs : List Rec} {s' : St} : Fact P ops b n0 i pre own s o r → Tr rest (i + 1) (pre ++ [r]) (own ++ r.news.map fun _ => i) ⟨putD! s.ts o.dst r.res, applyUpd s.H r.upd ++ r.news, r.upd.map (·.1) ++ s.dirty⟩ recs s' → Tr (o :: rest) i pre own s (r :: recs) s'
end

theorem maskV_len {V : List Nat} {H : List Row} : (maskV V H).length = H.length := by simp [maskV]
theorem maskV_get {V : List Nat} {H : List Row} {x : Nat} {row : Row} (h : (maskV V H)[x]? = some row) : row = .dead ∨ (H[x]? = some row ∧ x ∈ V) := by
  unfold maskV at h
  rw [List.getElem?_map, List.getElem?_zipIdx] at h
  cases hx : H[x]? with
  | none => rw [hx] at h; simp at h
  | some y =>
    rw [hx] at h
    simp at h
    split at h
    · rename_i hv; subst h; exact .inr ⟨rfl, by simpa using hv⟩
    · exact .inl h.symm

theorem okPairs_spec {m : Nat} {V U : List Nat} : ∀ {l : List (List Nat × List Nat)} {k : Nat}, okPairs m V U k l = true → ∀ j q, l[j]? = some q → m.testBit (k + j) = true ∨ ((∀ x ∈ q.2, x ∉ V) ∧ ∀ x ∈ U, x ∉ q.1)
  | [], _, _, j, q, hq => by simp at hq
  | (V', U') :: l, k, h, j, q, hq => by
    simp only [okPairs, Bool.and_eq_true, Bool.or_eq_true, List.all_eq_true, Bool.not_eq_true'] at h
    cases j with
    | zero =>
      simp at hq
      subst hq
      refine h.1.imp id (fun ⟨h1, h2⟩ => ⟨fun x hx hv => ?_, fun x hx hv => ?_⟩)
      · have := h1 x hx
        rw [List.contains_iff_mem.2 hv] at this; cases this
      · have := h2 x hx
        rw [List.contains_iff_mem.2 hv] at this; cases this
    | succ j =>
      have := okPairs_spec h.2 j q (by simpa using hq)
      rwa [show k + 1 + j = k + (j + 1) by omega] at this

theorem tr_of_run {P : Program} (hP : Good P) {call : Calling} (hcall : ∀ f, Sound P f (call f)) {ops : List Oper} {b : List Nat} {n0 : Nat} : ∀ (rest : List Oper) (i : Nat) (pre : List Rec) (own : List Nat) (s : St) (p : St × List Nat), runDraw P call ops b n0 rest i own (pre.map fun r => (r.view, r.upd.map (·.1))) s = some p → ∃ recs, Tr P ops b n0 rest i pre own s recs p.1
  | [], i, pre, own, s, p, h => by simp [runDraw] at h; subst h; exact ⟨[], .nil⟩
  | o :: rest, i, pre, own, s, p, h => by
    simp only [runDraw] at h
    split at h
    · rename_i hw
      split at h
      · rename_i e he
        split at h
        · rename_i hok
          simp only [Bool.and_eq_true, List.all_eq_true, decide_eq_true_eq] at hok
          obtain ⟨⟨⟨⟨h1, h2⟩, h3⟩, h4⟩, h5⟩ := hok
          obtain ⟨recs, hr⟩ := tr_of_run hP hcall rest (i + 1) (pre ++ [⟨e.res, e.upd, e.news, s.H.length, viewOf s.ts s.H o⟩]) _ _ p (by simpa using h)
          refine ⟨⟨e.res, e.upd, e.news, s.H.length, viewOf s.ts s.H o⟩ :: recs, .cons ⟨rfl, .inr ⟨hw, .of_stepD hP hcall he, h1, fun q hq => ?_, fun j q hq => ?_, h2, h3⟩⟩ hr⟩
          · have := h4 q hq
            exact ⟨by simpa using this.1, this.2⟩
          · have := okPairs_spec h5 j (q.view, q.upd.map (·.1)) (by rw [List.getElem?_map, hq]; rfl)
            rw [Nat.zero_add] at this
            refine this.imp id (fun ⟨g1, g2⟩ => ⟨fun p hp => g1 p.1 (List.mem_map.2 ⟨p, hp, rfl⟩), fun p hp => g2 p.1 (List.mem_map.2 ⟨p, hp, rfl⟩)⟩)
        · cases h
      · cases h
    · rename_i hw
      obtain ⟨recs, hr⟩ := tr_of_run hP hcall rest (i + 1) (pre ++ [⟨D.undef, [], [], s.H.length, []⟩]) own ⟨putD! s.ts o.dst D.undef, s.H, s.dirty⟩ p (by simpa using h)
      exact ⟨⟨D.undef, [], [], s.H.length, []⟩ :: recs, .cons ⟨rfl, .inl ⟨hw, rfl, rfl, rfl, rfl⟩⟩ (by simpa [applyUpd] using hr)⟩
    · cases h

/-- Where the one order stands. -/
structure At (n0 : Nat) (s0 : St) (done : List Oper) (pre : List Rec) (own : List Nat) (s : St) : Prop where
  eq : pre.length = done.length
  len : s.H.length = n0 + own.length
  rows : ∀ x : Nat, s.H[x]? = cont (fun _ => true) (pre.map (wr x)) 0 s0.H[x]?
  tlen : s.ts.length = s0.ts.length
  slots : ∀ t : Nat, t < s0.ts.length → s.ts[t]? = cont (fun _ => true) ((done.zip pre).map (sw t)) 0 s0.ts[t]?
  own : ∀ (j q : Nat), own[j]? = some q → ∃ r, pre[q]? = some r ∧ r.base ≤ n0 + j ∧ n0 + j < r.base + r.news.length
  bases : ∀ (q : Nat) (r : Rec), pre[q]? = some r → n0 ≤ r.base ∧ r.base + r.news.length ≤ s.H.length
  upds : ∀ (q : Nat) (r : Rec) (p : Nat × Row), pre[q]? = some r → p ∈ r.upd → p.1 < r.base

theorem At.next {P : Program} {ops : List Oper} {b : List Nat} {n0 : Nat} {s0 : St} {done : List Oper} {pre : List Rec} {own : List Nat} {s : St} (h : At n0 s0 done pre own s) {o : Oper} {r : Rec} (hf : Fact P ops b n0 done.length pre own s o r) :
    At n0 s0 (done ++ [o]) (pre ++ [r]) (own ++ r.news.map fun _ => done.length) ⟨putD! s.ts o.dst r.res, applyUpd s.H r.upd ++ r.news, r.upd.map (·.1) ++ s.dirty⟩ := by
  have hupd : ∀ p ∈ r.upd, p.1 < r.base := by
    intro p hp
    rcases hf.how with ⟨_, _, hu, _⟩ | ⟨_, _, _, hall, _⟩
    · rw [hu] at hp; simp at hp
    · rw [hf.base]
      exact (hall p hp).2
  refine ⟨by simp [h.eq], by simp [applyUpd_length, h.len]; omega, fun x => ?_, ?_, fun t ht => ?_, fun j q hq => ?_, fun q r' hq => ?_, fun q r' p hq hp => ?_⟩
  · rw [List.map_append, cont_append]
    simp only [List.map_cons, List.map_nil, cont, if_true]
    rw [← h.rows x]
    unfold wr
    rw [hf.base]
    by_cases hx : x < s.H.length
    · rw [List.getElem?_append_left (by rw [applyUpd_length]; exact hx), applyUpd_get _ _ _ hx, if_neg (by omega)]
    · rw [List.getElem?_append_right (by rw [applyUpd_length]; omega), applyUpd_length, if_pos (by omega)]
      have hn : s.H[x]? = none := List.getElem?_eq_none (by omega)
      rw [hn]
      cases r.news[x - s.H.length]? <;> rfl
  · cases hd : o.dst <;> simp [putD!, h.tlen]
  · rw [List.zip_append (by rw [h.eq]), List.map_append, cont_append]
    simp only [List.zip_cons_cons, List.zip_nil_left, List.map_cons, List.map_nil, cont, if_true, sw]
    rw [← h.slots t ht]
    cases hd : o.dst with
    | none => simp [putD!, over]
    | some t' =>
      simp only [putD!, Option.some.injEq]
      by_cases e : t' = t
      · subst e; simp [h.tlen, ht, over]
      · simp [e, over]
  · by_cases hj : j < own.length
    · rw [List.getElem?_append_left hj] at hq
      obtain ⟨r', h1, h2, h3⟩ := h.own j q hq
      refine ⟨r', ?_, h2, h3⟩
      rw [List.getElem?_append_left (List.getElem?_eq_some_iff.1 h1).1]; exact h1
    · rw [List.getElem?_append_right (by omega), List.getElem?_map] at hq
      cases hn : r.news[j - own.length]? with
      | none => rw [hn] at hq; simp at hq
      | some y =>
        rw [hn] at hq
        simp at hq
        subst hq
        have hlt := (List.getElem?_eq_some_iff.1 hn).1
        refine ⟨r, by rw [← h.eq]; simp, by rw [hf.base, h.len]; omega, by rw [hf.base, h.len]; omega⟩
  · by_cases hq' : q < pre.length
    · rw [List.getElem?_append_left hq'] at hq
      obtain ⟨h1, h2⟩ := h.bases q r' hq
      exact ⟨h1, by simp [applyUpd_length]; omega⟩
    · have h1 := (List.getElem?_eq_some_iff.1 hq).1
      simp at h1
      obtain rfl : q = pre.length := by omega
      simp at hq
      subst hq
      rw [hf.base]
      exact ⟨by rw [h.len]; omega, by simp [applyUpd_length]⟩
  · by_cases hq' : q < pre.length
    · rw [List.getElem?_append_left hq'] at hq
      exact h.upds q r' p hq hp
    · have h1 := (List.getElem?_eq_some_iff.1 hq).1
      simp at h1
      obtain rfl : q = pre.length := by omega
      simp at hq
      subst hq
      exact hupd p hp

/-- Each operation's own story, and the end. -/
theorem tr_facts {P : Program} {ops : List Oper} {b : List Nat} {n0 : Nat} {s0 : St} : ∀ (rest done : List Oper) (pre recs : List Rec) (own : List Nat) (s s' : St), At n0 s0 done pre own s → Tr P ops b n0 rest done.length pre own s recs s' →
    recs.length = rest.length ∧ (∃ own', At n0 s0 (done ++ rest) (pre ++ recs) own' s') ∧
    ∀ k o, rest[k]? = some o → ∃ r own' s1, recs[k]? = some r ∧ At n0 s0 (done ++ rest.take k) (pre ++ recs.take k) own' s1 ∧ Fact P ops b n0 (done.length + k) (pre ++ recs.take k) own' s1 o r
  | [], done, pre, recs, own, s, s', h, ht => by
    cases ht
    exact ⟨rfl, ⟨own, by simpa using h⟩, fun k o ho => by simp at ho⟩
  | o :: rest, done, pre, recs, own, s, s', h, ht => by
    cases ht with
    | @cons _ _ _ _ _ _ r recs _ hf ht =>
      have hn := h.next hf
      obtain ⟨h1, ⟨own', h2⟩, h3⟩ := tr_facts rest (done ++ [o]) (pre ++ [r]) recs _ _ s' hn (by simpa using ht)
      refine ⟨by simp [h1], ⟨own', by simpa using h2⟩, fun k o' ho => ?_⟩
      cases k with
      | zero =>
        simp at ho
        subst ho
        exact ⟨r, own, s, by simp, by simpa using h, by simpa using hf⟩
      | succ k =>
        obtain ⟨r', own2, s1, g1, g2, g3⟩ := h3 k o' (by simpa using ho)
        refine ⟨r', own2, s1, by simpa using g1, by simpa using g2, ?_⟩
        have e : (done ++ [o]).length + k = done.length + (k + 1) := by simp; omega
        rw [e] at g3
        simpa using g3

end Go.Proofs.Ytjbkckhpoicaeaa.Mir

/- Regions that draw their order: what must come ahead; two parts of a heap. -/
namespace Go.Proofs.Ytjbkckhpoicaeaa.Mir
open Go Go.RowKit

theorem or_fold {acc : Array Nat} : ∀ (es : List Edge) (s0 j : Nat), ((es.foldl (fun s e => if Region.binds .any e then s ||| 2 ^ e.on ||| acc.getD e.on 0 else s) s0).testBit j = true ↔ (s0.testBit j = true ∨ ∃ e ∈ es, Region.binds .any e = true ∧ (e.on = j ∨ (acc.getD e.on 0).testBit j = true)))
  | [], s0, j => by simp
  | e :: es, s0, j => by
    rw [List.foldl_cons, or_fold es]
    by_cases hb : Region.binds .any e = true
    · simp only [hb, if_true, Nat.testBit_or, Bool.or_eq_true, Nat.testBit_two_pow, decide_eq_true_eq, List.mem_cons]
      constructor
      · rintro (((h | h) | h) | ⟨e', h1, h2⟩)
        · exact .inl h
        · exact .inr ⟨e, .inl rfl, hb, .inl h⟩
        · exact .inr ⟨e, .inl rfl, hb, .inr h⟩
        · exact .inr ⟨e', .inr h1, h2⟩
      · rintro (h | ⟨e', (rfl | h1), h2, h3⟩)
        · exact .inl (.inl (.inl h))
        · rcases h3 with h3 | h3
          · exact .inl (.inl (.inr h3))
          · exact .inl (.inr h3)
        · exact .inr ⟨e', h1, h2, h3⟩
    · simp only [hb, Bool.false_eq_true, if_false, List.mem_cons]
      constructor
      · rintro (h | ⟨e', h1, h2⟩)
        · exact .inl h
        · exact .inr ⟨e', .inr h1, h2⟩
      · rintro (h | ⟨e', (rfl | h1), h2, h3⟩)
        · exact .inl h
        · exact absurd h2 hb
        · exact .inr ⟨e', h1, h2, h3⟩

def beforeL (l : List Oper) : Array Nat := l.foldl (fun acc o => acc.push (o.after.foldl (fun s e => if Region.binds .any e then s ||| 2 ^ e.on ||| acc.getD e.on 0 else s) 0)) #[]

theorem beforeL_spec (l : List Oper) : (beforeL l).size = l.length ∧
    (∀ i o j, l[i]? = some o → ((beforeL l).getD i 0).testBit j = true → ∃ e ∈ o.after, Region.binds .any e = true ∧ (e.on = j ∨ ((beforeL l).getD e.on 0).testBit j = true)) ∧
    (∀ i o e, l[i]? = some o → e ∈ o.after → Region.binds .any e = true → ((beforeL l).getD i 0).testBit e.on = true) := by
  suffices h : ∀ n (l : List Oper), l.length = n → ((beforeL l).size = l.length ∧
    (∀ i o j, l[i]? = some o → ((beforeL l).getD i 0).testBit j = true → ∃ e ∈ o.after, Region.binds .any e = true ∧ (e.on = j ∨ ((beforeL l).getD e.on 0).testBit j = true)) ∧
    (∀ i o e, l[i]? = some o → e ∈ o.after → Region.binds .any e = true → ((beforeL l).getD i 0).testBit e.on = true)) from h _ l rfl
  intro n
  induction n with
  | zero =>
    intro l hl
    have : l = [] := List.eq_nil_of_length_eq_zero hl
    subst this
    exact ⟨rfl, fun i o j h => by simp at h, fun i o e h => by simp at h⟩
  | succ n ih =>
    intro l hl
    have hne : l ≠ [] := by intro e; subst e; simp at hl
    obtain ⟨m, o, rfl⟩ : ∃ m o, l = m ++ [o] := ⟨l.dropLast, l.getLast hne, (List.dropLast_concat_getLast hne).symm⟩
    simp at hl
    obtain ⟨h1, h2, h3⟩ := ih m hl
    have hb : beforeL (m ++ [o]) = (beforeL m).push (o.after.foldl (fun s e => if Region.binds .any e then s ||| 2 ^ e.on ||| (beforeL m).getD e.on 0 else s) 0) := by
      simp [beforeL, List.foldl_append]
    have old : ∀ k, k < m.length → (beforeL (m ++ [o])).getD k 0 = (beforeL m).getD k 0 := by
      intro k hk
      rw [hb]
      simp only [Array.getD_eq_getD_getElem?]
      rw [Array.getElem?_push_lt (by rw [h1]; exact hk), Array.getElem?_eq_getElem (by rw [h1]; exact hk)]
    have up : ∀ k j, ((beforeL m).getD k 0).testBit j = true → ((beforeL (m ++ [o])).getD k 0).testBit j = true := by
      intro k j hk
      by_cases hlt : k < m.length
      · rw [old k hlt]; exact hk
      · rw [Array.getD_eq_getD_getElem?, Array.getElem?_eq_none (by rw [h1]; omega)] at hk
        simp at hk
    have new : (beforeL (m ++ [o])).getD m.length 0 = o.after.foldl (fun s e => if Region.binds .any e then s ||| 2 ^ e.on ||| (beforeL m).getD e.on 0 else s) 0 := by
      rw [hb, Array.getD_eq_getD_getElem?, ← h1, Array.getElem?_push_size]
      rfl
    have cases_ : ∀ i q, (m ++ [o])[i]? = some q → (i < m.length ∧ m[i]? = some q) ∨ (i = m.length ∧ q = o) := by
      intro i q hq
      by_cases hi : i < m.length
      · rw [List.getElem?_append_left hi] at hq; exact .inl ⟨hi, hq⟩
      · have := (List.getElem?_eq_some_iff.1 hq).1
        simp at this
        obtain rfl : i = m.length := by omega
        simp at hq
        exact .inr ⟨rfl, hq.symm⟩
    refine ⟨by rw [hb]; simp [h1], fun i q j hq hj => ?_, fun i q e hq he hbe => ?_⟩
    · rcases cases_ i q hq with ⟨hi, hq'⟩ | ⟨rfl, rfl⟩
      · rw [old i hi] at hj
        obtain ⟨e, g1, g2, g3⟩ := h2 i q j hq' hj
        exact ⟨e, g1, g2, g3.imp id (up _ _)⟩
      · rw [new, ← Array.foldl_toList, or_fold] at hj
        rcases hj with hj | ⟨e, g1, g2, g3⟩
        · simp at hj
        · exact ⟨e, by simpa using g1, g2, g3.imp id (up _ _)⟩
    · rcases cases_ i q hq with ⟨hi, hq'⟩ | ⟨rfl, rfl⟩
      · rw [old i hi]
        exact h3 i q e hq' he hbe
      · rw [new, ← Array.foldl_toList, or_fold]
        exact .inr ⟨e, by simpa using he, hbe, .inl rfl⟩

theorem before_eq (ops : Array Oper) : Region.before ops = beforeL ops.toList := by
  unfold Region.before beforeL
  rw [← Array.foldl_toList]

theorem Low.and {S T : Nat → Prop} {d : D} (h : Low S d) (k : Low T d) : Low (fun r => S r ∧ T r) d := by
  induction h with
  | f => exact .f
  | sl hr => cases k with | sl k => exact .sl ⟨hr, k⟩
  | pt hr => cases k with | pt k => exact .pt ⟨hr, k⟩
  | rf => exact .rf
  | ag _ ih => cases k with | ag k => exact .ag (fun i d hd => ih i d hd (k i d hd))
  | tp _ ih => cases k with | tp k => exact .tp (fun i d hd => ih i d hd (k i d hd))
  | fn _ ih => cases k with | fn k => exact .fn (fun i d hd => ih i d hd (k i d hd))
  | mp hr => cases k with | mp k => exact .mp ⟨hr, k⟩
  | junk => exact .junk
theorem RowLow.and {S T : Nat → Prop} {row : Row} (h : RowLow S row) (k : RowLow T row) : RowLow (fun r => S r ∧ T r) row := by
  cases row with
  | box U ds => exact fun d hd => (h d hd).and (k d hd)
  | _ => trivial

section
variable {P : Program} {w w' : World} {φ φ1 : Nat → Nat × Nat} {X : Nat → Prop} {H M : List Row}

/-- Blocks of others, and of the rows that are not in M. -/
def Rest (X : Nat → Prop) (φ : Nat → Nat × Nat) (H M : List Row) (b : Nat) : Prop := X b ∨ ∃ (x : Nat) (row : Row), H[x]? = some row ∧ row.live = true ∧ M[x]? ≠ some row ∧ (φ x).1 = b

/-- A part of a heap. -/
theorem HR.part (h : HR P w φ X H) {S : Nat → Prop} (hS : ∀ r, S r → r < M.length) (hsub : ∀ (x : Nat) (row : Row), M[x]? = some row → row = .dead ∨ (H[x]? = some row ∧ RowLow S row)) : HR P w φ (Rest X φ H M) M := by
  have live : ∀ b, Live φ M b → Live φ H b := by
    rintro b ⟨x, row, hx, hl, rfl⟩
    rcases hsub x row hx with rfl | ⟨h1, _⟩
    · simp [Row.live] at hl
    · exact ⟨x, row, h1, hl, rfl⟩
  have av : ∀ b, Av (Rest X φ H M) φ M b → Av X φ H b := by
    rintro b ((hx | ⟨x, row, hx, hl, _, rfl⟩) | hb)
    · exact .inl hx
    · exact .inr ⟨x, row, hx, hl, rfl⟩
    · exact .inr (live b hb)
  refine ⟨fun x row hx => ?_, fun x y r1 r2 hx hy l1 l2 e => ?_, fun x row hx hl => ?_, fun b hb => ?_⟩
  · rcases hsub x row hx with rfl | ⟨h1, h2⟩
    · trivial
    · exact (h.rows x row h1).lower rfl (fun r hr => ⟨rfl, hS r hr⟩) av h2
  · rcases hsub x r1 hx with rfl | ⟨h1, _⟩
    · simp [Row.live] at l1
    rcases hsub y r2 hy with rfl | ⟨h2, _⟩
    · simp [Row.live] at l2
    exact h.apart x y r1 r2 h1 h2 l1 l2 e
  · rcases hsub x row hx with rfl | ⟨h1, _⟩
    · simp [Row.live] at hl
    rintro (hb | ⟨y, row', hy, hl', hne, e⟩)
    · exact h.off x row h1 hl hb
    · have := h.apart x y row row' h1 hy hl hl' e.symm
      subst this
      rw [h1] at hy
      injection hy with hy
      subst hy
      exact hne hx
  · rcases hb with hb | ⟨x, row, hx, hl, _, rfl⟩
    · exact h.old b hb
    · exact h.blk hx hl

def mix (φ φ1 : Nat → Nat × Nat) (base len : Nat) : Nat → Nat × Nat := fun x => if base ≤ x ∧ x < base + len then φ1 x else φ x

/-- The part, turned by a step, and the rest, together. -/
theorem HR.merge (h : HR P w φ X H) {S : Nat → Prop} {Real : Nat → Prop} {e : Eff} {v : Value} (hM : HR P w φ (Rest X φ H M) M) (hsub : ∀ (x : Nat) (row : Row), M[x]? = some row → row = .dead ∨ H[x]? = some row) (post : Post P w φ (Rest X φ H M) M e v w' φ1) {H' : List Row} (hlen : H'.length = H.length) (hN : M.length + e.news.length ≤ H.length)
    (hreal : ∀ r, Real r → r < H.length ∧ ¬ (M.length ≤ r ∧ r < M.length + e.news.length))
    (hrow : ∀ (x : Nat) (row : Row), H'[x]? = some row → row = .dead ∨ (e.heap M)[x]? = some row ∨ (H[x]? = some row ∧ M[x]? ≠ some row ∧ RowLow Real row ∧ ¬ (M.length ≤ x ∧ x < M.length + e.news.length))) :
    HR P w' (mix φ φ1 M.length e.news.length) X H' ∧ Keep (Live φ H) w w' ∧ (∀ b, Live (mix φ φ1 M.length e.news.length) H' b → Live φ H b ∨ w.heap.size ≤ b) ∧
      (∀ b, b < w.heap.size → Av X (mix φ φ1 M.length e.news.length) H' b → Av X φ H b) ∧ (∀ b, Av X (mix φ φ1 M.length e.news.length) H' b → Av (Rest X φ H M) φ1 (e.heap M) b) := by
  have hl1 : (e.heap M).length = M.length + e.news.length := heap_length e M
  have eq1 : ∀ r, r < M.length + e.news.length → mix φ φ1 M.length e.news.length r = φ1 r := by
    intro r hr
    unfold mix
    by_cases hb : M.length ≤ r
    · rw [if_pos ⟨hb, hr⟩]
    · rw [if_neg (fun h => hb h.1), post.same r (by omega)]
  have eq0 : ∀ r, ¬ (M.length ≤ r ∧ r < M.length + e.news.length) → mix φ φ1 M.length e.news.length r = φ r := fun r hr => if_neg hr
  have liveM : ∀ b, Live φ M b → Live φ H b := by
    rintro b ⟨x, row, hx, hl, rfl⟩
    rcases hsub x row hx with rfl | h1
    · simp [Row.live] at hl
    · exact ⟨x, row, h1, hl, rfl⟩
  have av1 : ∀ b, Av X (mix φ φ1 M.length e.news.length) H' b → Av (Rest X φ H M) φ1 (e.heap M) b := by
    rintro b (hx | ⟨x, row, hx, hl, rfl⟩)
    · exact .inl (.inl hx)
    · rcases hrow x row hx with rfl | h1 | ⟨h1, h2, _, h3⟩
      · simp [Row.live] at hl
      · have hlt : x < (e.heap M).length := (List.getElem?_eq_some_iff.1 h1).1
        exact .inr ⟨x, row, h1, hl, by rw [eq1 x (by rw [← hl1]; exact hlt)]⟩
      · exact .inl (.inr ⟨x, row, h1, hl, h2, by rw [eq0 x h3]⟩)
  have av0 : ∀ b, b < w.heap.size → Av X (mix φ φ1 M.length e.news.length) H' b → Av X φ H b := by
    intro b hb hx
    rcases av1 b hx with (h1 | ⟨x, row, h1, h2, _, rfl⟩) | h1
    · exact .inl h1
    · exact .inr ⟨x, row, h1, h2, rfl⟩
    · rcases post.fresh b h1 with h2 | h2
      · exact .inr (liveM b h2)
      · omega
  have fresh : ∀ b, Live (mix φ φ1 M.length e.news.length) H' b → Live φ H b ∨ w.heap.size ≤ b := by
    rintro b ⟨x, row, hx, hl, rfl⟩
    rcases hrow x row hx with rfl | h1 | ⟨h1, _, _, h3⟩
    · simp [Row.live] at hl
    · have hlt : x < (e.heap M).length := (List.getElem?_eq_some_iff.1 h1).1
      rw [eq1 x (by rw [← hl1]; exact hlt)]
      exact (post.fresh _ ⟨x, row, h1, hl, rfl⟩).imp (liveM _) id
    · rw [eq0 x h3]
      exact .inl ⟨x, row, h1, hl, rfl⟩
  have notM : ∀ x row, H[x]? = some row → row.live = true → M[x]? ≠ some row → ¬ Live φ M (φ x).1 := by
    rintro x row hx hl hne ⟨y, row', hy, hl', e'⟩
    rcases hsub y row' hy with rfl | h1
    · simp [Row.live] at hl'
    · have := h.apart y x row' row h1 hx hl' hl e'
      subst this
      rw [hx] at h1
      injection h1 with h1
      subst h1
      exact hne hy
  refine ⟨⟨fun x row hx => ?_, fun x y r1 r2 hx hy l1 l2 e' => ?_, fun x row hx hl => ?_, fun b hb => Nat.lt_of_lt_of_le (h.old b hb) post.keep.size⟩, post.keep.mono (fun b _ hb => liveM b hb), fresh, av0, av1⟩
  · rcases hrow x row hx with rfl | h1 | ⟨h1, h2, h3, h4⟩
    · trivial
    · have hok := post.heap.rows x row h1
      have hlt : x < (e.heap M).length := (List.getElem?_eq_some_iff.1 h1).1
      exact hok.lower (eq1 x (by rw [← hl1]; exact hlt)) (fun r hr => ⟨eq1 r (by rw [← hl1]; exact hr), by rw [hlen]; have : r < (e.heap M).length := hr; omega⟩) av1 hok.isLow
    · have hok := h.rows x row h1
      have hxl : x < H.length := (List.getElem?_eq_some_iff.1 h1).1
      have hk := hok.keep (φ' := φ) (N' := H.length) (A' := Av X (mix φ φ1 M.length e.news.length) H') post.keep (fun b hb => .inr (liveM b hb)) av0 (fun _ _ => rfl) (Nat.le_refl _) hxl (by
        cases row with
        | dead => exact .inl rfl
        | box T ds => obtain ⟨_, cs, g, _⟩ := hok; exact .inr (post.keep.block _ (block_lt g) (notM x _ h1 rfl h2)).symm
        | data T xs => obtain ⟨_, _, _, g, _⟩ := hok; exact .inr (post.keep.block _ (block_lt g) (notM x _ h1 rfl h2)).symm
        | froz T xs => obtain ⟨g0, _, _, _, _, g, _⟩ := hok; exact .inr (post.keep.block _ (block_lt g) (fun hl => g0 (.inr (liveM _ hl)))).symm
        | map es => obtain ⟨_, _, g, _⟩ := hok; exact .inr (post.keep.block _ (block_lt g) (notM x _ h1 rfl h2)).symm)
      exact hk.lower (eq0 x h4) (fun r hr => ⟨eq0 r (hreal r hr).2, by rw [hlen]; exact (hreal r hr).1⟩) (fun _ h => h) h3
  · rcases hrow x r1 hx with rfl | h1 | ⟨h1, h2, _, h3⟩
    · simp [Row.live] at l1
    · have hlt : x < (e.heap M).length := (List.getElem?_eq_some_iff.1 h1).1
      rw [eq1 x (by rw [← hl1]; exact hlt)] at e'
      rcases hrow y r2 hy with rfl | k1 | ⟨k1, k2, _, k3⟩
      · simp [Row.live] at l2
      · have hlt' : y < (e.heap M).length := (List.getElem?_eq_some_iff.1 k1).1
        rw [eq1 y (by rw [← hl1]; exact hlt')] at e'
        exact post.heap.apart x y r1 r2 h1 k1 l1 l2 e'
      · rw [eq0 y k3] at e'
        exact absurd (.inr ⟨y, r2, k1, l2, k2, e'.symm⟩) (post.heap.off x r1 h1 l1)
    · rw [eq0 x h3] at e'
      rcases hrow y r2 hy with rfl | k1 | ⟨k1, k2, _, k3⟩
      · simp [Row.live] at l2
      · have hlt' : y < (e.heap M).length := (List.getElem?_eq_some_iff.1 k1).1
        rw [eq1 y (by rw [← hl1]; exact hlt')] at e'
        exact absurd (.inr ⟨x, r1, h1, l1, h2, e'⟩) (post.heap.off y r2 k1 l2)
      · rw [eq0 y k3] at e'
        exact h.apart x y r1 r2 h1 k1 l1 l2 e'
  · rcases hrow x row hx with rfl | h1 | ⟨h1, h2, _, h3⟩
    · simp [Row.live] at hl
    · have hlt : x < (e.heap M).length := (List.getElem?_eq_some_iff.1 h1).1
      rw [eq1 x (by rw [← hl1]; exact hlt)]
      exact fun hX => post.heap.off x row h1 hl (.inl hX)
    · rw [eq0 x h3]
      exact h.off x row h1 hl
end

end Go.Proofs.Ytjbkckhpoicaeaa.Mir

/- Regions that draw their order. -/
namespace Go.Proofs.Ytjbkckhpoicaeaa.Mir
open Go Go.RowKit

theorem drawOk_spec {ops : List Oper} {b : List Nat} (h : drawOk ops b = true) {i : Nat} {o : Oper} (ho : ops[i]? = some o) : b.getD i 0 < 2 ^ i ∧ ∀ j q t, ops[j]? = some q → q.dst = some t → (t ∈ tmpsOf ops o → (b.getD i 0).testBit j = true ∨ (b.getD j 0).testBit i = true ∨ i = j) ∧ (i = j ∨ o.dst ≠ some t) := by
  unfold drawOk at h
  have h1 := List.all_eq_true.1 h (o, i) (by rw [List.mem_zipIdx_iff_getElem?]; exact ho)
  simp only [Bool.and_eq_true, decide_eq_true_eq] at h1
  refine ⟨h1.1, fun j q t hq ht => ?_⟩
  have h2 := List.all_eq_true.1 h1.2 (q, j) (by rw [List.mem_zipIdx_iff_getElem?]; exact hq)
  simp only [ht, Bool.and_eq_true, Bool.or_eq_true, Bool.not_eq_true', beq_iff_eq, bne_iff_ne] at h2
  refine ⟨fun hm => ?_, h2.2⟩
  rcases h2.1 with ((h3 | h3) | h3) | h3
  · have : (tmpsOf ops o).contains t = true := by simpa using hm
    rw [this] at h3; cases h3
  · exact .inl h3
  · exact .inr (.inl h3)
  · exact .inr (.inr h3)

def maskT (p : Nat → Bool) (ts : List D) : List D := ts.zipIdx.map fun q => if p q.2 then q.1 else .junk
theorem maskT_get {p : Nat → Bool} {ts : List D} {t : Nat} : (maskT p ts)[t]? = (ts[t]?).map fun d => if p t then d else .junk := by
  unfold maskT
  rw [List.getElem?_map, List.getElem?_zipIdx]
  cases ts[t]? <;> simp

theorem eval_mask {p : Nat → Bool} {ts : List D} {x : Operand} (h : ∀ t, x = .tmp t → p t = true) : eval (maskT p ts) x = eval ts x := by
  cases x with
  | tmp t =>
    simp only [eval, List.getD]
    rw [maskT_get, h t rfl]
    cases ts[t]? <;> simp
  | _ => rfl

theorem wanted_mask {p : Nat → Bool} {ops : List Oper} {ts : List D} {o : Oper} (h : ∀ t ∈ tmpsOf ops o, p t = true) : wantedD ops (maskT p ts) o = wantedD ops ts o := by
  unfold wantedD
  cases hg : o.guard with
  | none => rfl
  | some q =>
    obtain ⟨j, want⟩ := q
    dsimp only
    cases hj : ops[j]? with
    | none => rfl
    | some q =>
      dsimp only
      cases ht : q.dst with
      | none => rfl
      | some t =>
        dsimp only
        rw [maskT_get, h t (by unfold tmpsOf; rw [hg]; simp [hj, ht])]
        cases ts[t]? <;> rfl

section
variable {P : Program} {X : Nat → Prop} {ops : Array Oper} {n0 : Nat} {s0 s' : St} {recs : List Rec}

/-- All that is known of the one order. -/
structure Known (P : Program) (ops : Array Oper) (s0 s' : St) (recs : List Rec) : Prop where
  draw : drawOk ops.toList (Region.before ops).toList = true
  len : recs.length = ops.toList.length
  fin : ∃ own, At s0.H.length s0 ops.toList recs own s'
  fact : ∀ k o, ops.toList[k]? = some o → ∃ r own s1, recs[k]? = some r ∧ At s0.H.length s0 (ops.toList.take k) (recs.take k) own s1 ∧ Fact P ops.toList (Region.before ops).toList s0.H.length k (recs.take k) own s1 o r

def bit (ops : Array Oper) (k j : Nat) : Bool := ((Region.before ops).toList.getD k 0).testBit j

def rowsE (s0 : St) (recs : List Rec) (E : Nat → Bool) (x : Nat) : Option Row := cont E (recs.map (wr x)) 0 s0.H[x]?
def slotE (ops : Array Oper) (s0 : St) (recs : List Rec) (E : Nat → Bool) (t : Nat) : Option D := cont E ((ops.toList.zip recs).map (sw t)) 0 s0.ts[t]?
def heapE (s0 s' : St) (recs : List Rec) (E : Nat → Bool) : List Row := (List.range s'.H.length).map fun x => (rowsE s0 recs E x).getD .dead
def RealE (s0 : St) (recs : List Rec) (E : Nat → Bool) (r : Nat) : Prop := r < s0.H.length ∨ ∃ (k : Nat) (rc : Rec), E k = true ∧ recs[k]? = some rc ∧ rc.base ≤ r ∧ r < rc.base + rc.news.length

/-- Where a schedule stands: E is done. -/
structure Sch (P : Program) (X : Nat → Prop) (ops : Array Oper) (s0 s' : St) (recs : List Rec) (ws : World) (φs : Nat → Nat × Nat) (E : Nat → Bool) (a : Act) (w : World) (φ : Nat → Nat × Nat) : Prop where
  down : ∀ k, E k = true → ∀ j, bit ops k j = true → E j = true
  heap : HR P w φ X (heapE s0 s' recs E)
  low : ∀ x row, rowsE s0 recs E x = some row → RowLow (RealE s0 recs E) row
  tsz : a.tmps.size = s0.ts.length
  slots : ∀ (t : Nat) (d : D) (u : Value), slotE ops s0 recs E t = some d → a.tmps[t]? = some u → R P w φ (Av X φ (heapE s0 s' recs E)) s'.H.length d u ∧ Low (RealE s0 recs E) d
  defers : a.defers = []
  same : ∀ r, r < s0.H.length → φ r = φs r
  keep : Keep (Live φs s0.H) ws w
  fresh : ∀ b, Live φ (heapE s0 s' recs E) b → Live φs s0.H b ∨ ws.heap.size ≤ b

theorem Known.bases (h : Known P ops s0 s' recs) {q : Nat} {r : Rec} (hr : recs[q]? = some r) : s0.H.length ≤ r.base ∧ r.base + r.news.length ≤ s'.H.length := by
  obtain ⟨own, hf⟩ := h.fin
  exact hf.bases q r hr

theorem Known.mono (h : Known P ops s0 s' recs) {j q : Nat} {rj rq : Rec} (hj : recs[j]? = some rj) (hq : recs[q]? = some rq) (hjq : j < q) : rj.base + rj.news.length ≤ rq.base := by
  have hlt : q < ops.toList.length := by rw [← h.len]; exact (List.getElem?_eq_some_iff.1 hq).1
  obtain ⟨r, own, s1, h1, h2, h3⟩ := h.fact q ops.toList[q] (by simp [hlt])
  rw [hq] at h1
  injection h1 with h1
  subst h1
  rw [h3.base]
  exact (h2.bases j rj (by rw [List.getElem?_take, if_pos hjq]; exact hj)).2

theorem Known.updlt (h : Known P ops s0 s' recs) {q : Nat} {r : Rec} (hr : recs[q]? = some r) {p : Nat × Row} (hp : p ∈ r.upd) : p.1 < r.base := by
  obtain ⟨own, hf⟩ := h.fin
  exact hf.upds q r p hr hp

theorem Known.op (h : Known P ops s0 s' recs) {q : Nat} {r : Rec} (hr : recs[q]? = some r) : ∃ o own s1, ops.toList[q]? = some o ∧ At s0.H.length s0 (ops.toList.take q) (recs.take q) own s1 ∧ Fact P ops.toList (Region.before ops).toList s0.H.length q (recs.take q) own s1 o r := by
  have hlt : q < ops.toList.length := by rw [← h.len]; exact (List.getElem?_eq_some_iff.1 hr).1
  obtain ⟨r', own, s1, h1, h2, h3⟩ := h.fact q ops.toList[q] (by simp [hlt])
  rw [hr] at h1
  injection h1 with h1
  subst h1
  exact ⟨_, own, s1, by simp [hlt], h2, h3⟩

theorem wr_some {x : Nat} {r : Rec} {y : Row} (h : wr x r = some y) : (r.base ≤ x ∧ x < r.base + r.news.length ∧ r.news[x - r.base]? = some y) ∨ (x < r.base ∧ (x, y) ∈ r.upd ∧ lastU r.upd x = some y) := by
  unfold wr at h
  split at h
  · rename_i hb
    have := (List.getElem?_eq_some_iff.1 h).1
    exact .inl ⟨hb, by omega, h⟩
  · rename_i hb
    exact .inr ⟨by omega, lastU_mem h, h⟩

theorem rowsE_lt (h : Known P ops s0 s' recs) {E : Nat → Bool} {x : Nat} {row : Row} (hr : rowsE s0 recs E x = some row) : x < s'.H.length := by
  by_cases hx : x < s'.H.length
  · exact hx
  · exfalso
    have hn : ∀ j y, (recs.map (wr x))[j]? = some (some y) → E (0 + j) = false := by
      intro j y hy
      rw [List.getElem?_map] at hy
      cases hj : recs[j]? with
      | none => rw [hj] at hy; simp at hy
      | some r =>
        rw [hj] at hy
        simp at hy
        have hb := h.bases hj
        rcases wr_some hy with ⟨h1, h2, _⟩ | ⟨h1, _⟩ <;> omega
    unfold rowsE at hr
    rw [cont_none hn] at hr
    obtain ⟨own, hf⟩ := h.fin
    have := (List.getElem?_eq_some_iff.1 hr).1
    have := hf.len
    omega

theorem heapE_get (h : Known P ops s0 s' recs) {E : Nat → Bool} {x : Nat} {row : Row} (hr : rowsE s0 recs E x = some row) : (heapE s0 s' recs E)[x]? = some row := by
  unfold heapE
  rw [List.getElem?_map, List.getElem?_range (rowsE_lt h hr)]
  simp [hr]
theorem heapE_of {E : Nat → Bool} {x : Nat} {row : Row} (hr : (heapE s0 s' recs E)[x]? = some row) : x < s'.H.length ∧ (row = .dead ∨ rowsE s0 recs E x = some row) := by
  unfold heapE at hr
  have hx : x < s'.H.length := by have := (List.getElem?_eq_some_iff.1 hr).1; simpa using this
  rw [List.getElem?_map, List.getElem?_range hx] at hr
  simp at hr
  refine ⟨hx, ?_⟩
  cases hc : rowsE s0 recs E x with
  | none => rw [hc] at hr; exact .inl hr.symm
  | some y => rw [hc] at hr; simp at hr; exact .inr (by rw [hr])
theorem heapE_len {E : Nat → Bool} : (heapE s0 s' recs E).length = s'.H.length := by simp [heapE]

/-- What operation i sees is what is there. -/
theorem seen_row (h : Known P ops s0 s' recs) {E : Nat → Bool} (hdown : ∀ k, E k = true → ∀ j, bit ops k j = true → E j = true) {i : Nat} {own : List Nat} {s1 : St} {r : Rec} (hri : recs[i]? = some r) (hat : At s0.H.length s0 (ops.toList.take i) (recs.take i) own s1) (hbase : r.base = s1.H.length) (hEi : E i = false) (hready : ∀ j, bit ops i j = true → E j = true)
    (hview : ∀ x ∈ r.view, refIn s0.H.length own ((Region.before ops).toList.getD i 0) x = true) (hpair : ∀ j q, (recs.take i)[j]? = some q → ((Region.before ops).toList.getD i 0).testBit j = true ∨ ((∀ p ∈ q.upd, p.1 ∉ r.view) ∧ ∀ p ∈ r.upd, p.1 ∉ q.view)) {x : Nat} {row : Row}
    (hx : (maskV r.view s1.H)[x]? = some row) : row = .dead ∨ rowsE s0 recs E x = some row := by
  rcases maskV_get hx with hd | ⟨h1, h2⟩
  · exact .inl hd
  refine .inr ?_
  have hxb : x < r.base := by rw [hbase]; exact (List.getElem?_eq_some_iff.1 h1).1
  rw [hat.rows x] at h1
  unfold rowsE
  rw [cont_pre (i := i)]
  · rw [← List.map_take]; exact h1
  · intro j y hj hy
    rw [List.getElem?_map] at hy
    cases hrj : recs[j]? with
    | none => rw [hrj] at hy; simp at hy
    | some rj =>
      rw [hrj] at hy
      simp at hy
      have hbj := h.bases hrj
      rcases wr_some hy with ⟨g1, g2, _⟩ | ⟨g1, g2, _⟩
      · have hv := hview x h2
        unfold refIn at hv
        rw [Bool.or_eq_true] at hv
        rcases hv with hv | hv
        · have : x < s0.H.length := by simpa using hv
          omega
        · split at hv
          · rename_i q hq1
            obtain ⟨rq, k1, k2, k3⟩ := hat.own _ q hq1
            have hqi : q < i := by have := (List.getElem?_eq_some_iff.1 k1).1; simp at this; omega
            rw [List.getElem?_take, if_pos hqi] at k1
            have hjq : j = q := by
              rcases Nat.lt_trichotomy j q with hlt | he | hgt
              · have := h.mono hrj k1 hlt; omega
              · exact he
              · have := h.mono k1 hrj hgt; omega
            subst hjq
            exact hready j hv
          · cases hv
      · rcases hpair j rj (by rw [List.getElem?_take, if_pos hj]; exact hrj) with g3 | ⟨g3, _⟩
        · exact hready j g3
        · exact absurd h2 (g3 _ g2)
  · intro j y hj hy
    rw [List.getElem?_map] at hy
    cases hrj : recs[j]? with
    | none => rw [hrj] at hy; simp at hy
    | some rj =>
      rw [hrj] at hy
      simp at hy
      by_cases hji : j = i
      · rw [hji]; exact hEi
      have hij : i < j := by omega
      have hm := h.mono hri hrj hij
      rcases wr_some hy with ⟨g1, g2, _⟩ | ⟨g1, g2, _⟩
      · omega
      · obtain ⟨oj, ownj, sj, _, _, hfj⟩ := h.op hrj
        rcases hfj.how with ⟨_, _, hu', _⟩ | ⟨_, _, _, _, hpj, _⟩
        · rw [hu'] at g2; simp at g2
        · rcases hpj i r (by rw [List.getElem?_take, if_pos hij]; exact hri) with g3 | ⟨_, g3⟩
          · cases hE : E j with
            | false => rfl
            | true =>
              have := hdown j hE i g3
              rw [hEi] at this; cases this
          · exact absurd h2 (g3 _ g2)

/-- What operation i writes, nobody behind it has written yet. -/
theorem later_writes (h : Known P ops s0 s' recs) {E : Nat → Bool} (hdown : ∀ k, E k = true → ∀ j, bit ops k j = true → E j = true) {i : Nat} {r : Rec} (hri : recs[i]? = some r) (hEi : E i = false) {x : Nat} {y : Row} (hy : wr x r = some y) {j : Nat} {z : Row} (hj : i < j) (hz : (recs.map (wr x))[j]? = some (some z)) : E j = false := by
  rw [List.getElem?_map] at hz
  cases hrj : recs[j]? with
  | none => rw [hrj] at hz; simp at hz
  | some rj =>
    rw [hrj] at hz
    simp at hz
    have hm := h.mono hri hrj hj
    rcases wr_some hz with ⟨g1, g2, _⟩ | ⟨g1, g2, _⟩
    · rcases wr_some hy with ⟨k1, k2, _⟩ | ⟨k1, _⟩ <;> omega
    · have hbit : bit ops j i = true := by
        obtain ⟨oj, own, s1, e1, hat, hf⟩ := h.op hrj
        rcases hf.how with ⟨_, _, hu', _⟩ | ⟨_, _, hview, hupd, hpair, _⟩
        · rw [hu'] at g2; simp at g2
        · have hxv := (hupd _ g2).1
          rcases wr_some hy with ⟨k1, k2, _⟩ | ⟨k1, k2, _⟩
          · have hv := hview x hxv
            unfold refIn at hv
            rw [Bool.or_eq_true] at hv
            rcases hv with hv | hv
            · have : x < s0.H.length := by simpa using hv
              have := h.bases hri
              omega
            · split at hv
              · rename_i q hq1
                obtain ⟨rq, c1, c2, c3⟩ := hat.own _ q hq1
                have hqj : q < j := by have := (List.getElem?_eq_some_iff.1 c1).1; simp at this; omega
                rw [List.getElem?_take, if_pos hqj] at c1
                have := h.bases hri
                have hiq : i = q := by
                  rcases Nat.lt_trichotomy i q with hlt' | he | hgt
                  · have := h.mono hri c1 hlt'; omega
                  · exact he
                  · have := h.mono c1 hri hgt; omega
                subst hiq
                exact hv
              · cases hv
          · rcases hpair i r (by rw [List.getElem?_take, if_pos hj]; exact hri) with g3 | ⟨g3, _⟩
            · exact g3
            · exact absurd hxv (g3 (x, y) k2)
      cases hE : E j with
      | false => rfl
      | true =>
        have := hdown j hE i hbit
        rw [hEi] at this; cases this

def ins (E : Nat → Bool) (i : Nat) : Nat → Bool := fun k => if k = i then true else E k
theorem ins_self {E : Nat → Bool} {i : Nat} : ins E i i = true := if_pos rfl
theorem ins_ne {E : Nat → Bool} {i k : Nat} (h : k ≠ i) : ins E i k = E k := if_neg h
theorem ins_up {E : Nat → Bool} {i k : Nat} (h : E k = true) : ins E i k = true := by unfold ins; split <;> simp [*]

theorem RealE.up {E : Nat → Bool} {i r : Nat} (h : RealE s0 recs E r) : RealE s0 recs (ins E i) r := by
  rcases h with h | ⟨k, rc, h1, h2⟩
  · exact .inl h
  · exact .inr ⟨k, rc, ins_up h1, h2⟩

theorem rowsE_none {E : Nat → Bool} {i x : Nat} {r : Rec} (hri : recs[i]? = some r) (hw : wr x r = none) : rowsE s0 recs (ins E i) x = rowsE s0 recs E x := by
  unfold rowsE
  refine cont_congr (fun j y hy => ?_)
  rw [Nat.zero_add]
  by_cases hj : j = i
  · subst hj
    rw [List.getElem?_map, hri] at hy
    simp [hw] at hy
  · exact ins_ne hj

/-- The slots that operation i sees. -/
theorem seen_slot (h : Known P ops s0 s' recs) {E : Nat → Bool} {i : Nat} {o : Oper} {own : List Nat} {s1 : St} (ho : ops.toList[i]? = some o) (hat : At s0.H.length s0 (ops.toList.take i) (recs.take i) own s1) (hready : ∀ j, bit ops i j = true → E j = true) (hdown : ∀ k, E k = true → ∀ j, bit ops k j = true → E j = true) (hEi : E i = false) {t : Nat} (ht : t ∈ tmpsOf ops.toList o) (htl : t < s0.ts.length) : s1.ts[t]? = slotE ops s0 recs E t := by
  obtain ⟨hb, hd⟩ := drawOk_spec h.draw ho
  have hz : ((ops.toList.take i).zip (recs.take i)).map (sw t) = ((ops.toList.zip recs).map (sw t)).take i := by
    rw [← List.map_take]; simp only [List.zip, List.take_zipWith]
  have key : ∀ j y, ((ops.toList.zip recs).map (sw t))[j]? = some (some y) → bit ops i j = true ∨ (i ≤ j ∧ E j = false) := by
    intro j y hy
    rw [List.getElem?_map] at hy
    cases hp : (ops.toList.zip recs)[j]? with
    | none => rw [hp] at hy; simp at hy
    | some p =>
      rw [hp] at hy
      rw [List.getElem?_zip_eq_some] at hp
      simp [sw] at hy
      rcases (hd j p.1 t hp.1 hy.1).1 ht with h1 | h1 | h1
      · exact .inl h1
      · refine .inr ⟨?_, ?_⟩
        · have h2 := Nat.ge_two_pow_of_testBit h1
          have h3 := (drawOk_spec h.draw hp.1).1
          rcases Nat.lt_or_ge j i with h4 | h4
          · have : 2 ^ j ≤ 2 ^ i := Nat.pow_le_pow_right (by omega) (Nat.le_of_lt h4)
            omega
          · exact h4
        · cases hE : E j with
          | false => rfl
          | true => have := hdown j hE i h1; rw [hEi] at this; cases this
      · subst h1; exact .inr ⟨Nat.le_refl _, hEi⟩
  rw [hat.slots t htl, hz]
  unfold slotE
  refine (cont_pre (i := i) ?_ ?_).symm
  · intro j y hj hy
    rcases key j y hy with h1 | ⟨h1, _⟩
    · exact hready j h1
    · omega
  · intro j y hj hy
    rcases key j y hy with h1 | ⟨_, h1⟩
    · have h2 := Nat.ge_two_pow_of_testBit h1
      have h3 : 2 ^ i ≤ 2 ^ j := Nat.pow_le_pow_right (by omega) hj
      omega
    · exact h1

theorem slotE_none {E : Nat → Bool} {i t : Nat} {o : Oper} (ho : ops.toList[i]? = some o) (hd : o.dst ≠ some t) : slotE ops s0 recs (ins E i) t = slotE ops s0 recs E t := by
  unfold slotE
  refine cont_congr (fun j y hy => ?_)
  rw [Nat.zero_add]
  by_cases hj : j = i
  · subst hj
    rw [List.getElem?_map] at hy
    cases hp : (ops.toList.zip recs)[j]? with
    | none => rw [hp] at hy; simp at hy
    | some p =>
      rw [hp] at hy
      rw [List.getElem?_zip_eq_some] at hp
      rw [ho] at hp
      simp [sw] at hy
      have e := hp.1
      injection e with e
      rw [← e] at hy
      exact absurd hy.1 hd
  · exact ins_ne hj

theorem slotE_hit (h : Known P ops s0 s' recs) {E : Nat → Bool} {i t : Nat} {o : Oper} {r : Rec} (ho : ops.toList[i]? = some o) (hri : recs[i]? = some r) (hd : o.dst = some t) : slotE ops s0 recs (ins E i) t = some r.res := by
  obtain ⟨_, hdr⟩ := drawOk_spec h.draw ho
  unfold slotE
  refine cont_hit (i := i) ?_ ins_self ?_
  · rw [List.getElem?_map]
    have : (ops.toList.zip recs)[i]? = some (o, r) := List.getElem?_zip_eq_some.2 ⟨ho, hri⟩
    rw [this]
    simp [sw, hd]
  · intro j y hj hy
    exfalso
    rw [List.getElem?_map] at hy
    cases hp : (ops.toList.zip recs)[j]? with
    | none => rw [hp] at hy; simp at hy
    | some p =>
      rw [hp] at hy
      rw [List.getElem?_zip_eq_some] at hp
      simp [sw] at hy
      rcases (hdr j p.1 t hp.1 hy.1).2 with e | e
      · omega
      · exact e hd

theorem put_get {a : Act} {dst : Option Tmp} {v u : Value} {t : Nat} (h : (a.put dst v).tmps[t]? = some u) : (dst = some t ∧ u = v) ∨ (dst ≠ some t ∧ a.tmps[t]? = some u) := by
  cases dst with
  | none => exact .inr ⟨by simp, h⟩
  | some d =>
    simp only [Act.put, Array.getElem?_setIfInBounds] at h
    by_cases e : d = t
    · rw [if_pos e] at h
      split at h
      · injection h with h; exact .inl ⟨by rw [e], h.symm⟩
      · cases h
    · rw [if_neg e] at h
      exact .inr ⟨fun e' => e (by injection e'), h⟩
theorem put_size {a : Act} {dst : Option Tmp} {v : Value} : (a.put dst v).tmps.size = a.tmps.size := by cases dst <;> simp [Act.put]

/-- One operation more. -/
theorem sch_next (h : Known P ops s0 s' recs) {ws w : World} {φs φ : Nat → Nat × Nat} {E : Nat → Bool} {a : Act} (hs : Sch P X ops s0 s' recs ws φs E a w φ) {i : Nat} {o : Oper} (ho : ops.toList[i]? = some o) (hEi : E i = false) (hready : ∀ j, bit ops i j = true → E j = true) {Q : Exit → Act → World → Prop} {K : Act → World → Prop}
    (hK : ∀ a' w' φ', Sch P X ops s0 s' recs ws φs (ins E i) a' w' φ' → K a' w') : wpOp P ops Q i K a w := by
  obtain ⟨r, own, s1, hri, hat, hf⟩ := h.fact i o ho
  have ho' : ops[i]? = some o := by simpa using ho
  have hdown' : ∀ k, ins E i k = true → ∀ j, bit ops k j = true → ins E i j = true := by
    intro k hk j hj
    by_cases hki : k = i
    · subst hki; exact ins_up (hready j hj)
    · rw [ins_ne hki] at hk; exact ins_up (hs.down k hk j hj)
  have hbase := h.bases hri
  have hN : (heapE s0 s' recs E).length = s'.H.length := heapE_len
  -- what is looked at
  have mrs : ∀ (p : Nat → Bool), (∀ t, p t = true → t ∈ tmpsOf ops.toList o) → Rs P w φ (Av X φ (heapE s0 s' recs E)) s'.H.length (maskT p s1.ts) a.tmps.toList := by
    intro p hp
    refine ⟨by have := hs.tsz; have := hat.tlen; simp [maskT]; omega, fun t d u hd hu => ?_⟩
    rw [maskT_get] at hd
    cases hx : s1.ts[t]? with
    | none => rw [hx] at hd; simp at hd
    | some x =>
      rw [hx] at hd
      simp at hd
      subst hd
      split
      · rename_i hpt
        have htl : t < s0.ts.length := by rw [← hat.tlen]; exact (List.getElem?_eq_some_iff.1 hx).1
        have := seen_slot h (E := E) ho hat hready hs.down hEi (hp t hpt) htl
        rw [hx] at this
        exact (hs.slots t x u this.symm (by simpa using hu)).1
      · exact .junk
  have hwd : wantedD ops.toList (maskT (fun t => (tmpsOf ops.toList o).contains t) s1.ts) o = wantedD ops.toList s1.ts o := wanted_mask (fun t ht => by simpa using ht)
  unfold wpOp
  rw [ho']
  dsimp only
  rcases hf.how with ⟨hw, hres, hupd, hnews, _⟩ | ⟨hw, hstep, hview, hupdv, hpair, hin, heff⟩
  · have hwant := wanted_ok (mrs (fun t => (tmpsOf ops.toList o).contains t) (fun t ht => by simpa using ht)) (ops := ops) (hwd.trans hw)
    rw [hwant, if_neg (by simp)]
    have hrows : ∀ x, rowsE s0 recs (ins E i) x = rowsE s0 recs E x := fun x => rowsE_none hri (by unfold wr; rw [hnews, hupd]; split <;> simp [lastU])
    have hheap : heapE s0 s' recs (ins E i) = heapE s0 s' recs E := by unfold heapE; simp only [hrows]
    refine hK _ w φ ⟨hdown', by rw [hheap]; exact hs.heap, fun x row hx => ?_, by rw [put_size]; exact hs.tsz, fun t d u hd hu => ?_, by rw [put_defers]; exact hs.defers, hs.same, hs.keep, by rw [hheap]; exact hs.fresh⟩
    · rw [hrows] at hx
      exact (hs.low x row hx).mono (fun r hr => hr.up)
    · rw [hheap]
      rcases put_get hu with ⟨hdst, rfl⟩ | ⟨hdst, hu'⟩
      · rw [slotE_hit h ho hri hdst] at hd
        injection hd with hd
        subst hd
        rw [hres]
        exact ⟨R.undef, low_of_refs (fun r hr => by simp [D.undef, D.refs, D.refs.go] at hr)⟩
      · rw [slotE_none ho hdst] at hd
        obtain ⟨g1, g2⟩ := hs.slots t d u hd hu'
        exact ⟨g1, g2.mono (fun r hr => hr.up)⟩
  · have hwant := wanted_ok (mrs (fun t => (tmpsOf ops.toList o).contains t) (fun t ht => by simpa using ht)) (ops := ops) (hwd.trans hw)
    rw [hwant, if_pos rfl]
    refine .inl ?_
    -- the rows that it sees
    obtain ⟨M, hMdef⟩ : ∃ M, M = maskV r.view s1.H := ⟨_, rfl⟩
    have hMl : M.length = s1.H.length := by rw [hMdef]; exact maskV_len
    rw [← hMdef] at hstep hin
    have hMbase : M.length = r.base := by rw [hMl, hf.base]
    have hrefin : ∀ q, refIn s0.H.length own ((Region.before ops).toList.getD i 0) q = true → RealE s0 recs E q ∧ q < M.length := by
      intro q hq
      unfold refIn at hq
      rw [Bool.or_eq_true] at hq
      rcases hq with hq | hq
      · have hq' : q < s0.H.length := by simpa using hq
        exact ⟨.inl hq', by omega⟩
      · by_cases hq0 : q < s0.H.length
        · exact ⟨.inl hq0, by omega⟩
        split at hq
        · rename_i k hk
          obtain ⟨rk, g1, g2, g3⟩ := hat.own _ k hk
          have hki : k < i := by have := (List.getElem?_eq_some_iff.1 g1).1; simp at this; omega
          rw [List.getElem?_take, if_pos hki] at g1
          have := h.mono g1 hri hki
          exact ⟨.inr ⟨k, rk, hready k hq, g1, by omega, by omega⟩, by omega⟩
        · cases hq
    have hsub : ∀ (x : Nat) (row : Row), M[x]? = some row → row = .dead ∨ ((heapE s0 s' recs E)[x]? = some row ∧ RowLow (fun q => RealE s0 recs E q ∧ q < M.length) row) := by
      intro x row hx
      have hx' := hx
      rw [hMdef] at hx'
      rcases seen_row h hs.down hri hat hf.base hEi hready hview hpair hx' with hd | hd
      · exact .inl hd
      · refine .inr ⟨heapE_get h hd, rowLow_of_refs (fun q hq => hrefin q ?_)⟩
        unfold inOk at hin
        rw [Bool.and_eq_true] at hin
        have := List.all_eq_true.1 hin.2 row (List.mem_of_getElem? hx)
        exact List.all_eq_true.1 this q hq
    have hpart := hs.heap.part (S := fun q => RealE s0 recs E q ∧ q < M.length) (fun q hq => hq.2) hsub
    have hsub' : ∀ (x : Nat) (row : Row), M[x]? = some row → row = .dead ∨ (heapE s0 s' recs E)[x]? = some row := fun x row hx => (hsub x row hx).imp id And.left
    have avM : ∀ b, Av (Rest X φ (heapE s0 s' recs E) M) φ M b → Av X φ (heapE s0 s' recs E) b := by
      rintro b ((hx | ⟨x, row, hx, hl, _, rfl⟩) | ⟨x, row, hx, hl, rfl⟩)
      · exact .inl hx
      · exact .inr ⟨x, row, hx, hl, rfl⟩
      · rcases hsub' x row hx with rfl | h1
        · simp [Row.live] at hl
        · exact .inr ⟨x, row, h1, hl, rfl⟩
    -- the operands
    let isOp : Nat → Bool := fun t => o.op.operands.toList.any fun x => match x with | .tmp q => q == t | _ => false
    have isOp_of : ∀ t, (Operand.tmp t) ∈ o.op.operands → isOp t = true := fun t ht => List.any_eq_true.2 ⟨.tmp t, by simpa using ht, by simp⟩
    have of_isOp : ∀ t, isOp t = true → (Operand.tmp t) ∈ o.op.operands := by
      intro t ht
      obtain ⟨x, hx, hx2⟩ := List.any_eq_true.1 ht
      cases x with
      | tmp q => simp at hx2; subst hx2; simpa using hx
      | _ => simp at hx2
    have hcong : ∀ x ∈ o.op.operands, eval (maskT isOp s1.ts) x = eval s1.ts x := by
      refine fun x hx => eval_mask (fun t ht => ?_)
      subst ht
      exact isOp_of t hx
    have hrs : Rs P w φ (Av (Rest X φ (heapE s0 s' recs E) M) φ M) M.length (maskT isOp s1.ts) a.tmps.toList := by
      have h1 := mrs isOp (fun t ht => by
        unfold tmpsOf
        refine List.mem_append.2 (.inl (List.mem_filterMap.2 ⟨.tmp t, by simpa using of_isOp t ht, rfl⟩)))
      refine ⟨h1.1, fun t d u hd hu => ?_⟩
      have h2 := h1.2 t d u hd hu
      rw [maskT_get] at hd
      cases hx : s1.ts[t]? with
      | none => rw [hx] at hd; simp at hd
      | some x =>
        rw [hx] at hd
        simp at hd
        subst hd
        by_cases hp : isOp t = true
        · rw [if_pos hp] at h2 ⊢
          refine h2.lower (S := fun q => RealE s0 recs E q ∧ q < M.length) (fun q hq => ⟨rfl, hq.2⟩) avM (low_of_refs (fun q hq => hrefin q ?_))
          unfold inOk at hin
          rw [Bool.and_eq_true] at hin
          have h3 := List.all_eq_true.1 hin.1 (.tmp t) (by simpa using of_isOp t hp)
          have e1 : eval s1.ts (.tmp t) = x := by simp [eval, List.getD, hx]
          rw [e1] at h3
          exact List.all_eq_true.1 h3 q hq
        · rw [if_neg hp]; exact .junk
    refine hstep _ hcong w φ _ a hpart hrs K Q (fun v w' hl => ?_)
    obtain ⟨φ1, post⟩ := hl
    -- the heap behind it
    have hNn : M.length + r.news.length ≤ (heapE s0 s' recs E).length := by rw [hN, hMbase]; exact hbase.2
    have hreal : ∀ q, RealE s0 recs E q → q < (heapE s0 s' recs E).length ∧ ¬ (M.length ≤ q ∧ q < M.length + r.news.length) := by
      rintro q (hq | ⟨k, rk, hEk, hrk, hq1, hq2⟩)
      · exact ⟨by rw [hN]; omega, by omega⟩
      · have hbk := h.bases hrk
        refine ⟨by rw [hN]; omega, fun hc => ?_⟩
        have hki : k ≠ i := fun e => by rw [e, hEi] at hEk; cases hEk
        rcases Nat.lt_or_gt_of_ne hki with hlt | hgt
        · have := h.mono hrk hri hlt; omega
        · have := h.mono hri hrk hgt; omega
    have hel : (Eff.heap ⟨r.res, r.upd, r.news⟩ M).length = M.length + r.news.length := heap_length _ _
    have hrow : ∀ (x : Nat) (row : Row), (heapE s0 s' recs (ins E i))[x]? = some row → row = .dead ∨ (Eff.heap ⟨r.res, r.upd, r.news⟩ M)[x]? = some row ∨ ((heapE s0 s' recs E)[x]? = some row ∧ M[x]? ≠ some row ∧ RowLow (RealE s0 recs E) row ∧ ¬ (M.length ≤ x ∧ x < M.length + r.news.length)) := by
      intro x row hx
      obtain ⟨hxl, hx'⟩ := heapE_of hx
      rcases hx' with hd | hx'
      · exact .inl hd
      cases hwx : wr x r with
      | some y =>
        have hhit : rowsE s0 recs (ins E i) x = some y := by
          unfold rowsE
          refine cont_hit (i := i) (by rw [List.getElem?_map, hri]; simp [hwx]) ins_self (fun j z hj hz => ?_)
          rw [ins_ne (by omega)]
          exact later_writes h hs.down hri hEi hwx hj hz
        rw [hhit] at hx'
        injection hx' with hx'
        subst hx'
        refine .inr (.inl ?_)
        unfold Eff.heap
        dsimp only
        rcases wr_some hwx with ⟨g1, g2, g3⟩ | ⟨g1, g2, g3⟩
        · rw [List.getElem?_append_right (by rw [applyUpd_length, hMbase]; exact g1), applyUpd_length, hMbase]
          exact g3
        · rw [List.getElem?_append_left (by rw [applyUpd_length, hMbase]; exact g1), applyUpd_get _ _ _ (by rw [hMbase]; exact g1), g3]
          rfl
      | none =>
        rw [rowsE_none hri hwx] at hx'
        by_cases hMx : M[x]? = some row
        · have hxM : x < M.length := (List.getElem?_eq_some_iff.1 hMx).1
          refine .inr (.inl ?_)
          unfold Eff.heap
          dsimp only
          have hlu : lastU r.upd x = none := by
            unfold wr at hwx
            rw [if_neg (by omega)] at hwx
            exact hwx
          rw [List.getElem?_append_left (by rw [applyUpd_length]; exact hxM), applyUpd_get _ _ _ hxM, hlu]
          exact hMx
        · refine .inr (.inr ⟨heapE_get h hx', hMx, hs.low x row hx', fun hc => ?_⟩)
          unfold wr at hwx
          rw [if_pos (by omega)] at hwx
          have := List.getElem?_eq_none_iff.1 hwx
          omega
    obtain ⟨m1, m2, m3, m4, m5⟩ := hs.heap.merge (S := fun _ => True) hpart hsub' post (by rw [heapE_len, heapE_len]) hNn hreal hrow
    have liveM : ∀ b, Live φ M b → Live φ (heapE s0 s' recs E) b := by
      rintro b ⟨x, row, hx, hl, rfl⟩
      rcases hsub' x row hx with rfl | h1
      · simp [Row.live] at hl
      · exact ⟨x, row, h1, hl, rfl⟩
    -- what it may name
    have hrefeff : ∀ q, refOk s0.H.length own ((Region.before ops).toList.getD i 0) s1.H.length q = true → q < M.length + r.news.length → RealE s0 recs (ins E i) q := by
      intro q hq hlt
      by_cases hqb : M.length ≤ q
      · exact .inr ⟨i, r, ins_self, hri, by omega, by omega⟩
      · unfold refOk at hq
        rw [Bool.or_eq_true, Bool.or_eq_true] at hq
        rcases hq with (hq | hq) | hq
        · exact .inl (by simpa using hq)
        · have : s1.H.length ≤ q := by simpa using hq
          omega
        · refine (hrefin q ?_).1.up
          unfold refIn
          rw [hq]; simp
    unfold effOk at heff
    rw [Bool.and_eq_true, Bool.and_eq_true] at heff
    obtain ⟨⟨he1, he2⟩, he3⟩ := heff
    have hlowd : ∀ d, (∀ q ∈ d.refs, refOk s0.H.length own ((Region.before ops).toList.getD i 0) s1.H.length q = true) → Low (fun q => q < M.length + r.news.length) d → Low (RealE s0 recs (ins E i)) d := by
      intro d h1 h2
      exact ((low_of_refs (S := fun q => refOk s0.H.length own ((Region.before ops).toList.getD i 0) s1.H.length q = true) h1).and h2).mono (fun q hq => hrefeff q hq.1 hq.2)
    have eq1 : ∀ q, q < M.length + r.news.length → mix φ φ1 M.length r.news.length q = φ1 q := by
      intro q hq
      unfold mix
      by_cases hb : M.length ≤ q
      · rw [if_pos ⟨hb, hq⟩]
      · rw [if_neg (fun h => hb h.1), post.same q (by omega)]
    refine hK _ w' (mix φ φ1 M.length r.news.length) ⟨hdown', m1, fun x row hx => ?_, by rw [put_size]; exact hs.tsz, fun t d u hd hu => ?_, by rw [put_defers]; exact hs.defers, fun q hq => ?_, hs.keep.trans m2 (fun b hb hl => ?_), fun b hb => ?_⟩
    · cases hwx : wr x r with
      | some y =>
        have hhit : rowsE s0 recs (ins E i) x = some y := by
          unfold rowsE
          refine cont_hit (i := i) (by rw [List.getElem?_map, hri]; simp [hwx]) ins_self (fun j z hj hz => ?_)
          rw [ins_ne (by omega)]
          exact later_writes h hs.down hri hEi hwx hj hz
        rw [hhit] at hx
        injection hx with hx
        subst hx
        have hy : (Eff.heap ⟨r.res, r.upd, r.news⟩ M)[x]? = some y := by
          unfold Eff.heap
          dsimp only
          rcases wr_some hwx with ⟨g1, g2, g3⟩ | ⟨g1, g2, g3⟩
          · rw [List.getElem?_append_right (by rw [applyUpd_length, hMbase]; exact g1), applyUpd_length, hMbase]
            exact g3
          · rw [List.getElem?_append_left (by rw [applyUpd_length, hMbase]; exact g1), applyUpd_get _ _ _ (by rw [hMbase]; exact g1), g3]
            rfl
        have hlow := (post.heap.rows x y hy).isLow
        rw [hel] at hlow
        have href : ∀ q ∈ y.refs, refOk s0.H.length own ((Region.before ops).toList.getD i 0) s1.H.length q = true := by
          rcases wr_some hwx with ⟨g1, g2, g3⟩ | ⟨g1, g2, g3⟩
          · exact fun q hq => List.all_eq_true.1 (List.all_eq_true.1 he3 y (List.mem_of_getElem? g3)) q hq
          · exact fun q hq => List.all_eq_true.1 (List.all_eq_true.1 he2 (x, y) g2) q hq
        exact ((rowLow_of_refs (S := fun q => refOk s0.H.length own ((Region.before ops).toList.getD i 0) s1.H.length q = true) href).and hlow).mono (fun q hq => hrefeff q hq.1 hq.2)
      | none =>
        rw [rowsE_none hri hwx] at hx
        exact (hs.low x row hx).mono (fun q hq => hq.up)
    · rcases put_get hu with ⟨hdst, rfl⟩ | ⟨hdst, hu'⟩
      · rw [slotE_hit h ho hri hdst] at hd
        injection hd with hd
        subst hd
        have hr := post.res
        have hlow := hr.isLow
        rw [hel] at hlow
        refine ⟨hr.lower (S := fun q => q < M.length + r.news.length) (fun q hq => ⟨eq1 q hq, by rw [hN] at hNn; omega⟩) m5 hlow, hlowd _ (fun q hq => List.all_eq_true.1 he1 q hq) hlow⟩
      · rw [slotE_none ho hdst] at hd
        obtain ⟨g1, g2⟩ := hs.slots t d u hd hu'
        have g3 := g1.keep (φ' := φ) (N' := s'.H.length) (A' := Av X (mix φ φ1 M.length r.news.length) (heapE s0 s' recs (ins E i))) post.keep (fun b hb => .inr (liveM b hb)) m4 (fun _ _ => rfl) (Nat.le_refl _)
        refine ⟨g3.lower (S := RealE s0 recs E) (fun q hq => ⟨if_neg (hreal q hq).2, by have := (hreal q hq).1; rw [hN] at this; exact this⟩) (fun _ h => h) g2, g2.mono (fun q hq => hq.up)⟩
    · have : mix φ φ1 M.length r.news.length q = φ q := if_neg (by omega)
      rw [this]
      exact hs.same q hq
    · rcases hs.fresh b hl with h1 | h1
      · exact h1
      · omega
    · rcases m3 b hb with h1 | h1
      · exact hs.fresh b h1
      · exact .inr (Nat.le_trans hs.keep.size h1)

theorem countP_lt {p p' : Nat → Bool} : ∀ {l : List Nat} {i : Nat}, (∀ x ∈ l, p' x = true → p x = true) → i ∈ l → p i = true → p' i = false → l.countP p' < l.countP p
  | y :: l, i, hm, hi, h1, h2 => by
    have hrest : l.countP p' ≤ l.countP p := List.countP_mono_left (fun x hx => hm x (List.mem_cons_of_mem _ hx))
    rcases List.mem_cons.1 hi with rfl | hi
    · rw [List.countP_cons, List.countP_cons, h1, h2]; simp; omega
    · have ih := countP_lt (fun x hx => hm x (List.mem_cons_of_mem _ hx)) hi h1 h2
      rw [List.countP_cons, List.countP_cons]
      have := hm y List.mem_cons_self
      cases hp' : p' y with
      | false => simp; omega
      | true => rw [this hp']; simp; omega

theorem mem_ready' {listed : Array Bool} (hl : listed.size = ops.size) {i : Nat} : i ∈ Region.ready .any ops listed ↔ ∃ o, ops.toList[i]? = some o ∧ listed.getD i false = false ∧ ∀ e ∈ o.after, Region.binds .any e = true → listed.getD e.on false = true := by
  unfold Region.ready
  rw [List.mem_filter, List.mem_range]
  constructor
  · rintro ⟨h1, h2⟩
    rw [Bool.and_eq_true, Bool.not_eq_true'] at h2
    have ho : ops[i]? = some ops[i] := Array.getElem?_eq_getElem h1
    refine ⟨ops[i], by simp [h1], ?_, fun e he hb => ?_⟩
    · have := h2.1
      rw [Array.getD_eq_getD_getElem?, Array.getElem?_eq_getElem (by omega)] at this ⊢
      simpa using this
    · have h3 := h2.2
      rw [ho] at h3
      simp only [Option.map_some, Option.getD_some] at h3
      have h4 := Array.all_eq_true_iff_forall_mem.1 h3 e he
      rw [hb] at h4
      simpa using h4
  · rintro ⟨o, ho, h1, h2⟩
    have hlt : i < ops.size := by have := (List.getElem?_eq_some_iff.1 ho).1; simpa using this
    have ho' : ops[i]? = some o := by simpa using ho
    refine ⟨hlt, ?_⟩
    rw [Bool.and_eq_true, Bool.not_eq_true']
    refine ⟨?_, ?_⟩
    · rw [Array.getD_eq_getD_getElem?, Array.getElem?_eq_getElem (by omega)] at h1 ⊢
      simpa using h1
    · rw [ho']
      simp only [Option.map_some, Option.getD_some]
      refine Array.all_eq_true_iff_forall_mem.2 (fun e he => ?_)
      cases hb : Region.binds .any e with
      | false => simp
      | true => simp [h2 e he hb]

theorem bit_spec {i : Nat} {o : Oper} (ho : ops.toList[i]? = some o) : (∀ j, bit ops i j = true → ∃ e ∈ o.after, Region.binds .any e = true ∧ (e.on = j ∨ bit ops e.on j = true)) ∧ ∀ e ∈ o.after, Region.binds .any e = true → bit ops i e.on = true := by
  obtain ⟨_, h2, h3⟩ := beforeL_spec ops.toList
  have e1 : ∀ k, (Region.before ops).toList.getD k 0 = (beforeL ops.toList).getD k 0 := by
    intro k
    rw [before_eq, List.getD, Array.getD_eq_getD_getElem?, Array.getElem?_toList]
  unfold bit
  simp only [e1]
  exact ⟨fun j hj => h2 i o j ho hj, fun e he hb => h3 i o e ho he hb⟩

theorem sch_any (h : Known P ops s0 s' recs) {ws : World} {φs : Nat → Nat × Nat} {Q : Exit → Act → World → Prop} (hQ : ∀ a w φ, Sch P X ops s0 s' recs ws φs (fun k => decide (k < ops.size)) a w φ → Q .normal a w) :
    ∀ (fuel : Nat) (listed : Array Bool) (a : Act) (w : World) (φ : Nat → Nat × Nat), listed.size = ops.size → (List.range ops.size).countP (fun k => !listed.getD k false) ≤ fuel → Sch P X ops s0 s' recs ws φs (fun k => listed.getD k false) a w φ → wpAny P .any ops Q fuel listed a w := by
  have done : ∀ (listed : Array Bool) (a : Act) (w : World) (φ : Nat → Nat × Nat), listed.size = ops.size → Sch P X ops s0 s' recs ws φs (fun k => listed.getD k false) a w φ → Region.ready .any ops listed = [] → Q .normal a w := by
    intro listed a w φ hl hs hr
    have hall : ∀ k, k < ops.size → listed.getD k false = true := by
      intro k
      induction k using Nat.strongRecOn with
      | _ k ih =>
        intro hk
        cases hb : listed.getD k false with
        | true => rfl
        | false =>
          exfalso
          have ho : ops.toList[k]? = some ops[k] := by simp [hk]
          have hmem : k ∈ Region.ready .any ops listed := (mem_ready' hl).2 ⟨ops[k], ho, hb, fun e he hbe => by
            have h1 := (bit_spec ho).2 e he hbe
            have h2 := Nat.ge_two_pow_of_testBit h1
            have h3 := (drawOk_spec h.draw ho).1
            have hek : e.on < k := by
              rcases Nat.lt_or_ge e.on k with h4 | h4
              · exact h4
              · have : 2 ^ k ≤ 2 ^ e.on := Nat.pow_le_pow_right (by omega) h4
                omega
            exact ih e.on hek (by omega)⟩
          rw [hr] at hmem
          cases hmem
    refine hQ a w φ ?_
    have e1 : (fun k => listed.getD k false) = fun k => decide (k < ops.size) := by
      funext k
      by_cases hk : k < ops.size
      · rw [hall k hk]; simp [hk]
      · rw [Array.getD_eq_getD_getElem?, Array.getElem?_eq_none (by omega)]
        simp [hk]
    rw [← e1]
    exact hs
  intro fuel
  induction fuel with
  | zero =>
    intro listed a w φ hl hc hs
    have hr : Region.ready .any ops listed = [] := by
      cases hr : Region.ready .any ops listed with
      | nil => rfl
      | cons i l =>
        have hi : i ∈ Region.ready .any ops listed := by rw [hr]; exact List.mem_cons_self
        obtain ⟨o, ho, hb, _⟩ := (mem_ready' hl).1 hi
        have hlt : i < ops.size := by have := (List.getElem?_eq_some_iff.1 ho).1; simpa using this
        have : 0 < (List.range ops.size).countP (fun k => !listed.getD k false) := List.countP_pos_iff.2 ⟨i, by simpa using hlt, by rw [hb]; rfl⟩
        omega
    exact ⟨hr, done listed a w φ hl hs hr⟩
  | succ fuel ih =>
    intro listed a w φ hl hc hs
    refine ⟨fun hr => done listed a w φ hl hs hr, fun i hi => ?_⟩
    obtain ⟨o, ho, hb, he⟩ := (mem_ready' hl).1 hi
    have hlt : i < ops.size := by have := (List.getElem?_eq_some_iff.1 ho).1; simpa using this
    have hset : ∀ k, (listed.setIfInBounds i true).getD k false = ins (fun k => listed.getD k false) i k := by
      intro k
      unfold ins
      by_cases hk : k = i
      · subst hk
        rw [if_pos rfl, Array.getD_eq_getD_getElem?, Array.getElem?_setIfInBounds_self]
        simp [hl, hlt]
      · rw [if_neg hk, Array.getD_eq_getD_getElem?, Array.getElem?_setIfInBounds_ne (fun e => hk e.symm), ← Array.getD_eq_getD_getElem?]
    have hready : ∀ j, bit ops i j = true → listed.getD j false = true := by
      intro j hj
      obtain ⟨e, h1, h2, h3⟩ := (bit_spec ho).1 j hj
      have h4 := he e h1 h2
      rcases h3 with rfl | h3
      · exact h4
      · exact hs.down e.on h4 j h3
    refine sch_next h hs ho hb hready (fun a' w' φ' hs' => ih _ a' w' φ' (by simpa using hl) ?_ ?_)
    · have : (List.range ops.size).countP (fun k => !(listed.setIfInBounds i true).getD k false) < (List.range ops.size).countP (fun k => !listed.getD k false) := by
        refine countP_lt (i := i) (fun x _ hx => ?_) (by simpa using hlt) (by rw [hb]; rfl) (by rw [hset, ins_self]; rfl)
        rw [hset] at hx
        cases hx' : listed.getD x false with
        | false => rfl
        | true => rw [ins_up hx'] at hx; cases hx
      omega
    · have e1 : (fun k => (listed.setIfInBounds i true).getD k false) = ins (fun k => listed.getD k false) i := funext hset
      rw [e1]
      exact hs'

theorem tr_clean {b : List Nat} {L : List Oper} : ∀ {rest : List Oper} {i : Nat} {pre : List Rec} {own : List Nat} {s s' : St} {recs : List Rec}, Tr P L b n0 rest i pre own s recs s' → ∀ r, r < s.H.length → r ∉ s'.dirty → r ∉ s.dirty ∧ s'.H[r]? = s.H[r]? := by
  intro rest i pre own s s' recs h
  induction h with
  | nil => exact fun r _ hn => ⟨hn, rfl⟩
  | cons hf ht ih =>
    intro r hr hn
    obtain ⟨h1, h2⟩ := ih r (by simp [applyUpd_length]; omega) hn
    dsimp only at h1 h2
    rw [List.mem_append, not_or] at h1
    refine ⟨h1.2, ?_⟩
    rw [h2, List.getElem?_append_left (by rw [applyUpd_length]; exact hr), applyUpd_other _ _ r (fun p hp e => h1.1 (List.mem_map.2 ⟨p, hp, e⟩))]

theorem draw_tr (hP : Good P) {id : Nat} {Q : Exit → Act → World → Prop} {w0 w : World} {φ0 φ : Nat → Nat × Nat} {H0 : List Row} {s s' : St} {recs : List Rec} {a : Act}
    (hd : drawOk ops.toList (Region.before ops).toList = true) (htr : Tr P ops.toList (Region.before ops).toList s.H.length ops.toList 0 [] [] s recs s') (h : Run P X w0 φ0 H0 w φ s a) (hQ : ∀ a' w' φ', Run P X w0 φ0 H0 w' φ' s' a' → Q .normal a' w') : (Code.region id ops true).wp P Q a w := by
  have hat0 : At s.H.length s [] [] [] s := ⟨rfl, by simp, fun x => rfl, rfl, fun t _ => rfl, fun j q hq => by simp at hq, fun q r hq => by simp at hq, fun q r p hq => by simp at hq⟩
  obtain ⟨f1, ⟨own', f2⟩, f3⟩ := tr_facts ops.toList [] [] recs [] s s' hat0 htr
  have known : Known P ops s s' recs := ⟨hd, f1, ⟨own', by simpa using f2⟩, fun k o ho => by
    obtain ⟨r, own2, s1, g1, g2, g3⟩ := f3 k o ho
    exact ⟨r, own2, s1, g1, by simpa using g2, by simpa using g3⟩⟩
  have hfin : At s.H.length s ops.toList recs own' s' := by simpa using f2
  refine wp_region_any hP.mixed (sch_any (X := X) known (ws := w) (φs := φ) (fun a' w' φ' hs => ?_) ops.size _ a _ φ (by simp) ?_ ?_)
  · -- all is done
    have hrows : ∀ x, rowsE s recs (fun k => decide (k < ops.size)) x = s'.H[x]? := by
      intro x
      rw [hfin.rows x]
      refine cont_congr (fun j y hy => ?_)
      have h1 := (List.getElem?_eq_some_iff.1 hy).1
      simp [f1] at h1
      simp [h1]
    have hheap : heapE s s' recs (fun k => decide (k < ops.size)) = s'.H := by
      apply List.ext_getElem?
      intro x
      unfold heapE
      by_cases hx : x < s'.H.length
      · rw [List.getElem?_map, List.getElem?_range hx]
        simp [hrows, hx]
      · rw [List.getElem?_eq_none (by simp; omega), List.getElem?_eq_none (by omega)]
    have hslots : ∀ t, t < s.ts.length → slotE ops s recs (fun k => decide (k < ops.size)) t = s'.ts[t]? := by
      intro t ht
      rw [hfin.slots t ht]
      refine cont_congr (fun j y hy => ?_)
      have h1 := (List.getElem?_eq_some_iff.1 hy).1
      simp [f1] at h1
      simp [h1]
    refine hQ a' w' φ' ⟨⟨by rw [← hheap]; exact hs.heap, ⟨by have := hs.tsz; have := hfin.tlen; simp; omega, fun t d u hd' hu => ?_⟩, hs.defers⟩, h.ons.trans ⟨by have := hfin.len; omega, hs.same, hs.keep, by rw [← hheap]; exact hs.fresh⟩, h.low, fun r hr' hnd => ?_⟩
    · have ht : t < s.ts.length := by rw [← hfin.tlen]; exact (List.getElem?_eq_some_iff.1 hd').1
      have := (hs.slots t d u (by rw [hslots t ht]; exact hd') (by simpa using hu)).1
      rw [hheap] at this
      exact this
    · have hlt : r < s.H.length := Nat.lt_of_lt_of_le hr' h.ons.len
      obtain ⟨g1, g2⟩ := tr_clean htr r hlt hnd
      rw [g2]
      exact h.clean r hr' g1
  · refine Nat.le_trans List.countP_le_length ?_
    simp
  · -- nothing is done
    have hE : (fun k => (Array.replicate ops.size false).getD k false) = fun _ => false := by
      funext k
      rw [Array.getD_eq_getD_getElem?, Array.getElem?_replicate]
      split <;> rfl
    rw [hE]
    have hrows : ∀ x, rowsE s recs (fun _ => false) x = s.H[x]? := fun x => cont_none (fun _ _ _ => rfl)
    have hslots : ∀ t, slotE ops s recs (fun _ => false) t = s.ts[t]? := fun t => cont_none (fun _ _ _ => rfl)
    have hle : s.H.length ≤ s'.H.length := by have := hfin.len; omega
    have hget : ∀ (x : Nat) (row : Row), (heapE s s' recs (fun _ => false))[x]? = some row → row = .dead ∨ s.H[x]? = some row := by
      intro x row hx
      obtain ⟨_, h1⟩ := heapE_of hx
      rcases h1 with h1 | h1
      · exact .inl h1
      · rw [hrows] at h1; exact .inr h1
    have live : ∀ b, Live φ (heapE s s' recs (fun _ => false)) b → Live φ s.H b := by
      rintro b ⟨x, row, hx, hl, rfl⟩
      rcases hget x row hx with rfl | h1
      · simp [Row.live] at hl
      · exact ⟨x, row, h1, hl, rfl⟩
    have hk : Keep (Live φ s.H) w { w with drawn := w.drawn + 1 } := ⟨Nat.le_refl _, fun _ _ _ => rfl, fun b cs T fr h => ⟨cs, fr, h, rfl⟩, rfl, rfl, rfl⟩
    have av : ∀ b, Av X φ (heapE s s' recs (fun _ => false)) b → Av X φ s.H b := fun b hb => hb.imp (fun x => x) (live b)
    have hk0 : Keep (fun _ => False) w { w with drawn := w.drawn + 1 } := ⟨Nat.le_refl _, fun _ _ _ => rfl, fun b cs T fr h => ⟨cs, fr, h, rfl⟩, rfl, rfl, rfl⟩
    have hsim := h.sim
    refine ⟨fun k hk => by simp at hk, ⟨fun x row hx => ?_, fun x y r1 r2 hx hy l1 l2 e => ?_, fun x row hx hl => ?_, hsim.heap.old⟩, fun x row hx => ?_, by have := hsim.tmps.1; simpa using this, fun t d u hd' hu => ?_, hsim.defers, fun _ _ => rfl, hk, fun b hb => .inl (live b hb)⟩
    · rw [heapE_len]
      rcases hget x row hx with rfl | h1
      · trivial
      · have hok := hsim.heap.rows x row h1
        have hxl : x < s.H.length := (List.getElem?_eq_some_iff.1 h1).1
        have h2 := hok.keep (φ' := φ) (A' := Av X φ (heapE s s' recs (fun _ => false))) (N' := s'.H.length) hk0 (fun _ h => h.elim) (fun b _ hb => av b hb) (fun _ _ => rfl) hle hxl (.inr rfl)
        exact h2
    · rcases hget x r1 hx with rfl | h1
      · simp [Row.live] at l1
      rcases hget y r2 hy with rfl | h2
      · simp [Row.live] at l2
      exact hsim.heap.apart x y r1 r2 h1 h2 l1 l2 e
    · rcases hget x row hx with rfl | h1
      · simp [Row.live] at hl
      exact hsim.heap.off x row h1 hl
    · rw [hrows] at hx
      exact ((hsim.heap.rows x row hx).isLow).mono (fun r hr => .inl hr)
    · rw [hslots] at hd'
      have h1 := hsim.tmps.2 t d u hd' (by simpa using hu)
      refine ⟨?_, h1.isLow.mono (fun r hr => .inl hr)⟩
      exact h1.keep hk0 (fun _ h => h.elim) (fun b _ hb => av b hb) (fun _ _ => rfl) hle
theorem draw_ok (hP : Good P) {call : Calling} (hcall : ∀ f, Sound P f (call f)) {id : Nat} {Q : Exit → Act → World → Prop} {w0 w : World} {φ0 φ : Nat → Nat × Nat} {H0 : List Row} {s : St} {p : St × List Nat} {a : Act}
    (hd : drawOk ops.toList (Region.before ops).toList = true) (hr : runDraw P call ops.toList (Region.before ops).toList s.H.length ops.toList 0 [] [] s = some p) (h : Run P X w0 φ0 H0 w φ s a) (hQ : ∀ a' w' φ', Run P X w0 φ0 H0 w' φ' p.1 a' → Q .normal a' w') : (Code.region id ops true).wp P Q a w := by
  obtain ⟨recs, htr⟩ := tr_of_run hP hcall ops.toList 0 [] [] s p hr
  exact draw_tr hP hd htr h hQ
end

end Go.Proofs.Ytjbkckhpoicaeaa.Mir

/- The machine's runs against the model's: what is left, code, calls. -/
namespace Go.Proofs.Ytjbkckhpoicaeaa.Mir
open Go Go.RowKit

theorem applyUpd_spec : ∀ (us : List (Nat × Row)) (H : List Row) (r : Nat) (row : Row), (applyUpd H us)[r]? = some row → (r, row) ∈ us ∨ (H[r]? = some row ∧ ∀ p ∈ us, p.1 ≠ r)
  | [], H, r, row, h => .inr ⟨h, fun p hp => by simp at hp⟩
  | (i, x) :: us, H, r, row, h => by
    rcases applyUpd_spec us (H.set i x) r row h with h1 | ⟨h1, h2⟩
    · exact .inl (List.mem_cons_of_mem _ h1)
    · rw [List.getElem?_set] at h1
      split at h1
      · rename_i e
        split at h1
        · injection h1 with h1
          subst e; subst h1
          exact .inl List.mem_cons_self
        · cases h1
      · rename_i e
        exact .inr ⟨h1, fun p hp => by
          rcases List.mem_cons.1 hp with rfl | hp
          · exact e
          · exact h2 p hp⟩

theorem renUpd_spec {n0 : Nat} {seen : List Nat} {H : List Row} : ∀ {l : List Nat} {us : List (Nat × Row)}, renUpd n0 seen H l = some us →
    (∀ i x, (i, x) ∈ us → i < n0 ∧ i ∈ l ∧ ∃ row, H[i]? = some row ∧ renRow n0 seen row = some x) ∧ ∀ i, i ∈ l → i < n0 → ∃ x, (i, x) ∈ us
  | [], us, h => by simp [renUpd] at h; subst h; exact ⟨fun i x h => by simp at h, fun i h => by simp at h⟩
  | j :: l, us, h => by
    simp only [renUpd] at h
    split at h
    · rename_i hj
      split at h
      · rename_i row hrow
        split at h
        · rename_i x xs hx hxs
          injection h with h
          subst h
          obtain ⟨h1, h2⟩ := renUpd_spec hxs
          refine ⟨fun i y hy => ?_, fun i hi hlt => ?_⟩
          · rcases List.mem_cons.1 hy with e | hy
            · injection e with e1 e2
              subst e1; subst e2
              exact ⟨hj, List.mem_cons_self, row, hrow, hx⟩
            · obtain ⟨g1, g2, g3⟩ := h1 i y hy
              exact ⟨g1, List.mem_cons_of_mem _ g2, g3⟩
          · rcases List.mem_cons.1 hi with rfl | hi
            · exact ⟨x, List.mem_cons_self⟩
            · obtain ⟨y, hy⟩ := h2 i hi hlt
              exact ⟨y, List.mem_cons_of_mem _ hy⟩
        · cases h
      · cases h
    · rename_i hj
      obtain ⟨h1, h2⟩ := renUpd_spec h
      refine ⟨fun i y hy => ?_, fun i hi hlt => ?_⟩
      · obtain ⟨g1, g2, g3⟩ := h1 i y hy
        exact ⟨g1, List.mem_cons_of_mem _ g2, g3⟩
      · rcases List.mem_cons.1 hi with rfl | hi
        · exact absurd hlt hj
        · exact h2 i hi hlt

theorem mem_dedup : ∀ {l : List Nat} {x : Nat}, x ∈ l → x ∈ dedup l
  | y :: ys, x, h => by
    simp only [dedup]
    split
    · rename_i hc
      rcases List.mem_cons.1 h with rfl | h
      · exact mem_dedup (by simpa using hc)
      · exact mem_dedup h
    · rcases List.mem_cons.1 h with rfl | h
      · exact List.mem_cons_self
      · exact List.mem_cons_of_mem _ (mem_dedup h)

section
variable {P : Program} {X : Nat → Prop}

theorem gather_core {w : World} {φ : Nat → Nat × Nat} {H B : List Row} (h : HR P w φ X H) {n0 : Nat} (hn : n0 ≤ H.length) (hB : B.length = n0) {d : D} {v : Value} (hd : R P w φ (Av X φ H) H.length d v) {dirty : List Nat}
    (hlow : ∀ r row, r < n0 → r ∉ dirty → B[r]? = some row → H[r]? = some row ∧ RowLow (· < n0) row) {e : Eff} (he : gather n0 d dirty H = some e) :
    ∃ ψ, (∀ r, r < n0 → ψ r = φ r) ∧ HR P w ψ X (applyUpd B e.upd ++ e.news) ∧ R P w ψ (Av X ψ (applyUpd B e.upd ++ e.news)) (applyUpd B e.upd ++ e.news).length e.res v ∧ (∀ b, Live ψ (applyUpd B e.upd ++ e.news) b → Live φ H b) ∧ (∀ p ∈ e.upd, p.1 ∈ dirty) := by
  unfold gather at he
  dsimp only at he
  split at he
  · rename_i hc
    rw [Bool.and_eq_true] at hc
    obtain ⟨hnd, hall⟩ := hc
    split at he
    · rename_i x us ns hx hus hns
      injection he with he
      subst he
      generalize reach H n0 (1000 + 4 * H.length) (d.refs ++ ((dedup dirty).filter (· < n0)).flatMap fun i => ((H[i]?).map Row.refs).getD []) [] = seen at *
      obtain ⟨u1, u2⟩ := renUpd_spec hus
      obtain ⟨r1, r2⟩ := renRows_spec hns
      have hge : ∀ (i r : Nat), seen[i]? = some r → n0 ≤ r := fun i r hi => by
        have := List.all_eq_true.1 hall r (List.mem_of_getElem? hi)
        simpa using this
      let ψ : Nat → Nat × Nat := fun r' => if r' < n0 then φ r' else φ (seen.getD (r' - n0) 0)
      have hlen : (applyUpd B us ++ ns).length = n0 + seen.length := by simp [applyUpd_length, hB, r1]
      have hψ : ∀ r r', renN n0 seen r = some r' → ψ r' = φ r ∧ r' < (applyUpd B us ++ ns).length := by
        intro r r' hr
        unfold renN at hr
        split at hr
        · rename_i hlt
          injection hr with hr
          subst hr
          exact ⟨if_pos hlt, by rw [hlen]; omega⟩
        · rw [Option.map_eq_some_iff] at hr
          obtain ⟨i, hi, rfl⟩ := hr
          have hi' := findIdx_spec hi
          refine ⟨?_, by rw [hlen]; have := (List.getElem?_eq_some_iff.1 hi').1; omega⟩
          show (if n0 + i < n0 then _ else _) = _
          rw [if_neg (by omega), Nat.add_sub_cancel_left, List.getD, hi']
          rfl
      have hψ0 : ∀ r, r < n0 → ψ r = φ r := fun r hr => if_pos hr
      -- where each row comes from
      have from_ : ∀ r row, (applyUpd B us ++ ns)[r]? = some row → ∃ r0 row0, H[r0]? = some row0 ∧ ψ r = φ r0 ∧ row.live = row0.live ∧ (r < n0 → r0 = r) ∧ (¬ r < n0 → seen[r - n0]? = some r0) ∧ (renRow n0 seen row0 = some row ∨ (r < n0 ∧ row = row0 ∧ RowLow (· < n0) row)) := by
        intro r row hr
        by_cases hlt : r < n0
        · rw [List.getElem?_append_left (by rw [applyUpd_length, hB]; exact hlt)] at hr
          rcases applyUpd_spec us B r row hr with h1 | ⟨h1, h2⟩
          · obtain ⟨_, _, row0, h3, h4⟩ := u1 r row h1
            exact ⟨r, row0, h3, hψ0 r hlt, renRow_live h4, fun _ => rfl, fun h => absurd hlt h, .inl h4⟩
          · have hnd' : r ∉ dirty := fun hm => by
              obtain ⟨x, hx⟩ := u2 r (List.mem_filter.2 ⟨mem_dedup hm, by simpa using hlt⟩) hlt
              exact h2 _ hx rfl
            obtain ⟨h3, h4⟩ := hlow r row hlt hnd' h1
            exact ⟨r, row, h3, hψ0 r hlt, rfl, fun _ => rfl, fun h => absurd hlt h, .inr ⟨hlt, rfl, h4⟩⟩
        · rw [List.getElem?_append_right (by rw [applyUpd_length, hB]; omega), applyUpd_length, hB] at hr
          obtain ⟨r0, row0, g1, g2, g3⟩ := r2 _ _ hr
          refine ⟨r0, row0, g2, ?_, renRow_live g3, fun h => absurd h hlt, fun _ => g1, .inl g3⟩
          show (if r < n0 then _ else _) = _
          rw [if_neg hlt, List.getD, g1]
          rfl
      have hliv : ∀ b, Live ψ (applyUpd B us ++ ns) b → Live φ H b := by
        rintro b ⟨r, row, hr, hl, rfl⟩
        obtain ⟨r0, row0, g1, g2, g3, _⟩ := from_ r row hr
        exact ⟨r0, row0, g1, by rw [← g3]; exact hl, by rw [g2]⟩
      have hav : ∀ b, Av X ψ (applyUpd B us ++ ns) b → Av X φ H b := fun b hb => hb.imp id (hliv b)
      refine ⟨ψ, hψ0, ⟨?_, ?_, ?_, h.old⟩, hd.ren hav hψ hx, hliv, fun p hp => ?_⟩
      · intro r row hr
        obtain ⟨r0, row0, g1, g2, g3, _, _, g6⟩ := from_ r row hr
        have hok := h.rows r0 row0 g1
        rcases g6 with g6 | ⟨hlt, rfl, g6⟩
        · exact hok.ren hav hψ g2 g6
        · exact (hok.lower (n := n0) g2 (fun r hr => ⟨hψ0 r hr, hr⟩) hav g6).upper (by rw [hlen]; omega)
      · intro r s x y hr hs hlx hly heq
        obtain ⟨r0, row0, g1, g2, g3, g4, g5, _⟩ := from_ r x hr
        obtain ⟨s0, sow0, k1, k2, k3, k4, k5, _⟩ := from_ s y hs
        have h0 := h.apart r0 s0 row0 sow0 g1 k1 (by rw [← g3]; exact hlx) (by rw [← k3]; exact hly) (by rw [← g2, ← k2]; exact heq)
        subst h0
        by_cases hr' : r < n0 <;> by_cases hs' : s < n0
        · rw [← g4 hr', ← k4 hs']
        · have := hge _ _ (k5 hs')
          have := g4 hr'
          omega
        · have := hge _ _ (g5 hr')
          have := k4 hs'
          omega
        · have := nodup_spec hnd _ _ _ (g5 hr') (k5 hs')
          omega
      · intro r row hr hl
        obtain ⟨r0, row0, g1, g2, g3, _⟩ := from_ r row hr
        rw [g2]
        exact h.off r0 row0 g1 (by rw [← g3]; exact hl)
      · obtain ⟨_, h2, _⟩ := u1 p.1 p.2 hp
        have := (List.mem_filter.1 h2).1
        exact dedup_sub this
    · cases he
  · cases he
where
  dedup_sub : ∀ {l : List Nat} {x : Nat}, x ∈ dedup l → x ∈ l
    | y :: ys, x, h => by
      simp only [dedup] at h
      split at h
      · exact List.mem_cons_of_mem _ (dedup_sub h)
      · rcases List.mem_cons.1 h with rfl | h
        · exact List.mem_cons_self
        · exact List.mem_cons_of_mem _ (dedup_sub h)

theorem gather_ok {w0 w : World} {φ0 φ : Nat → Nat × Nat} {H0 : List Row} {s : St} {a : Act} (h : Run P X w0 φ0 H0 w φ s a) {d : D} {v : Value} (hd : R P w φ (Av X φ s.H) s.H.length d v) {e : Eff} (he : gather H0.length d s.dirty s.H = some e) : Leaves P w0 φ0 X H0 e v w := by
  obtain ⟨ψ, h1, h2, h3, h4, _⟩ := gather_core h.sim.heap h.ons.len rfl hd (fun r row hr hnd hrow => ⟨by rw [h.clean r hr hnd]; exact hrow, h.low r row hrow⟩) he
  exact ⟨ψ, fun r hr => (h1 r hr).trans (h.ons.same r hr), h2, h3, h.ons.keep, fun b hb => h.ons.fresh b (h4 b hb)⟩

theorem sweep_ok {w0 w : World} {φ0 φ : Nat → Nat × Nat} {H0 : List Row} {s s' : St} {a : Act} {keep : List Nat} (h : Run P X w0 φ0 H0 w φ s a) (he : sweep H0.length keep s = some s') : ∃ ψ, Run P X w0 φ0 H0 w ψ s' a := by
  unfold sweep at he
  dsimp only at he
  split at he
  · rename_i ts' us ns hg
    injection he with he
    subst he
    have hts : R P w φ (Av X φ s.H) s.H.length (.tp (s.ts.zipIdx.map fun p => if keep.contains p.2 then p.1 else .junk)) (.tuple a.tmps) := by
      refine .tp (by have := h.sim.tmps.1; simpa using this) (fun i d u hd hu => ?_)
      rw [List.getElem?_map, List.getElem?_zipIdx] at hd
      cases hx : s.ts[i]? with
      | none => rw [hx] at hd; simp at hd
      | some x =>
        rw [hx] at hd
        simp at hd
        subst hd
        split
        · exact h.sim.tmps.2 i x u hx (by simpa using hu)
        · exact .junk
    have hlt : (s.H.take H0.length).length = H0.length := by rw [List.length_take]; have := h.ons.len; omega
    obtain ⟨ψ, h1, h2, h3, h4, h5⟩ := gather_core h.sim.heap h.ons.len hlt hts (fun r row hr hnd hrow => by
      rw [List.getElem?_take, if_pos hr] at hrow
      exact ⟨hrow, h.low r row (by rw [← h.clean r hr hnd]; exact hrow)⟩) hg
    refine ⟨ψ, ⟨h2, ?_, h.sim.defers⟩, ⟨by simp [applyUpd_length, hlt], fun r hr => (h1 r hr).trans (h.ons.same r hr), h.ons.keep, fun b hb => h.ons.fresh b (h4 b hb)⟩, h.low, fun r hr hnd => ?_⟩
    · cases h3 with
      | tp hs hr => exact ⟨by simpa using hs, fun i d u hd hu => hr i d u hd (by simpa using hu)⟩
    · dsimp only at hnd ⊢
      rw [List.getElem?_append_left (by rw [applyUpd_length, hlt]; exact hr)]
      have key : ∀ (us : List (Nat × Row)) (B : List Row), (∀ p ∈ us, p.1 ≠ r) → (applyUpd B us)[r]? = B[r]? := by
        intro us
        induction us with
        | nil => intros; rfl
        | cons p us ih =>
          intro B hp
          obtain ⟨i, x⟩ := p
          show (applyUpd (B.set i x) us)[r]? = _
          rw [ih _ (fun p hp' => hp p (List.mem_cons_of_mem _ hp')), List.getElem?_set_ne (hp (i, x) List.mem_cons_self)]
      rw [key us _ (fun p hp e => hnd (by rw [← e]; exact h5 p hp)), List.getElem?_take, if_pos hr]
      exact h.clean r hr hnd
  · cases he

def Out.to : Out → Exit
  | .normal => .normal
  | .exit id => .exit id
  | .ret => .ret

theorem tidy_ok {w0 w : World} {φ0 φ : Nat → Nat × Nat} {H0 : List Row} {s s' : St} {a : Act} {keep : List Nat} (h : Run P X w0 φ0 H0 w φ s a) (he : tidy H0.length keep s = some s') : ∃ ψ, Run P X w0 φ0 H0 w ψ s' a := by
  unfold tidy at he
  cases hb : Nat.ble s.H.length (H0.length + 40) with
  | true => rw [hb] at he; cases he; exact ⟨φ, h⟩
  | false => rw [hb] at he; exact sweep_ok h he

theorem exec_ok (hP : Good P) {call : Calling} (hcall : ∀ f, Sound P f (call f)) {w0 : World} {φ0 : Nat → Nat × Nat} {H0 : List Row} {keep : List Nat} : ∀ (n : Nat),
    (∀ (c : Code) (s s' : St) (out : Out) (w : World) (φ : Nat → Nat × Nat) (a : Act) (Q : Exit → Act → World → Prop), exec P call H0.length keep n c s = some (out, s') → Run P X w0 φ0 H0 w φ s a → (∀ a' w' φ', Run P X w0 φ0 H0 w' φ' s' a' → Q out.to a' w') → c.wp P Q a w) ∧
    (∀ (c : Code) (s s' : St) (out : Out) (w : World) (φ : Nat → Nat × Nat) (a : Act) (Q : Exit → Act → World → Prop), exec P call H0.length keep n (.loop c) s = some (out, s') → Run P X w0 φ0 H0 w φ s a → (∀ a' w' φ', Run P X w0 φ0 H0 w' φ' s' a' → Q out.to a' w') → Code.rounds P c Q n a w)
  | 0 => ⟨fun _ _ _ _ _ _ _ _ h => by simp [exec] at h, fun _ _ _ _ _ _ _ _ h => by simp [exec] at h⟩
  | n + 1 => by
    obtain ⟨ihA, ihB⟩ := exec_ok hP hcall (w0 := w0) (φ0 := φ0) (H0 := H0) (keep := keep) n
    have loop : ∀ (c : Code) (s s' : St) (out : Out) (w : World) (φ : Nat → Nat × Nat) (a : Act) (Q : Exit → Act → World → Prop), exec P call H0.length keep (n + 1) (.loop c) s = some (out, s') → Run P X w0 φ0 H0 w φ s a → (∀ a' w' φ', Run P X w0 φ0 H0 w' φ' s' a' → Q out.to a' w') → Code.rounds P c Q (n + 1) a w := by
      intro c s s' out w φ a Q h hr hQ
      rw [rounds_succ]
      simp only [exec] at h
      split at h
      · rename_i s1 h1
        refine ihA c s s1 .normal w φ a _ h1 hr (fun a1 w1 φ1 hr1 => ?_)
        split at h
        · rename_i s2 h2
          obtain ⟨ψ, hr2⟩ := tidy_ok hr1 h2
          exact ihB c s2 s' out w1 ψ a1 Q h hr2 hQ
        · cases h
      · rename_i hne
        refine ihA c s s' out w φ a _ h hr (fun a1 w1 φ1 hr1 => ?_)
        cases out with
        | normal => exact absurd h (hne s')
        | exit id => exact hQ a1 w1 φ1 hr1
        | ret => exact hQ a1 w1 φ1 hr1
    refine ⟨?_, loop⟩
    intro c s s' out w φ a Q h hr hQ
    cases c with
    | skip => simp only [exec] at h; injection h with h; injection h with h1 h2; subst h1; subst h2; exact wp_skip (hQ a w φ hr)
    | label l => simp only [exec] at h; injection h with h; injection h with h1 h2; subst h1; subst h2; exact wp_label (hQ a w φ hr)
    | ret => simp only [exec] at h; injection h with h; injection h with h1 h2; subst h1; subst h2; exact wp_ret (hQ a w φ hr)
    | exit id => simp only [exec] at h; injection h with h; injection h with h1 h2; subst h1; subst h2; exact wp_exit (hQ a w φ hr)
    | region id ops draw =>
      cases draw with
      | false =>
        simp only [exec] at h
        rw [Option.map_eq_some_iff] at h
        obtain ⟨s1, h1, h2⟩ := h
        injection h2 with h3 h4
        subst h3; subst h4
        refine wp_region ?_
        rw [List.range_eq_range', ← Array.length_toList]
        exact runSeq_ok hP hcall ops.toList 0 s s1 w φ a (fun j => by simp) h1 hr hQ
      | true =>
        simp only [exec] at h
        split at h
        · rename_i hd
          rw [Option.map_eq_some_iff] at h
          obtain ⟨p, h1, h2⟩ := h
          injection h2 with h3 h4
          subst h3; subst h4
          exact draw_ok hP hcall hd h1 hr hQ
        · cases h
    | seq x y =>
      simp only [exec] at h
      refine wp_seq ?_
      split at h
      · rename_i s1 h1
        exact ihA x s s1 .normal w φ a _ h1 hr (fun a1 w1 φ1 hr1 => ihA y s1 s' out w1 φ1 a1 Q h hr1 hQ)
      · rename_i hne
        refine ihA x s s' out w φ a _ h hr (fun a1 w1 φ1 hr1 => ?_)
        cases out with
        | normal => exact absurd h (hne s')
        | exit id => exact hQ a1 w1 φ1 hr1
        | ret => exact hQ a1 w1 φ1 hr1
    | cond c x y =>
      simp only [exec] at h
      split at h
      · rename_i t hc
        have h1 := R.eval hr.sim.tmps c
        rw [hc] at h1
        have h2 : a.eval c = .bool t := by
          generalize a.eval c = u at h1
          cases h1 with | f h1 => cases h1 with | v _ => rfl
        exact wp_cond h2 (ihA _ s s' out w φ a Q h hr hQ)
      · cases h
    | block id x =>
      simp only [exec] at h
      refine wp_block ?_
      split at h
      · rename_i id' s1 h1
        refine ihA x s s1 (.exit id') w φ a _ h1 hr (fun a1 w1 φ1 hr1 => ?_)
        split at h
        · rename_i hid
          injection h with h
          injection h with h2 h3
          subst h2; subst h3
          show (if id' = id then _ else _)
          rw [if_pos hid]
          exact hQ a1 w1 φ1 hr1
        · rename_i hid
          injection h with h
          injection h with h2 h3
          subst h2; subst h3
          show (if id' = id then _ else _)
          rw [if_neg hid]
          exact hQ a1 w1 φ1 hr1
      · rename_i hne
        refine ihA x s s' out w φ a _ h hr (fun a1 w1 φ1 hr1 => ?_)
        cases out with
        | normal => exact hQ a1 w1 φ1 hr1
        | exit id' => exact absurd h (hne id' s')
        | ret => exact hQ a1 w1 φ1 hr1
    | loop x => exact wp_loop_rounds (n + 1) (loop x s s' out w φ a Q h hr hQ)
    | scope x => simp only [exec] at h; cases h
    | rangeFunc f ps x y => simp only [exec] at h; cases h
    | goto l => simp only [exec] at h; cases h
    | refuse y => simp only [exec] at h; cases h

theorem results_ok {w : World} {φ : Nat → Nat × Nat} {H : List Row} (h : HR P w φ X H) {ts : List D} {a : Act} (hts : Rs P w φ (Av X φ H) H.length ts a.tmps.toList) : ∀ (rs : List ResultVar) (ds : List D), resultD P H ts rs = some ds →
    ∃ vs : List Value, (rs.mapM fun (r : ResultVar) => (match r with | .tmp t => (pure (a.tmps.getD t Go.undef) : Sem Value) | .cell b t => do loadVar t (← asAddr (a.tmps.getD b Go.undef)))).run P w = .ok vs w ∧ Rs P w φ (Av X φ H) H.length ds vs
  | [], ds, he => by simp [resultD] at he; subst he; exact ⟨[], by simp, Rs.nil⟩
  | .tmp t :: rs, ds, he => by
    simp only [resultD] at he
    rw [Option.map_eq_some_iff] at he
    obtain ⟨ds', hds, rfl⟩ := he
    obtain ⟨vs, h1, h2⟩ := results_ok h hts rs ds' hds
    refine ⟨a.tmps.getD t Go.undef :: vs, ?_, Rs.cons (R.eval hts (.tmp t)) h2⟩
    rw [List.mapM_cons]
    simp only [Sem.run_bind, Sem.run_pure, Result.andThen_ok, h1]
  | .cell b T :: rs, ds, he => by
    simp only [resultD] at he
    split at he
    · rename_i d ds' hd hds
      injection he with he
      subst he
      obtain ⟨vs, h1, h2⟩ := results_ok h hts rs ds' hds
      have hb := R.eval hts (.tmp b)
      obtain ⟨v, h3, h4⟩ := load_ok h hb hd
      refine ⟨v :: vs, ?_, Rs.cons h4 h2⟩
      have e1 : a.eval (.tmp b) = a.tmps.getD b Go.undef := rfl
      rw [e1] at h3
      have h5 : (do loadVar T (← asAddr (a.tmps.getD b Go.undef)) : Sem Value).run P w = .ok v w := by
        cases hv : a.tmps.getD b Go.undef with
        | pointer q =>
          rw [hv] at h3
          cases q with
          | some q => simpa [Instr.loadAt, Instr.sureAddr, asAddr] using h3
          | none => simp [Instr.loadAt, Instr.sureAddr, stuck] at h3
        | _ => rw [hv] at h3; simp [Instr.loadAt, Instr.sureAddr, stuck] at h3
      rw [List.mapM_cons]
      simp only [Sem.run_bind] at h5 ⊢
      rw [h5]
      simp only [Result.andThen_ok, Sem.run_bind, h1, Sem.run_pure]
    · cases he

theorem run_ok (hP : Good P) {ext : Ext} (hext : ∀ f g, ext f = some g → Sound P f g) : ∀ (n : Nat) (f : FuncId), Sound P f (run P ext n f)
  | 0, f => fun args H e he => by simp [run] at he
  | n + 1, f => fun args H e he => by
    intro w φ X vs hH hargs
    simp only [run] at he
    split at he
    · rename_i g hg
      exact hext f g hg args H e he w φ X vs hH hargs
    · split at he
      · rename_i fn hfn
        split at he
        · rename_i c hc
          have hlen : vs.size = args.length := by have := hargs.1; simpa using this
          have hinit : Run P X w φ H w φ ⟨args ++ List.replicate (fn.ntmps - args.length) D.undef, H, []⟩ { tmps := vs ++ Array.replicate (fn.ntmps - vs.size) Go.undef, defers := [] } := by
            refine ⟨⟨hH, ?_, rfl⟩, Ons.refl _ _ _ _, fun r row hr => (hH.rows r row hr).isLow, fun _ _ _ => rfl⟩
            rw [Array.toList_append, Array.toList_replicate, hlen]
            refine hargs.append ⟨by simp, fun i d u hd hu => ?_⟩
            rw [List.getElem?_replicate] at hd hu
            split at hd
            · rename_i hi
              rw [if_pos hi] at hu
              injection hd with hd; injection hu with hu
              subst hd; subst hu
              exact R.undef
            · cases hd
          have fin : ∀ (s : St) (ds : List D), resultD P s.H s.ts fn.results.toList = some ds → gather H.length (one ds) s.dirty s.H = some e → ∀ a' w' φ', Run P X w φ H w' φ' s a' → a'.defers = [] ∧ ∃ v, (results fn a'.tmps).run P w' = .ok v w' ∧ ∃ v', Ending.returned v = .returned v' ∧ Leaves P w φ X H e v' w' := by
            intro s ds hds hg a' w' φ' hr
            refine ⟨hr.sim.defers, ?_⟩
            obtain ⟨us, h1, h2⟩ := results_ok hr.sim.heap hr.sim.tmps _ _ hds
            have hone : ∃ v, (results fn a'.tmps).run P w' = .ok v w' ∧ R P w' φ' (Av X φ' s.H) s.H.length (one ds) v := by
              refine ⟨if h : us.toArray.size = 1 then us.toArray[0] else .tuple us.toArray, ?_, ?_⟩
              · unfold results
                rw [Array.mapM_eq_mapM_toList]
                simp at h1
                simp
                exact congrArg (fun r : Result (List Value) => r.andThen fun a w' => Result.ok (if h : a.length = 1 then a[0] else Value.tuple a.toArray) w') h1
              · match ds, us, h2 with
                | [], [], _ => exact .tp rfl (fun i d u hd => by simp at hd)
                | [d], [u], h2 => exact h2.2 0 d u (by simp) (by simp)
                | d :: d2 :: ds, u :: u2 :: us, h2 => exact .tp (by have := h2.1; simpa using this) (fun i d' u' hd hu => h2.2 i d' u' hd (by simpa using hu))
                | [], _ :: _, h2 => have := h2.1; simp at this
                | _ :: _, [], h2 => have := h2.1; simp at this
                | [_], _ :: _ :: _, h2 => have := h2.1; simp at this
                | _ :: _ :: _, [_], h2 => have := h2.1; simp at this
            obtain ⟨v, h3, h4⟩ := hone
            exact ⟨v, h3, v, rfl, gather_ok hr h4 hg⟩
          refine calls_of_wp hfn hc ?_
          split at he
          · cases he
          · rename_i out s hne hex
            have h1 := (exec_ok (X := X) hP (fun g => run_ok hP hext n g) (w0 := w) (φ0 := φ) (H0 := H) (keep := keepOf fn c) 20000).1 c _ s out w φ _ (bodyPost P fn fun en w' => ∃ v, en = .returned v ∧ Leaves P w φ X H e v w') hex hinit
            split at he
            · rename_i ds hds
              refine h1 (fun a' w' φ' hr => ?_)
              cases out with
              | normal => exact fin s ds hds he a' w' φ' hr
              | ret => exact fin s ds hds he a' w' φ' hr
              | exit id => exact absurd rfl (hne id)
            · cases he
          · cases he
        · cases he
      · cases he
end

end Go.Proofs.Ytjbkckhpoicaeaa.Mir

/- The machine at closed sentences. -/
namespace Go.Proofs.Ytjbkckhpoicaeaa.Mir
open Go Go.RowKit

def isTrue : Option Eff → Bool
  | some ⟨.f (.v (.bool true)), [], []⟩ => true
  | _ => false
theorem isTrue_eq {o : Option Eff} (h : isTrue o = true) : o = some ⟨.f (.v (.bool true)), [], []⟩ := by
  unfold isTrue at h
  split at h
  · rfl
  · cases h

theorem good : Good Try.prog := by
  have h1 : (Try.prog.funcs.toList.all fun fn => !(fn.name == "runtime.NumGoroutine")) = true := by kernel_rfl
  refine ⟨fun f fn hf => ?_, by kernel_rfl⟩
  have := List.all_eq_true.1 h1 fn (by
    have h2 : Try.prog.funcs.toList[f]? = some fn := by simpa using hf
    exact List.mem_of_getElem? h2)
  simpa using this

theorem closed {P : Program} (hP : Good P) {ext : Ext} (hext : ∀ f g, ext f = some g → Sound P f g) {n : Nat} {f : FuncId} (h : isTrue (run P ext n f [] []) = true) (w : World) : Calls P f #[] w fun e w' => e = .returned (.bool true) ∧ Ch (fun _ => False) w w' := by
  have h0 : HR P w (fun _ => (0, 0)) (fun _ => False) [] := ⟨fun r x hx => by simp at hx, fun r s x y hx => by simp at hx, fun r x hx => by simp at hx, fun b hb => hb.elim⟩
  refine (run_ok hP hext n f [] [] _ (isTrue_eq h) w (fun _ => (0, 0)) (fun _ => False) #[] h0 ⟨rfl, fun i d u hd => by simp at hd⟩).mono ?_
  rintro e w' ⟨v, rfl, φ', h1, h2, h3, h4, h5⟩
  cases h3 with | f h3 => cases h3 with | v _ =>
  refine ⟨rfl, h4.os, h4.tape, h4.output, h4.size, fun k hk _ => h4.block k hk ?_⟩
  rintro ⟨r, x, hx, _⟩
  simp at hx

def noExt : Ext := fun _ => none
theorem noExt_ok (P : Program) : ∀ f g, noExt f = some g → Sound P f g := fun f g h => by cases h
end Go.Proofs.Ytjbkckhpoicaeaa.Mir

/- The machine beside the model's, laid out so that the kernel runs it quicker; it is the same machine. -/
namespace Go.Proofs.Ytjbkckhpoicaeaa.Mir
open Go
set_option linter.unusedVariables false

noncomputable section
def nth {α : Type} (l : List α) : Nat → Option α := List.rec (fun _ => none) (fun a _ ih n => Nat.rec (some a) (fun m _ => ih m) n) l
theorem nth_eq {α : Type} (l : List α) (n : Nat) : nth l n = l[n]? := by
  induction l generalizing n with
  | nil => simp [nth]
  | cons a l ih =>
    cases n with
    | zero => rfl
    | succ m => exact (ih m).trans (by simp)
def upd {α : Type} (l : List α) (v : α) : Nat → List α := List.rec (fun _ => []) (fun a r ih n => Nat.rec (v :: r) (fun m _ => a :: ih m) n) l
theorem upd_eq {α : Type} (l : List α) (v : α) (n : Nat) : upd l v n = l.set n v := by
  induction l generalizing n with
  | nil => simp [upd]
  | cons a l ih =>
    cases n with
    | zero => rfl
    | succ m => exact congrArg (a :: ·) (ih m) |>.trans (by simp)
def appL {α : Type} (l m : List α) : List α := List.rec m (fun a _ ih => a :: ih) l
theorem appL_eq {α : Type} (l m : List α) : appL l m = l ++ m := by
  induction l with
  | nil => rfl
  | cons a l ih => exact congrArg (a :: ·) ih
def app0 {α : Type} (l m : List α) : List α := List.casesOn m l (fun a t => appL l (a :: t))
theorem app0_eq {α : Type} (l m : List α) : app0 l m = l ++ m := by
  cases m with
  | nil => simp [app0]
  | cons a t => exact appL_eq l (a :: t)
def hasN (l : List Nat) (x : Nat) : Bool := List.rec false (fun a _ ih => bif Nat.beq x a then true else ih) l
theorem hasN_eq (l : List Nat) (x : Nat) : hasN l x = l.contains x := by
  induction l with
  | nil => rfl
  | cons a l ih =>
    show (bif Nat.beq x a then true else hasN l x) = _
    rw [ih, List.contains_cons]
    cases h : Nat.beq x a with
    | true => simp [Nat.eq_of_beq_eq_true h]
    | false => simp [Nat.ne_of_beq_eq_false h]
/-- To have a thing worked out before one goes on. -/
def fL {α β : Type} (l : List α) : (List α → β) → β := List.rec (motive := fun _ => (List α → β) → β) (fun k => k []) (fun a _ ih k => ih (fun t => k (a :: t))) l
theorem fL_eq {α β : Type} (l : List α) (k : List α → β) : fL l k = k l := by
  induction l generalizing k with
  | nil => rfl
  | cons a l ih => exact ih _
def fN {β : Type} (n : Nat) (k : Nat → β) : β := Nat.rec (k 0) (fun m _ => k (Nat.succ m)) n
theorem fN_eq {β : Type} (n : Nat) (k : Nat → β) : fN n k = k n := by cases n <;> rfl
def fD {β : Type} (d : D) (k : D → β) : β := D.casesOn (motive_1 := fun _ => β) d
  (fun x => F.casesOn (motive_1 := fun _ => β) x (fun v => k (.f (.v v))) (fun xs n => k (.f (.s xs n))) (k (.f .e)))
  (fun r o n => fN r fun r => fN o fun o => fN n fun n => k (.sl r o n)) (fun r o => fN r fun r => fN o fun o => k (.pt r o)) (fun xs => k (.rf xs)) (fun xs => k (.ag xs)) (fun xs => k (.tp xs)) (fun f xs => k (.fn f xs)) (fun r => fN r fun r => k (.mp r)) (k .junk)
theorem fD_eq {β : Type} (d : D) (k : D → β) : fD d k = k d := by
  cases d with
  | f x => cases x <;> rfl
  | sl r o n => show fN r (fun r => fN o fun o => fN n fun n => k (.sl r o n)) = _; rw [fN_eq, fN_eq, fN_eq]
  | pt r o => show fN r (fun r => fN o fun o => k (.pt r o)) = _; rw [fN_eq, fN_eq]
  | mp r => show fN r (fun r => k (.mp r)) = _; rw [fN_eq]
  | _ => rfl

def evalF (ts : List D) (x : Operand) : D :=
  match x with
  | .tmp t => (nth ts t).getD D.undef
  | .const v => D.of v
  | .global _ => .junk
  | .func f => .fn f []
theorem evalF_eq (ts : List D) : evalF ts = eval ts := by
  funext x
  cases x <;> simp [evalF, eval, nth_eq, List.getD_eq_getElem?_getD]

section
variable (P : Program)

def asValF (T : TypeId) (xs : List D) (off : Nat) : Option D :=
  match isAggB P T, inf P T with
  | some true, some (n, _, _) => bif Nat.ble (off + n) xs.length then some (.ag ((xs.drop off).take n)) else none
  | some false, _ => nth xs off
  | _, _ => none
theorem bif_ble {α : Type} (a b : Nat) (x y : α) : (bif Nat.ble a b then x else y) = if a ≤ b then x else y := by
  cases hb : Nat.ble a b with
  | true => rw [if_pos (Nat.le_of_ble_eq_true hb)]; rfl
  | false => rw [if_neg (fun h => by rw [Nat.ble_eq_true_of_le h] at hb; cases hb)]; rfl
theorem asValF_eq : asValF P = asVal P := by
  funext T xs off
  unfold asValF asVal
  simp only [nth_eq, bif_ble]
  rfl

def loadF (H : List Row) (T : TypeId) (a : D) : Option D :=
  match a with
  | .pt r off => match nth H r with
    | some row => match row.cells with
      | some xs => asValF P T xs off
      | none => none
    | none => none
  | .rf xs => asValF P T (xs.map .f) 0
  | _ => none
theorem loadF_eq : loadF P = loadD P := by
  funext H T a
  cases a <;> simp only [loadF, loadD, nth_eq, asValF_eq] <;> rfl

def intB (op : BinOp) (k : IntKind) (a b : Int) : Option Value :=
  match op with
  | .add => some (.int k (k.wrap (a + b)))
  | .sub => some (.int k (k.wrap (a - b)))
  | .mul => some (.int k (k.wrap (a * b)))
  | .eql => some (.bool (a == b))
  | .neq => some (.bool (a != b))
  | .lss => some (.bool (a < b))
  | .leq => some (.bool (a ≤ b))
  | .gtr => some (.bool (a > b))
  | .geq => some (.bool (a ≥ b))
  | _ => none
def fastB (op : BinOp) (x y : D) : Option D :=
  match x with
  | .f (.v (.int k a)) => match y with
    | .f (.v (.int k' b)) => if k = k' then (intB op k a b).map .v else none
    | _ => none
  | _ => none

theorem int_ok {T : TypeId} {k : IntKind} {a b : Int} {op : BinOp} {v : Value} (h : intB op k a b = some v) : Go.binOp op T (.int k a) (.int k b) = Sem.pure v := by
  cases op <;> simp [intB] at h <;> subst h <;> simp [Go.binOp, Op.intArith, Op.intCmp] <;> rfl
theorem guard_ok {op : BinOp} {T : TypeId} {x y : Operand} {k k' : IntKind} {a b : Int} : eqGuard op T x y (.int k a) (.int k' b) = Sem.pure () := by
  unfold eqGuard
  cases op <;> rfl
theorem fastB_ok {P : Program} {ts : List D} {o : Oper} {op : BinOp} {T U : TypeId} {x y : Operand} {d : D} (ho : o.op = .binOp op T x y U) (h : fastB op (eval ts x) (eval ts y) = some d) : pureD P ts o = some d := by
  unfold fastB at h
  split at h
  · rename_i k a hx
    split at h
    · rename_i k' b hy
      split at h
      · rename_i hk
        subst hk
        cases hv : intB op k a b with
        | none => rw [hv] at h; cases h
        | some v =>
          rw [hv] at h
          injection h with h
          have hv' : D.of v = d := by
            subst h
            cases op <;> simp [intB] at hv <;> subst hv <;> rfl
          have h2 : execOp (fun z => ((eval ts z).val?).getD Go.undef) o = Sem.pure (.value v) := by
            unfold execOp
            rw [ho]
            simp only [hx, hy, D.val?, Option.getD_some, guard_ok, int_ok hv]
            rfl
          have hx' : (eval ts x).val? = some (.int k a) := by rw [hx]; rfl
          have hy' : (eval ts y).val? = some (.int k b) := by rw [hy]; rfl
          have hc : (notSelect o.op && o.op.operands.toList.all fun x => ((eval ts x).val?).isSome) = true := by
            rw [ho]; simp [Op.operands, notSelect, hx', hy']
          unfold pureD
          dsimp only
          rw [if_pos hc, h2]
          simp only [semPure, hv']
      · cases h
    · cases h
  · cases h

def valD (d : Option D) : Option Eff := Option.rec none (fun d => some ⟨d, [], []⟩) d
theorem valD_eq (d : Option D) : valD d = d.map fun d => (⟨d, [], []⟩ : Eff) := by cases d <;> rfl
def stPick (ts : List D) (c a b : Operand) : Option Eff := match evalF ts c with
    | .f (.v (.bool t)) => some ⟨if t then evalF ts a else evalF ts b, [], []⟩
    | _ => none
def stAlloc (H : List Row) (T : TypeId) : Option Eff := match inf P T with
    | some (_, _, z) => some ⟨.pt H.length 0, [], [.box T (z.map .v)]⟩
    | none => none
def stBox (H : List Row) (T : TypeId) (x : D) : Option Eff := if okCell x then some ⟨.pt H.length 0, [], [.box T x.cells]⟩ else none
def stNil (x : D) : Option Eff := match x with
    | .pt r off => some ⟨.pt r off, [], []⟩
    | .rf xs => some ⟨.rf xs, [], []⟩
    | .fn f cs => some ⟨.fn f cs, [], []⟩
    | _ => none
def stMakeFunc (ts : List D) (c : Fn) (first captured : Array Operand) (z : Option Eff) : Option Eff := match c with
  | .func f => if first.size = 0 then some ⟨.fn f (captured.toList.map (evalF ts)), [], []⟩ else none
  | _ => z
def stMakeMap (H : List Row) (r : Option Operand) (z : Option Eff) : Option Eff := match r with
  | none => some ⟨.mp H.length, [], [.map []]⟩
  | _ => z
def stExtract (x : D) (i : Nat) : Option Eff := match x with
    | .tp ds => (nth ds i).map fun d => ⟨d, [], []⟩
    | _ => none
def stParts (ts : List D) (ps : Array (Nat × Operand)) : List (Nat × D) := ps.toList.map fun p => (p.1, evalF ts p.2)
def stBin (ts : List D) (o : Oper) (op : BinOp) (T : TypeId) (x y : D) : Option Eff :=
  match fastB op x y with
  | some d => some ⟨d, [], []⟩
  | none => match pureD P ts o with
    | some d => some ⟨d, [], []⟩
    | none => match op with
      | .eql => (eqNil P T x y).map fun b => ⟨D.bool b, [], []⟩
      | .neq => (eqNil P T x y).map fun b => ⟨D.bool (!b), [], []⟩
      | _ => none

def allV (ts : List D) (o : Oper) : Bool := o.op.operands.toList.all fun x => ((evalF ts x).val?).isSome
theorem pureD_none {P : Program} {ts : List D} {o : Oper} (h : allV ts o = false) : pureD P ts o = none := by
  unfold allV at h
  rw [evalF_eq] at h
  unfold pureD
  dsimp only
  rw [if_neg]
  rw [h, Bool.and_false]
  exact Bool.false_ne_true
def callF (call : Calling) (ts : List D) (H : List Row) (c : Call) : Option Eff :=
  match c.callee, c.args.toList.map (evalF ts), c.argTypes.toList with
  | .builtin .append, [s, x], [t, u] => if t = u then appendD P H t s x else none
  | .builtin .len, [x], [t] => (lenD P H t x).map fun (n : Nat) => ⟨D.int (n : Int), [], []⟩
  | .builtin .delete, [m, k], [t, _] => mapDelD P H t m k
  | .builtin .clear, [x], [t] => clearD P H t x
  | .value f, args, _ => match evalF ts f with
    | .fn g caps => match nth P.funcs.toList g with
      | some fn => if fn.body.isSome then call g (args ++ caps) H else none
      | none => none
    | _ => none
  | _, _, _ => none
theorem callF_eq : callF P = callD P := by
  funext call ts H c
  unfold callF callD
  simp only [evalF_eq, nth_eq, Array.getElem?_toList]
  rfl
def stRest (ts : List D) (o : Oper) (a b : Option Eff) : Option Eff := bif allV ts o then a else b

def stepF (call : Calling) (ts : List D) (H : List Row) (o : Oper) : Option Eff :=
  match o.op with
  | .move x => some ⟨evalF ts x, [], []⟩
  | .assign x => some ⟨evalF ts x, [], []⟩
  | .pick c a b => stPick ts c a b
  | .alloc T => stAlloc P H T
  | .box T x => stBox H T (evalF ts x)
  | .load T a => valD (loadF P H T (evalF ts a))
  | .store T a x => storeD P H T (evalF ts a) (evalF ts x)
  | .nilCheck x => stNil (evalF ts x)
  | .makeFunc c first captured => stMakeFunc ts c first captured (stepD P call ts H o)
  | .makeMap _ r => stMakeMap H r (stepD P call ts H o)
  | .makeSlice T l c => makeSliceD P H T (evalF ts l) (evalF ts c)
  | .fieldAddr T x f => valD (fieldAddrD P T (evalF ts x) f)
  | .indexAddr T x i => valD (indexAddrD P T (evalF ts x) (evalF ts i))
  | .buildSlice T n ps => buildSliceD P H T n (stParts ts ps)
  | .mapUpdate T m k x => mapPutD P H T (evalF ts m) (evalF ts k) (evalF ts x)
  | .insert T m k x => mapPutD P H T (evalF ts m) (evalF ts k) (evalF ts x)
  | .lookup T m k ok => valD (lookupD P H T (evalF ts m) (evalF ts k) ok)
  | .extract x i => stExtract (evalF ts x) i
  | .binOp op T x y _ => stBin P ts o op T (evalF ts x) (evalF ts y)
  | .call c => stRest ts o (stepD P call ts H o) (callF P call ts H c)
  | .slice T x lo hi mx => stRest ts o (stepD P call ts H o) (valD (sliceD P H T (evalF ts x) (lo.map (evalF ts)) (hi.map (evalF ts)) (mx.map (evalF ts))))
  | .field T x f => stRest ts o (stepD P call ts H o) (valD (fieldD P T (evalF ts x) f))
  | .build T ps => stRest ts o (stepD P call ts H o) (valD (buildD P T (stParts ts ps)))
  | .convert a b x => stRest ts o (stepD P call ts H o) (convertD P H a b (evalF ts x))
  | _ => stepD P call ts H o

theorem stRest_eq {ts : List D} {o : Oper} {a b : Option Eff} (h : pureD P ts o = none → b = a) : stRest ts o a b = a := by
  unfold stRest
  cases hv : allV ts o with
  | true => rfl
  | false => exact h (pureD_none hv)

theorem stepF_eq : stepF P = stepD P := by
  funext call ts H o
  obtain ⟨dst, op, ty, pos, after, guard⟩ := o
  unfold stepF
  cases op with
  | binOp op T x y U =>
    simp only [stBin, evalF_eq]
    unfold stepD
    cases hf : fastB op (eval ts x) (eval ts y) with
    | some d => simp only [fastB_ok (P := P) (o := ⟨dst, .binOp op T x y U, ty, pos, after, guard⟩) rfl hf]
    | none =>
      dsimp only
      generalize pureD P ts _ = q
      cases q with
      | some d => rfl
      | none => cases op <;> rfl
  | makeFunc c f g =>
    simp only [stMakeFunc, evalF_eq]
    cases c <;> rfl
  | makeMap T r =>
    simp only [stMakeMap]
    cases r <;> rfl
  | call c => exact stRest_eq P fun h => by unfold stepD; dsimp only; rw [h, callF_eq]
  | slice T x lo hi mx => exact stRest_eq P fun h => by unfold stepD; dsimp only; rw [h, evalF_eq, valD_eq]
  | field T x f => exact stRest_eq P fun h => by unfold stepD; dsimp only; rw [h, evalF_eq, valD_eq]
  | build T ps => exact stRest_eq P fun h => by unfold stepD; dsimp only; rw [h, valD_eq]; simp only [stParts, evalF_eq]
  | convert c d x => exact stRest_eq P fun h => by unfold stepD; dsimp only; rw [h, evalF_eq]
  | load T a => simp only [evalF_eq, loadF_eq, valD_eq]; rfl
  | fieldAddr T x f => simp only [evalF_eq, valD_eq]; rfl
  | indexAddr T x f => simp only [evalF_eq, valD_eq]; rfl
  | lookup T x f => simp only [evalF_eq, valD_eq]; rfl
  | extract x i => simp only [evalF_eq, stExtract, nth_eq]; rfl
  | buildSlice T n ps => simp only [evalF_eq, stParts]; rfl
  | pick c a b => simp only [evalF_eq, stPick]; rfl
  | _ => simp only [evalF_eq] <;> rfl

def putF (ts : List D) (dst : Option Tmp) (d : D) : List D := match dst with
  | some t => upd ts d t
  | none => ts
theorem putF_eq : putF = putD! := by
  funext ts dst d
  cases dst <;> simp [putF, putD!, upd_eq]

def seqF (call : Calling) (ops : List Oper) (l : List Oper) : St → Option St :=
  List.rec (motive := fun _ => St → Option St) (fun s => some s) (fun o _ ih s =>
    match wantedD ops s.ts o with
    | some true => match stepF P call s.ts s.H o with
      | some ⟨r, [], []⟩ => fD r fun r => ih ⟨putF s.ts o.dst r, s.H, s.dirty⟩
      | some ⟨r, u, n⟩ => fD r fun r => fL (app0 (applyUpd s.H u) n) fun H => ih ⟨putF s.ts o.dst r, H, app0 (u.map Prod.fst) s.dirty⟩
      | none => none
    | some false => ih ⟨putF s.ts o.dst D.undef, s.H, s.dirty⟩
    | none => none) l
theorem seqF_eq : seqF P = runSeq P := by
  funext call ops l
  induction l with
  | nil => rfl
  | cons o l ih =>
    funext s
    unfold runSeq
    rw [← ih]
    show (match wantedD ops s.ts o with
    | some true => match stepF P call s.ts s.H o with
      | some ⟨r, [], []⟩ => fD r fun r => seqF P call ops l ⟨putF s.ts o.dst r, s.H, s.dirty⟩
      | some ⟨r, u, n⟩ => fD r fun r => fL (app0 (applyUpd s.H u) n) fun H => seqF P call ops l ⟨putF s.ts o.dst r, H, app0 (u.map Prod.fst) s.dirty⟩
      | none => none
    | some false => seqF P call ops l ⟨putF s.ts o.dst D.undef, s.H, s.dirty⟩
    | none => none) = _
    simp only [stepF_eq, fD_eq, fL_eq, putF_eq, app0_eq]
    split <;> rename_i hw <;> simp only [hw]
    cases hs : stepD P call s.ts s.H o with
    | none => rfl
    | some e =>
      obtain ⟨r, u, n⟩ := e
      cases u <;> cases n <;> simp [Eff.heap, applyUpd]

def maskF (V : List Nat) (H : List Row) : Nat → List Row := List.rec (motive := fun _ => Nat → List Row) (fun _ => []) (fun a _ ih i => (bif hasN V i then a else .dead) :: ih (i + 1)) H
theorem maskF_eq (V : List Nat) (H : List Row) (i : Nat) : maskF V H i = (H.zipIdx i).map (fun (p : Row × Nat) => if V.contains p.2 then p.1 else Row.dead) := by
  induction H generalizing i with
  | nil => rfl
  | cons a H ih =>
    show (bif hasN V i then a else Row.dead) :: maskF V H (i + 1) = _
    rw [ih, hasN_eq]
    simp [cond_eq_ite]

def drawF (call : Calling) (ops : List Oper) (b : List Nat) (n0 : Nat) : List Oper → Nat → List Nat → List (List Nat × List Nat) → St → Option (St × List Nat)
  | [], _, own, _, s => some (s, own)
  | o :: rest, i, own, log, s =>
    match wantedD ops s.ts o with
    | some true =>
      let m := b.getD i 0
      let V := viewOf s.ts s.H o
      let M := maskF V s.H 0
      match stepF P call s.ts M o with
      | some e =>
        if V.all (refIn n0 own m) && inOk n0 own m s.ts M o && effOk n0 own m s.H.length e && (e.upd.all fun p => V.contains p.1 && decide (p.1 < s.H.length)) && okPairs m V (e.upd.map (·.1)) 0 log then
          fD e.res fun r => fL (putF s.ts o.dst r) fun ts => fL (app0 (applyUpd s.H e.upd) e.news) fun H => drawF call ops b n0 rest (i + 1) (own ++ e.news.map fun _ => i) (log ++ [(V, e.upd.map (·.1))]) ⟨ts, H, app0 (e.upd.map (·.1)) s.dirty⟩
        else none
      | none => none
    | some false => drawF call ops b n0 rest (i + 1) own (log ++ [([], [])]) ⟨putF s.ts o.dst D.undef, s.H, s.dirty⟩
    | none => none
theorem drawF_eq (call : Calling) (ops : List Oper) (b : List Nat) (n0 : Nat) (l : List Oper) : drawF P call ops b n0 l = runDraw P call ops b n0 l := by
  induction l with
  | nil => rfl
  | cons o l ih =>
    funext i own log s
    unfold drawF runDraw
    rw [ih]
    simp only [stepF_eq, fD_eq, fL_eq, putF_eq, app0_eq, maskF_eq]
    rfl

def execF (call : Calling) (n0 : Nat) (keep : List Nat) : Nat → Code → St → Option (Out × St)
  | 0, _, _ => none
  | n + 1, c, s =>
    match c with
    | .skip => some (.normal, s)
    | .label _ => some (.normal, s)
    | .region _ ops d => bif d then
        let b := (Region.before ops).toList
        if drawOk ops.toList b then (drawF P call ops.toList b s.H.length ops.toList 0 [] [] s).map fun p => (.normal, p.1) else none
      else (seqF P call ops.toList ops.toList s).map fun s => (.normal, s)
    | .seq x y => match execF call n0 keep n x s with
      | some (.normal, s') => execF call n0 keep n y s'
      | r => r
    | .cond c x y => match evalF s.ts c with
      | .f (.v (.bool t)) => execF call n0 keep n (if t then x else y) s
      | _ => none
    | .block id x => match execF call n0 keep n x s with
      | some (.exit id', s') => if id' = id then some (.normal, s') else some (.exit id', s')
      | r => r
    | .loop x => match execF call n0 keep n x s with
      | some (.normal, s') => match tidy n0 keep s' with
        | some s'' => execF call n0 keep n (.loop x) s''
        | none => none
      | r => r
    | .exit id => some (.exit id, s)
    | .ret => some (.ret, s)
    | _ => none
theorem execF_eq (call : Calling) (n0 : Nat) (keep : List Nat) (n : Nat) : execF P call n0 keep n = exec P call n0 keep n := by
  induction n with
  | zero => rfl
  | succ n ih =>
    funext c s
    unfold execF exec
    cases c with
    | region id ops d => cases d <;> simp only [seqF_eq, drawF_eq] <;> rfl
    | _ => simp only [ih, evalF_eq] <;> rfl

def runF (ext : Ext) : Nat → Calling
  | 0, _, _, _ => none
  | n + 1, f, args, H =>
    match ext f with
    | some g => g args H
    | none => match nth P.funcs.toList f with
      | some fn => match fn.body with
        | some c =>
          match execF P (runF ext n) H.length (keepOf fn c) 20000 c ⟨args ++ List.replicate (fn.ntmps - args.length) D.undef, H, []⟩ with
          | some (.exit _, _) => none
          | some (_, s) => match resultD P s.H s.ts fn.results.toList with
            | some ds => gather H.length (one ds) s.dirty s.H
            | none => none
          | none => none
        | none => none
      | none => none
theorem runF_eq (ext : Ext) (n : Nat) : runF P ext n = run P ext n := by
  induction n with
  | zero => rfl
  | succ n ih =>
    funext f args H
    unfold runF run
    simp only [ih, execF_eq, nth_eq, Array.getElem?_toList]
    rfl
end
end
end Go.Proofs.Ytjbkckhpoicaeaa.Mir
