/- A step looks only at its operands. -/
import Derived.Test.YtjhemkeilagnnaaMirSeq
namespace Go.Proofs.Ytjhemkeilagnnaa.Mir
open Go Go.RowKit

theorem pureD_congr {P : Program} {ts ts' : List D} {o : Oper} (h : ∀ x ∈ o.op.operands, eval ts x = eval ts' x) : pureD P ts o = pureD P ts' o := by
  unfold pureD
  have hall : (o.op.operands.toList.all fun x => ((eval ts x).val?).isSome) = (o.op.operands.toList.all fun x => ((eval ts' x).val?).isSome) := by
    have key : ∀ l : List Operand, (∀ x ∈ l, eval ts x = eval ts' x) → (l.all fun x => ((eval ts x).val?).isSome) = (l.all fun x => ((eval ts' x).val?).isSome) := by
      intro l hl
      induction l with
      | nil => rfl
      | cons x l ih => simp only [List.all_cons]; rw [hl x (by simp), ih (fun y hy => hl y (by simp [hy]))]
    exact key _ (fun x hx => h x (by simpa using hx))
  dsimp only
  rw [hall]
  by_cases hs : notSelect o.op = true
  · have hsel : ∀ cs b, o.op ≠ .select cs b := by
      intro cs b hb
      rw [hb] at hs
      simp [notSelect] at hs
    rw [execOp_congr (ρ := fun x => ((eval ts x).val?).getD Go.undef) (ρ' := fun x => ((eval ts' x).val?).getD Go.undef) o hsel (fun x hx => by rw [h x hx])]
  · simp [hs]

theorem callD_congr {P : Program} {call : Calling} {ts ts' : List D} {H : List Row} {c : Call} (h : ∀ x ∈ c.operands, eval ts x = eval ts' x) : callD P call ts H c = callD P call ts' H c := by
  have hargs : c.args.toList.map (eval ts) = c.args.toList.map (eval ts') := List.map_congr_left fun x hx => h x (by simp [Call.operands]; exact .inr (by simpa using hx))
  unfold callD
  rw [hargs]
  cases hc : c.callee with
  | value f => 
    have hf : eval ts f = eval ts' f := h f (by simp [Call.operands, hc])
    simp only [hf]
  | invoke r m => rfl
  | builtin b =>
    generalize List.map (eval ts') c.args.toList = l
    generalize c.argTypes.toList = t
    cases b <;> rcases l with _ | ⟨x, _ | ⟨y, _ | ⟨z, l⟩⟩⟩ <;> rcases t with _ | ⟨p, _ | ⟨q, _ | ⟨r, t⟩⟩⟩ <;> rfl

theorem parts_congr {ts ts' : List D} {ps : Array (Nat × Operand)} (h : ∀ p ∈ ps, eval ts p.2 = eval ts' p.2) : (ps.toList.map fun p => (p.1, eval ts p.2)) = (ps.toList.map fun p => (p.1, eval ts' p.2)) :=
  List.map_congr_left fun p hp => by rw [h p (by simpa using hp)]

theorem opt_congr {ts ts' : List D} {q : Option Operand} (h : ∀ x, q = some x → eval ts x = eval ts' x) : q.map (eval ts) = q.map (eval ts') := by
  cases q with
  | none => rfl
  | some x => simp [h x rfl]

set_option maxHeartbeats 2000000 in
theorem stepD_congr {P : Program} {call : Calling} {ts ts' : List D} {H : List Row} {o : Oper} (h : ∀ x ∈ o.op.operands, eval ts x = eval ts' x) : stepD P call ts H o = stepD P call ts' H o := by
  have hp := pureD_congr (P := P) h
  unfold stepD
  rw [hp]
  cases hop : o.op <;> rw [hop] at h <;> dsimp only
  case move x => rw [h x (by simp [Op.operands])]
  case assign x => rw [h x (by simp [Op.operands])]
  case pick c a b => rw [h c (by simp [Op.operands]), h a (by simp [Op.operands]), h b (by simp [Op.operands])]
  case box T x => rw [h x (by simp [Op.operands])]
  case load T x => rw [h x (by simp [Op.operands])]
  case store T x y => rw [h x (by simp [Op.operands]), h y (by simp [Op.operands])]
  case nilCheck x => rw [h x (by simp [Op.operands])]
  case makeFunc fn first captured =>
    have hc : captured.toList.map (eval ts) = captured.toList.map (eval ts') := List.map_congr_left fun x hx => h x (by simp [Op.operands]; exact .inr (by simpa using hx))
    cases fn <;> dsimp only <;> rw [hc]
  case makeMap T r => cases r <;> rfl
  case makeSlice T x y => rw [h x (by simp [Op.operands]), h y (by simp [Op.operands])]
  case fieldAddr T x f => rw [h x (by simp [Op.operands])]
  case indexAddr T x y => rw [h x (by simp [Op.operands]), h y (by simp [Op.operands])]
  case buildSlice T n ps => rw [parts_congr fun p hp => h p.2 (by simp [Op.operands]; exact ⟨p.1, hp⟩)]
  case mapUpdate T m k x => rw [h m (by simp [Op.operands]), h k (by simp [Op.operands]), h x (by simp [Op.operands])]
  case insert T m k x => rw [h m (by simp [Op.operands]), h k (by simp [Op.operands]), h x (by simp [Op.operands])]
  case lookup T m k ok => rw [h m (by simp [Op.operands]), h k (by simp [Op.operands])]
  case extract x i => rw [h x (by simp [Op.operands])]
  case call c => rw [callD_congr (ts' := ts') (fun x hx => h x (by simpa [Op.operands] using hx))]
  case slice T x lo hi mx =>
    rw [h x (by simp [Op.operands]), opt_congr (ts' := ts') (q := lo) (fun y hy => h y (by simp [Op.operands, hy])), opt_congr (ts' := ts') (q := hi) (fun y hy => h y (by simp [Op.operands, hy])), opt_congr (ts' := ts') (q := mx) (fun y hy => h y (by simp [Op.operands, hy]))]
  case field T x f => rw [h x (by simp [Op.operands])]
  case build T ps => rw [parts_congr fun p hp => h p.2 (by simp [Op.operands]; exact ⟨p.1, hp⟩)]
  case convert a b x => rw [h x (by simp [Op.operands])]
  case binOp op T x y ty =>
    have hx := h x (by simp [Op.operands])
    have hy := h y (by simp [Op.operands])
    cases op <;> dsimp only <;> rw [hx, hy]

end Go.Proofs.Ytjhemkeilagnnaa.Mir
