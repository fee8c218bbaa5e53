/- Regions that draw their order, walked in one order. -/
import Derived.Test.YtjhemkeilagnnaaSOk
namespace Go.Proofs.Ytjhemkeilagnnaa.Mir
open Go Go.RowKit
set_option linter.unusedVariables false

def SOp.vs : SOp → List SV
  | .mv x => [x]
  | .pick c a b => [c, a, b]
  | .alloc _ _ => []
  | .box _ x => [x]
  | .load1 a => [a]
  | .loadA _ a => [a]
  | .store _ a x => [a, x]
  | .nilc x => [x]
  | .off _ a => [a]
  | .fld1 _ x => [x]
  | .fldA _ _ x => [x]
  | .idx _ x i => [x, i]
  | .arr _ _ x i => [x, i]
  | .ext _ x => [x]
  | .bin _ x y => [x, y]
  | .binb _ x y => [x, y]
  | .nilq _ _ x y => [x, y]
  | .unot x => [x]
  | .fn _ caps => caps
  | .mkmap => []
  | .mkslice _ _ _ _ l c => [l, c]
  | .bld _ ps => ps.map fun p => p.2.2
  | .bsl _ _ _ _ ps => ps.map fun p => p.2
  | .app _ _ _ s x => [s, x]
  | .slen x => [x]
  | .mlen x => [x]
  | .sub _ _ x lo hi mx => x :: (lo.toList ++ hi.toList ++ mx.toList)
  | .conv _ x => [x]
  | .s2b x => [x]
  | .b2s x => [x]
  | .strlen x => [x]
  | .sidx x i => [x, i]
  | .mm _ x y => [x, y]
  | .ssub x lo hi => x :: (lo.toList ++ hi.toList)
  | .look _ _ _ m k => [m, k]
  | .mput _ m k x => [m, k, x]
  | .mdel _ m k => [m, k]
  | .call f args => f :: args
  | .raw _ => []
/-- Operations that look at rows. -/
def SOp.looks : SOp → Bool
  | .load1 _ | .loadA _ _ | .store _ _ _ | .bsl _ _ _ _ _ | .app _ _ _ _ _ | .mlen _ | .sub _ _ _ _ _ _ | .b2s _ | .look _ _ _ _ _ | .mput _ _ _ _ | .mdel _ _ _ | .call _ _ | .raw _ => true
  | _ => false
/-- .. that may turn rows. -/
def SOp.turns : SOp → Bool
  | .store _ _ _ | .bsl _ _ _ _ _ | .app _ _ _ _ _ | .mput _ _ _ _ | .mdel _ _ _ | .call _ _ | .raw _ => true
  | _ => false
def dedN : List Nat → List Nat
  | [] => []
  | x :: xs => if xs.contains x then dedN xs else x :: dedN xs
def refsL : List D → List Nat
  | [] => []
  | d :: ds => d.refs ++ refsL ds
def rowRefs (o : Option Row) : List Nat := match o with
  | some row => row.refs
  | none => []
def lvl (H : List Row) : List Nat → List Nat
  | [] => []
  | r :: rs => r :: (rowRefs H[r]? ++ lvl H rs)
def viewS (ts : List D) (H : List Row) (o : SOp) : List Nat :=
  match o with
  | .call f args => dedN (lvl H (lvl H (lvl H (refsL (args.map (SV.ev ts)) ++ (f.ev ts).refs))))
  | o => if o.looks then dedN (refsL (o.vs.map (SV.ev ts))) else []
def effS (w : Bool) (V : List Nat) (n : Nat) (d : D) (H' : List Row) : Eff := ⟨d, if w then V.map fun r => (r, H'.getD r .dead) else [], H'.drop n⟩
def chkS (n0 : Nat) (own : List Nat) (m : Nat) (V : List Nat) (ds : List D) (M : List Row) (e : Eff) (log : List (List Nat × List Nat)) : Bool :=
  V.all (refIn n0 own m) && (ds.all fun d => d.refs.all (refIn n0 own m)) && (M.all fun r => r.refs.all (refIn n0 own m)) && effOk n0 own m M.length e && (e.upd.all fun p => V.contains p.1 && decide (p.1 < M.length)) && okPairs m V (e.upd.map (·.1)) 0 log
def Chk (b : Bool) : Prop := b = true

def callDr (P : Program) (fd : D) (args : List D) (H : List Row) (K : D → List Row → Prop) : Prop :=
  ∃ g caps d0 H0, fd = .fn g caps ∧ Con P g (args ++ caps) H (fun d H' => d = d0 ∧ H' = H0) ∧ K d0 H0
def stepDr (P : Program) (ts : List D) (H : List Row) (o : SOp) (K : D → List Row → Prop) : Prop :=
  match o with
  | .call f args => callDr P (f.ev ts) (args.map (SV.ev ts)) H K
  | .nilq _ _ _ _ => False
  | .raw _ => False
  | o => stepS P ts H o K
def wpDr (P : Program) (b : List Nat) (n0 : Nat) : List SI → Nat → List Nat → List (List Nat × List Nat) → St → (St → Prop) → Prop
  | [], _, _, _, s, K => K ⟨s.ts, s.H, []⟩
  | o :: rest, i, own, log, s, K =>
    wantS s.ts o.guard
      (stepDr P s.ts (maskV (viewS s.ts s.H o.op) s.H) o.op fun d H' =>
        H' = (effS o.op.turns (viewS s.ts s.H o.op) s.H.length d H').heap (maskV (viewS s.ts s.H o.op) s.H) ∧
        Chk (chkS n0 own (b.getD i 0) (viewS s.ts s.H o.op) (o.op.vs.map (SV.ev s.ts)) (maskV (viewS s.ts s.H o.op) s.H) (effS o.op.turns (viewS s.ts s.H o.op) s.H.length d H') log) ∧
        wpDr P b n0 rest (i + 1) (own ++ (effS o.op.turns (viewS s.ts s.H o.op) s.H.length d H').news.map fun _ => i) (log ++ [(viewS s.ts s.H o.op, (effS o.op.turns (viewS s.ts s.H o.op) s.H.length d H').upd.map (·.1))])
          ⟨putD! s.ts o.dst d, (effS o.op.turns (viewS s.ts s.H o.op) s.H.length d H').heap s.H, []⟩ K)
      (wpDr P b n0 rest (i + 1) own (log ++ [([], [])]) ⟨putD! s.ts o.dst D.undef, s.H, []⟩ K)

section
variable {P : Program}
theorem svs_mem : ∀ {xs : List Operand} {ys : List SV}, svs xs = some ys → ∀ x ∈ xs, ∃ y ∈ ys, sv x = some y
  | [], _, _, x, hx => by simp at hx
  | z :: xs, ys, h, x, hx => by
    simp only [svs] at h
    split at h
    · rename_i y ys' hy hys
      injection h with h
      subst h
      rcases List.mem_cons.1 hx with rfl | hx
      · exact ⟨y, List.mem_cons_self, hy⟩
      · obtain ⟨q, h1, h2⟩ := svs_mem hys x hx
        exact ⟨q, List.mem_cons_of_mem _ h1, h2⟩
    · cases h
theorem sParts_mem {fs : Array Go.Field} : ∀ {l : List (Nat × Operand)} {ys : List (Nat × Nat × SV)}, sParts P fs l = some ys → ∀ p ∈ l, ∃ y ∈ ys.map (fun p => p.2.2), sv p.2 = some y
  | [], _, _, p, hp => by simp at hp
  | (i, x) :: l, ys, h, p, hp => by
    simp only [sParts] at h
    split at h
    · rename_i f y ys' hfi hx hl
      split at h
      · injection h with h
        subst h
        rcases List.mem_cons.1 hp with rfl | hp
        · exact ⟨y, by simp, hx⟩
        · obtain ⟨q, h1, h2⟩ := sParts_mem hl p hp
          exact ⟨q, by rw [List.map_cons]; exact List.mem_cons_of_mem _ h1, h2⟩
      · cases h
    · cases h
theorem sElems_mem {sz : Nat} : ∀ {l : List (Nat × Operand)} {ys : List (Nat × SV)}, sElems sz l = some ys → ∀ p ∈ l, ∃ y ∈ ys.map (fun p => p.2), sv p.2 = some y
  | [], _, _, p, hp => by simp at hp
  | (i, x) :: l, ys, h, p, hp => by
    simp only [sElems] at h
    split at h
    · rename_i y ys' hx hl
      injection h with h
      subst h
      rcases List.mem_cons.1 hp with rfl | hp
      · exact ⟨y, by simp, hx⟩
      · obtain ⟨q, h1, h2⟩ := sElems_mem hl p hp
        exact ⟨q, by rw [List.map_cons]; exact List.mem_cons_of_mem _ h1, h2⟩
    · cases h
theorem svo_mem {q : Option Operand} {r : Option SV} (h : svo q = some r) : ∀ x ∈ q.toList, ∃ y ∈ r.toList, sv x = some y := by
  intro x hx
  cases q with
  | none => simp at hx
  | some z =>
    simp at hx
    subst hx
    simp only [svo, Option.map_eq_some_iff] at h
    obtain ⟨y, hy, rfl⟩ := h
    exact ⟨y, by simp, hy⟩

/-- Each operand is looked at. -/
theorem vs_all {o : Oper} {so : SOp} (h : resOp? P o = some so) : ∀ x ∈ o.op.operands, ∃ v ∈ so.vs, sv x = some v := by
  obtain ⟨dst, op, ty, pos, after, guard⟩ := o
  unfold resOp? at h
  intro x hx
  have one : ∀ {f : SV → SOp} {z : Operand}, (sv z).map f = some so → x = z → (∀ y, y ∈ (f y).vs) → ∃ v ∈ so.vs, sv x = some v := by
    intro f z h e hf
    rw [Option.map_eq_some_iff] at h
    obtain ⟨y, hy, rfl⟩ := h
    exact ⟨y, hf y, by rw [e]; exact hy⟩
  cases op <;> dsimp only at h hx
  case move z => exact one h (by simpa [Op.operands] using hx) (by simp [SOp.vs])
  case assign z => exact one h (by simpa [Op.operands] using hx) (by simp [SOp.vs])
  case box T z => exact one h (by simpa [Op.operands] using hx) (by simp [SOp.vs])
  case nilCheck z => exact one h (by simpa [Op.operands] using hx) (by simp [SOp.vs])
  case extract z i => exact one h (by simpa [Op.operands] using hx) (by simp [SOp.vs])
  case unOp op T z => cases op <;> dsimp only at h <;> first | cases h | exact one h (by simpa [Op.operands] using hx) (by simp [SOp.vs])
  case alloc T => simp [Op.operands] at hx
  case pick c p q =>
    split at h
    · rename_i c' p' q' h1 h2 h3
      injection h with h
      subst h
      simp [Op.operands] at hx
      rcases hx with rfl | rfl | rfl
      · exact ⟨c', by simp [SOp.vs], h1⟩
      · exact ⟨p', by simp [SOp.vs], h2⟩
      · exact ⟨q', by simp [SOp.vs], h3⟩
    · cases h
  case load T z =>
    simp [Op.operands] at hx
    subst hx
    split at h
    · rename_i y _ hy; injection h with h; subst h; exact ⟨y, by simp [SOp.vs], hy⟩
    · rename_i n b z y _ _ hy; injection h with h; subst h; exact ⟨y, by simp [SOp.vs], hy⟩
    · cases h
  case store T p q =>
    split at h
    · rename_i n b z p' q' _ h1 h2
      injection h with h
      subst h
      simp [Op.operands] at hx
      rcases hx with rfl | rfl
      · exact ⟨p', by simp [SOp.vs], h1⟩
      · exact ⟨q', by simp [SOp.vs], h2⟩
    · cases h
  case fieldAddr T z f =>
    simp [Op.operands] at hx
    subst hx
    split at h
    · rename_i o U y _ hy
      split at h
      · split at h
        · cases h
        · injection h with h; subst h; exact ⟨y, by simp [SOp.vs], hy⟩
      · cases h
    · cases h
  case field T z f =>
    simp [Op.operands] at hx
    subst hx
    split at h
    · rename_i o U y _ hy
      split at h
      · injection h with h; subst h; exact ⟨y, by simp [SOp.vs], hy⟩
      · injection h with h; subst h; exact ⟨y, by simp [SOp.vs], hy⟩
      · cases h
    · cases h
  case indexAddr T p q =>
    simp [Op.operands] at hx
    split at h
    · rename_i E p' q' _ h1 h2
      split at h
      · split at h
        · injection h with h
          subst h
          rcases hx with rfl | rfl
          · exact ⟨p', by simp [SOp.vs], h1⟩
          · exact ⟨q', by simp [SOp.vs], h2⟩
        · cases h
      · cases h
    · rename_i n E p' q' _ h1 h2
      split at h
      · injection h with h
        subst h
        rcases hx with rfl | rfl
        · exact ⟨p', by simp [SOp.vs], h1⟩
        · exact ⟨q', by simp [SOp.vs], h2⟩
      · cases h
    · cases h
  case index T p q =>
    simp [Op.operands] at hx
    split at h
    · rename_i p' q' _ h1 h2
      injection h with h
      subst h
      rcases hx with rfl | rfl
      · exact ⟨p', by simp [SOp.vs], h1⟩
      · exact ⟨q', by simp [SOp.vs], h2⟩
    · cases h
  case binOp op T p q U =>
    simp [Op.operands] at hx
    split at h
    · rename_i p' q' h1 h2
      have fin : p' ∈ so.vs → q' ∈ so.vs → ∃ v ∈ so.vs, sv x = some v := by
        intro g1 g2
        rcases hx with rfl | rfl
        · exact ⟨p', g1, h1⟩
        · exact ⟨q', g2, h2⟩
      split at h
      · cases op <;> dsimp only at h <;> first | (injection h with h; subst h; exact fin (by simp [SOp.vs]) (by simp [SOp.vs])) | cases h
      · split at h <;> first | (injection h with h; subst h; exact fin (by simp [SOp.vs]) (by simp [SOp.vs])) | cases h
    · cases h
  case makeFunc fn first caps =>
    cases fn with
    | func f =>
      dsimp only at h
      split at h
      · rename_i hf
        rw [Option.map_eq_some_iff] at h
        obtain ⟨ys, hys, rfl⟩ := h
        have hf' : first = #[] := by simpa using hf
        subst hf'
        simp [Op.operands] at hx
        obtain ⟨y, h1, h2⟩ := svs_mem hys x (by simpa using hx)
        exact ⟨y, h1, h2⟩
      · cases h
    | _ => cases h
  case makeMap T r =>
    cases r <;> dsimp only at h <;> first | cases h | skip
    simp [Op.operands] at hx
  case makeSlice T p q =>
    simp [Op.operands] at hx
    split at h
    · rename_i E sz b z p' q' _ h1 h2
      injection h with h
      subst h
      rcases hx with rfl | rfl
      · exact ⟨p', by simp [SOp.vs], h1⟩
      · exact ⟨q', by simp [SOp.vs], h2⟩
    · cases h
  case build T ps =>
    simp [Op.operands] at hx
    split at h
    · split at h
      · rw [Option.map_eq_some_iff] at h
        obtain ⟨ys, hys, rfl⟩ := h
        obtain ⟨i, hi⟩ := hx
        obtain ⟨y, h1, h2⟩ := sParts_mem hys (i, x) (by simpa using hi)
        exact ⟨y, h1, h2⟩
      · cases h
    · cases h
  case buildSlice T n ps =>
    simp [Op.operands] at hx
    split at h
    · split at h
      · rw [Option.map_eq_some_iff] at h
        obtain ⟨ys, hys, rfl⟩ := h
        obtain ⟨i, hi⟩ := hx
        obtain ⟨y, h1, h2⟩ := sElems_mem hys (i, x) (by simpa using hi)
        exact ⟨y, h1, h2⟩
      · cases h
    · cases h
  case slice T z lo hi mx =>
    split at h
    · rename_i E sz b zz z' lo' hi' mx' _ h1 h2 h3 h4
      injection h with h
      subst h
      simp [Op.operands] at hx
      have opt : ∀ {q : Option Operand} {r : Option SV}, svo q = some r → q = some x → ∃ y ∈ r.toList, sv x = some y := fun hq e => svo_mem hq x (by rw [e]; simp)
      rcases hx with rfl | hx | hx | hx
      · exact ⟨z', by simp [SOp.vs], h1⟩
      · obtain ⟨y, g1, g2⟩ := opt h2 hx; exact ⟨y, by simp [SOp.vs] at g1 ⊢; simp [g1], g2⟩
      · obtain ⟨y, g1, g2⟩ := opt h3 hx; exact ⟨y, by simp [SOp.vs] at g1 ⊢; simp [g1], g2⟩
      · obtain ⟨y, g1, g2⟩ := opt h4 hx; exact ⟨y, by simp [SOp.vs] at g1 ⊢; simp [g1], g2⟩
    · rename_i z' lo' hi' _ h1 h2 h3 h4
      split at h
      · injection h with h
        subst h
        have hmn : mx = none := by
          cases mx with
          | none => rfl
          | some v => simp [svo] at h4
        subst hmn
        simp [Op.operands] at hx
        have opt : ∀ {q : Option Operand} {r : Option SV}, svo q = some r → q = some x → ∃ y ∈ r.toList, sv x = some y := fun hq e => svo_mem hq x (by rw [e]; simp)
        rcases hx with rfl | hx | hx
        · exact ⟨z', by simp [SOp.vs], h1⟩
        · obtain ⟨y, g1, g2⟩ := opt h2 hx; exact ⟨y, by simp [SOp.vs] at g1 ⊢; simp [g1], g2⟩
        · obtain ⟨y, g1, g2⟩ := opt h3 hx; exact ⟨y, by simp [SOp.vs] at g1 ⊢; simp [g1], g2⟩
      · cases h
    · cases h
  case lookup T m k ok =>
    split at h
    · rename_i K E m' k' hu hm hk
      split at h
      · injection h with h
        subst h
        simp [Op.operands] at hx
        rcases hx with rfl | rfl
        · exact ⟨m', by simp [SOp.vs], hm⟩
        · exact ⟨k', by simp [SOp.vs], hk⟩
      · cases h
    · cases h
  case mapUpdate T m k z =>
    split at h
    · rename_i K E m' k' z' hu hm hk hz
      injection h with h
      subst h
      simp [Op.operands] at hx
      rcases hx with rfl | rfl | rfl
      · exact ⟨m', by simp [SOp.vs], hm⟩
      · exact ⟨k', by simp [SOp.vs], hk⟩
      · exact ⟨z', by simp [SOp.vs], hz⟩
    · cases h
  case insert T m k z =>
    split at h
    · rename_i K E m' k' z' hu hm hk hz
      injection h with h
      subst h
      simp [Op.operands] at hx
      rcases hx with rfl | rfl | rfl
      · exact ⟨m', by simp [SOp.vs], hm⟩
      · exact ⟨k', by simp [SOp.vs], hk⟩
      · exact ⟨z', by simp [SOp.vs], hz⟩
    · cases h
  case convert p q z =>
    simp [Op.operands] at hx
    subst hx
    split at h
    · rename_i y _ _ hy; injection h with h; subst h; exact ⟨y, by simp [SOp.vs], hy⟩
    · rename_i E y _ _ hy
      split at h
      · injection h with h; subst h; exact ⟨y, by simp [SOp.vs], hy⟩
      · cases h
    · rename_i E y _ _ hy
      split at h
      · injection h with h; subst h; exact ⟨y, by simp [SOp.vs], hy⟩
      · cases h
    · cases h
  case call c =>
    obtain ⟨callee, args, argTypes⟩ := c
    simp only [Op.operands, Call.operands] at hx
    have bi : ∀ {b : Builtin} {ys : List SV}, callee = .builtin b → svs args.toList = some ys → (∀ y ∈ ys, y ∈ so.vs) → ∃ v ∈ so.vs, sv x = some v := by
      rintro b ys rfl hys hall
      obtain ⟨y, h1, h2⟩ := svs_mem hys x (by simpa using hx)
      exact ⟨y, hall y h1, h2⟩
    split at h
    · rename_i p q t u hca hl hty
      split at h
      · injection h with h; subst h; exact bi hca hl (by simp [SOp.vs])
      · cases h
    · rename_i p q t u hca hl hty
      split at h
      · split at h
        · split at h
          · injection h with h; subst h; exact bi hca hl (by simp [SOp.vs])
          · cases h
        · cases h
      · cases h
    · rename_i p t hca hl hty
      split at h <;> first | (injection h with h; subst h; exact bi hca hl (by simp [SOp.vs])) | cases h
    · rename_i p q hca hl
      injection h with h; subst h; exact bi hca hl (by simp [SOp.vs])
    · rename_i p q hca hl
      injection h with h; subst h; exact bi hca hl (by simp [SOp.vs])
    · rename_i f xs hca hl
      simp only at hca hl
      split at h
      · rename_i f' hf
        injection h with h
        subst h
        subst hca
        simp at hx
        rcases hx with rfl | hx
        · exact ⟨f', by simp [SOp.vs], hf⟩
        · obtain ⟨y, h1, h2⟩ := svs_mem hl x (by simpa using hx)
          exact ⟨y, by simp [SOp.vs, h1], h2⟩
      · cases h
    · cases h
  all_goals cases h

theorem svs_from : ∀ {xs : List Operand} {ys : List SV}, svs xs = some ys → ∀ y ∈ ys, ∃ x ∈ xs, sv x = some y
  | [], ys, h, y, hy => by simp [svs] at h; subst h; simp at hy
  | z :: xs, ys, h, y, hy => by
    simp only [svs] at h
    split at h
    · rename_i y' ys' hz hys
      injection h with h
      subst h
      rcases List.mem_cons.1 hy with rfl | hy
      · exact ⟨z, List.mem_cons_self, hz⟩
      · obtain ⟨q, h1, h2⟩ := svs_from hys y hy
        exact ⟨q, List.mem_cons_of_mem _ h1, h2⟩
    · cases h
theorem sParts_from {fs : Array Go.Field} : ∀ {l : List (Nat × Operand)} {ys : List (Nat × Nat × SV)}, sParts P fs l = some ys → ∀ y ∈ ys.map (fun p => p.2.2), ∃ p ∈ l, sv p.2 = some y
  | [], ys, h, y, hy => by simp [sParts] at h; subst h; simp at hy
  | (i, x) :: l, ys, h, y, hy => by
    simp only [sParts] at h
    split at h
    · rename_i f y' ys' hfi hx hl
      split at h
      · injection h with h
        subst h
        rw [List.map_cons] at hy
        rcases List.mem_cons.1 hy with rfl | hy
        · exact ⟨(i, x), List.mem_cons_self, hx⟩
        · obtain ⟨q, h1, h2⟩ := sParts_from hl y hy
          exact ⟨q, List.mem_cons_of_mem _ h1, h2⟩
      · cases h
    · cases h
theorem sElems_from {sz : Nat} : ∀ {l : List (Nat × Operand)} {ys : List (Nat × SV)}, sElems sz l = some ys → ∀ y ∈ ys.map (fun p => p.2), ∃ p ∈ l, sv p.2 = some y
  | [], ys, h, y, hy => by simp [sElems] at h; subst h; simp at hy
  | (i, x) :: l, ys, h, y, hy => by
    simp only [sElems] at h
    split at h
    · rename_i y' ys' hx hl
      injection h with h
      subst h
      rw [List.map_cons] at hy
      rcases List.mem_cons.1 hy with rfl | hy
      · exact ⟨(i, x), List.mem_cons_self, hx⟩
      · obtain ⟨q, h1, h2⟩ := sElems_from hl y hy
        exact ⟨q, List.mem_cons_of_mem _ h1, h2⟩
    · cases h
/-- What is looked at is an operand. -/
theorem vs_from {o : Oper} {so : SOp} (h : resOp? P o = some so) : ∀ v ∈ so.vs, ∃ x ∈ o.op.operands, sv x = some v := by
  obtain ⟨dst, op, ty, pos, after, guard⟩ := o
  unfold resOp? at h
  intro v hv
  have one : ∀ {f : SV → SOp} {z : Operand}, (sv z).map f = some so → (∀ y, ∀ v ∈ (f y).vs, v = y) → z ∈ op.operands → ∃ x ∈ op.operands, sv x = some v := by
    intro f z h hf hz
    rw [Option.map_eq_some_iff] at h
    obtain ⟨y, hy, rfl⟩ := h
    exact ⟨z, hz, by rw [hf y v hv]; exact hy⟩
  cases op <;> dsimp only at h ⊢
  case move z => exact one h (by simp [SOp.vs]) (by simp [Op.operands])
  case assign z => exact one h (by simp [SOp.vs]) (by simp [Op.operands])
  case box T z => exact one h (by simp [SOp.vs]) (by simp [Op.operands])
  case nilCheck z => exact one h (by simp [SOp.vs]) (by simp [Op.operands])
  case extract z i => exact one h (by simp [SOp.vs]) (by simp [Op.operands])
  case unOp op T z => cases op <;> dsimp only at h <;> first | cases h | exact one h (by simp [SOp.vs]) (by simp [Op.operands])
  case alloc T =>
    split at h
    · injection h with h; subst h; simp [SOp.vs] at hv
    · cases h
  case pick c p q =>
    split at h
    · rename_i c' p' q' h1 h2 h3
      injection h with h
      subst h
      simp [SOp.vs] at hv
      rcases hv with rfl | rfl | rfl
      · exact ⟨c, by simp [Op.operands], h1⟩
      · exact ⟨p, by simp [Op.operands], h2⟩
      · exact ⟨q, by simp [Op.operands], h3⟩
    · cases h
  case load T z =>
    split at h
    · rename_i y _ hy; injection h with h; subst h; simp [SOp.vs] at hv; subst hv; exact ⟨z, by simp [Op.operands], hy⟩
    · rename_i n b zz y _ _ hy; injection h with h; subst h; simp [SOp.vs] at hv; subst hv; exact ⟨z, by simp [Op.operands], hy⟩
    · cases h
  case store T p q =>
    split at h
    · rename_i n b z p' q' _ h1 h2
      injection h with h
      subst h
      simp [SOp.vs] at hv
      rcases hv with rfl | rfl
      · exact ⟨p, by simp [Op.operands], h1⟩
      · exact ⟨q, by simp [Op.operands], h2⟩
    · cases h
  case fieldAddr T z f =>
    split at h
    · rename_i o U y _ hy
      split at h
      · split at h
        · cases h
        · injection h with h; subst h; simp [SOp.vs] at hv; subst hv; exact ⟨z, by simp [Op.operands], hy⟩
      · cases h
    · cases h
  case field T z f =>
    split at h
    · rename_i o U y _ hy
      split at h
      · injection h with h; subst h; simp [SOp.vs] at hv; subst hv; exact ⟨z, by simp [Op.operands], hy⟩
      · injection h with h; subst h; simp [SOp.vs] at hv; subst hv; exact ⟨z, by simp [Op.operands], hy⟩
      · cases h
    · cases h
  case indexAddr T p q =>
    have fin : ∀ {p' q' : SV}, sv p = some p' → sv q = some q' → (v = p' ∨ v = q') → ∃ x ∈ (Op.indexAddr T p q).operands, sv x = some v := by
      rintro p' q' h1 h2 (rfl | rfl)
      · exact ⟨p, by simp [Op.operands], h1⟩
      · exact ⟨q, by simp [Op.operands], h2⟩
    split at h
    · rename_i E p' q' _ h1 h2
      split at h
      · split at h
        · injection h with h; subst h; exact fin h1 h2 (by simpa [SOp.vs] using hv)
        · cases h
      · cases h
    · rename_i n E p' q' _ h1 h2
      split at h
      · injection h with h; subst h; exact fin h1 h2 (by simpa [SOp.vs] using hv)
      · cases h
    · cases h
  case index T p q =>
    split at h
    · rename_i p' q' _ h1 h2
      injection h with h
      subst h
      simp [SOp.vs] at hv
      rcases hv with rfl | rfl
      · exact ⟨p, by simp [Op.operands], h1⟩
      · exact ⟨q, by simp [Op.operands], h2⟩
    · cases h
  case binOp op T p q U =>
    split at h
    · rename_i p' q' h1 h2
      have fin : (v = p' ∨ v = q') → ∃ x ∈ (Op.binOp op T p q U).operands, sv x = some v := by
        rintro (rfl | rfl)
        · exact ⟨p, by simp [Op.operands], h1⟩
        · exact ⟨q, by simp [Op.operands], h2⟩
      split at h
      · cases op <;> dsimp only at h <;> first | (injection h with h; subst h; exact fin (by simpa [SOp.vs] using hv)) | cases h
      · split at h <;> first | (injection h with h; subst h; exact fin (by simpa [SOp.vs] using hv)) | cases h
    · cases h
  case makeFunc fn first caps =>
    cases fn with
    | func f =>
      dsimp only at h
      split at h
      · rw [Option.map_eq_some_iff] at h
        obtain ⟨ys, hys, rfl⟩ := h
        obtain ⟨x, h1, h2⟩ := svs_from hys v hv
        exact ⟨x, by simp [Op.operands]; right; simpa using h1, h2⟩
      · cases h
    | _ => cases h
  case makeMap T r =>
    cases r <;> dsimp only at h <;> first | cases h | skip
    simp [SOp.vs] at hv
  case makeSlice T p q =>
    split at h
    · rename_i E sz b z p' q' _ h1 h2
      injection h with h
      subst h
      simp [SOp.vs] at hv
      rcases hv with rfl | rfl
      · exact ⟨p, by simp [Op.operands], h1⟩
      · exact ⟨q, by simp [Op.operands], h2⟩
    · cases h
  case build T ps =>
    split at h
    · split at h
      · rw [Option.map_eq_some_iff] at h
        obtain ⟨ys, hys, rfl⟩ := h
        obtain ⟨q, h1, h2⟩ := sParts_from hys v hv
        exact ⟨q.2, by simp [Op.operands]; exact ⟨q.1, by simpa using h1⟩, h2⟩
      · cases h
    · cases h
  case buildSlice T n ps =>
    split at h
    · split at h
      · rw [Option.map_eq_some_iff] at h
        obtain ⟨ys, hys, rfl⟩ := h
        obtain ⟨q, h1, h2⟩ := sElems_from hys v hv
        exact ⟨q.2, by simp [Op.operands]; exact ⟨q.1, by simpa using h1⟩, h2⟩
      · cases h
    · cases h
  case slice T z lo hi mx =>
    split at h
    · rename_i E sz b zz z' lo' hi' mx' _ h1 h2 h3 h4
      injection h with h
      subst h
      have opt : ∀ {q : Option Operand} {r : Option SV}, svo q = some r → r = some v → ∃ x, q = some x ∧ sv x = some v := by
        intro q r hq e
        subst e
        cases q with
        | none => simp [svo] at hq
        | some x => simp only [svo, Option.map_eq_some_iff] at hq; obtain ⟨y, hy, e⟩ := hq; injection e with e; subst e; exact ⟨x, rfl, hy⟩
      simp [SOp.vs] at hv
      rcases hv with rfl | hv | hv | hv
      · exact ⟨z, by simp [Op.operands], h1⟩
      · obtain ⟨x, g1, g2⟩ := opt h2 hv; exact ⟨x, by simp [Op.operands, g1], g2⟩
      · obtain ⟨x, g1, g2⟩ := opt h3 hv; exact ⟨x, by simp [Op.operands, g1], g2⟩
      · obtain ⟨x, g1, g2⟩ := opt h4 hv; exact ⟨x, by simp [Op.operands, g1], g2⟩
    · rename_i z' lo' hi' _ h1 h2 h3 h4
      split at h
      · injection h with h
        subst h
        have opt : ∀ {q : Option Operand} {r : Option SV}, svo q = some r → r = some v → ∃ x, q = some x ∧ sv x = some v := by
          intro q r hq e
          subst e
          cases q with
          | none => simp [svo] at hq
          | some x => simp only [svo, Option.map_eq_some_iff] at hq; obtain ⟨y, hy, e⟩ := hq; injection e with e; subst e; exact ⟨x, rfl, hy⟩
        simp [SOp.vs] at hv
        rcases hv with rfl | hv | hv
        · exact ⟨z, by simp [Op.operands], h1⟩
        · obtain ⟨x, g1, g2⟩ := opt h2 hv; exact ⟨x, by simp [Op.operands, g1], g2⟩
        · obtain ⟨x, g1, g2⟩ := opt h3 hv; exact ⟨x, by simp [Op.operands, g1], g2⟩
      · cases h
    · cases h
  case lookup T m k ok =>
    split at h
    · rename_i K E m' k' hu hm hk
      split at h
      · injection h with h
        subst h
        simp [SOp.vs] at hv
        rcases hv with rfl | rfl
        · exact ⟨m, by simp [Op.operands], hm⟩
        · exact ⟨k, by simp [Op.operands], hk⟩
      · cases h
    · cases h
  case mapUpdate T m k z =>
    split at h
    · rename_i K E m' k' z' hu hm hk hz
      injection h with h
      subst h
      simp [SOp.vs] at hv
      rcases hv with rfl | rfl | rfl
      · exact ⟨m, by simp [Op.operands], hm⟩
      · exact ⟨k, by simp [Op.operands], hk⟩
      · exact ⟨z, by simp [Op.operands], hz⟩
    · cases h
  case insert T m k z =>
    split at h
    · rename_i K E m' k' z' hu hm hk hz
      injection h with h
      subst h
      simp [SOp.vs] at hv
      rcases hv with rfl | rfl | rfl
      · exact ⟨m, by simp [Op.operands], hm⟩
      · exact ⟨k, by simp [Op.operands], hk⟩
      · exact ⟨z, by simp [Op.operands], hz⟩
    · cases h
  case convert p q z =>
    have fin : ∀ {y : SV}, sv z = some y → v = y → ∃ x ∈ (Op.convert p q z).operands, sv x = some v := by
      rintro y hy rfl
      exact ⟨z, by simp [Op.operands], hy⟩
    split at h
    · rename_i y _ _ hy; injection h with h; subst h; exact fin hy (by simpa [SOp.vs] using hv)
    · rename_i E y _ _ hy
      split at h
      · injection h with h; subst h; exact fin hy (by simpa [SOp.vs] using hv)
      · cases h
    · rename_i E y _ _ hy
      split at h
      · injection h with h; subst h; exact fin hy (by simpa [SOp.vs] using hv)
      · cases h
    · cases h
  case call c =>
    obtain ⟨callee, args, argTypes⟩ := c
    have bi : ∀ {b : Builtin} {ys : List SV}, callee = .builtin b → svs args.toList = some ys → (v ∈ ys) → ∃ x ∈ (Op.call ⟨callee, args, argTypes⟩).operands, sv x = some v := by
      rintro b ys rfl hys hall
      obtain ⟨x, h1, h2⟩ := svs_from hys v hall
      exact ⟨x, by simpa [Op.operands, Call.operands] using h1, h2⟩
    split at h
    · rename_i p q t u hca hl hty
      split at h
      · injection h with h; subst h; exact bi hca hl (by simpa [SOp.vs] using hv)
      · cases h
    · rename_i p q t u hca hl hty
      split at h
      · split at h
        · split at h
          · injection h with h; subst h; exact bi hca hl (by simpa [SOp.vs] using hv)
          · cases h
        · cases h
      · cases h
    · rename_i p t hca hl hty
      split at h <;> first | (injection h with h; subst h; exact bi hca hl (by simpa [SOp.vs] using hv)) | cases h
    · rename_i p q hca hl
      injection h with h; subst h; exact bi hca hl (by simpa [SOp.vs] using hv)
    · rename_i p q hca hl
      injection h with h; subst h; exact bi hca hl (by simpa [SOp.vs] using hv)
    · rename_i f xs hca hl
      simp only at hca hl
      split at h
      · rename_i f' hf
        injection h with h
        subst h
        subst hca
        simp [SOp.vs] at hv
        rcases hv with rfl | hv
        · exact ⟨f, by simp [Op.operands, Call.operands], hf⟩
        · obtain ⟨x, h1, h2⟩ := svs_from hl v hv
          exact ⟨x, by simp [Op.operands, Call.operands]; right; simpa using h1, h2⟩
      · cases h
    · cases h
  all_goals cases h
theorem wantS_ok {ops : List Oper} {o : Oper} {i : SI} (hr : resI P ops o = some i) {ts : List D} {p q : Prop} (h : wantS ts i.guard p q) : ∃ b, wantedD ops ts o = some b ∧ (if b then p else q) := by
  unfold resI at hr
  unfold wantedD
  split at hr
  · rename_i hg
    injection hr with hr
    subst hr
    simp only [hg]
    exact ⟨true, rfl, h⟩
  · rename_i j w hg
    split at hr
    · rename_i o' ho
      split at hr
      · rename_i t ht
        injection hr with hr
        subst hr
        simp only [hg, ho, ht]
        unfold wantS at h
        dsimp only at h
        split at h
        · rename_i b hb
          simp only [hb]
          refine ⟨_, rfl, ?_⟩
          cases w <;> cases b <;> simp [Bsel] at h ⊢ <;> exact h
        · rename_i xs hb
          simp only [hb]
          exact ⟨false, rfl, by simpa using h⟩
        · exact h.elim
      · cases hr
    · cases hr
theorem resI_parts {ops : List Oper} {o : Oper} {i : SI} (hr : resI P ops o = some i) : i.dst = o.dst ∧ i.op = resOp P o := by
  unfold resI at hr
  split at hr
  · injection hr with hr; subst hr; exact ⟨rfl, rfl⟩
  · split at hr
    · split at hr
      · injection hr with hr; subst hr; exact ⟨rfl, rfl⟩
      · cases hr
    · cases hr

theorem stepDr_congr {ts ts' : List D} {H : List Row} {so : SOp} {K : D → List Row → Prop} (hv : ∀ v ∈ so.vs, v.ev ts' = v.ev ts) : stepDr P ts' H so K = stepDr P ts H so K := by
  cases so <;> simp only [stepDr, stepS, SOp.vs, List.mem_cons, List.not_mem_nil, or_false, forall_eq_or_imp, forall_eq, List.mem_append, Option.mem_toList] at hv ⊢
  case pick => rw [hv.1, hv.2.1, hv.2.2]
  case bin => rw [hv.1, hv.2]
  case binb => rw [hv.1, hv.2]
  case store => rw [hv.1, hv.2]
  case idx => rw [hv.1, hv.2]
  case arr => rw [hv.1, hv.2]
  case mkslice => rw [hv.1, hv.2]
  case app => rw [hv.1, hv.2]
  case sidx => rw [hv.1, hv.2]
  case mm => rw [hv.1, hv.2]
  case ssub x lo hi =>
    have e1 := hv.1
    have e2 : ∀ v, lo = some v → v.ev ts' = v.ev ts := fun v h => hv.2 v (.inl h)
    have e3 : ∀ v, hi = some v → v.ev ts' = v.ev ts := fun v h => hv.2 v (.inr h)
    rw [e1]
    cases lo <;> cases hi <;> simp only [Option.some.injEq, forall_eq', reduceCtorEq, false_implies, implies_true] at e2 e3 <;> simp only [Option.map_some, Option.map_none, e2, e3]
  case look => rw [hv.1, hv.2]
  case mput => rw [hv.1, hv.2.1, hv.2.2]
  case mdel => rw [hv.1, hv.2]
  case fn caps =>
    have : caps.map (SV.ev ts') = caps.map (SV.ev ts) := List.map_congr_left hv
    rw [this]
  case call f args =>
    have : args.map (SV.ev ts') = args.map (SV.ev ts) := List.map_congr_left fun v hm => hv.2 v hm
    rw [this, hv.1]
  case bld z ps =>
    have : (ps.map fun p => (p.1, p.2.1, p.2.2.ev ts')) = ps.map fun p => (p.1, p.2.1, p.2.2.ev ts) := List.map_congr_left fun q hq => by
      rw [hv q.2.2 (List.mem_map.2 ⟨q, hq, rfl⟩)]
    rw [this]
  case bsl T sz len z ps =>
    have : (ps.map fun p => (p.1, sz, p.2.ev ts')) = ps.map fun p => (p.1, sz, p.2.ev ts) := List.map_congr_left fun q hq => by
      rw [hv q.2 (List.mem_map.2 ⟨q, hq, rfl⟩)]
    rw [this]
  case sub sz E x lo hi mx =>
    have e1 := hv.1
    have e2 : ∀ v, lo = some v → v.ev ts' = v.ev ts := fun v h => hv.2 v (.inl (.inl h))
    have e3 : ∀ v, hi = some v → v.ev ts' = v.ev ts := fun v h => hv.2 v (.inl (.inr h))
    have e4 : ∀ v, mx = some v → v.ev ts' = v.ev ts := fun v h => hv.2 v (.inr h)
    rw [e1]
    cases lo <;> cases hi <;> cases mx <;> simp only [Option.some.injEq, forall_eq', reduceCtorEq, false_implies, implies_true] at e2 e3 e4 <;> simp only [e2, e3, e4]
  all_goals first | rfl | rw [hv]
theorem bindDet {α : Type} {o : Option α} {K : α → D → List Row → Prop} {F : (D → List Row → Prop) → α → Prop} {G : D → List Row → Prop} (h : bind' o (F G)) (hF : ∀ a, o = some a → F G a → ∃ d H', G d H' ∧ F (fun d1 H1 => d1 = d ∧ H1 = H') a) :
    ∃ d H', G d H' ∧ bind' o (F fun d1 H1 => d1 = d ∧ H1 = H') := by
  obtain ⟨a, ha, h1⟩ := bind'_ex h
  obtain ⟨d, H', h2, h3⟩ := hF a ha h1
  exact ⟨d, H', h2, by rw [ha]; exact h3⟩
theorem twoDet {c : Prop} {G : D → List Row → Prop} {F1 F2 : (D → List Row → Prop) → Prop} (h : Two c (F1 G) (F2 G)) (h1 : c → F1 G → ∃ d H', G d H' ∧ F1 fun d1 H1 => d1 = d ∧ H1 = H') (h2 : ¬ c → F2 G → ∃ d H', G d H' ∧ F2 fun d1 H1 => d1 = d ∧ H1 = H') :
    ∃ d H', G d H' ∧ Two c (F1 fun d1 H1 => d1 = d ∧ H1 = H') (F2 fun d1 H1 => d1 = d ∧ H1 = H') := by
  rcases two_ok h with ⟨hc, hg⟩ | ⟨hc, hg⟩
  · obtain ⟨d, H', g1, g2⟩ := h1 hc hg
    exact ⟨d, H', g1, fun _ => g2, fun h => absurd hc h⟩
  · obtain ⟨d, H', g1, g2⟩ := h2 hc hg
    exact ⟨d, H', g1, fun h => absurd h hc, fun _ => g2⟩
theorem intDet {op : BinOp} {k : IntKind} {a b : Int} {H : List Row} {K : D → List Row → Prop} (h : intS op k a b fun d => K d H) : ∃ d H', K d H' ∧ intS op k a b fun d1 => d1 = d ∧ H = H' := by
  have two : ∀ {c : Prop} {x y : D}, Two c (K x H) (K y H) → ∃ d H', K d H' ∧ Two c (x = d ∧ H = H') (y = d ∧ H = H') := by
    intro c x y h
    rcases two_ok h with ⟨hc, hg⟩ | ⟨hc, hg⟩
    · exact ⟨x, H, hg, fun _ => ⟨rfl, rfl⟩, fun h => absurd hc h⟩
    · exact ⟨y, H, hg, fun h => absurd h hc, fun _ => ⟨rfl, rfl⟩⟩
  cases op <;> simp only [intS] at h ⊢
  case add => exact ⟨_, _, h, rfl, rfl⟩
  case sub => exact ⟨_, _, h, rfl, rfl⟩
  case mul => exact ⟨_, _, h, rfl, rfl⟩
  case quo => exact ⟨_, _, h.2, h.1, rfl, rfl⟩
  case rem => exact ⟨_, _, h.2, h.1, rfl, rfl⟩
  all_goals exact two h
theorem strDet {op : BinOp} {a b : ByteArray} {H : List Row} {K : D → List Row → Prop} (h : strS op a b fun d => K d H) : ∃ d H', K d H' ∧ strS op a b fun d1 => d1 = d ∧ H = H' := by
  have two : ∀ {c : Prop} {x y : D}, Two c (K x H) (K y H) → ∃ d H', K d H' ∧ Two c (x = d ∧ H = H') (y = d ∧ H = H') := by
    intro c x y h
    rcases two_ok h with ⟨hc, hg⟩ | ⟨hc, hg⟩
    · exact ⟨x, H, hg, fun _ => ⟨rfl, rfl⟩, fun h => absurd hc h⟩
    · exact ⟨y, H, hg, fun h => absurd h hc, fun _ => ⟨rfl, rfl⟩⟩
  cases op <;> simp only [strS] at h ⊢
  case add => exact ⟨_, _, h.2, h.1, rfl, rfl⟩
  all_goals exact two h

theorem stepDr_det {ts : List D} {H : List Row} {so : SOp} {K : D → List Row → Prop} (h : stepDr P ts H so K) : ∃ d H', K d H' ∧ stepDr P ts H so fun d1 H1 => d1 = d ∧ H1 = H' := by
  have bnd : ∀ {α : Type} {o : Option α} {f : α → D} {g : α → List Row}, bind' o (fun a => K (f a) (g a)) → ∃ d H', K d H' ∧ bind' o fun a => f a = d ∧ g a = H' := by
    intro α o f g h
    obtain ⟨a, ha, h1⟩ := bind'_ex h
    exact ⟨_, _, h1, by rw [ha]; exact ⟨rfl, rfl⟩⟩
  cases so <;> simp only [stepDr, stepS] at h ⊢
  case mv => exact ⟨_, _, h, rfl, rfl⟩
  case alloc => exact ⟨_, _, h, rfl, rfl⟩
  case fn => exact ⟨_, _, h, rfl, rfl⟩
  case mkmap => exact ⟨_, _, h, rfl, rfl⟩
  case pick c p q =>
    unfold pickS at h ⊢
    split at h
    · rename_i t ht
      cases t
      · rw [Bsel_false] at h; exact ⟨_, _, h, by rw [Bsel_false]; exact ⟨rfl, rfl⟩⟩
      · rw [Bsel_true] at h; exact ⟨_, _, h, by rw [Bsel_true]; exact ⟨rfl, rfl⟩⟩
    · exact h.elim
  case idx sz x i =>
    unfold idxS at h ⊢
    split at h
    · split at h
      · exact ⟨_, _, h.2, h.1, rfl, rfl⟩
      · exact ⟨_, _, h.2, h.1, rfl, rfl⟩
      · exact h.elim
    · exact h.elim
  case arr sz n x i =>
    unfold arrS at h ⊢
    split at h
    · split at h
      · exact ⟨_, _, h.2, h.1, rfl, rfl⟩
      · exact h.elim
    · exact h.elim
  case bin op x y =>
    unfold binS at h ⊢
    split at h
    · obtain ⟨d, H', h1, h2⟩ := intDet h.2
      exact ⟨d, H', h1, h.1, h2⟩
    · exact strDet h
    · exact h.elim
  case binb op x y =>
    unfold binbS at h ⊢
    split at h
    · cases op <;> simp only [boolS] at h ⊢ <;> exact ⟨_, _, h, rfl, rfl⟩
    · exact h.elim
  case mkslice T sz b z l c =>
    obtain ⟨p, hp, h⟩ := bind'_ex h
    obtain ⟨q, hq, h⟩ := bind'_ex h
    exact ⟨_, _, h.2, bind'_of hp (bind'_of hq ⟨h.1, rfl, rfl⟩)⟩
  case bsl T sz len z ps =>
    obtain ⟨p, hp, h⟩ := bind'_ex h
    obtain ⟨q, hq, h⟩ := bind'_ex h
    exact ⟨_, _, h, bind'_of hp (bind'_of hq ⟨rfl, rfl⟩)⟩
  case app T sz b s x =>
    unfold appS at h ⊢
    obtain ⟨⟨m, ys⟩, hp, h⟩ := bind'_ex h
    dsimp only at h
    rw [hp]
    show ∃ d H', K d H' ∧ _
    simp only [bind'_some]
    split at h
    · rcases two_ok h with ⟨hc, hg⟩ | ⟨hc, hg⟩
      · exact ⟨_, _, hg, fun _ => ⟨rfl, rfl⟩, fun h => absurd hc h⟩
      · exact ⟨_, _, hg.2.2.2, fun h => absurd h hc, fun _ => ⟨hg.1, hg.2.1, hg.2.2.1, rfl, rfl⟩⟩
    · rcases two_ok h with ⟨hc, hg⟩ | ⟨hc, hg⟩
      · exact ⟨_, _, hg, fun _ => ⟨rfl, rfl⟩, fun h => absurd hc h⟩
      · exact ⟨_, _, hg.2.2.2, fun h => absurd h hc, fun _ => ⟨hg.1, hg.2.1, hg.2.2.1, rfl, rfl⟩⟩
    · rcases two_ok h with ⟨hc, hg⟩ | ⟨hc, hg⟩
      · exact ⟨_, _, hg, fun _ => ⟨rfl, rfl⟩, fun h => absurd hc h⟩
      · split at hg
        · exact ⟨_, _, hg.2.2.2.2.2, fun h => absurd h hc, fun _ => ⟨hg.1, hg.2.1, hg.2.2.1, hg.2.2.2.1, hg.2.2.2.2.1, rfl, rfl⟩⟩
        · exact hg.elim
    · exact ⟨_, _, h.2, h.1, rfl, rfl⟩
    · exact h.elim
  case sub sz E x lo hi mx =>
    obtain ⟨n, hn, h⟩ := bind'_ex h
    obtain ⟨l, hl, h⟩ := bind'_ex h
    obtain ⟨u, hu, h⟩ := bind'_ex h
    rw [hn]
    simp only [bind'_some]
    rw [hl]
    simp only [bind'_some]
    rw [hu]
    simp only [bind'_some]
    cases mx with
    | none =>
      obtain ⟨d, hd, h2⟩ := bind'_ex h.2
      exact ⟨_, _, h2, h.1, by show bind' _ _; rw [hd]; exact ⟨rfl, rfl⟩⟩
    | some v => exact ⟨_, _, h.2.2, h.1, h.2.1, rfl, rfl⟩
  case s2b x =>
    obtain ⟨p, hp, h⟩ := bind'_ex h
    exact ⟨_, _, h.2, by rw [hp]; exact ⟨h.1, rfl, rfl⟩⟩
  case b2s x =>
    obtain ⟨p, hp, h⟩ := bind'_ex h
    obtain ⟨q, hq, h⟩ := bind'_ex h
    exact ⟨_, _, h.2, bind'_of hp (bind'_of hq ⟨h.1, rfl, rfl⟩)⟩
  case sidx x i =>
    obtain ⟨p, hp, h⟩ := bind'_ex h
    obtain ⟨q, hq, h⟩ := bind'_ex h
    obtain ⟨r, hr, h⟩ := bind'_ex h
    exact ⟨_, _, h, bind'_of hp (bind'_of hq (bind'_of hr ⟨rfl, rfl⟩))⟩
  case mm m x y =>
    obtain ⟨p, hp, h⟩ := bind'_ex h
    obtain ⟨q, hq, h⟩ := bind'_ex h
    exact ⟨_, _, h, bind'_of hp (bind'_of hq ⟨rfl, rfl⟩)⟩
  case call f args =>
    obtain ⟨g, caps, d0, H0, h1, h2, h3⟩ := h
    exact ⟨d0, H0, h3, g, caps, d0, H0, h1, h2, rfl, rfl⟩
  all_goals first | exact bnd h | exact h.elim

theorem stepDr_step {ts : List D} {H : List Row} {so : SOp} {K : D → List Row → Prop} (h : stepDr P ts H so K) : stepS P ts H so K := by
  cases so <;> simp only [stepDr] at h
  case call f args =>
    obtain ⟨g, caps, d0, H0, h1, h2, h3⟩ := h
    exact ⟨g, caps, h1, h2.mono fun d H' ⟨e1, e2⟩ => by rw [e1, e2]; exact h3⟩
  all_goals first | exact h | exact h.elim

theorem leaves_of {w w' : World} {φ : Nat → Nat × Nat} {X : Nat → Prop} {M H' : List Row} {d : D} {v : Value} {e : Eff} (h : LeavesW P w φ X M v w' d H') (hd : e.res = d) (hH : H' = e.heap M) : Leaves P w φ X M e v w' := by
  obtain ⟨φ', ons, hh, hr⟩ := h
  subst hd; subst hH
  exact ⟨φ', ons.same, hh, hr, ons.keep, ons.fresh⟩

/-- The walk in one order tells the story of the region. -/
theorem maskH {V : List Nat} {H : List Row} : (maskV V H).length = H.length := maskV_len
theorem wpDr_tr (hP : Good P) {ops : List Oper} {b : List Nat} {n0 : Nat} {K : St → Prop} : ∀ (rest : List Oper) (is : List SI) (i : Nat) (pre : List Rec) (own : List Nat) (s : St), resIs P ops rest = some is → wpDr P b n0 is i own (pre.map fun r => (r.view, r.upd.map (·.1))) s K →
    ∃ recs s', Tr P ops b n0 rest i pre own s recs s' ∧ K ⟨s'.ts, s'.H, []⟩
  | [], is, i, pre, own, s, hi, h => by
    simp [resIs] at hi
    subst hi
    exact ⟨[], s, .nil, h⟩
  | o :: rest, is, i, pre, own, s, hi, h => by
    simp only [resIs] at hi
    split at hi
    · rename_i it is' h1 h2
      injection hi with hi
      subst hi
      obtain ⟨e1, e2⟩ := resI_parts h1
      simp only [wpDr] at h
      obtain ⟨bb, hb, h⟩ := wantS_ok h1 h
      cases bb with
      | false =>
        rw [if_neg (by simp)] at h
        rw [e1] at h
        obtain ⟨recs, s', htr, hk⟩ := wpDr_tr hP rest is' (i + 1) (pre ++ [⟨D.undef, [], [], s.H.length, []⟩]) own ⟨putD! s.ts o.dst D.undef, s.H, s.dirty⟩ h2 (by simpa using wpDr_dirty h)
        exact ⟨⟨D.undef, [], [], s.H.length, []⟩ :: recs, s', .cons (r := ⟨D.undef, [], [], s.H.length, []⟩) ⟨rfl, .inl ⟨hb, rfl, rfl, rfl, rfl⟩⟩ (by simpa [applyUpd] using htr), hk⟩
      | true =>
        rw [if_pos rfl] at h
        obtain ⟨d, H', ⟨hH, hchk, hk⟩, hdet⟩ := stepDr_det h
        obtain ⟨V, hV⟩ : ∃ V, V = viewS s.ts s.H it.op := ⟨_, rfl⟩
        rw [← hV] at hH hchk hk hdet
        obtain ⟨e, he⟩ : ∃ e, e = effS it.op.turns V s.H.length d H' := ⟨_, rfl⟩
        rw [← he] at hH hchk hk
        have hres : e.res = d := by rw [he]; rfl
        unfold Chk chkS at hchk
        simp only [Bool.and_eq_true, List.all_eq_true, decide_eq_true_eq] at hchk
        obtain ⟨⟨⟨⟨⟨c1, c2⟩, c3⟩, c4⟩, c5⟩, c6⟩ := hchk
        rw [maskH] at c4
        have hraw : ∃ so, resOp? P o = some so ∧ it.op = so := by
          rw [e2]
          unfold resOp
          cases hr : resOp? P o with
          | some so => exact ⟨so, rfl, rfl⟩
          | none =>
            exfalso
            rw [e2] at hdet
            unfold resOp at hdet
            rw [hr] at hdet
            exact hdet
        obtain ⟨so, hso, hop⟩ := hraw
        rw [hop] at hdet c2
        have step : StepOk P s.ts (maskV V s.H) o ⟨e.res, e.upd, e.news⟩ := by
          intro ts' heq w φ X a hM hts
          have hv : ∀ v ∈ so.vs, v.ev ts' = v.ev s.ts := vs_same hso heq
          have h3 : stepDr P ts' (maskV V s.H) so fun d1 H1 => d1 = d ∧ H1 = H' := by rw [stepDr_congr hv]; exact hdet
          have h4 := stepS_ok hP hM hts hso (stepDr_step h3)
          refine OpOk.mono h4 ?_
          rintro v w' ⟨d1, H1, ⟨rfl, rfl⟩, hl⟩
          exact leaves_of hl hres hH
        have hin : inOk n0 own (b.getD i 0) s.ts (maskV V s.H) o = true := by
          unfold inOk
          rw [Bool.and_eq_true]
          refine ⟨?_, List.all_eq_true.2 fun r hr => List.all_eq_true.2 (c3 r hr)⟩
          simp only [List.all_eq_true]
          intro x hx q hq
          obtain ⟨v, hv, hsv⟩ := vs_all hso x (by simpa using hx)
          rw [← sv_ok hsv] at hq
          exact c2 _ (List.mem_map.2 ⟨v, hv, rfl⟩) q hq
        obtain ⟨recs, s', htr, hk'⟩ := wpDr_tr hP rest is' (i + 1) (pre ++ [⟨e.res, e.upd, e.news, s.H.length, V⟩]) (own ++ e.news.map fun _ => i) ⟨putD! s.ts o.dst e.res, applyUpd s.H e.upd ++ e.news, e.upd.map (·.1) ++ s.dirty⟩ h2 (by
          rw [hres, ← e1]
          simpa [Eff.heap] using wpDr_dirty hk)
        refine ⟨_, s', .cons ⟨rfl, .inr ⟨hb, step, c1, fun p hp => ?_, fun j q hq => ?_, hin, c4⟩⟩ htr, hk'⟩
        · have := c5 p hp
          rw [maskH] at this
          exact ⟨by simpa using this.1, this.2⟩
        · have := okPairs_spec c6 j (q.view, q.upd.map (·.1)) (by rw [List.getElem?_map, hq]; rfl)
          rw [Nat.zero_add] at this
          refine this.imp id (fun ⟨g1, g2⟩ => ⟨fun p hp => g1 p.1 (List.mem_map.2 ⟨p, hp, rfl⟩), fun p hp => g2 p.1 (List.mem_map.2 ⟨p, hp, rfl⟩)⟩)
    · cases hi
where
  wpDr_dirty {P : Program} {b : List Nat} {n0 : Nat} {K : St → Prop} {is : List SI} {i : Nat} {own : List Nat} {log : List (List Nat × List Nat)} {ts : List D} {H : List Row} {d1 d2 : List Nat} (h : wpDr P b n0 is i own log ⟨ts, H, d1⟩ K) : wpDr P b n0 is i own log ⟨ts, H, d2⟩ K := by
    cases is with
    | nil => exact h
    | cons o rest => simpa only [wpDr] using h
  vs_same {P : Program} {o : Oper} {so : SOp} (h : resOp? P o = some so) {ts ts' : List D} (heq : ∀ x ∈ o.op.operands, eval ts' x = eval ts x) : ∀ v ∈ so.vs, v.ev ts' = v.ev ts := by
    intro v hv
    obtain ⟨x, hx, hsv⟩ := vs_from h v hv
    rw [sv_ok hsv, sv_ok hsv, heq x hx]
/-- A region that draws, walked in one order. -/
theorem draw_wp (hP : Good P) {X : Nat → Prop} {id : Nat} {ops : Array Oper} {is : List SI} {Q : Exit → Act → World → Prop} {w0 w : World} {φ0 φ : Nat → Nat × Nat} {H0 : List Row} {s : St} {a : Act} {K : St → Prop}
    (hi : resIs P ops.toList ops.toList = some is) (hd : drawOk ops.toList (Region.before ops).toList = true) (hw : wpDr P (Region.before ops).toList s.H.length is 0 [] [] s K) (h : RunW P X w0 φ0 H0 w φ s a)
    (hQ : ∀ s' a' w' φ', K s' → RunW P X w0 φ0 H0 w' φ' s' a' → Q .normal a' w') : (Code.region id ops true).wp P Q a w := by
  obtain ⟨recs, s', htr, hk⟩ := wpDr_tr hP ops.toList is 0 [] [] s hi hw
  refine draw_tr (X := X) hP hd htr ⟨h.sim, Ons.refl _ _ _ _, fun r row hr => (h.sim.heap.rows r row hr).isLow, fun _ _ _ => rfl⟩ (fun a' w' φ' hr => hQ ⟨s'.ts, s'.H, []⟩ a' w' φ' hk ⟨⟨hr.sim.heap, hr.sim.tmps, hr.sim.defers⟩, h.ons.trans hr.ons⟩)
end
end Go.Proofs.Ytjhemkeilagnnaa.Mir
