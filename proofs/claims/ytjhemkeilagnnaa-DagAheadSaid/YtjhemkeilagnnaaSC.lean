/- Code told without the program: regions, code, functions. -/
import Derived.Test.YtjhemkeilagnnaaSD
namespace Go.Proofs.Ytjhemkeilagnnaa.Mir
open Go Go.RowKit
set_option linter.unusedVariables false

inductive SCode where
  | ops (l : List SI)
  | drw (l : List SI) (b : List Nat)
  | seq (a b : SCode)
  | cond (c : SV) (a b : SCode)
  | block (id : Nat) (a : SCode)
  | loop (a : SCode)
  | exit (id : Nat)
  | ret
  | skip
  | other (c : Code)

def SI.a (t : Nat) (o : SOp) : SI := ⟨some t, o, none⟩
def SI.n (o : SOp) : SI := ⟨none, o, none⟩
def SI.g (d : Option Nat) (o : SOp) (t : Nat) (w : Bool) : SI := ⟨d, o, some (t, w)⟩
theorem wpS_nil {P : Program} {s : St} {K : St → Prop} : wpS P [] s K = K s := id rfl
theorem wpS_a {P : Program} {t : Nat} {o : SOp} {l : List SI} {ts : List D} {H : List Row} {dr : List Nat} {K : St → Prop} : wpS P (.a t o :: l) ⟨ts, H, dr⟩ K = stepS P ts H o fun d H' => wpS P l ⟨ts.set t d, H', []⟩ K := id rfl
theorem wpS_n {P : Program} {o : SOp} {l : List SI} {ts : List D} {H : List Row} {dr : List Nat} {K : St → Prop} : wpS P (.n o :: l) ⟨ts, H, dr⟩ K = stepS P ts H o fun d H' => wpS P l ⟨ts, H', []⟩ K := id rfl
/-- A guard, by the slot that it looks at. -/
def wantV (d : Option D) (w : Bool) (p q : Prop) : Prop := match d with
  | some (.f (.v (.bool b))) => if w then Bsel b p q else Bsel b q p
  | some (.tp _) => q
  | _ => False
@[congr] theorem wantV_congr {d d' : Option D} {w : Bool} {p q : Prop} (h : d = d') : wantV d w p q = wantV d' w p q := by rw [h]
theorem wpS_g {P : Program} {d : Option Nat} {o : SOp} {t : Nat} {w : Bool} {l : List SI} {ts : List D} {H : List Row} {dr : List Nat} {K : St → Prop} : wpS P (.g d o t w :: l) ⟨ts, H, dr⟩ K = wantV ts[t]? w (stepS P ts H o fun r H' => wpS P l ⟨putD! ts d r, H', []⟩ K) (wpS P l ⟨putD! ts d D.undef, H, []⟩ K) := id rfl

@[congr] theorem wpS_congr {P : Program} {l : List SI} {s s' : St} {K : St → Prop} (h : s = s') : wpS P l s K = wpS P l s' K := by rw [h]
@[congr] theorem stepS_congr {P : Program} {ts ts' : List D} {H H' : List Row} {o : SOp} {K : D → List Row → Prop} (h : ts = ts') (k : H = H') : stepS P ts H o K = stepS P ts' H' o K := by rw [h, k]
@[congr] theorem intS_congr {op : BinOp} {k : IntKind} {a a' b b' : Int} {K : D → Prop} (h : a = a') (g : b = b') : intS op k a b K = intS op k a' b' K := by rw [h, g]
@[congr] theorem strS_congr {op : BinOp} {a a' b b' : ByteArray} {K : D → Prop} (h : a = a') (g : b = b') : strS op a b K = strS op a' b' K := by rw [h, g]
@[congr] theorem boolS_congr {op : BinOp} {a a' b b' : Bool} {K : D → Prop} (h : a = a') (g : b = b') : boolS op a b K = boolS op a' b' K := by rw [h, g]
@[congr] theorem binS_congr {op : BinOp} {a a' b b' : D} {K : D → Prop} (h : a = a') (g : b = b') : binS op a b K = binS op a' b' K := by rw [h, g]
@[congr] theorem binbS_congr {op : BinOp} {a a' b b' : D} {K : D → Prop} (h : a = a') (g : b = b') : binbS op a b K = binbS op a' b' K := by rw [h, g]
@[congr] theorem idxS_congr {sz : Nat} {a a' b b' : D} {K : D → Prop} (h : a = a') (g : b = b') : idxS sz a b K = idxS sz a' b' K := by rw [h, g]
@[congr] theorem arrS_congr {sz n : Nat} {a a' b b' : D} {K : D → Prop} (h : a = a') (g : b = b') : arrS sz n a b K = arrS sz n a' b' K := by rw [h, g]
@[congr] theorem pickS_congr {a a' : D} {p q : Prop} (h : a = a') : pickS a p q = pickS a' p q := by rw [h]
@[congr] theorem appS_congr {H H' : List Row} {T : TypeId} {sz b : Nat} {s s' x x' : D} {K : D → List Row → Prop} (h : H = H') (g : s = s') (k : x = x') : appS H T sz b s x K = appS H' T sz b s' x' K := by rw [h, g, k]
@[congr] theorem thenQ_congr {next : St → Prop} {Q : Out → St → Prop} {o : Out} {s s' : St} (h : s = s') : thenQ next Q o s = thenQ next Q o s' := by rw [h]
@[congr] theorem blockQ_congr {id : Nat} {Q : Out → St → Prop} {o : Out} {s s' : St} (h : s = s') : blockQ id Q o s = blockQ id Q o s' := by rw [h]
@[congr] theorem endQ_congr {P : Program} {n0 : Nat} {rs : List ResultVar} {Q : D → List Row → Prop} {o : Out} {s s' : St} (h : s = s') : endQ P n0 rs Q o s = endQ P n0 rs Q o s' := by rw [h]

def compC (P : Program) : Code → SCode
  | .region id ops false => match resIs P ops.toList ops.toList with
    | some l => .ops l
    | none => .other (.region id ops false)
  | .region id ops true => match resIs P ops.toList ops.toList with
    | some l => if drawOk ops.toList (Region.before ops).toList = true then .drw l (Region.before ops).toList else .other (.region id ops true)
    | none => .other (.region id ops true)
  | .seq a b => .seq (compC P a) (compC P b)
  | .cond c a b => match sv c with
    | some v => .cond v (compC P a) (compC P b)
    | none => .other (.cond c a b)
  | .block id a => .block id (compC P a)
  | .loop a => .loop (compC P a)
  | .exit id => .exit id
  | .ret => .ret
  | .skip => .skip
  | .label _ => .skip
  | c => .other c

section
variable {P : Program}

theorem wpS_ok (hP : Good P) {X : Nat → Prop} {ops : Array Oper} {Q : Exit → Act → World → Prop} {w0 : World} {φ0 : Nat → Nat × Nat} {H0 : List Row} {K : St → Prop} : ∀ (rest : List Oper) (is : List SI) (k : Nat) (s : St) (w : World) (φ : Nat → Nat × Nat) (a : Act), (∀ j, rest[j]? = ops[k + j]?) →
    resIs P ops.toList rest = some is → wpS P is s K → RunW P X w0 φ0 H0 w φ s a → (∀ s' a' w' φ', K s' → RunW P X w0 φ0 H0 w' φ' s' a' → Q .normal a' w') → wpOps P ops Q (List.range' k rest.length) a w
  | [], is, k, s, w, φ, a, _, hi, hr, hs, hQ => by
    simp [resIs] at hi
    subst hi
    exact hQ s a w φ hr hs
  | o :: rest, is, k, s, w, φ, a, hk, hi, hr, hs, hQ => by
    simp only [resIs] at hi
    split at hi
    · rename_i i is' h1 h2
      injection hi with hi
      subst hi
      have ho : ops[k]? = some o := by have := hk 0; simpa using this.symm
      have hk' : ∀ j, rest[j]? = ops[k + 1 + j]? := fun j => by have := hk (j + 1); simpa [Nat.add_assoc, Nat.add_comm 1 j] using this
      simp only [List.length_cons, List.range'_succ, wpOps, ho]
      obtain ⟨e1, e2⟩ := resI_parts h1
      simp only [wpS] at hr
      obtain ⟨b, hb, hr⟩ := wantS_ok h1 hr
      rw [wanted_ok hs.sim.tmps hb]
      cases b with
      | true =>
        rw [if_pos rfl] at hr ⊢
        rw [e1, e2] at hr
        refine .inl (resOp_ok hP hs.sim.heap hs.sim.tmps hr _ _ ?_)
        rintro v w' ⟨d, H', h3, h4⟩
        obtain ⟨φ', h5⟩ := hs.step h4 o.dst
        exact wpS_ok hP rest is' (k + 1) _ w' φ' _ hk' h2 h3 h5 hQ
      | false =>
        rw [if_neg (by simp)] at hr ⊢
        rw [e1] at hr
        exact wpS_ok hP rest is' (k + 1) _ w φ _ hk' h2 hr (hs.skip o.dst) hQ
    · cases hi

/-- Code, told so: from a frame on it ends in what Q tells. -/
def HS (P : Program) (n0 : Nat) (c : SCode) (s : St) (Q : Out → St → Prop) : Prop := ∀ k, compC P k = c → HC P n0 k s Q
@[congr] theorem HS_congr {n0 : Nat} {c : SCode} {s s' : St} {Q : Out → St → Prop} (h : s = s') : HS P n0 c s Q = HS P n0 c s' Q := by rw [h]

variable {n0 : Nat} {s : St} {Q : Out → St → Prop}
theorem HS.ops (hP : Good P) {l : List SI} (h : wpS P l s (Q .normal)) : HS P n0 (.ops l) s Q := by
  intro k hk X w0 φ0 H0 w φ a K _ hr hK
  cases k with
  | region id ops draw =>
    cases draw with
    | true => simp only [compC] at hk; split at hk <;> first | cases hk | (split at hk <;> cases hk)
    | false =>
      simp only [compC] at hk
      split at hk
      · rename_i l' hl
        injection hk with hk
        subst hk
        refine wp_region ?_
        rw [List.range_eq_range', ← Array.length_toList]
        exact wpS_ok hP ops.toList l' 0 s w φ a (fun j => by simp) hl h hr (fun s' a' w' φ' hq hr' => hK .normal s' w' φ' a' hq hr')
      · cases hk
  | cond c a b => simp only [compC] at hk; split at hk <;> cases hk
  | _ => simp [compC] at hk
theorem HS.drw (hP : Good P) {l : List SI} {b : List Nat} (h : ∀ K : St → Prop, (∀ s', Q .normal s' → K s') → wpDr P b s.H.length l 0 [] [] s K) : HS P n0 (.drw l b) s Q := by
  intro k hk X w0 φ0 H0 w φ a K _ hr hK
  cases k with
  | region id ops draw =>
    cases draw with
    | false => simp only [compC] at hk; split at hk <;> cases hk
    | true =>
      simp only [compC] at hk
      split at hk
      · rename_i l' hl
        split at hk
        · rename_i hd
          injection hk with h1 h2
          subst h1; subst h2
          exact draw_wp hP hl hd (h (Q .normal) fun _ h => h) hr (fun s' a' w' φ' hq hr' => hK .normal s' w' φ' a' hq hr')
        · cases hk
      · cases hk
  | cond c a b => simp only [compC] at hk; split at hk <;> cases hk
  | _ => simp [compC] at hk
theorem HS.seq {x y : SCode} (h : HS P n0 x s (thenQ (fun s' => HS P n0 y s' Q) Q)) : HS P n0 (.seq x y) s Q := by
  intro k hk
  cases k with
  | seq a b =>
    simp only [compC] at hk
    injection hk with h1 h2
    refine HC.seq ((h a h1).mono ?_)
    intro o s' hq
    cases o with
    | normal => exact hq b h2
    | exit i => exact hq
    | ret => exact hq
  | region id ops draw => cases draw <;> simp only [compC] at hk <;> first | (split at hk <;> first | cases hk | (split at hk <;> cases hk)) | cases hk
  | cond c a b => simp only [compC] at hk; split at hk <;> cases hk
  | _ => simp [compC] at hk
theorem HS.block {id : Nat} {x : SCode} (h : HS P n0 x s (blockQ id Q)) : HS P n0 (.block id x) s Q := by
  intro k hk
  cases k with
  | block i a =>
    simp only [compC] at hk
    injection hk with h1 h2
    subst h1
    exact HC.block (h a h2)
  | region id ops draw => cases draw <;> simp only [compC] at hk <;> first | (split at hk <;> first | cases hk | (split at hk <;> cases hk)) | cases hk
  | cond c a b => simp only [compC] at hk; split at hk <;> cases hk
  | _ => simp [compC] at hk
theorem HS.cond {c : SV} {x y : SCode} (h : condW (c.ev s.ts) (HS P n0 x s Q) (HS P n0 y s Q)) : HS P n0 (.cond c x y) s Q := by
  intro k hk
  cases k with
  | cond c' a b =>
    simp only [compC] at hk
    split at hk
    · rename_i v hv
      injection hk with h1 h2 h3
      subst h1
      refine HC.cond ?_
      rw [← sv_ok hv]
      unfold condW at h ⊢
      split at h
      · exact ⟨fun e => h.1 e a h2, fun e => h.2 e b h3⟩
      · exact h.elim
    · cases hk
  | region id ops draw => cases draw <;> simp only [compC] at hk <;> first | (split at hk <;> first | cases hk | (split at hk <;> cases hk)) | cases hk
  | _ => simp [compC] at hk
theorem HS.loop {c : SCode} {α : Type} (st : α → St) (p : α → Prop) (m : α → Nat) (x0 : α) (h0 : p x0) (hs : s = st x0)
    (hbody : ∀ x, p x → HS P n0 c (st x) (thenQ (fun s' => ∃ y, s' = st y ∧ p y ∧ m y < m x) Q)) : HS P n0 (.loop c) s Q := by
  intro k hk
  cases k with
  | loop a =>
    simp only [compC] at hk
    injection hk with h1
    exact HC.loop st p m x0 h0 hs (fun x hx => hbody x hx a h1)
  | region id ops draw => cases draw <;> simp only [compC] at hk <;> first | (split at hk <;> first | cases hk | (split at hk <;> cases hk)) | cases hk
  | cond c a b => simp only [compC] at hk; split at hk <;> cases hk
  | _ => simp [compC] at hk
theorem HS.exit {id : Nat} (h : Q (.exit id) s) : HS P n0 (.exit id) s Q := by
  intro k hk
  cases k with
  | exit i => simp only [compC] at hk; injection hk with h1; subst h1; exact HC.exit h
  | region id ops draw => cases draw <;> simp only [compC] at hk <;> first | (split at hk <;> first | cases hk | (split at hk <;> cases hk)) | cases hk
  | cond c a b => simp only [compC] at hk; split at hk <;> cases hk
  | _ => simp [compC] at hk
theorem HS.ret (h : Q .ret s) : HS P n0 .ret s Q := by
  intro k hk
  cases k with
  | ret => exact HC.ret h
  | region id ops draw => cases draw <;> simp only [compC] at hk <;> first | (split at hk <;> first | cases hk | (split at hk <;> cases hk)) | cases hk
  | cond c a b => simp only [compC] at hk; split at hk <;> cases hk
  | _ => simp [compC] at hk
theorem HS.skip (h : Q .normal s) : HS P n0 .skip s Q := by
  intro k hk
  cases k with
  | skip => exact HC.skip h
  | label l => exact HC.label h
  | region id ops draw => cases draw <;> simp only [compC] at hk <;> first | (split at hk <;> first | cases hk | (split at hk <;> cases hk)) | cases hk
  | cond c a b => simp only [compC] at hk; split at hk <;> cases hk
  | _ => simp [compC] at hk
theorem HS.view {c : SCode} {s' : St} (hv : View P n0 s s') (h : HS P n0 c s' Q) : HS P n0 c s Q := fun k hk => (h k hk).view hv
theorem HS.mono {c : SCode} {Q' : Out → St → Prop} (h : HS P n0 c s Q) (hq : ∀ o s', Q o s' → Q' o s') : HS P n0 c s Q' := fun k hk => (h k hk).mono hq

/-- A function's text. -/
def Is (P : Program) (f : FuncId) (n : Nat) (rs : List ResultVar) (c : SCode) : Prop := ∃ fn k, P.funcs[f]? = some fn ∧ fn.body = some k ∧ fn.ntmps = n ∧ fn.results.toList = rs ∧ compC P k = c
theorem Con.of (hP : Good P) {f : FuncId} {n : Nat} {rs : List ResultVar} {c : SCode} (hf : Is P f n rs c) {args : List D} {H : List Row} {Q : D → List Row → Prop}
    (h : HS P H.length c ⟨args ++ List.replicate (n - args.length) D.undef, H, []⟩ (endQ P H.length rs Q)) : Con P f args H Q := by
  obtain ⟨fn, k, h1, h2, h3, h4, h5⟩ := hf
  subst h3; subst h4
  exact Con.of_body hP h1 h2 (h k h5)
end
end Go.Proofs.Ytjhemkeilagnnaa.Mir
