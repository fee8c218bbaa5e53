/- Regions that draw their order: what each operation writes. -/
import Derived.Test.YtjhemkeilagnnaaMirCongr
namespace Go.Proofs.Ytjhemkeilagnnaa.Mir
open Go Go.RowKit

def over {α : Type} : Option α → Option α → Option α
  | some y, _ => some y
  | none, acc => acc

/-- What a place holds behind those of the writes that were done. -/
def cont {α : Type} (E : Nat → Bool) : List (Option α) → Nat → Option α → Option α
  | [], _, acc => acc
  | w :: ws, k, acc => cont E ws (k + 1) (if E k then (over w acc) else acc)

section
variable {α : Type}
theorem cont_append (E : Nat → Bool) : ∀ (u v : List (Option α)) (k : Nat) (acc : Option α), cont E (u ++ v) k acc = cont E v (k + u.length) (cont E u k acc)
  | [], v, k, acc => by simp [cont]
  | w :: u, v, k, acc => by
    simp only [List.cons_append, cont, List.length_cons]
    rw [cont_append E u v]
    rw [show k + 1 + u.length = k + (u.length + 1) by omega]
theorem cont_none {E : Nat → Bool} : ∀ {ws : List (Option α)} {k : Nat} {acc : Option α}, (∀ j y, ws[j]? = some (some y) → E (k + j) = false) → cont E ws k acc = acc
  | [], _, _, _ => rfl
  | w :: ws, k, acc, h => by
    simp only [cont]
    have h0 : (if E k then (over w acc) else acc) = acc := by
      cases w with
      | none => simp [over]
      | some y => rw [if_neg (by have := h 0 y (by simp); simpa using this)]
    rw [h0]
    exact cont_none (fun j y hy => by have := h (j + 1) y (by simpa using hy); rwa [show k + (j + 1) = k + 1 + j by omega] at this)
theorem cont_congr {E E' : Nat → Bool} : ∀ {ws : List (Option α)} {k : Nat} {acc : Option α}, (∀ j y, ws[j]? = some (some y) → E (k + j) = E' (k + j)) → cont E ws k acc = cont E' ws k acc
  | [], _, _, _ => rfl
  | w :: ws, k, acc, h => by
    simp only [cont]
    have h0 : (if E k then (over w acc) else acc) = (if E' k then (over w acc) else acc) := by
      cases w with
      | none => simp [over]
      | some y => have := h 0 y (by simp); simp only [Nat.add_zero] at this; rw [this]
    rw [h0]
    exact cont_congr (fun j y hy => by have := h (j + 1) y (by simpa using hy); rwa [show k + (j + 1) = k + 1 + j by omega] at this)
/-- Up to a place. -/
theorem cont_pre {E : Nat → Bool} {ws : List (Option α)} {acc : Option α} (i : Nat) (h1 : ∀ j y, j < i → ws[j]? = some (some y) → E j = true) (h2 : ∀ j y, i ≤ j → ws[j]? = some (some y) → E j = false) : cont E ws 0 acc = cont (fun _ => true) (ws.take i) 0 acc := by
  conv => lhs; rw [← List.take_append_drop i ws]
  rw [cont_append, Nat.zero_add]
  rw [cont_none (ws := ws.drop i)]
  · exact cont_congr (fun j y hy => by
      rw [List.getElem?_take] at hy
      split at hy
      · rename_i hj
        simpa using h1 j y hj hy
      · simp at hy)
  · intro j y hy
    rw [List.getElem?_drop] at hy
    have hi : i < ws.length := by have := (List.getElem?_eq_some_iff.1 hy).1; omega
    rw [List.length_take, Nat.min_eq_left (by omega)]
    exact h2 (i + j) y (by omega) hy
/-- The last one tells. -/
theorem cont_hit {E : Nat → Bool} {ws : List (Option α)} {acc : Option α} {i : Nat} {y : α} (hi : ws[i]? = some (some y)) (hE : E i = true) (h2 : ∀ j y, i < j → ws[j]? = some (some y) → E j = false) : cont E ws 0 acc = some y := by
  have hlt : i < ws.length := (List.getElem?_eq_some_iff.1 hi).1
  have hsplit : ws = ws.take i ++ some y :: ws.drop (i + 1) := by
    have := List.getElem_cons_drop hlt
    have hyi : ws[i] = some y := by simpa [hlt] using hi
    rw [hyi] at this
    rw [this, List.take_append_drop]
  rw [hsplit, cont_append]
  have hl : (ws.take i).length = i := by rw [List.length_take]; omega
  simp only [cont, hl, Nat.zero_add, hE, if_true, over]
  rw [cont_none]
  intro j z hz
  rw [List.getElem?_drop] at hz
  exact h2 (i + 1 + j) z (by omega) hz
end

def lastU : List (Nat × Row) → Nat → Option Row
  | [], _ => none
  | (i, r) :: us, x => match lastU us x with
    | some y => some y
    | none => if i = x then some r else none

theorem applyUpd_get : ∀ (us : List (Nat × Row)) (H : List Row) (x : Nat), x < H.length → (applyUpd H us)[x]? = over (lastU us x) H[x]?
  | [], H, x, _ => rfl
  | (i, r) :: us, H, x, hx => by
    show (applyUpd (H.set i r) us)[x]? = _
    rw [applyUpd_get us (H.set i r) x (by simpa using hx)]
    simp only [lastU]
    cases lastU us x with
    | some y => rfl
    | none =>
      by_cases e : i = x
      · subst e; simp [hx, over]
      · simp [e, over]
theorem lastU_mem : ∀ {us : List (Nat × Row)} {x : Nat} {y : Row}, lastU us x = some y → (x, y) ∈ us
  | (i, r) :: us, x, y, h => by
    simp only [lastU] at h
    cases hl : lastU us x with
    | some z => rw [hl] at h; injection h with h; subst h; exact List.mem_cons_of_mem _ (lastU_mem hl)
    | none =>
      rw [hl] at h
      simp only at h
      split at h
      · rename_i e
        injection h with h
        subst e; subst h
        exact List.mem_cons_self
      · cases h

/-- What an operation did. -/
structure Rec where
  res : D
  upd : List (Nat × Row)
  news : List Row
  base : Nat
  view : List Nat

def wr (x : Nat) (r : Rec) : Option Row := if r.base ≤ x then r.news[x - r.base]? else lastU r.upd x
def sw (t : Nat) (p : Oper × Rec) : Option D := if p.1.dst = some t then some p.2.res else none

/-- What an operation does to rows, of whatever frame that holds the same operands. -/
def StepOk (P : Program) (ts : List D) (M : List Row) (o : Oper) (e : Eff) : Prop :=
  ∀ ts' : List D, (∀ x ∈ o.op.operands, eval ts' x = eval ts x) → ∀ (w : World) (φ : Nat → Nat × Nat) (X : Nat → Prop) (a : Act), HR P w φ X M → Rs P w φ (Av X φ M) M.length ts' a.tmps.toList → OpOk P o a w (Leaves P w φ X M e)
theorem StepOk.of_stepD {P : Program} (hP : Good P) {call : Calling} (hcall : ∀ f, Sound P f (call f)) {ts : List D} {M : List Row} {o : Oper} {e : Eff} (h : stepD P call ts M o = some e) : StepOk P ts M o e := by
  intro ts' heq w φ X a hM hts
  exact step_ok hP hcall hM hts ((stepD_congr heq).trans h)

section
variable (P : Program) (ops : List Oper) (b : List Nat) (n0 : Nat)

/-- How an operation came to it. 'pre': what those ahead of it did. -/
structure Fact (i : Nat) (pre : List Rec) (own : List Nat) (s : St) (o : Oper) (r : Rec) : Prop where
  base : r.base = s.H.length
  how : (wantedD ops s.ts o = some false ∧ r.res = D.undef ∧ r.upd = [] ∧ r.news = [] ∧ r.view = []) ∨
    (wantedD ops s.ts o = some true ∧ StepOk P s.ts (maskV r.view s.H) o ⟨r.res, r.upd, r.news⟩ ∧ (∀ x ∈ r.view, refIn n0 own (b.getD i 0) x = true) ∧
      (∀ p ∈ r.upd, p.1 ∈ r.view ∧ p.1 < s.H.length) ∧ (∀ j q, pre[j]? = some q → (b.getD i 0).testBit j = true ∨ ((∀ p ∈ q.upd, p.1 ∉ r.view) ∧ ∀ p ∈ r.upd, p.1 ∉ q.view)) ∧
      inOk n0 own (b.getD i 0) s.ts (maskV r.view s.H) o = true ∧ effOk n0 own (b.getD i 0) s.H.length ⟨r.res, r.upd, r.news⟩ = true)

inductive Tr : List Oper → Nat → List Rec → List Nat → St → List Rec → St → Prop
  | nil {i : Nat} {pre : List Rec} {own : List Nat} {s : St} : Tr [] i pre own s [] s
  | cons {o : Oper} {rest : List Oper} {i : Nat} {pre : List Rec} {own : List Nat} {s : St} {r : Rec} {recs : List Rec} {s' : St} : Fact P ops b n0 i pre own s o r → Tr rest (i + 1) (pre ++ [r]) (own ++ r.news.map fun _ => i) ⟨putD! s.ts o.dst r.res, applyUpd s.H r.upd ++ r.news, r.upd.map (·.1) ++ s.dirty⟩ recs s' → Tr (o :: rest) i pre own s (r :: recs) s'
end

theorem maskV_len {V : List Nat} {H : List Row} : (maskV V H).length = H.length := by simp [maskV]
theorem maskV_get {V : List Nat} {H : List Row} {x : Nat} {row : Row} (h : (maskV V H)[x]? = some row) : row = .dead ∨ (H[x]? = some row ∧ x ∈ V) := by
  unfold maskV at h
  rw [List.getElem?_map, List.getElem?_zipIdx] at h
  cases hx : H[x]? with
  | none => rw [hx] at h; simp at h
  | some y =>
    rw [hx] at h
    simp at h
    split at h
    · rename_i hv; subst h; exact .inr ⟨rfl, by simpa using hv⟩
    · exact .inl h.symm

theorem okPairs_spec {m : Nat} {V U : List Nat} : ∀ {l : List (List Nat × List Nat)} {k : Nat}, okPairs m V U k l = true → ∀ j q, l[j]? = some q → m.testBit (k + j) = true ∨ ((∀ x ∈ q.2, x ∉ V) ∧ ∀ x ∈ U, x ∉ q.1)
  | [], _, _, j, q, hq => by simp at hq
  | (V', U') :: l, k, h, j, q, hq => by
    simp only [okPairs, Bool.and_eq_true, Bool.or_eq_true, List.all_eq_true, Bool.not_eq_true'] at h
    cases j with
    | zero =>
      simp at hq
      subst hq
      refine h.1.imp id (fun ⟨h1, h2⟩ => ⟨fun x hx hv => ?_, fun x hx hv => ?_⟩)
      · have := h1 x hx
        rw [List.contains_iff_mem.2 hv] at this; cases this
      · have := h2 x hx
        rw [List.contains_iff_mem.2 hv] at this; cases this
    | succ j =>
      have := okPairs_spec h.2 j q (by simpa using hq)
      rwa [show k + 1 + j = k + (j + 1) by omega] at this

theorem tr_of_run {P : Program} (hP : Good P) {call : Calling} (hcall : ∀ f, Sound P f (call f)) {ops : List Oper} {b : List Nat} {n0 : Nat} : ∀ (rest : List Oper) (i : Nat) (pre : List Rec) (own : List Nat) (s : St) (p : St × List Nat), runDraw P call ops b n0 rest i own (pre.map fun r => (r.view, r.upd.map (·.1))) s = some p → ∃ recs, Tr P ops b n0 rest i pre own s recs p.1
  | [], i, pre, own, s, p, h => by simp [runDraw] at h; subst h; exact ⟨[], .nil⟩
  | o :: rest, i, pre, own, s, p, h => by
    simp only [runDraw] at h
    split at h
    · rename_i hw
      split at h
      · rename_i e he
        split at h
        · rename_i hok
          simp only [Bool.and_eq_true, List.all_eq_true, decide_eq_true_eq] at hok
          obtain ⟨⟨⟨⟨h1, h2⟩, h3⟩, h4⟩, h5⟩ := hok
          obtain ⟨recs, hr⟩ := tr_of_run hP hcall rest (i + 1) (pre ++ [⟨e.res, e.upd, e.news, s.H.length, viewOf s.ts s.H o⟩]) _ _ p (by simpa using h)
          refine ⟨⟨e.res, e.upd, e.news, s.H.length, viewOf s.ts s.H o⟩ :: recs, .cons ⟨rfl, .inr ⟨hw, .of_stepD hP hcall he, h1, fun q hq => ?_, fun j q hq => ?_, h2, h3⟩⟩ hr⟩
          · have := h4 q hq
            exact ⟨by simpa using this.1, this.2⟩
          · have := okPairs_spec h5 j (q.view, q.upd.map (·.1)) (by rw [List.getElem?_map, hq]; rfl)
            rw [Nat.zero_add] at this
            refine this.imp id (fun ⟨g1, g2⟩ => ⟨fun p hp => g1 p.1 (List.mem_map.2 ⟨p, hp, rfl⟩), fun p hp => g2 p.1 (List.mem_map.2 ⟨p, hp, rfl⟩)⟩)
        · cases h
      · cases h
    · rename_i hw
      obtain ⟨recs, hr⟩ := tr_of_run hP hcall rest (i + 1) (pre ++ [⟨D.undef, [], [], s.H.length, []⟩]) own ⟨putD! s.ts o.dst D.undef, s.H, s.dirty⟩ p (by simpa using h)
      exact ⟨⟨D.undef, [], [], s.H.length, []⟩ :: recs, .cons ⟨rfl, .inl ⟨hw, rfl, rfl, rfl, rfl⟩⟩ (by simpa [applyUpd] using hr)⟩
    · cases h

/-- Where the one order stands. -/
structure At (n0 : Nat) (s0 : St) (done : List Oper) (pre : List Rec) (own : List Nat) (s : St) : Prop where
  eq : pre.length = done.length
  len : s.H.length = n0 + own.length
  rows : ∀ x : Nat, s.H[x]? = cont (fun _ => true) (pre.map (wr x)) 0 s0.H[x]?
  tlen : s.ts.length = s0.ts.length
  slots : ∀ t : Nat, t < s0.ts.length → s.ts[t]? = cont (fun _ => true) ((done.zip pre).map (sw t)) 0 s0.ts[t]?
  own : ∀ (j q : Nat), own[j]? = some q → ∃ r, pre[q]? = some r ∧ r.base ≤ n0 + j ∧ n0 + j < r.base + r.news.length
  bases : ∀ (q : Nat) (r : Rec), pre[q]? = some r → n0 ≤ r.base ∧ r.base + r.news.length ≤ s.H.length
  upds : ∀ (q : Nat) (r : Rec) (p : Nat × Row), pre[q]? = some r → p ∈ r.upd → p.1 < r.base

theorem At.next {P : Program} {ops : List Oper} {b : List Nat} {n0 : Nat} {s0 : St} {done : List Oper} {pre : List Rec} {own : List Nat} {s : St} (h : At n0 s0 done pre own s) {o : Oper} {r : Rec} (hf : Fact P ops b n0 done.length pre own s o r) :
    At n0 s0 (done ++ [o]) (pre ++ [r]) (own ++ r.news.map fun _ => done.length) ⟨putD! s.ts o.dst r.res, applyUpd s.H r.upd ++ r.news, r.upd.map (·.1) ++ s.dirty⟩ := by
  have hupd : ∀ p ∈ r.upd, p.1 < r.base := by
    intro p hp
    rcases hf.how with ⟨_, _, hu, _⟩ | ⟨_, _, _, hall, _⟩
    · rw [hu] at hp; simp at hp
    · rw [hf.base]
      exact (hall p hp).2
  refine ⟨by simp [h.eq], by simp [applyUpd_length, h.len]; omega, fun x => ?_, ?_, fun t ht => ?_, fun j q hq => ?_, fun q r' hq => ?_, fun q r' p hq hp => ?_⟩
  · rw [List.map_append, cont_append]
    simp only [List.map_cons, List.map_nil, cont, if_true]
    rw [← h.rows x]
    unfold wr
    rw [hf.base]
    by_cases hx : x < s.H.length
    · rw [List.getElem?_append_left (by rw [applyUpd_length]; exact hx), applyUpd_get _ _ _ hx, if_neg (by omega)]
    · rw [List.getElem?_append_right (by rw [applyUpd_length]; omega), applyUpd_length, if_pos (by omega)]
      have hn : s.H[x]? = none := List.getElem?_eq_none (by omega)
      rw [hn]
      cases r.news[x - s.H.length]? <;> rfl
  · cases hd : o.dst <;> simp [putD!, h.tlen]
  · rw [List.zip_append (by rw [h.eq]), List.map_append, cont_append]
    simp only [List.zip_cons_cons, List.zip_nil_left, List.map_cons, List.map_nil, cont, if_true, sw]
    rw [← h.slots t ht]
    cases hd : o.dst with
    | none => simp [putD!, over]
    | some t' =>
      simp only [putD!, Option.some.injEq]
      by_cases e : t' = t
      · subst e; simp [h.tlen, ht, over]
      · simp [e, over]
  · by_cases hj : j < own.length
    · rw [List.getElem?_append_left hj] at hq
      obtain ⟨r', h1, h2, h3⟩ := h.own j q hq
      refine ⟨r', ?_, h2, h3⟩
      rw [List.getElem?_append_left (List.getElem?_eq_some_iff.1 h1).1]; exact h1
    · rw [List.getElem?_append_right (by omega), List.getElem?_map] at hq
      cases hn : r.news[j - own.length]? with
      | none => rw [hn] at hq; simp at hq
      | some y =>
        rw [hn] at hq
        simp at hq
        subst hq
        have hlt := (List.getElem?_eq_some_iff.1 hn).1
        refine ⟨r, by rw [← h.eq]; simp, by rw [hf.base, h.len]; omega, by rw [hf.base, h.len]; omega⟩
  · by_cases hq' : q < pre.length
    · rw [List.getElem?_append_left hq'] at hq
      obtain ⟨h1, h2⟩ := h.bases q r' hq
      exact ⟨h1, by simp [applyUpd_length]; omega⟩
    · have h1 := (List.getElem?_eq_some_iff.1 hq).1
      simp at h1
      obtain rfl : q = pre.length := by omega
      simp at hq
      subst hq
      rw [hf.base]
      exact ⟨by rw [h.len]; omega, by simp [applyUpd_length]⟩
  · by_cases hq' : q < pre.length
    · rw [List.getElem?_append_left hq'] at hq
      exact h.upds q r' p hq hp
    · have h1 := (List.getElem?_eq_some_iff.1 hq).1
      simp at h1
      obtain rfl : q = pre.length := by omega
      simp at hq
      subst hq
      exact hupd p hp

/-- Each operation's own story, and the end. -/
theorem tr_facts {P : Program} {ops : List Oper} {b : List Nat} {n0 : Nat} {s0 : St} : ∀ (rest done : List Oper) (pre recs : List Rec) (own : List Nat) (s s' : St), At n0 s0 done pre own s → Tr P ops b n0 rest done.length pre own s recs s' →
    recs.length = rest.length ∧ (∃ own', At n0 s0 (done ++ rest) (pre ++ recs) own' s') ∧
    ∀ k o, rest[k]? = some o → ∃ r own' s1, recs[k]? = some r ∧ At n0 s0 (done ++ rest.take k) (pre ++ recs.take k) own' s1 ∧ Fact P ops b n0 (done.length + k) (pre ++ recs.take k) own' s1 o r
  | [], done, pre, recs, own, s, s', h, ht => by
    cases ht
    exact ⟨rfl, ⟨own, by simpa using h⟩, fun k o ho => by simp at ho⟩
  | o :: rest, done, pre, recs, own, s, s', h, ht => by
    cases ht with
    | @cons _ _ _ _ _ _ r recs _ hf ht =>
      have hn := h.next hf
      obtain ⟨h1, ⟨own', h2⟩, h3⟩ := tr_facts rest (done ++ [o]) (pre ++ [r]) recs _ _ s' hn (by simpa using ht)
      refine ⟨by simp [h1], ⟨own', by simpa using h2⟩, fun k o' ho => ?_⟩
      cases k with
      | zero =>
        simp at ho
        subst ho
        exact ⟨r, own, s, by simp, by simpa using h, by simpa using hf⟩
      | succ k =>
        obtain ⟨r', own2, s1, g1, g2, g3⟩ := h3 k o' (by simpa using ho)
        refine ⟨r', own2, s1, by simpa using g1, by simpa using g2, ?_⟩
        have e : (done ++ [o]).length + k = done.length + (k + 1) := by simp; omega
        rw [e] at g3
        simpa using g3

end Go.Proofs.Ytjhemkeilagnnaa.Mir
