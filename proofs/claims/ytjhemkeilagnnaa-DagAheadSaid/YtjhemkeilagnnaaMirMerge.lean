/- Regions that draw their order: what must come ahead; two parts of a heap. -/
import Derived.Test.YtjhemkeilagnnaaMirLog
namespace Go.Proofs.Ytjhemkeilagnnaa.Mir
open Go Go.RowKit

theorem or_fold {acc : Array Nat} : ∀ (es : List Edge) (s0 j : Nat), ((es.foldl (fun s e => if Region.binds .any e then s ||| 2 ^ e.on ||| acc.getD e.on 0 else s) s0).testBit j = true ↔ (s0.testBit j = true ∨ ∃ e ∈ es, Region.binds .any e = true ∧ (e.on = j ∨ (acc.getD e.on 0).testBit j = true)))
  | [], s0, j => by simp
  | e :: es, s0, j => by
    rw [List.foldl_cons, or_fold es]
    by_cases hb : Region.binds .any e = true
    · simp only [hb, if_true, Nat.testBit_or, Bool.or_eq_true, Nat.testBit_two_pow, decide_eq_true_eq, List.mem_cons]
      constructor
      · rintro (((h | h) | h) | ⟨e', h1, h2⟩)
        · exact .inl h
        · exact .inr ⟨e, .inl rfl, hb, .inl h⟩
        · exact .inr ⟨e, .inl rfl, hb, .inr h⟩
        · exact .inr ⟨e', .inr h1, h2⟩
      · rintro (h | ⟨e', (rfl | h1), h2, h3⟩)
        · exact .inl (.inl (.inl h))
        · rcases h3 with h3 | h3
          · exact .inl (.inl (.inr h3))
          · exact .inl (.inr h3)
        · exact .inr ⟨e', h1, h2, h3⟩
    · simp only [hb, Bool.false_eq_true, if_false, List.mem_cons]
      constructor
      · rintro (h | ⟨e', h1, h2⟩)
        · exact .inl h
        · exact .inr ⟨e', .inr h1, h2⟩
      · rintro (h | ⟨e', (rfl | h1), h2, h3⟩)
        · exact .inl h
        · exact absurd h2 hb
        · exact .inr ⟨e', h1, h2, h3⟩

def beforeL (l : List Oper) : Array Nat := l.foldl (fun acc o => acc.push (o.after.foldl (fun s e => if Region.binds .any e then s ||| 2 ^ e.on ||| acc.getD e.on 0 else s) 0)) #[]

theorem beforeL_spec (l : List Oper) : (beforeL l).size = l.length ∧
    (∀ i o j, l[i]? = some o → ((beforeL l).getD i 0).testBit j = true → ∃ e ∈ o.after, Region.binds .any e = true ∧ (e.on = j ∨ ((beforeL l).getD e.on 0).testBit j = true)) ∧
    (∀ i o e, l[i]? = some o → e ∈ o.after → Region.binds .any e = true → ((beforeL l).getD i 0).testBit e.on = true) := by
  suffices h : ∀ n (l : List Oper), l.length = n → ((beforeL l).size = l.length ∧
    (∀ i o j, l[i]? = some o → ((beforeL l).getD i 0).testBit j = true → ∃ e ∈ o.after, Region.binds .any e = true ∧ (e.on = j ∨ ((beforeL l).getD e.on 0).testBit j = true)) ∧
    (∀ i o e, l[i]? = some o → e ∈ o.after → Region.binds .any e = true → ((beforeL l).getD i 0).testBit e.on = true)) from h _ l rfl
  intro n
  induction n with
  | zero =>
    intro l hl
    have : l = [] := List.eq_nil_of_length_eq_zero hl
    subst this
    exact ⟨rfl, fun i o j h => by simp at h, fun i o e h => by simp at h⟩
  | succ n ih =>
    intro l hl
    have hne : l ≠ [] := by intro e; subst e; simp at hl
    obtain ⟨m, o, rfl⟩ : ∃ m o, l = m ++ [o] := ⟨l.dropLast, l.getLast hne, (List.dropLast_concat_getLast hne).symm⟩
    simp at hl
    obtain ⟨h1, h2, h3⟩ := ih m hl
    have hb : beforeL (m ++ [o]) = (beforeL m).push (o.after.foldl (fun s e => if Region.binds .any e then s ||| 2 ^ e.on ||| (beforeL m).getD e.on 0 else s) 0) := by
      simp [beforeL, List.foldl_append]
    have old : ∀ k, k < m.length → (beforeL (m ++ [o])).getD k 0 = (beforeL m).getD k 0 := by
      intro k hk
      rw [hb]
      simp only [Array.getD_eq_getD_getElem?]
      rw [Array.getElem?_push_lt (by rw [h1]; exact hk), Array.getElem?_eq_getElem (by rw [h1]; exact hk)]
    have up : ∀ k j, ((beforeL m).getD k 0).testBit j = true → ((beforeL (m ++ [o])).getD k 0).testBit j = true := by
      intro k j hk
      by_cases hlt : k < m.length
      · rw [old k hlt]; exact hk
      · rw [Array.getD_eq_getD_getElem?, Array.getElem?_eq_none (by rw [h1]; omega)] at hk
        simp at hk
    have new : (beforeL (m ++ [o])).getD m.length 0 = o.after.foldl (fun s e => if Region.binds .any e then s ||| 2 ^ e.on ||| (beforeL m).getD e.on 0 else s) 0 := by
      rw [hb, Array.getD_eq_getD_getElem?, ← h1, Array.getElem?_push_size]
      rfl
    have cases_ : ∀ i q, (m ++ [o])[i]? = some q → (i < m.length ∧ m[i]? = some q) ∨ (i = m.length ∧ q = o) := by
      intro i q hq
      by_cases hi : i < m.length
      · rw [List.getElem?_append_left hi] at hq; exact .inl ⟨hi, hq⟩
      · have := (List.getElem?_eq_some_iff.1 hq).1
        simp at this
        obtain rfl : i = m.length := by omega
        simp at hq
        exact .inr ⟨rfl, hq.symm⟩
    refine ⟨by rw [hb]; simp [h1], fun i q j hq hj => ?_, fun i q e hq he hbe => ?_⟩
    · rcases cases_ i q hq with ⟨hi, hq'⟩ | ⟨rfl, rfl⟩
      · rw [old i hi] at hj
        obtain ⟨e, g1, g2, g3⟩ := h2 i q j hq' hj
        exact ⟨e, g1, g2, g3.imp id (up _ _)⟩
      · rw [new, ← Array.foldl_toList, or_fold] at hj
        rcases hj with hj | ⟨e, g1, g2, g3⟩
        · simp at hj
        · exact ⟨e, by simpa using g1, g2, g3.imp id (up _ _)⟩
    · rcases cases_ i q hq with ⟨hi, hq'⟩ | ⟨rfl, rfl⟩
      · rw [old i hi]
        exact h3 i q e hq' he hbe
      · rw [new, ← Array.foldl_toList, or_fold]
        exact .inr ⟨e, by simpa using he, hbe, .inl rfl⟩

theorem before_eq (ops : Array Oper) : Region.before ops = beforeL ops.toList := by
  unfold Region.before beforeL
  rw [← Array.foldl_toList]

theorem Low.and {S T : Nat → Prop} {d : D} (h : Low S d) (k : Low T d) : Low (fun r => S r ∧ T r) d := by
  induction h with
  | f => exact .f
  | sl hr => cases k with | sl k => exact .sl ⟨hr, k⟩
  | pt hr => cases k with | pt k => exact .pt ⟨hr, k⟩
  | rf => exact .rf
  | ag _ ih => cases k with | ag k => exact .ag (fun i d hd => ih i d hd (k i d hd))
  | tp _ ih => cases k with | tp k => exact .tp (fun i d hd => ih i d hd (k i d hd))
  | fn _ ih => cases k with | fn k => exact .fn (fun i d hd => ih i d hd (k i d hd))
  | mp hr => cases k with | mp k => exact .mp ⟨hr, k⟩
  | junk => exact .junk
theorem RowLow.and {S T : Nat → Prop} {row : Row} (h : RowLow S row) (k : RowLow T row) : RowLow (fun r => S r ∧ T r) row := by
  cases row with
  | box U ds => exact fun d hd => (h d hd).and (k d hd)
  | _ => trivial

section
variable {P : Program} {w w' : World} {φ φ1 : Nat → Nat × Nat} {X : Nat → Prop} {H M : List Row}

/-- Blocks of others, and of the rows that are not in M. -/
def Rest (X : Nat → Prop) (φ : Nat → Nat × Nat) (H M : List Row) (b : Nat) : Prop := X b ∨ ∃ (x : Nat) (row : Row), H[x]? = some row ∧ row.live = true ∧ M[x]? ≠ some row ∧ (φ x).1 = b

/-- A part of a heap. -/
theorem HR.part (h : HR P w φ X H) {S : Nat → Prop} (hS : ∀ r, S r → r < M.length) (hsub : ∀ (x : Nat) (row : Row), M[x]? = some row → row = .dead ∨ (H[x]? = some row ∧ RowLow S row)) : HR P w φ (Rest X φ H M) M := by
  have live : ∀ b, Live φ M b → Live φ H b := by
    rintro b ⟨x, row, hx, hl, rfl⟩
    rcases hsub x row hx with rfl | ⟨h1, _⟩
    · simp [Row.live] at hl
    · exact ⟨x, row, h1, hl, rfl⟩
  have av : ∀ b, Av (Rest X φ H M) φ M b → Av X φ H b := by
    rintro b ((hx | ⟨x, row, hx, hl, _, rfl⟩) | hb)
    · exact .inl hx
    · exact .inr ⟨x, row, hx, hl, rfl⟩
    · exact .inr (live b hb)
  refine ⟨fun x row hx => ?_, fun x y r1 r2 hx hy l1 l2 e => ?_, fun x row hx hl => ?_, fun b hb => ?_⟩
  · rcases hsub x row hx with rfl | ⟨h1, h2⟩
    · trivial
    · exact (h.rows x row h1).lower rfl (fun r hr => ⟨rfl, hS r hr⟩) av h2
  · rcases hsub x r1 hx with rfl | ⟨h1, _⟩
    · simp [Row.live] at l1
    rcases hsub y r2 hy with rfl | ⟨h2, _⟩
    · simp [Row.live] at l2
    exact h.apart x y r1 r2 h1 h2 l1 l2 e
  · rcases hsub x row hx with rfl | ⟨h1, _⟩
    · simp [Row.live] at hl
    rintro (hb | ⟨y, row', hy, hl', hne, e⟩)
    · exact h.off x row h1 hl hb
    · have := h.apart x y row row' h1 hy hl hl' e.symm
      subst this
      rw [h1] at hy
      injection hy with hy
      subst hy
      exact hne hx
  · rcases hb with hb | ⟨x, row, hx, hl, _, rfl⟩
    · exact h.old b hb
    · exact h.blk hx hl

def mix (φ φ1 : Nat → Nat × Nat) (base len : Nat) : Nat → Nat × Nat := fun x => if base ≤ x ∧ x < base + len then φ1 x else φ x

/-- The part, turned by a step, and the rest, together. -/
theorem HR.merge (h : HR P w φ X H) {S : Nat → Prop} {Real : Nat → Prop} {e : Eff} {v : Value} (hM : HR P w φ (Rest X φ H M) M) (hsub : ∀ (x : Nat) (row : Row), M[x]? = some row → row = .dead ∨ H[x]? = some row) (post : Post P w φ (Rest X φ H M) M e v w' φ1) {H' : List Row} (hlen : H'.length = H.length) (hN : M.length + e.news.length ≤ H.length)
    (hreal : ∀ r, Real r → r < H.length ∧ ¬ (M.length ≤ r ∧ r < M.length + e.news.length))
    (hrow : ∀ (x : Nat) (row : Row), H'[x]? = some row → row = .dead ∨ (e.heap M)[x]? = some row ∨ (H[x]? = some row ∧ M[x]? ≠ some row ∧ RowLow Real row ∧ ¬ (M.length ≤ x ∧ x < M.length + e.news.length))) :
    HR P w' (mix φ φ1 M.length e.news.length) X H' ∧ Keep (Live φ H) w w' ∧ (∀ b, Live (mix φ φ1 M.length e.news.length) H' b → Live φ H b ∨ w.heap.size ≤ b) ∧
      (∀ b, b < w.heap.size → Av X (mix φ φ1 M.length e.news.length) H' b → Av X φ H b) ∧ (∀ b, Av X (mix φ φ1 M.length e.news.length) H' b → Av (Rest X φ H M) φ1 (e.heap M) b) := by
  have hl1 : (e.heap M).length = M.length + e.news.length := heap_length e M
  have eq1 : ∀ r, r < M.length + e.news.length → mix φ φ1 M.length e.news.length r = φ1 r := by
    intro r hr
    unfold mix
    by_cases hb : M.length ≤ r
    · rw [if_pos ⟨hb, hr⟩]
    · rw [if_neg (fun h => hb h.1), post.same r (by omega)]
  have eq0 : ∀ r, ¬ (M.length ≤ r ∧ r < M.length + e.news.length) → mix φ φ1 M.length e.news.length r = φ r := fun r hr => if_neg hr
  have liveM : ∀ b, Live φ M b → Live φ H b := by
    rintro b ⟨x, row, hx, hl, rfl⟩
    rcases hsub x row hx with rfl | h1
    · simp [Row.live] at hl
    · exact ⟨x, row, h1, hl, rfl⟩
  have av1 : ∀ b, Av X (mix φ φ1 M.length e.news.length) H' b → Av (Rest X φ H M) φ1 (e.heap M) b := by
    rintro b (hx | ⟨x, row, hx, hl, rfl⟩)
    · exact .inl (.inl hx)
    · rcases hrow x row hx with rfl | h1 | ⟨h1, h2, _, h3⟩
      · simp [Row.live] at hl
      · have hlt : x < (e.heap M).length := (List.getElem?_eq_some_iff.1 h1).1
        exact .inr ⟨x, row, h1, hl, by rw [eq1 x (by rw [← hl1]; exact hlt)]⟩
      · exact .inl (.inr ⟨x, row, h1, hl, h2, by rw [eq0 x h3]⟩)
  have av0 : ∀ b, b < w.heap.size → Av X (mix φ φ1 M.length e.news.length) H' b → Av X φ H b := by
    intro b hb hx
    rcases av1 b hx with (h1 | ⟨x, row, h1, h2, _, rfl⟩) | h1
    · exact .inl h1
    · exact .inr ⟨x, row, h1, h2, rfl⟩
    · rcases post.fresh b h1 with h2 | h2
      · exact .inr (liveM b h2)
      · omega
  have fresh : ∀ b, Live (mix φ φ1 M.length e.news.length) H' b → Live φ H b ∨ w.heap.size ≤ b := by
    rintro b ⟨x, row, hx, hl, rfl⟩
    rcases hrow x row hx with rfl | h1 | ⟨h1, _, _, h3⟩
    · simp [Row.live] at hl
    · have hlt : x < (e.heap M).length := (List.getElem?_eq_some_iff.1 h1).1
      rw [eq1 x (by rw [← hl1]; exact hlt)]
      exact (post.fresh _ ⟨x, row, h1, hl, rfl⟩).imp (liveM _) id
    · rw [eq0 x h3]
      exact .inl ⟨x, row, h1, hl, rfl⟩
  have notM : ∀ x row, H[x]? = some row → row.live = true → M[x]? ≠ some row → ¬ Live φ M (φ x).1 := by
    rintro x row hx hl hne ⟨y, row', hy, hl', e'⟩
    rcases hsub y row' hy with rfl | h1
    · simp [Row.live] at hl'
    · have := h.apart y x row' row h1 hx hl' hl e'
      subst this
      rw [hx] at h1
      injection h1 with h1
      subst h1
      exact hne hy
  refine ⟨⟨fun x row hx => ?_, fun x y r1 r2 hx hy l1 l2 e' => ?_, fun x row hx hl => ?_, fun b hb => Nat.lt_of_lt_of_le (h.old b hb) post.keep.size⟩, post.keep.mono (fun b _ hb => liveM b hb), fresh, av0, av1⟩
  · rcases hrow x row hx with rfl | h1 | ⟨h1, h2, h3, h4⟩
    · trivial
    · have hok := post.heap.rows x row h1
      have hlt : x < (e.heap M).length := (List.getElem?_eq_some_iff.1 h1).1
      exact hok.lower (eq1 x (by rw [← hl1]; exact hlt)) (fun r hr => ⟨eq1 r (by rw [← hl1]; exact hr), by rw [hlen]; have : r < (e.heap M).length := hr; omega⟩) av1 hok.isLow
    · have hok := h.rows x row h1
      have hxl : x < H.length := (List.getElem?_eq_some_iff.1 h1).1
      have hk := hok.keep (φ' := φ) (N' := H.length) (A' := Av X (mix φ φ1 M.length e.news.length) H') post.keep (fun b hb => .inr (liveM b hb)) av0 (fun _ _ => rfl) (Nat.le_refl _) hxl (by
        cases row with
        | dead => exact .inl rfl
        | box T ds => obtain ⟨_, cs, g, _⟩ := hok; exact .inr (post.keep.block _ (block_lt g) (notM x _ h1 rfl h2)).symm
        | data T xs => obtain ⟨_, _, _, g, _⟩ := hok; exact .inr (post.keep.block _ (block_lt g) (notM x _ h1 rfl h2)).symm
        | froz T xs => obtain ⟨g0, _, _, _, _, g, _⟩ := hok; exact .inr (post.keep.block _ (block_lt g) (fun hl => g0 (.inr (liveM _ hl)))).symm
        | map es => obtain ⟨_, _, g, _⟩ := hok; exact .inr (post.keep.block _ (block_lt g) (notM x _ h1 rfl h2)).symm)
      exact hk.lower (eq0 x h4) (fun r hr => ⟨eq0 r (hreal r hr).2, by rw [hlen]; exact (hreal r hr).1⟩) (fun _ h => h) h3
  · rcases hrow x r1 hx with rfl | h1 | ⟨h1, h2, _, h3⟩
    · simp [Row.live] at l1
    · have hlt : x < (e.heap M).length := (List.getElem?_eq_some_iff.1 h1).1
      rw [eq1 x (by rw [← hl1]; exact hlt)] at e'
      rcases hrow y r2 hy with rfl | k1 | ⟨k1, k2, _, k3⟩
      · simp [Row.live] at l2
      · have hlt' : y < (e.heap M).length := (List.getElem?_eq_some_iff.1 k1).1
        rw [eq1 y (by rw [← hl1]; exact hlt')] at e'
        exact post.heap.apart x y r1 r2 h1 k1 l1 l2 e'
      · rw [eq0 y k3] at e'
        exact absurd (.inr ⟨y, r2, k1, l2, k2, e'.symm⟩) (post.heap.off x r1 h1 l1)
    · rw [eq0 x h3] at e'
      rcases hrow y r2 hy with rfl | k1 | ⟨k1, k2, _, k3⟩
      · simp [Row.live] at l2
      · have hlt' : y < (e.heap M).length := (List.getElem?_eq_some_iff.1 k1).1
        rw [eq1 y (by rw [← hl1]; exact hlt')] at e'
        exact absurd (.inr ⟨x, r1, h1, l1, h2, e'⟩) (post.heap.off y r2 k1 l2)
      · rw [eq0 y k3] at e'
        exact h.apart x y r1 r2 h1 k1 l1 l2 e'
  · rcases hrow x row hx with rfl | h1 | ⟨h1, h2, _, h3⟩
    · simp [Row.live] at hl
    · have hlt : x < (e.heap M).length := (List.getElem?_eq_some_iff.1 h1).1
      rw [eq1 x (by rw [← hl1]; exact hlt)]
      exact fun hX => post.heap.off x row h1 hl (.inl hX)
    · rw [eq0 x h3]
      exact h.off x row h1 hl
end

end Go.Proofs.Ytjhemkeilagnnaa.Mir
