/- The machine's runs against the model's: regions in one order. -/
import Derived.Test.YtjhemkeilagnnaaMirGc
namespace Go.Proofs.Ytjhemkeilagnnaa.Mir
open Go Go.RowKit

/-- What a frame and a heap are. -/
structure Sim (P : Program) (X : Nat → Prop) (w : World) (φ : Nat → Nat × Nat) (s : St) (a : Act) : Prop where
  heap : HR P w φ X s.H
  tmps : Rs P w φ (Av X φ s.H) s.H.length s.ts a.tmps.toList
  defers : a.defers = []

/-- How a world may have gone on. -/
structure Ons (X : Nat → Prop) (w : World) (φ : Nat → Nat × Nat) (H : List Row) (w' : World) (φ' : Nat → Nat × Nat) (H' : List Row) : Prop where
  len : H.length ≤ H'.length
  same : ∀ r, r < H.length → φ' r = φ r
  keep : Keep (Live φ H) w w'
  fresh : ∀ b, Live φ' H' b → Live φ H b ∨ w.heap.size ≤ b

theorem Ons.refl (X : Nat → Prop) (w : World) (φ : Nat → Nat × Nat) (H : List Row) : Ons X w φ H w φ H := ⟨Nat.le_refl _, fun _ _ => rfl, Keep.refl _ _, fun _ h => .inl h⟩
theorem Ons.trans {X : Nat → Prop} {w w1 w2 : World} {φ φ1 φ2 : Nat → Nat × Nat} {H H1 H2 : List Row} (h : Ons X w φ H w1 φ1 H1) (k : Ons X w1 φ1 H1 w2 φ2 H2) : Ons X w φ H w2 φ2 H2 := by
  refine ⟨Nat.le_trans h.len k.len, fun r hr => (k.same r (Nat.lt_of_lt_of_le hr h.len)).trans (h.same r hr), h.keep.trans k.keep (fun i hi hl => ?_), fun b hb => ?_⟩
  · rcases h.fresh i hl with h1 | h1
    · exact h1
    · omega
  · rcases k.fresh b hb with h1 | h1
    · exact h.fresh b h1
    · exact .inr (Nat.le_trans h.keep.size h1)
theorem Ons.av {X : Nat → Prop} {w w' : World} {φ φ' : Nat → Nat × Nat} {H H' : List Row} (h : Ons X w φ H w' φ' H') : ∀ b, b < w.heap.size → Av X φ' H' b → Av X φ H b := by
  rintro b hb (hx | hx)
  · exact .inl hx
  · rcases h.fresh b hx with h1 | h1
    · exact .inr h1
    · omega
theorem Ons.rs {P : Program} {X : Nat → Prop} {w w' : World} {φ φ' : Nat → Nat × Nat} {H H' : List Row} (h : Ons X w φ H w' φ' H') {ds : List D} {us : List Value} (hd : Rs P w φ (Av X φ H) H.length ds us) : Rs P w' φ' (Av X φ' H') H'.length ds us :=
  hd.keep h.keep (fun b hb => .inr hb) h.av h.same h.len

theorem Leaves.ext {P : Program} {w : World} {φ : Nat → Nat × Nat} {X : Nat → Prop} {H : List Row} {e : Eff} {v : Value} {w' : World} (h : Leaves P w φ X H e v w') :
    ∃ φ', Ons X w φ H w' φ' (e.heap H) ∧ HR P w' φ' X (e.heap H) ∧ R P w' φ' (Av X φ' (e.heap H)) (e.heap H).length e.res v := by
  obtain ⟨φ', h1, h2, h3, h4, h5⟩ := h
  exact ⟨φ', ⟨by rw [heap_length]; omega, h1, h4, h5⟩, h2, h3⟩

theorem Rs.set {P : Program} {w : World} {φ : Nat → Nat × Nat} {A : Nat → Prop} {N : Nat} {ds : List D} {us : List Value} (h : Rs P w φ A N ds us) {d : D} {u : Value} (hd : R P w φ A N d u) (t : Nat) : Rs P w φ A N (ds.set t d) (us.set t u) := by
  refine ⟨by simp [h.1], fun i x y hx hy => ?_⟩
  rw [List.getElem?_set] at hx hy
  by_cases e : t = i
  · rw [if_pos e] at hx hy
    split at hx
    · rw [if_pos (by have := h.1; omega)] at hy
      injection hx with hx; injection hy with hy
      subst hx; subst hy
      exact hd
    · cases hx
  · rw [if_neg e] at hx hy
    exact h.2 i x y hx hy

theorem Rs.put {P : Program} {w : World} {φ : Nat → Nat × Nat} {A : Nat → Prop} {N : Nat} {ds : List D} {a : Act} (h : Rs P w φ A N ds a.tmps.toList) {d : D} {u : Value} (hd : R P w φ A N d u) (t : Option Tmp) : Rs P w φ A N (putD! ds t d) (a.put t u).tmps.toList := by
  cases t with
  | none => exact h
  | some t =>
    have := h.set hd t
    simpa [putD!, Act.put, Array.toList_setIfInBounds] using this
theorem put_defers (a : Act) (t : Option Tmp) (u : Value) : (a.put t u).defers = a.defers := by cases t <;> rfl

theorem wanted_ok {P : Program} {w : World} {φ : Nat → Nat × Nat} {A : Nat → Prop} {N : Nat} {ts : List D} {a : Act} (h : Rs P w φ A N ts a.tmps.toList) {ops : Array Oper} {o : Oper} {b : Bool} (hw : wantedD ops.toList ts o = some b) : Region.wanted o (yielded ops a.tmps) = b := by
  unfold wantedD at hw
  unfold Region.wanted
  cases hg : o.guard with
  | none => rw [hg] at hw; simpa using hw
  | some p =>
    obtain ⟨j, want⟩ := p
    rw [hg] at hw
    simp only at hw ⊢
    split at hw
    · rename_i q hq
      split at hw
      · rename_i t ht
        have hq' : ops[j]? = some q := by simpa using hq
        have key : ∀ d, ts[t]? = some d → ∃ u, a.tmps[t]? = some u ∧ R P w φ A N d u := by
          intro d hd
          obtain ⟨u, hu, hr⟩ := h.get hd
          exact ⟨u, by simpa using hu, hr⟩
        split at hw
        · rename_i c hc
          obtain ⟨u, hu, hr⟩ := key _ hc
          cases hr with | f hr => cases hr with | v _ =>
          injection hw with hw
          subst hw
          simp [yielded, hq', ht, hu]
        · rename_i x hnb hx
          obtain ⟨u, hu, hr⟩ := key _ hx
          cases hr with | f hr => cases hr with | v _ =>
          injection hw with hw
          subst hw
          cases x <;> simp [yielded, hq', ht, hu]
          exact absurd rfl (hnb _)
        · rename_i ds hx
          obtain ⟨u, hu, hr⟩ := key _ hx
          cases hr with | tp _ _ =>
          injection hw with hw
          subst hw
          simp [yielded, hq', ht, hu]
        · cases hw
      · cases hw
    · cases hw

/-- What holds all along a function's run. 'w0', 'φ0', 'H0': as it was called. -/
structure Run (P : Program) (X : Nat → Prop) (w0 : World) (φ0 : Nat → Nat × Nat) (H0 : List Row) (w : World) (φ : Nat → Nat × Nat) (s : St) (a : Act) : Prop where
  sim : Sim P X w φ s a
  ons : Ons X w0 φ0 H0 w φ s.H
  low : ∀ (r : Nat) (row : Row), H0[r]? = some row → RowLow (· < H0.length) row
  clean : ∀ r : Nat, r < H0.length → r ∉ s.dirty → s.H[r]? = H0[r]?


section
variable {P : Program} {X : Nat → Prop}

theorem applyUpd_other : ∀ (us : List (Nat × Row)) (B : List Row) (r : Nat), (∀ p ∈ us, p.1 ≠ r) → (applyUpd B us)[r]? = B[r]?
  | [], _, _, _ => rfl
  | (i, x) :: us, B, r, hp => by
    show (applyUpd (B.set i x) us)[r]? = _
    rw [applyUpd_other us _ r (fun p hp' => hp p (List.mem_cons_of_mem _ hp')), List.getElem?_set_ne (hp (i, x) List.mem_cons_self)]

/-- One step more. -/
theorem Run.step {w0 w w' : World} {φ0 φ φ' : Nat → Nat × Nat} {H0 : List Row} {s : St} {a : Act} (h : Run P X w0 φ0 H0 w φ s a) {e : Eff} (h1 : Ons X w φ s.H w' φ' (e.heap s.H)) (h2 : HR P w' φ' X (e.heap s.H)) {v : Value} (h3 : R P w' φ' (Av X φ' (e.heap s.H)) (e.heap s.H).length e.res v) (dst : Option Tmp) :
    Run P X w0 φ0 H0 w' φ' ⟨putD! s.ts dst e.res, e.heap s.H, e.upd.map (·.1) ++ s.dirty⟩ (a.put dst v) := by
  refine ⟨⟨h2, (h1.rs h.sim.tmps).put h3 dst, by rw [put_defers]; exact h.sim.defers⟩, h.ons.trans h1, h.low, fun r hr hnd => ?_⟩
  dsimp only at hnd ⊢
  rw [List.mem_append, not_or] at hnd
  have hlt : r < s.H.length := Nat.lt_of_lt_of_le hr h.ons.len
  unfold Eff.heap
  rw [List.getElem?_append_left (by rw [applyUpd_length]; exact hlt), applyUpd_other _ _ r (fun p hp e => hnd.1 (List.mem_map.2 ⟨p, hp, e⟩))]
  exact h.clean r hr hnd.2

theorem Run.skip {w0 w : World} {φ0 φ : Nat → Nat × Nat} {H0 : List Row} {s : St} {a : Act} (h : Run P X w0 φ0 H0 w φ s a) (dst : Option Tmp) : Run P X w0 φ0 H0 w φ ⟨putD! s.ts dst D.undef, s.H, s.dirty⟩ (a.put dst Go.undef) :=
  ⟨⟨h.sim.heap, h.sim.tmps.put R.undef dst, by rw [put_defers]; exact h.sim.defers⟩, h.ons, h.low, h.clean⟩

theorem runSeq_ok (hP : Good P) {call : Calling} (hcall : ∀ f, Sound P f (call f)) {ops : Array Oper} {Q : Exit → Act → World → Prop} {w0 : World} {φ0 : Nat → Nat × Nat} {H0 : List Row} : ∀ (rest : List Oper) (k : Nat) (s s' : St) (w : World) (φ : Nat → Nat × Nat) (a : Act), (∀ j, rest[j]? = ops[k + j]?) →
    runSeq P call ops.toList rest s = some s' → Run P X w0 φ0 H0 w φ s a → (∀ a' w' φ', Run P X w0 φ0 H0 w' φ' s' a' → Q .normal a' w') → wpOps P ops Q (List.range' k rest.length) a w
  | [], k, s, s', w, φ, a, _, hr, hs, hQ => by
    simp [runSeq] at hr
    subst hr
    exact hQ a w φ hs
  | o :: rest, k, s, s', w, φ, a, hk, hr, hs, hQ => by
    have ho : ops[k]? = some o := by have := hk 0; simpa using this.symm
    have hk' : ∀ j, rest[j]? = ops[k + 1 + j]? := fun j => by have := hk (j + 1); simpa [Nat.add_assoc, Nat.add_comm 1 j] using this
    simp only [List.length_cons, List.range'_succ, wpOps, ho]
    simp only [runSeq] at hr
    split at hr
    · rename_i hwant
      rw [wanted_ok hs.sim.tmps hwant, if_pos rfl]
      split at hr
      · rename_i e he
        refine .inl (step_ok hP hcall hs.sim.heap hs.sim.tmps he _ _ (fun v w' hl => ?_))
        obtain ⟨φ', h1, h2, h3⟩ := hl.ext
        exact runSeq_ok hP hcall rest (k + 1) _ s' w' φ' _ hk' hr (hs.step h1 h2 h3 o.dst) hQ
      · cases hr
    · rename_i hwant
      rw [wanted_ok hs.sim.tmps hwant, if_neg (by simp)]
      exact runSeq_ok hP hcall rest (k + 1) _ s' w φ _ hk' hr (hs.skip o.dst) hQ
    · cases hr
end

end Go.Proofs.Ytjhemkeilagnnaa.Mir
