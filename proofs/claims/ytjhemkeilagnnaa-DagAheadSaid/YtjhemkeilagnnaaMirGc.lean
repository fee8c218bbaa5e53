/- What is left of a heap behind a call, or at a loop's head. -/
import Derived.Test.YtjhemkeilagnnaaMirAll
namespace Go.Proofs.Ytjhemkeilagnnaa.Mir
open Go Go.RowKit

theorem findIdx_spec {r : Nat} : ∀ {l : List Nat} {i : Nat}, findIdx? r l = some i → l[i]? = some r
  | [], i, h => by simp [findIdx?] at h
  | x :: xs, i, h => by
    simp only [findIdx?] at h
    split at h
    · rename_i hx
      injection h with h
      subst h; subst hx
      simp
    · rw [Option.map_eq_some_iff] at h
      obtain ⟨j, hj, rfl⟩ := h
      simpa using findIdx_spec hj

theorem nodup_spec : ∀ {l : List Nat}, nodupB l = true → ∀ (i j x : Nat), l[i]? = some x → l[j]? = some x → i = j
  | [], _, i, j, x, hi, _ => by simp at hi
  | y :: ys, h, i, j, x, hi, hj => by
    simp only [nodupB, Bool.and_eq_true, Bool.not_eq_true'] at h
    have hn : y ∉ ys := by simpa using h.1
    cases i with
    | zero =>
      cases j with
      | zero => rfl
      | succ j => simp at hi hj; subst hi; exact absurd (List.mem_of_getElem? hj) hn
    | succ i =>
      cases j with
      | zero => simp at hi hj; subst hj; exact absurd (List.mem_of_getElem? hi) hn
      | succ j => rw [nodup_spec h.2 i j x (by simpa using hi) (by simpa using hj)]

section
variable {P : Program} {w : World} {φ ψ : Nat → Nat × Nat} {A A' : Nat → Prop} {N N' n0 : Nat} {seen : List Nat}

theorem RF.less {x : F} {u : Value} (ha : ∀ b, A' b → A b) (h : RF w A x u) : RF w A' x u := by
  induction h with
  | v h => exact .v h
  | s cs hn hlen hc hr ih => exact .s cs hn hlen (fun i u hu => ⟨(hc i u hu).1, fun h => (hc i u hu).2 (ha _ h)⟩) ih
  | s0 => exact .s0
  | e => exact .e

/-- A value under its rows' new names. -/
theorem R.ren (ha : ∀ b, A' b → A b) (hψ : ∀ r r', renN n0 seen r = some r' → ψ r' = φ r ∧ r' < N') {d : D} {u : Value} (h : R P w φ A N d u) : ∀ {d' : D}, renD n0 seen d = some d' → R P w ψ A' N' d' u := by
  have goList : ∀ (ds : List D) (vs : Array Value), vs.size = ds.length → (∀ (i : Nat) (d : D) (u : Value), ds[i]? = some d → vs[i]? = some u → ∀ {d' : D}, renD n0 seen d = some d' → R P w ψ A' N' d' u) → ∀ ds', renD.go n0 seen ds = some ds' → vs.size = ds'.length ∧ ∀ (i : Nat) (d : D) (u : Value), ds'[i]? = some d → vs[i]? = some u → R P w ψ A' N' d u := by
    intro ds vs hs hr
    have key : ∀ (ds : List D) (us : List Value), us.length = ds.length → (∀ (i : Nat) (d : D) (u : Value), ds[i]? = some d → us[i]? = some u → ∀ {d' : D}, renD n0 seen d = some d' → R P w ψ A' N' d' u) → ∀ ds', renD.go n0 seen ds = some ds' → us.length = ds'.length ∧ ∀ (i : Nat) (d : D) (u : Value), ds'[i]? = some d → us[i]? = some u → R P w ψ A' N' d u := by
      intro ds
      induction ds with
      | nil => intro us hs hr ds' hd; simp [renD.go] at hd; subst hd; exact ⟨hs, fun i d u hd => by simp at hd⟩
      | cons d ds ih =>
        intro us hs hr ds' hd
        cases us with
        | nil => simp at hs
        | cons u us =>
          simp only [renD.go] at hd
          split at hd
          · rename_i x xs hx hxs
            injection hd with hd
            subst hd
            obtain ⟨h1, h2⟩ := ih us (by simpa using hs) (fun i d u hd hu d' hd' => hr (i + 1) d u (by simpa using hd) (by simpa using hu) hd') xs hxs
            refine ⟨by simp [h1], fun i y v hy hv => ?_⟩
            cases i with
            | zero => simp at hy hv; subst hy; subst hv; exact hr 0 d u (by simp) (by simp) hx
            | succ i => exact h2 i y v (by simpa using hy) (by simpa using hv)
          · cases hd
    intro ds' hd
    obtain ⟨h1, h2⟩ := key ds vs.toList (by simpa using hs) (fun i d u hd hu => hr i d u hd (by simpa using hu)) ds' hd
    exact ⟨by simpa using h1, fun i d u hd hu => h2 i d u hd (by simpa using hu)⟩
  induction h with
  | f h => intro d' hd; simp [renD] at hd; subst hd; exact .f (h.less ha)
  | sl hr hn hb hi hc =>
    intro d' hd
    simp only [renD] at hd
    rw [Option.map_eq_some_iff] at hd
    obtain ⟨r', hr', rfl⟩ := hd
    obtain ⟨h1, h2⟩ := hψ _ _ hr'
    rw [← h1] at hb hc ⊢
    exact .sl h2 hn hb hi hc
  | sl0 hr =>
    intro d' hd
    simp only [renD] at hd
    rw [Option.map_eq_some_iff] at hd
    obtain ⟨r', hr', rfl⟩ := hd
    exact .sl0 (hψ _ _ hr').2
  | pt hr =>
    intro d' hd
    simp only [renD] at hd
    rw [Option.map_eq_some_iff] at hd
    obtain ⟨r', hr', rfl⟩ := hd
    obtain ⟨h1, h2⟩ := hψ _ _ hr'
    rw [← h1]
    exact .pt h2
  | rf cs hlen hc hr =>
    intro d' hd
    simp [renD] at hd
    subst hd
    exact .rf cs hlen (fun i u hu => ⟨(hc i u hu).1, fun h => (hc i u hu).2 (ha _ h)⟩) (fun i x u hx hu => (hr i x u hx hu).less ha)
  | ag hs _ h1 ih =>
    intro d' hd
    simp only [renD] at hd
    rw [Option.map_eq_some_iff] at hd
    obtain ⟨ds', hds, rfl⟩ := hd
    obtain ⟨h2, h3⟩ := goList _ _ hs ih ds' hds
    exact .ag h2 h3 h1
  | tp hs _ ih =>
    intro d' hd
    simp only [renD] at hd
    rw [Option.map_eq_some_iff] at hd
    obtain ⟨ds', hds, rfl⟩ := hd
    obtain ⟨h2, h3⟩ := goList _ _ hs ih ds' hds
    exact .tp h2 h3
  | fn hs _ ih =>
    intro d' hd
    simp only [renD] at hd
    rw [Option.map_eq_some_iff] at hd
    obtain ⟨ds', hds, rfl⟩ := hd
    obtain ⟨h2, h3⟩ := goList _ _ hs ih ds' hds
    exact .fn h2 h3
  | mp hr =>
    intro d' hd
    simp only [renD] at hd
    rw [Option.map_eq_some_iff] at hd
    obtain ⟨r', hr', rfl⟩ := hd
    obtain ⟨h1, h2⟩ := hψ _ _ hr'
    rw [← h1]
    exact .mp h2
  | junk => intro d' hd; simp [renD] at hd; subst hd; exact .junk

theorem Rs.ren (ha : ∀ b, A' b → A b) (hψ : ∀ r r', renN n0 seen r = some r' → ψ r' = φ r ∧ r' < N') {ds ds' : List D} {us : List Value} (h : Rs P w φ A N ds us) (hd : renD.go n0 seen ds = some ds') : Rs P w ψ A' N' ds' us := by
  induction ds generalizing us ds' with
  | nil => simp [renD.go] at hd; subst hd; exact ⟨h.1, fun i d u hd => by simp at hd⟩
  | cons d ds ih =>
    cases us with
    | nil => have := h.1; simp at this
    | cons u us =>
      simp only [renD.go] at hd
      split at hd
      · rename_i x xs hx hxs
        injection hd with hd
        subst hd
        exact Rs.cons ((h.2 0 d u (by simp) (by simp)).ren ha hψ hx) (ih ⟨by have := h.1; simpa using this, fun i x y hx hy => h.2 (i + 1) x y (by simpa using hx) (by simpa using hy)⟩ hxs)
      · cases hd

theorem R.free {d : D} {u : Value} (h : R P w φ A N d u) (ha : ∀ b, A' b → A b) (hf : Free d) : R P w ψ A' N' d u := by
  induction h with
  | f h => exact .f (h.less ha)
  | ag hs _ h1 ih => cases hf with | ag hf => exact .ag hs (fun i d u hd hu => ih i d u hd hu (hf i d hd)) h1
  | _ => cases hf

theorem RowOk.ren (ha : ∀ b, A' b → A b) (hψ : ∀ r r', renN n0 seen r = some r' → ψ r' = φ r ∧ r' < N') {r r' : Nat} (hr : ψ r' = φ r) {row row' : Row} (h : RowOk P w φ A N r row) (hd : renRow n0 seen row = some row') : RowOk P w ψ A' N' r' row' := by
  cases row with
  | dead => simp [renRow] at hd; subst hd; trivial
  | box T ds =>
    simp only [renRow] at hd
    rw [Option.map_eq_some_iff] at hd
    obtain ⟨ds', hds, rfl⟩ := hd
    obtain ⟨h0, cs, h1, h2, h3⟩ := h
    exact ⟨by rw [hr]; exact h0, cs, by rw [hr]; exact h1, h2.ren ha hψ hds, h3⟩
  | data T xs =>
    simp [renRow] at hd
    subst hd
    obtain ⟨pre, us, post, h1, h2, h3⟩ := h
    exact ⟨pre, us, post, by rw [hr]; exact h1, by rw [hr]; exact h2, h3.1, fun i x u hx hu => (h3.2 i x u hx hu).less ha⟩
  | froz T xs =>
    simp [renRow] at hd
    subst hd
    obtain ⟨h0, pre, us, post, fr, h1, h2, h3⟩ := h
    exact ⟨by rw [hr]; exact fun h => h0 (ha _ h), pre, us, post, fr, by rw [hr]; exact h1, by rw [hr]; exact h2, h3.1, fun i x u hx hu => (h3.2 i x u hx hu).less ha⟩
  | map es =>
    simp [renRow] at hd
    subst hd
    obtain ⟨en, clock, h1, h0, h2, h3⟩ := h
    exact ⟨en, clock, by rw [hr]; exact h1, h0, h2, fun i k d m hd hm => ⟨(h3 i k d m hd hm).1, (h3 i k d m hd hm).2.1.free ha (h3 i k d m hd hm).2.2, (h3 i k d m hd hm).2.2⟩⟩

theorem renRow_live {row row' : Row} (hd : renRow n0 seen row = some row') : row'.live = row.live := by
  cases row <;> simp only [renRow] at hd
  · injection hd with hd; subst hd; rfl
  · rw [Option.map_eq_some_iff] at hd; obtain ⟨_, _, rfl⟩ := hd; rfl
  · injection hd with hd; subst hd; rfl
  · injection hd with hd; subst hd; rfl
  · injection hd with hd; subst hd; rfl

theorem renRows_spec {H : List Row} : ∀ {l : List Nat} {ns : List Row}, renRows n0 seen H l = some ns → ns.length = l.length ∧ ∀ (i : Nat) (row' : Row), ns[i]? = some row' → ∃ r row, l[i]? = some r ∧ H[r]? = some row ∧ renRow n0 seen row = some row'
  | [], ns, h => by simp [renRows] at h; subst h; exact ⟨rfl, fun i r h => by simp at h⟩
  | r :: l, ns, h => by
    simp only [renRows] at h
    split at h
    · rename_i row hrow
      split at h
      · rename_i x xs hx hxs
        injection h with h
        subst h
        obtain ⟨h1, h2⟩ := renRows_spec hxs
        refine ⟨by simp [h1], fun i row' hi => ?_⟩
        cases i with
        | zero => simp at hi; subst hi; exact ⟨r, row, by simp, hrow, hx⟩
        | succ i => obtain ⟨r2, row2, g1, g2, g3⟩ := h2 i row' (by simpa using hi); exact ⟨r2, row2, by simpa using g1, g2, g3⟩
      · cases h
    · cases h

/-- Only rows of S are named. -/
inductive Low (S : Nat → Prop) : D → Prop
  | f {x} : Low S (.f x)
  | sl {r o k} : S r → Low S (.sl r o k)
  | pt {r o} : S r → Low S (.pt r o)
  | rf {xs} : Low S (.rf xs)
  | ag {ds : List D} : (∀ (i : Nat) (d : D), ds[i]? = some d → Low S d) → Low S (.ag ds)
  | tp {ds : List D} : (∀ (i : Nat) (d : D), ds[i]? = some d → Low S d) → Low S (.tp ds)
  | fn {f} {ds : List D} : (∀ (i : Nat) (d : D), ds[i]? = some d → Low S d) → Low S (.fn f ds)
  | mp {r} : S r → Low S (.mp r)
  | junk : Low S .junk

theorem Low.mono {S T : Nat → Prop} (hst : ∀ r, S r → T r) {d : D} (h : Low S d) : Low T d := by
  induction h with
  | f => exact .f
  | sl hr => exact .sl (hst _ hr)
  | pt hr => exact .pt (hst _ hr)
  | rf => exact .rf
  | ag _ ih => exact .ag ih
  | tp _ ih => exact .tp ih
  | fn _ ih => exact .fn ih
  | mp hr => exact .mp (hst _ hr)
  | junk => exact .junk

theorem refs_go {ds : List D} {r : Nat} : r ∈ D.refs.go ds ↔ ∃ d ∈ ds, r ∈ d.refs := by
  induction ds with
  | nil => simp [D.refs.go]
  | cons d ds ih => simp [D.refs.go, ih]

theorem low_of_refs {S : Nat → Prop} : ∀ {d : D}, (∀ r ∈ d.refs, S r) → Low S d
  | .f x, _ => .f
  | .sl r o k, h => .sl (h r (by simp [D.refs]))
  | .pt r o, h => .pt (h r (by simp [D.refs]))
  | .rf xs, _ => .rf
  | .mp r, h => .mp (h r (by simp [D.refs]))
  | .junk, _ => .junk
  | .ag ds, h => .ag (fun i d hd => low_of_refs (fun r hr => h r (by simp only [D.refs]; exact refs_go.2 ⟨d, List.mem_of_getElem? hd, hr⟩)))
  | .tp ds, h => .tp (fun i d hd => low_of_refs (fun r hr => h r (by simp only [D.refs]; exact refs_go.2 ⟨d, List.mem_of_getElem? hd, hr⟩)))
  | .fn f ds, h => .fn (fun i d hd => low_of_refs (fun r hr => h r (by simp only [D.refs]; exact refs_go.2 ⟨d, List.mem_of_getElem? hd, hr⟩)))
termination_by d => SizeOf.sizeOf d
decreasing_by
  all_goals
    have := List.sizeOf_lt_of_mem (List.mem_of_getElem? hd)
    simp; omega

theorem R.isLow {d : D} {u : Value} (h : R P w φ A N d u) : Low (· < N) d := by
  induction h with
  | f h => exact .f
  | sl hr _ _ _ _ => exact .sl hr
  | sl0 hr => exact .sl hr
  | pt hr => exact .pt hr
  | rf _ _ _ _ => exact .rf
  | ag hs _ _ ih => exact .ag (fun i d hd => ih i d _ hd (Array.getElem?_eq_getElem (by rw [hs]; exact (List.getElem?_eq_some_iff.1 hd).1)))
  | tp hs _ ih => exact .tp (fun i d hd => ih i d _ hd (Array.getElem?_eq_getElem (by rw [hs]; exact (List.getElem?_eq_some_iff.1 hd).1)))
  | fn hs _ ih => exact .fn (fun i d hd => ih i d _ hd (Array.getElem?_eq_getElem (by rw [hs]; exact (List.getElem?_eq_some_iff.1 hd).1)))
  | mp hr => exact .mp hr
  | junk => exact .junk

/-- A value that names only old rows stays as it is. -/
theorem R.lower {d : D} {u : Value} {n : Nat} {S : Nat → Prop} (h : R P w φ A N d u) (hψ : ∀ r, S r → ψ r = φ r ∧ r < n) (ha : ∀ b, A' b → A b) : Low S d → R P w ψ A' n d u := by
  induction h with
  | f h => exact fun _ => .f (h.less ha)
  | sl hr hn hb hi hc =>
    intro hb'
    cases hb' with | sl hr' =>
    rw [← (hψ _ hr').1] at hb hc ⊢
    exact .sl (hψ _ hr').2 hn hb hi hc
  | sl0 hr => intro hb'; cases hb' with | sl hr' => exact .sl0 (hψ _ hr').2
  | pt hr => intro hb'; cases hb' with | pt hr' => rw [← (hψ _ hr').1]; exact .pt (hψ _ hr').2
  | rf cs hlen hc hr => exact fun _ => .rf cs hlen (fun i u hu => ⟨(hc i u hu).1, fun h => (hc i u hu).2 (ha _ h)⟩) (fun i x u hx hu => (hr i x u hx hu).less ha)
  | ag hs _ h1 ih => intro hb'; cases hb' with | ag hb' => exact .ag hs (fun i d u hd hu => ih i d u hd hu (hb' i d hd)) h1
  | tp hs _ ih => intro hb'; cases hb' with | tp hb' => exact .tp hs (fun i d u hd hu => ih i d u hd hu (hb' i d hd))
  | fn hs _ ih => intro hb'; cases hb' with | fn hb' => exact .fn hs (fun i d u hd hu => ih i d u hd hu (hb' i d hd))
  | mp hr => intro hb'; cases hb' with | mp hr' => rw [← (hψ _ hr').1]; exact .mp (hψ _ hr').2
  | junk => exact fun _ => .junk

def RowLow (S : Nat → Prop) : Row → Prop
  | .box _ ds => ∀ d ∈ ds, Low S d
  | _ => True

theorem RowOk.isLow {r : Nat} {row : Row} (h : RowOk P w φ A N r row) : RowLow (· < N) row := by
  cases row with
  | box T ds =>
    obtain ⟨_, cs, _, h2, _⟩ := h
    intro d hd
    obtain ⟨i, hi, rfl⟩ := List.getElem_of_mem hd
    obtain ⟨u, _, hr⟩ := h2.get (i := i) (d := ds[i]) (by simp [hi])
    exact hr.isLow
  | _ => trivial

theorem RowLow.mono {S T : Nat → Prop} (hst : ∀ r, S r → T r) {row : Row} (h : RowLow S row) : RowLow T row := by
  cases row with
  | box T ds => exact fun d hd => (h d hd).mono hst
  | _ => trivial
theorem rowLow_of_refs {S : Nat → Prop} {row : Row} (h : ∀ r ∈ row.refs, S r) : RowLow S row := by
  cases row with
  | box T ds => exact fun d hd => low_of_refs (fun r hr => h r (by simp only [Row.refs]; exact List.mem_flatMap.2 ⟨d, hd, hr⟩))
  | _ => trivial

theorem RowOk.lower {n r r' : Nat} {S : Nat → Prop} {row : Row} (h : RowOk P w φ A N r row) (hr : ψ r' = φ r) (hψ : ∀ r, S r → ψ r = φ r ∧ r < n) (ha : ∀ b, A' b → A b) (hb : RowLow S row) : RowOk P w ψ A' n r' row := by
  cases row with
  | dead => trivial
  | box T ds =>
    obtain ⟨h0, cs, h1, h2, h3⟩ := h
    exact ⟨by rw [hr]; exact h0, cs, by rw [hr]; exact h1, ⟨h2.1, fun i d u hd hu => (h2.2 i d u hd hu).lower hψ ha (hb d (List.mem_of_getElem? hd))⟩, h3⟩
  | data T xs =>
    obtain ⟨pre, us, post, h1, h2, h3⟩ := h
    exact ⟨pre, us, post, by rw [hr]; exact h1, by rw [hr]; exact h2, h3.1, fun i x u hx hu => (h3.2 i x u hx hu).less ha⟩
  | froz T xs =>
    obtain ⟨h0, pre, us, post, fr, h1, h2, h3⟩ := h
    exact ⟨by rw [hr]; exact fun h => h0 (ha _ h), pre, us, post, fr, by rw [hr]; exact h1, by rw [hr]; exact h2, h3.1, fun i x u hx hu => (h3.2 i x u hx hu).less ha⟩
  | map es =>
    obtain ⟨en, clock, h1, h0, h2, h3⟩ := h
    exact ⟨en, clock, by rw [hr]; exact h1, h0, h2, fun i k d m hd hm => ⟨(h3 i k d m hd hm).1, (h3 i k d m hd hm).2.1.free ha (h3 i k d m hd hm).2.2, (h3 i k d m hd hm).2.2⟩⟩

theorem R.upper {d : D} {u : Value} (h : R P w φ A N d u) (hN : N ≤ N') : R P w φ A N' d u := by
  induction h with
  | f h => exact .f h
  | sl hr hn hb hi hc => exact .sl (Nat.lt_of_lt_of_le hr hN) hn hb hi hc
  | sl0 hr => exact .sl0 (Nat.lt_of_lt_of_le hr hN)
  | pt hr => exact .pt (Nat.lt_of_lt_of_le hr hN)
  | rf cs a b c => exact .rf cs a b c
  | ag hs _ h1 ih => exact .ag hs ih h1
  | tp hs _ ih => exact .tp hs ih
  | fn hs _ ih => exact .fn hs ih
  | mp hr => exact .mp (Nat.lt_of_lt_of_le hr hN)
  | junk => exact .junk
theorem RowOk.upper {r : Nat} {row : Row} (h : RowOk P w φ A N r row) (hN : N ≤ N') : RowOk P w φ A N' r row := by
  cases row with
  | dead => trivial
  | box T ds => obtain ⟨h0, cs, h1, h2, h3⟩ := h; exact ⟨h0, cs, h1, ⟨h2.1, fun i d u hd hu => (h2.2 i d u hd hu).upper hN⟩, h3⟩
  | data T xs => exact h
  | froz T xs => exact h
  | map es => obtain ⟨en, clock, h1, h0, h2, h3⟩ := h; exact ⟨en, clock, h1, h0, h2, fun i k d m hd hm => ⟨(h3 i k d m hd hm).1, (h3 i k d m hd hm).2.1.upper hN, (h3 i k d m hd hm).2.2⟩⟩
end

end Go.Proofs.Ytjhemkeilagnnaa.Mir
