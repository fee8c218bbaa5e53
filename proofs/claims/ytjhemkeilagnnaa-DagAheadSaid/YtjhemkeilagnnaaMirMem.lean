/- Steps of the machine that turn rows. -/
import Derived.Test.YtjhemkeilagnnaaMirOps
import Derived.Laws.CopyRow
namespace Go.Proofs.Ytjhemkeilagnnaa.Mir
open Go Go.RowKit

theorem applyUpd_append (H : List Row) (u v : List (Nat × Row)) : applyUpd H (u ++ v) = applyUpd (applyUpd H u) v := by
  induction u generalizing H with
  | nil => rfl
  | cons p u ih => obtain ⟨i, r⟩ := p; exact ih _
theorem applyUpd_length (H : List Row) (u : List (Nat × Row)) : (applyUpd H u).length = H.length := by
  induction u generalizing H with
  | nil => rfl
  | cons p u ih => obtain ⟨i, r⟩ := p; rw [show applyUpd H ((i, r) :: u) = applyUpd (H.set i r) u from rfl, ih]; simp
theorem heap_length (e : Eff) (H : List Row) : (e.heap H).length = H.length + e.news.length := by simp [Eff.heap, applyUpd_length]

section
variable {P : Program} {w : World} {φ : Nat → Nat × Nat}

theorem RFs.cons {A : Nat → Prop} {x : F} {u : Value} {xs : List F} {us : List Value} (h : RF w A x u) (k : RFs w A xs us) : RFs w A (x :: xs) (u :: us) :=
  ⟨by simp [k.1], fun i y z hy hz => by
    cases i with
    | zero => simp at hy hz; subst hy; subst hz; exact h
    | succ i => exact k.2 i y z (by simpa using hy) (by simpa using hz)⟩
theorem RFs.append {A : Nat → Prop} {xs ys : List F} {us vs : List Value} (h : RFs w A xs us) (k : RFs w A ys vs) : RFs w A (xs ++ ys) (us ++ vs) := by
  refine ⟨by simp [h.1, k.1], fun i x y hx hy => ?_⟩
  by_cases hi : i < xs.length
  · rw [List.getElem?_append_left hi] at hx
    rw [List.getElem?_append_left (by rw [h.1]; exact hi)] at hy
    exact h.2 i x y hx hy
  · rw [List.getElem?_append_right (by omega)] at hx
    rw [List.getElem?_append_right (by rw [h.1]; omega), h.1] at hy
    exact k.2 _ x y hx hy
theorem RFs.take {A : Nat → Prop} {xs : List F} {us : List Value} (h : RFs w A xs us) (n : Nat) : RFs w A (xs.take n) (us.take n) := by
  refine ⟨by simp [h.1], fun i x y hx hy => ?_⟩
  rw [List.getElem?_take] at hx hy
  split at hx
  · exact h.2 i x y hx (by simpa [*] using hy)
  · simp at hx
theorem RFs.drop {A : Nat → Prop} {xs : List F} {us : List Value} (h : RFs w A xs us) (n : Nat) : RFs w A (xs.drop n) (us.drop n) := by
  refine ⟨by simp [h.1], fun i x y hx hy => ?_⟩
  rw [List.getElem?_drop] at hx hy
  exact h.2 _ x y hx hy

/-- What a heap that was frozen in part is. -/
structure Froze (P : Program) (w : World) (φ : Nat → Nat × Nat) (X : Nat → Prop) (H H' : List Row) : Prop where
  ok : HR P w φ X H'
  len : H'.length = H.length
  av : ∀ b, b < w.heap.size → Av X φ H' b → Av X φ H b
  live : ∀ b, Live φ H' b → Live φ H b
  rows : ∀ (r : Nat) (row : Row), H'[r]? = some row → row.live = true → H[r]? = some row

theorem Froze.refl {X : Nat → Prop} {H : List Row} (h : HR P w φ X H) : Froze P w φ X H H := ⟨h, rfl, fun _ _ h => h, fun _ h => h, fun _ _ h _ => h⟩
theorem Froze.trans {X : Nat → Prop} {H H' H'' : List Row} (h : Froze P w φ X H H') (k : Froze P w φ X H' H'') : Froze P w φ X H H'' :=
  ⟨k.ok, k.len.trans h.len, fun b hb hx => h.av b hb (k.av b hb hx), fun b hx => h.live b (k.live b hx), fun r row hr hl => h.rows r row (k.rows r row hr hl) hl⟩

theorem freeze1_ok {X : Nat → Prop} {H : List Row} (h : HR P w φ X H) {d : D} {u : Value} {x : F} {us : List (Nat × Row)} (hd : R P w φ (Av X φ H) H.length d u) (he : freeze1 P H d = some (x, us)) :
    Froze P w φ X H (applyUpd H us) ∧ RF w (Av X φ (applyUpd H us)) x u := by
  cases hd with
  | f hx =>
    simp [freeze1] at he
    obtain ⟨rfl, rfl⟩ := he
    exact ⟨Froze.refl h, hx⟩
  | sl0 hr =>
    simp [freeze1] at he
    obtain ⟨rfl, rfl⟩ := he
    exact ⟨Froze.refl h, .s [] (Nat.le_refl _) rfl (fun i u hu => by simp at hu) (fun i x u hx => by simp at hx)⟩
  | @sl r off n cap cs T fr i hr hn hb hi hc =>
    simp only [freeze1] at he
    split at he
    · rename_i h0
      subst h0
      simp at he
      obtain ⟨rfl, rfl⟩ := he
      exact ⟨Froze.refl h, .s [] (Nat.zero_le _) rfl (fun i u hu => by simp at hu) (fun i x u hx => by simp at hx)⟩
    · split at he
      · rename_i T' xs hrow
        split at he
        · rename_i sz by_ z hinf
          split at he
          · rename_i hle
            simp at he
            obtain ⟨rfl, rfl⟩ := he
            obtain ⟨h1, h2, h3, h4⟩ := h.freeze hrow
            refine ⟨⟨h1, by simp [applyUpd], h2, h4, ?_⟩, ?_⟩
            · intro s row hs hl
              simp only [applyUpd] at hs
              by_cases e : r = s
              · subst e
                rw [List.getElem?_set_self (List.getElem?_eq_some_iff.1 hrow).1] at hs
                injection hs with hs
                subst hs
                simp [Row.live] at hl
              · rwa [List.getElem?_set_ne e] at hs
            · obtain ⟨pre, us, post, h5, h6, h7⟩ := h.rows r _ hrow
              refine .s ((us.drop off).take (n * sz)) hn (by simp [h7.1]) (fun j u hu => ⟨?_, h3⟩) (fun j x u hx hu => ?_)
              · rw [add_lit, cellH h5, ← h6]
                have hj : j < n * sz := by
                  have := (List.getElem?_eq_some_iff.1 hu).1
                  simp at this; omega
                rw [List.getElem?_take, if_pos hj, List.getElem?_drop] at hu
                have hlt : off + j < us.length := (List.getElem?_eq_some_iff.1 hu).1
                simp only [List.getElem?_toArray]
                rw [List.append_assoc, List.getElem?_append_right (by omega), List.getElem?_append_left (by omega)]
                rw [show pre.length + off + j - pre.length = off + j by omega]
                exact hu
              · have h8 : RFs w (Av X φ (applyUpd H [(r, .froz T' xs)])) xs us := h7.keep (L := fun _ => False) (Keep.refl _ w) (fun _ h => h.elim) h2
                exact ((h8.drop off).take (n * sz)).2 j x u hx hu
          · cases he
        · cases he
      · rename_i T' xs hrow
        split at he
        · rename_i sz by_ z hinf
          split at he
          · rename_i hle
            simp at he
            obtain ⟨rfl, rfl⟩ := he
            obtain ⟨h0, pre, us, post, fr', h5, h6, h7⟩ := h.rows r _ hrow
            refine ⟨Froze.refl h, .s ((us.drop off).take (n * sz)) hn (by simp [h7.1]) (fun j u hu => ⟨?_, h0⟩) (fun j x u hx hu => ?_)⟩
            · rw [add_lit, cellH h5, ← h6]
              have hj : j < n * sz := by
                have := (List.getElem?_eq_some_iff.1 hu).1
                simp at this; omega
              rw [List.getElem?_take, if_pos hj, List.getElem?_drop] at hu
              have hlt : off + j < us.length := (List.getElem?_eq_some_iff.1 hu).1
              simp only [List.getElem?_toArray]
              rw [List.append_assoc, List.getElem?_append_right (by omega), List.getElem?_append_left (by omega)]
              rw [show pre.length + off + j - pre.length = off + j by omega]
              exact hu
            · exact ((h7.drop off).take (n * sz)).2 j x u hx hu
          · cases he
        · cases he
      · cases he
  | _ => simp [freeze1] at he

theorem freezeAll_ok {X : Nat → Prop} {ds : List D} {vs : List Value} {xs : List F} {us : List (Nat × Row)} : ∀ {H : List Row}, HR P w φ X H → Rs P w φ (Av X φ H) H.length ds vs → freezeAll P H ds = some (xs, us) →
    Froze P w φ X H (applyUpd H us) ∧ RFs w (Av X φ (applyUpd H us)) xs vs := by
  induction ds generalizing vs xs us with
  | nil =>
    intro H h hd he
    simp [freezeAll] at he
    obtain ⟨rfl, rfl⟩ := he
    have hv : vs = [] := List.eq_nil_of_length_eq_zero hd.1
    subst hv
    exact ⟨Froze.refl h, rfl, fun i x u hx => by simp at hx⟩
  | cons d ds ih =>
    intro H h hd he
    cases vs with
    | nil => have := hd.1; simp at this
    | cons v vs =>
      simp only [freezeAll] at he
      split at he
      · rename_i x u1 h1
        split at he
        · rename_i xs' us' h2
          simp at he
          obtain ⟨rfl, rfl⟩ := he
          obtain ⟨f1, r1⟩ := freeze1_ok h (hd.2 0 d v (by simp) (by simp)) h1
          have hd' : Rs P w φ (Av X φ (applyUpd H u1)) (applyUpd H u1).length ds vs := by
            have h3 : Rs P w φ (Av X φ H) H.length ds vs := ⟨by have := hd.1; simpa using this, fun i x y hx hy => hd.2 (i + 1) x y (by simpa using hx) (by simpa using hy)⟩
            exact h3.keep (L := fun _ => False) (Keep.refl _ w) (fun _ h => h.elim) f1.av (fun _ _ => rfl) (by rw [f1.len]; exact Nat.le_refl _)
          obtain ⟨f2, r2⟩ := ih f1.ok hd' h2
          rw [applyUpd_append]
          refine ⟨f1.trans f2, RFs.cons ?_ r2⟩
          exact r1.keep (L := fun _ => False) (Keep.refl _ w) (fun _ h => h.elim) f2.av
        · cases he
      · cases he

theorem keep_setRow {w : World} {g : Nat} {cur cs : Array Value} {t : TypeId} {fr : Nat × Nat} (hg : w.heap[g]? = some (.cells cur t fr)) (hs : cs.size = cur.size) : Keep (fun b => b = g) w (w.setRow g cs) := by
  refine ⟨by simp, fun b _ hb => setRow_other w g b cs hb, fun b cs' T fr' hb => ?_, rfl, rfl, rfl⟩
  by_cases e : b = g
  · subst e
    rw [hg] at hb
    injection hb with hb
    injection hb with e1 e2 e3
    subst e1; subst e2; subst e3
    exact ⟨cs, fr, setRow_heap w b _ _ _ _ hg, hs⟩
  · exact ⟨cs', fr', by rw [setRow_other w g b cs e]; exact hb, rfl⟩

theorem cells_size {d : D} {u : Value} {A : Nat → Prop} {N : Nat} (h : R P w φ A N d u) (hj : d ≠ .junk) (ht : ∀ ds, d ≠ .tp ds) : Rs P w φ A N d.cells u.cells.toList ∧ ∀ x ∈ u.cells.toList, x.oneCell' = true := by
  cases h with
  | junk => exact absurd rfl hj
  | tp => exact absurd rfl (ht _)
  | ag hs hr h1 => exact ⟨⟨by simpa [D.cells, Value.cells] using hs, fun i x y hx hy => hr i x y (by simpa [D.cells] using hx) (by simpa [Value.cells] using hy)⟩, by simpa [Value.cells] using h1⟩
  | f hx =>
    have h1 := hx.one
    have hc : u.cells = #[u] := by cases u <;> simp [Value.oneCell'] at h1 <;> rfl
    rw [hc]
    exact ⟨Rs.cons (.f hx) Rs.nil, by simpa using h1⟩
  | sl a b c d e => exact ⟨Rs.cons (.sl a b c d e) Rs.nil, by simp [Value.cells, Value.oneCell']⟩
  | sl0 a => exact ⟨Rs.cons (.sl0 a) Rs.nil, by simp [Value.cells, Value.oneCell']⟩
  | pt a => exact ⟨Rs.cons (.pt a) Rs.nil, by simp [Value.cells, Value.oneCell']⟩
  | rf cs a b c => exact ⟨Rs.cons (.rf cs a b c) Rs.nil, by simp [Value.cells, Value.oneCell']⟩
  | fn a b => exact ⟨Rs.cons (.fn a b) Rs.nil, by simp [Value.cells, Value.oneCell']⟩
  | mp a => exact ⟨Rs.cons (.mp a) Rs.nil, by simp [Value.cells, Value.oneCell']⟩

theorem run_store_row {T : TypeId} {n b : Nat} {z : List Value} (hi : inf P T = some (n, b, z)) {g off : Nat} {cur : Array Value} {t : TypeId} (hg : w.heap[g]? = some (.cells cur t (0, 0))) {u : Value} (hn : u.cells.toList.length = n) (hfit : off + n ≤ cur.size) (h1 : ∀ x ∈ u.cells.toList, x.oneCell' = true) :
    (Instr.storeAt T (.pointer (some ⟨g, off, none⟩)) u).run P w = .ok () (w.setRow g (cur.toList.take off ++ u.cells.toList ++ cur.toList.drop (off + u.cells.toList.length)).toArray) := by
  have hst := run_storeCells_at P g off t u.cells.toList 0 cur w hg (by simpa [hn] using hfit) h1
  simp only [Nat.add_zero] at hst
  have hsz : u.cells.size = n := by simpa using hn
  simp only [Instr.storeAt, Instr.sureAddr, Sem.run_bind, Sem.run_pure, Result.andThen_ok, storeVar, run_size hi, hsz]
  simpa using hst
end

end Go.Proofs.Ytjhemkeilagnnaa.Mir
