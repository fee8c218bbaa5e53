/- Steps of the machine that turn rows: store, append. -/
import Derived.Test.YtjhemkeilagnnaaMirMem
namespace Go.Proofs.Ytjhemkeilagnnaa.Mir
open Go Go.RowKit

section
variable {P : Program} {w : World} {φ : Nat → Nat × Nat} {X : Nat → Prop} {H : List Row}

theorem okCell_ok {d : D} (h : okCell d = true) : d ≠ .junk ∧ ∀ ds, d ≠ .tp ds := by
  cases d <;> simp [okCell] at h ⊢

theorem leaves_turn {H1 : List Row} {w' : World} (f : Froze P w φ X H H1) {r : Nat} {row row' : Row} (hr : H1[r]? = some row) (hl : row.live = true) (hk : Keep (fun b => b = (φ r).1) w w')
    (hok : (∀ b, b < w.heap.size → Av X φ (H1.set r row') b → Av X φ H1 b) → RowOk P w' φ (Av X φ (H1.set r row')) H1.length r row') {e : Eff} {v : Value} (heq : e.heap H = H1.set r row') (hres : ∀ A, R P w' φ A H.length e.res v) : Leaves P w φ X H e v w' := by
  obtain ⟨h1, h2, h3⟩ := f.ok.turn hr (hk.mono (fun b _ e => ⟨hl, e⟩)) (fun _ => hl) hok
  refine ⟨φ, fun _ _ => rfl, by rw [heq]; exact h1, ?_, ?_, ?_⟩
  · rw [heq]
    have := hres (Av X φ (H1.set r row'))
    rw [List.length_set, f.len]; exact this
  · refine hk.mono (fun b _ e => ?_)
    subst e
    exact f.live _ (live_of hr hl)
  · intro b hb
    rw [heq] at hb
    rcases h2 b hb with h | h
    · exact .inl (f.live _ h)
    · exact .inr h

theorem store_ok (h : HR P w φ X H) {T : TypeId} {x d : D} {ux ud : Value} {e : Eff} (hx : R P w φ (Av X φ H) H.length x ux) (hd : R P w φ (Av X φ H) H.length d ud) (he : storeD P H T x d = some e) :
    ∃ w', (Instr.storeAt T ux ud).run P w = .ok () w' ∧ Leaves P w φ X H e Go.undef w' := by
  unfold storeD at he
  split at he
  · rename_i r off n b z hinf
    cases hx with
    | pt hr =>
      split at he
      · rename_i U xs hrow
        split at he
        · rename_i hc
          injection he with he
          subst he
          obtain ⟨hc1, hc2, hc3⟩ := hc
          obtain ⟨hj, ht⟩ := okCell_ok hc1
          obtain ⟨hcs, hone⟩ := cells_size hd hj ht
          obtain ⟨h0, cs, h1, h2, h3⟩ := h.rows r _ hrow
          have hsz : cs.size = xs.length := by have := h2.1; simpa using this
          have hst := run_store_row (P := P) (w := w) (off := (φ r).2 + off) hinf h1 (u := ud) (by rw [hcs.1]; exact hc2) (by rw [h0]; omega) hone
          have hlen2 : (cs.toList.take ((φ r).2 + off) ++ ud.cells.toList ++ cs.toList.drop ((φ r).2 + off + ud.cells.toList.length)).length = cs.size := by
            have h5 := hcs.1
            rw [hc2] at h5
            rw [h0]
            simp only [List.length_append, List.length_take, List.length_drop, h5, Array.length_toList]
            omega
          refine ⟨_, hst, ?_⟩
          have hk : Keep (fun b => b = (φ r).1) w (w.setRow (φ r).1 (cs.toList.take ((φ r).2 + off) ++ ud.cells.toList ++ cs.toList.drop ((φ r).2 + off + ud.cells.toList.length)).toArray) := keep_setRow h1 (by simpa using hlen2)
          refine leaves_turn (row' := .box U (splice xs off d.cells)) (Froze.refl h) hrow rfl hk (fun hav => ?_) (by simp [Eff.heap, applyUpd]) (fun A => R.undef)
          have hlv : ∀ b, b = (φ r).1 → Av X φ H b := fun b e => by subst e; exact .inr (live_of hrow rfl)
          refine ⟨h0, _, setRow_heap w _ _ _ _ _ h1, ?_, ?_⟩
          · have a1 := h2.keep (N' := H.length) hk hlv hav (fun _ _ => rfl) (Nat.le_refl _)
            have a2 := hcs.keep (N' := H.length) hk hlv hav (fun _ _ => rfl) (Nat.le_refl _)
            have a3 := a1.splice a2 off
            have e0 : (φ r).2 + off = off := by rw [h0, Nat.zero_add]
            simp only [e0] at a3 ⊢
            exact a3
          · intro u hu
            simp only [List.append_assoc, List.mem_append] at hu
            rcases hu with hu | hu | hu
            · exact h3 u (List.mem_of_mem_take hu)
            · exact hone u hu
            · exact h3 u (List.mem_of_mem_drop hu)
        · cases he
      · rename_i U xs hrow
        split at he
        · rename_i hc
          obtain ⟨hc1, hc2, hc3⟩ := hc
          obtain ⟨hj, ht⟩ := okCell_ok hc1
          obtain ⟨hcs, hone⟩ := cells_size hd hj ht
          split at he
          · rename_i ys us hfr
            obtain ⟨f, hys⟩ := freezeAll_ok h hcs hfr
            split at he
            · rename_i U' ws hrow'
              injection he with he
              subst he
              have hrow2 := f.rows r _ hrow' rfl
              rw [hrow] at hrow2
              injection hrow2 with hrow2
              injection hrow2 with e1 e2
              subst e1; subst e2
              obtain ⟨pre, vs, post, h1, h2, h3⟩ := f.ok.rows r _ hrow'
              have hst := run_store_row (P := P) (w := w) (off := (φ r).2 + off) hinf h1 (u := ud) (by rw [hcs.1]; exact hc2) (by rw [← h2]; have := h3.1; simp; omega) hone
              have hl5 : ud.cells.toList.length = n := by rw [hcs.1]; exact hc2
              have hvl := h3.1
              have hnew : (pre ++ vs ++ post).take ((φ r).2 + off) ++ ud.cells.toList ++ (pre ++ vs ++ post).drop ((φ r).2 + off + ud.cells.toList.length) = pre ++ (vs.take off ++ ud.cells.toList ++ vs.drop (off + ud.cells.toList.length)) ++ post := by
                rw [← h2, hl5, List.append_assoc pre, List.take_length_add_append, List.take_append_of_le_length (by omega), Nat.add_assoc, List.drop_length_add_append, List.drop_append_of_le_length (by omega)]
                simp
              refine ⟨_, hst, ?_⟩
              simp only at *
              rw [hnew]
              have hk : Keep (fun b => b = (φ r).1) w (w.setRow (φ r).1 (pre ++ (vs.take off ++ ud.cells.toList ++ vs.drop (off + ud.cells.toList.length)) ++ post).toArray) := keep_setRow h1 (by simp [hl5]; omega)
              refine leaves_turn (row' := .data U (splice xs off ys)) f hrow' rfl hk (fun hav => ?_) (by simp [Eff.heap, applyUpd_append, applyUpd]) (fun A => R.undef)
              have hlv : ∀ b, b = (φ r).1 → Av X φ (applyUpd H us) b := fun b e => by subst e; exact .inr (live_of hrow' rfl)
              refine ⟨pre, _, post, setRow_heap w _ _ _ _ _ h1, h2, ?_⟩
              have a1 := h3.keep hk hlv hav
              have a2 := hys.keep hk hlv hav
              have a3 := ((a1.take off).append a2).append (a1.drop (off + ud.cells.toList.length))
              have e0 : splice xs off ys = xs.take off ++ ys ++ xs.drop (off + ud.cells.toList.length) := by unfold Mir.splice; rw [← hys.1]
              rw [e0] at a3 ⊢
              exact a3
            · cases he
          · cases he
        · cases he
      · cases he
  · cases he
end

end Go.Proofs.Ytjhemkeilagnnaa.Mir
