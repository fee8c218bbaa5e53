/- How a heap of rows may turn. -/
import Derived.Test.YtjhemkeilagnnaaMirRep
namespace Go.Proofs.Ytjhemkeilagnnaa.Mir
open Go Go.RowKit

theorem HR.blk {P : Program} {w : World} {φ : Nat → Nat × Nat} {X : Nat → Prop} {H : List Row} (h : HR P w φ X H) {r : Nat} {x : Row} (hx : H[r]? = some x) (hl : x.live = true) : (φ r).1 < w.heap.size := by
  have := h.rows r x hx
  cases x <;> simp [Row.live] at hl
  · obtain ⟨_, cs, h1, _⟩ := this; exact block_lt h1
  · obtain ⟨_, _, _, h1, _⟩ := this; exact block_lt h1
  · obtain ⟨_, _, h1, _⟩ := this; exact block_lt h1

theorem HR.live_lt {P : Program} {w : World} {φ : Nat → Nat × Nat} {X : Nat → Prop} {H : List Row} (h : HR P w φ X H) {b : Nat} (hb : Live φ H b) : b < w.heap.size := by
  obtain ⟨r, x, hx, hl, rfl⟩ := hb
  exact h.blk hx hl

theorem HR.live_off {P : Program} {w : World} {φ : Nat → Nat × Nat} {X : Nat → Prop} {H : List Row} (h : HR P w φ X H) {b : Nat} (hb : Live φ H b) : ¬ X b := by
  obtain ⟨r, x, hx, hl, rfl⟩ := hb
  exact h.off r x hx hl

theorem HR.step {P : Program} {w w' : World} {φ φ' : Nat → Nat × Nat} {X : Nat → Prop} {H H' : List Row} (h : HR P w φ X H) (L : Nat → Prop) (hk : Keep L w w') (hL : ∀ b, L b → Live φ H b)
    (hlen : H.length ≤ H'.length) (hφ : ∀ r, r < H.length → φ' r = φ r)
    (hfresh : ∀ r x, H'[r]? = some x → x.live = true → w.heap.size ≤ (φ' r).1 ∨ Live φ H (φ' r).1)
    (hrow : ∀ r x, H'[r]? = some x → (H[r]? = some x ∧ (x.live = true → ¬ L (φ r).1)) ∨ ((∀ b, b < w.heap.size → Av X φ' H' b → Av X φ H b) → RowOk P w' φ' (Av X φ' H') H'.length r x))
    (hapart : ∀ r s x y, H'[r]? = some x → H'[s]? = some y → x.live = true → y.live = true → (φ' r).1 = (φ' s).1 → r = s) :
    HR P w' φ' X H' ∧ (∀ b, Live φ' H' b → Live φ H b ∨ w.heap.size ≤ b) ∧ (∀ b, b < w.heap.size → Av X φ' H' b → Av X φ H b) := by
  have hlive : ∀ b, Live φ' H' b → Live φ H b ∨ w.heap.size ≤ b := by
    rintro b ⟨r, x, hx, hl, rfl⟩
    exact (hfresh r x hx hl).symm
  have hav : ∀ b, b < w.heap.size → Av X φ' H' b → Av X φ H b := by
    rintro b hb (hx | hx)
    · exact .inl hx
    · rcases hlive b hx with h' | h'
      · exact .inr h'
      · omega
  refine ⟨⟨?_, hapart, ?_, fun b hb => Nat.lt_of_lt_of_le (h.old b hb) hk.size⟩, hlive, hav⟩
  · intro r x hx
    rcases hrow r x hx with ⟨h1, h2⟩ | h1
    · have hr : r < H.length := (List.getElem?_eq_some_iff.1 h1).1
      have h3 := h.rows r x h1
      refine h3.keep hk (fun b hb => .inr (hL b hb)) hav hφ hlen hr ?_
      cases x with
      | dead => exact .inl rfl
      | box T ds => obtain ⟨_, cs, h4, _⟩ := h3; exact .inr (hk.block _ (block_lt h4) (h2 rfl)).symm
      | data T xs => obtain ⟨_, _, _, h4, _⟩ := h3; exact .inr (hk.block _ (block_lt h4) (h2 rfl)).symm
      | froz T xs => obtain ⟨h0, _, _, _, _, h4, _⟩ := h3; exact .inr (hk.block _ (block_lt h4) (fun hl => h0 (.inr (hL _ hl)))).symm
      | map es => obtain ⟨_, _, h4, _⟩ := h3; exact .inr (hk.block _ (block_lt h4) (h2 rfl)).symm
    · exact h1 hav
  · intro r x hx hl hX
    rcases hfresh r x hx hl with h1 | h1
    · have := h.old _ hX; omega
    · exact h.live_off h1 hX

/-- One row turns. -/
theorem HR.turn {P : Program} {w w' : World} {φ : Nat → Nat × Nat} {X : Nat → Prop} {H : List Row} (h : HR P w φ X H) {r : Nat} {row row' : Row} (hr : H[r]? = some row) (hk : Keep (fun b => row.live = true ∧ b = (φ r).1) w w') (hl : row'.live = true → row.live = true)
    (hok : (∀ b, b < w.heap.size → Av X φ (H.set r row') b → Av X φ H b) → RowOk P w' φ (Av X φ (H.set r row')) H.length r row') :
    HR P w' φ X (H.set r row') ∧ (∀ b, Live φ (H.set r row') b → Live φ H b ∨ w.heap.size ≤ b) ∧ (∀ b, b < w.heap.size → Av X φ (H.set r row') b → Av X φ H b) := by
  have hlt : r < H.length := (List.getElem?_eq_some_iff.1 hr).1
  have get : ∀ s x, (H.set r row')[s]? = some x → (s = r ∧ x = row') ∨ (s ≠ r ∧ H[s]? = some x) := by
    intro s x hx
    by_cases hs : r = s
    · subst hs
      rw [List.getElem?_set_self hlt] at hx
      exact .inl ⟨rfl, (Option.some.inj hx).symm⟩
    · rw [List.getElem?_set_ne hs] at hx
      exact .inr ⟨fun e => hs e.symm, hx⟩
  refine h.step (fun b => row.live = true ∧ b = (φ r).1) hk ?_ (by simp) (fun _ _ => rfl) ?_ ?_ ?_
  · rintro b ⟨h1, rfl⟩; exact live_of hr h1
  · intro s x hx hlx
    rcases get s x hx with ⟨rfl, rfl⟩ | ⟨_, h1⟩
    · exact .inr (live_of hr (hl hlx))
    · exact .inr (live_of h1 hlx)
  · intro s x hx
    rcases get s x hx with ⟨rfl, rfl⟩ | ⟨hne, h1⟩
    · refine .inr (fun hav => ?_)
      rw [List.length_set]
      exact hok hav
    · exact .inl ⟨h1, fun hlx ⟨hrl, e⟩ => hne (h.apart s r x row h1 hr hlx hrl e)⟩
  · intro s t x y hx hy hlx hly e
    rcases get s x hx with ⟨rfl, rfl⟩ | ⟨hne, h1⟩ <;> rcases get t y hy with ⟨rfl, rfl⟩ | ⟨hne', h2⟩
    · rfl
    · exact h.apart _ _ _ _ hr h2 (hl hlx) hly e
    · exact h.apart _ _ _ _ h1 hr hlx (hl hly) e
    · exact h.apart _ _ _ _ h1 h2 hlx hly e

def ext1 (φ : Nat → Nat × Nat) (N : Nat) (q : Nat × Nat) : Nat → Nat × Nat := fun r => if r = N then q else φ r
theorem ext1_old {φ : Nat → Nat × Nat} {N : Nat} {q : Nat × Nat} {r : Nat} (h : r < N) : ext1 φ N q r = φ r := if_neg (by omega)
theorem ext1_new {φ : Nat → Nat × Nat} {N : Nat} {q : Nat × Nat} : ext1 φ N q N = q := if_pos rfl

/-- One row more, in a new block. -/
theorem HR.more {P : Program} {w w' : World} {φ : Nat → Nat × Nat} {X : Nat → Prop} {H : List Row} (h : HR P w φ X H) (hk : Keep (fun _ => False) w w') (b base : Nat) (row : Row) (hb : w.heap.size ≤ b)
    (hok : (∀ c, c < w.heap.size → Av X (ext1 φ H.length (b, base)) (H ++ [row]) c → Av X φ H c) → RowOk P w' (ext1 φ H.length (b, base)) (Av X (ext1 φ H.length (b, base)) (H ++ [row])) (H.length + 1) H.length row) :
    HR P w' (ext1 φ H.length (b, base)) X (H ++ [row]) ∧ (∀ c, Live (ext1 φ H.length (b, base)) (H ++ [row]) c → Live φ H c ∨ w.heap.size ≤ c) ∧ (∀ c, c < w.heap.size → Av X (ext1 φ H.length (b, base)) (H ++ [row]) c → Av X φ H c) := by
  have get : ∀ s x, (H ++ [row])[s]? = some x → (s = H.length ∧ x = row) ∨ (s < H.length ∧ H[s]? = some x) := by
    intro s x hx
    by_cases hs : s < H.length
    · rw [List.getElem?_append_left hs] at hx; exact .inr ⟨hs, hx⟩
    · have h1 := (List.getElem?_eq_some_iff.1 hx).1
      simp at h1
      obtain rfl : s = H.length := by omega
      simp at hx
      exact .inl ⟨rfl, hx.symm⟩
  refine h.step (fun _ => False) hk (fun _ h => h.elim) (by simp) (fun r hr => ext1_old hr) ?_ ?_ ?_
  · intro s x hx hlx
    rcases get s x hx with ⟨rfl, rfl⟩ | ⟨hs, h1⟩
    · rw [ext1_new]; exact .inl hb
    · rw [ext1_old hs]; exact .inr (live_of h1 hlx)
  · intro s x hx
    rcases get s x hx with ⟨rfl, rfl⟩ | ⟨hs, h1⟩
    · refine .inr (fun hav => ?_)
      rw [List.length_append]
      exact hok hav
    · exact .inl ⟨h1, fun _ h => h⟩
  · intro s t x y hx hy hlx hly e
    rcases get s x hx with ⟨rfl, rfl⟩ | ⟨hs, h1⟩ <;> rcases get t y hy with ⟨rfl, rfl⟩ | ⟨ht, h2⟩
    · rfl
    · rw [ext1_new, ext1_old ht] at e
      have := h.blk h2 hly
      simp at e; omega
    · rw [ext1_new, ext1_old hs] at e
      have := h.blk h1 hlx
      simp at e; omega
    · rw [ext1_old hs, ext1_old ht] at e
      exact h.apart _ _ _ _ h1 h2 hlx hly e

/-- A row that gives way to a longer one, in its own block or in a new one. -/
theorem HR.moved {P : Program} {w w' : World} {φ : Nat → Nat × Nat} {X : Nat → Prop} {H : List Row} (h : HR P w φ X H) {r : Nat} {old : Row} (hr : H[r]? = some old) (hrl : old.live = true) (hk : Keep (fun b => b = (φ r).1) w w') (b base : Nat) (row : Row) (hb : w.heap.size ≤ b ∨ b = (φ r).1)
    (hok : (∀ c, c < w.heap.size → Av X (ext1 φ H.length (b, base)) (H.set r .dead ++ [row]) c → Av X φ H c) → RowOk P w' (ext1 φ H.length (b, base)) (Av X (ext1 φ H.length (b, base)) (H.set r .dead ++ [row])) (H.length + 1) H.length row) :
    HR P w' (ext1 φ H.length (b, base)) X (H.set r .dead ++ [row]) ∧ (∀ c, Live (ext1 φ H.length (b, base)) (H.set r .dead ++ [row]) c → Live φ H c ∨ w.heap.size ≤ c) ∧ (∀ c, c < w.heap.size → Av X (ext1 φ H.length (b, base)) (H.set r .dead ++ [row]) c → Av X φ H c) := by
  have hlt : r < H.length := (List.getElem?_eq_some_iff.1 hr).1
  have get : ∀ s x, (H.set r .dead ++ [row])[s]? = some x → (s = H.length ∧ x = row) ∨ (s < H.length ∧ s = r ∧ x = .dead) ∨ (s < H.length ∧ s ≠ r ∧ H[s]? = some x) := by
    intro s x hx
    by_cases hs : s < H.length
    · rw [List.getElem?_append_left (by simpa using hs)] at hx
      by_cases e : r = s
      · subst e
        rw [List.getElem?_set_self hlt] at hx
        exact .inr (.inl ⟨hs, rfl, (Option.some.inj hx).symm⟩)
      · rw [List.getElem?_set_ne e] at hx
        exact .inr (.inr ⟨hs, fun e' => e e'.symm, hx⟩)
    · have h1 := (List.getElem?_eq_some_iff.1 hx).1
      simp at h1
      obtain rfl : s = H.length := by omega
      rw [List.getElem?_append_right (by simp)] at hx
      simp at hx
      exact .inl ⟨rfl, hx.symm⟩
  refine h.step (fun c => c = (φ r).1) hk (fun c e => by subst e; exact live_of hr hrl) (by simp) (fun r hr => ext1_old hr) ?_ ?_ ?_
  · intro s x hx hlx
    rcases get s x hx with ⟨rfl, rfl⟩ | ⟨_, _, rfl⟩ | ⟨hs, _, h1⟩
    · rw [ext1_new]
      rcases hb with hb | hb
      · exact .inl hb
      · exact .inr (by rw [hb]; exact live_of hr hrl)
    · simp [Row.live] at hlx
    · rw [ext1_old hs]; exact .inr (live_of h1 hlx)
  · intro s x hx
    rcases get s x hx with ⟨rfl, rfl⟩ | ⟨_, _, rfl⟩ | ⟨hs, hne, h1⟩
    · refine .inr (fun hav => ?_)
      simp only [List.length_append, List.length_set, List.length_singleton]
      exact hok hav
    · exact .inr (fun _ => trivial)
    · exact .inl ⟨h1, fun hlx e => hne (h.apart s r x old h1 hr hlx hrl e)⟩
  · intro s t x y hx hy hlx hly e
    rcases get s x hx with ⟨rfl, rfl⟩ | ⟨_, _, rfl⟩ | ⟨hs, hne, h1⟩
    · rcases get t y hy with ⟨rfl, rfl⟩ | ⟨_, _, rfl⟩ | ⟨ht, hne', h2⟩
      · rfl
      · simp [Row.live] at hly
      · rw [ext1_new, ext1_old ht] at e
        have h3 := h.blk h2 hly
        rcases hb with hb | hb
        · simp at e; omega
        · simp only [hb] at e
          exact absurd (h.apart t r y old h2 hr hly hrl e.symm) hne'
    · simp [Row.live] at hlx
    · rcases get t y hy with ⟨rfl, rfl⟩ | ⟨_, _, rfl⟩ | ⟨ht, hne', h2⟩
      · rw [ext1_new, ext1_old hs] at e
        have h3 := h.blk h1 hlx
        rcases hb with hb | hb
        · simp at e; omega
        · simp only [hb] at e
          exact absurd (h.apart s r x old h1 hr hlx hrl e) hne
      · simp [Row.live] at hly
      · rw [ext1_old hs, ext1_old ht] at e
        exact h.apart _ _ _ _ h1 h2 hlx hly e

/-- A row that is laid down for good. -/
theorem HR.freeze {P : Program} {w : World} {φ : Nat → Nat × Nat} {X : Nat → Prop} {H : List Row} (h : HR P w φ X H) {r : Nat} {T : TypeId} {xs : List F} (hr : H[r]? = some (.data T xs)) :
    HR P w φ X (H.set r (.froz T xs)) ∧ (∀ b, b < w.heap.size → Av X φ (H.set r (.froz T xs)) b → Av X φ H b) ∧ ¬ Av X φ (H.set r (.froz T xs)) (φ r).1 ∧ (∀ b, Live φ (H.set r (.froz T xs)) b → Live φ H b) := by
  have hlt : r < H.length := (List.getElem?_eq_some_iff.1 hr).1
  have hnl : ¬ Av X φ (H.set r (.froz T xs)) (φ r).1 := by
    rintro (hx | ⟨s, x, hx, hl, e⟩)
    · exact h.off r _ hr rfl hx
    · by_cases hs : r = s
      · subst hs
        rw [List.getElem?_set_self hlt] at hx
        injection hx with hx
        subst hx
        simp [Row.live] at hl
      · rw [List.getElem?_set_ne hs] at hx
        exact hs (h.apart s r x _ hx hr hl rfl e).symm
  have h1 := h.turn (row' := .froz T xs) hr (Keep.refl _ w) (by simp [Row.live]) (fun hav => by
    obtain ⟨pre, us, post, h1, h2, h3⟩ := h.rows r _ hr
    exact ⟨hnl, pre, us, post, (0, 0), h1, h2, h3.keep (L := fun _ => False) (Keep.refl _ w) (fun _ h => h.elim) hav⟩)
  refine ⟨h1.1, h1.2.2, hnl, ?_⟩
  rintro b ⟨s, x, hx, hl, rfl⟩
  by_cases hs : r = s
  · subst hs
    rw [List.getElem?_set_self hlt] at hx
    injection hx with hx
    subst hx
    simp [Row.live] at hl
  · rw [List.getElem?_set_ne hs] at hx
    exact ⟨s, x, hx, hl, rfl⟩

end Go.Proofs.Ytjhemkeilagnnaa.Mir
