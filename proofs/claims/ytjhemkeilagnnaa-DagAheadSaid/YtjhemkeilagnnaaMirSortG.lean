/- slices.Sorted(maps.Keys(m)) told by its contract, for keys of any kind: what it leaves on the machine's rows. -/
import Derived.Test.YtjhemkeilagnnaaMirFast
import Derived.Shelf.SlIterI.Nil
import Derived.Shelf.SlIter.Nil
import Derived.Shelf.SortM.Plain
import Derived.Shelf.SortM.SortNone
namespace Go.Proofs.Ytjhemkeilagnnaa.Mir
open Go Go.RowKit Go.Shelf Go.Maps Go.Sort

section
variable {P : Program} {w w' : World} {φ : Nat → Nat × Nat} {X : Nat → Prop} {H : List Row}

theorem keep_below (h : Below w.heap.size w w') : Keep (fun _ => False) w w' :=
  ⟨h.size, fun b hb _ => h.block b hb, fun b cs _ fr hc => ⟨cs, fr, (h.block b (block_lt hc)).trans hc, rfl⟩, h.os, h.tape, h.output⟩

theorem leaves_new (h : HR P w φ X H) (hk : Keep (fun _ => False) w w') (b : Nat) (hb : w.heap.size ≤ b) (row : Row) (d : D) (v : Value)
    (hrow : ∀ (A : Nat → Prop), (∀ c, c < w.heap.size → A c → Av X φ H c) → RowOk P w' (ext1 φ H.length (b, 0)) A (H.length + 1) H.length row ∧ R P w' (ext1 φ H.length (b, 0)) A (H.length + 1) d v) :
    Leaves P w φ X H ⟨d, [], [row]⟩ v w' := by
  obtain ⟨r1, r2, r3⟩ := h.more hk b 0 row hb (fun hav => (hrow _ hav).1)
  refine ⟨ext1 φ H.length (b, 0), fun r hr => ext1_old hr, by simpa [Eff.heap, applyUpd] using r1, ?_, hk.mono (fun _ _ h => h.elim), by simpa [Eff.heap, applyUpd] using r2⟩
  have := (hrow _ r3).2
  simpa [Eff.heap, applyUpd] using this

theorem leaves_same (h : HR P w φ X H) (hk : Keep (fun _ => False) w w') {d : D} {v : Value} (hd : ∀ A, R P w' φ A H.length d v) : Leaves P w φ X H ⟨d, [], []⟩ v w' := by
  obtain ⟨r1, r2, r3⟩ := h.step (H' := H) (φ' := φ) (fun _ => False) hk (fun _ h => h.elim) (Nat.le_refl _) (fun _ _ => rfl) (fun r x hx hl => .inr (live_of hx hl)) (fun r x hx => .inl ⟨hx, fun _ h => h⟩) h.apart
  exact ⟨φ, fun _ _ => rfl, by simpa [Eff.heap, applyUpd] using r1, by simpa [Eff.heap, applyUpd] using hd _, hk.mono (fun _ _ h => h.elim), by simpa [Eff.heap, applyUpd] using r2⟩

/-- What is handed back: nil, or a new row. -/
def resOf (T : TypeId) (n : Nat) (xs : List Value) : Eff :=
  if xs.isEmpty then ⟨.f (.v (.slice none 0 0)), [], []⟩ else ⟨.sl n 0 xs.length, [], [.data T (xs.map F.v)]⟩

theorem sorted_leaves (hH : HR P w φ X H) (hb : Below w.heap.size w w') {T : TypeId} {i : TypeInfo} (hT : P.info? T = some i) (hi : i.size = 1) {xs : List Value} (h1 : ∀ x ∈ xs, x.oneCell' = true) {v : Value}
    (hrow : w'.ownsRow w.heap.size T 1 v xs.length xs) (hnil : v = .slice none 0 0 ↔ xs = []) : Leaves P w φ X H (resOf T H.length xs) v w' := by
  unfold resOf
  by_cases hx : xs = []
  · subst hx
    obtain rfl := hnil.2 rfl
    exact leaves_same hH (keep_below hb) fun A => .f (.v rfl)
  · rw [if_neg (by simpa using hx)]
    obtain ⟨_, hr⟩ := hrow
    rcases hr with ⟨hv, _⟩ | ⟨g, cap, cur, rfl, hbase, hg, hn, _, hsz, htake⟩
    · exact absurd (hnil.1 hv) hx
    · refine leaves_new hH (keep_below hb) g hbase _ _ _ fun A hA => ⟨?_, ?_⟩
      · refine ⟨[], xs, cur.toList.drop xs.length, ?_, by rw [ext1_new]; rfl, by simp, fun j x u hj hu => ?_⟩
        · rw [ext1_new]
          refine hg.trans ?_
          rw [List.nil_append]
          have : cur = (xs ++ cur.toList.drop xs.length).toArray := by
            rw [← htake, Nat.mul_one]
            apply Array.toList_inj.1
            have h2 : (cur.toList.take xs.length).length = xs.length := by simp; omega
            simp only [h2, List.take_append_drop]
          rw [← this]
        · rw [List.getElem?_map, hu] at hj
          cases hj
          exact .v (h1 _ (List.mem_of_getElem? hu))
      · have := R.sl (P := P) (w := w') (φ := ext1 φ H.length (g, 0)) (A := A) (N := H.length + 1) (r := H.length) (off := 0) (n := xs.length) (cap := cap) (cs := cur) (T := T) (fr := (0, 0)) (i := i) (by omega) hn (by rw [ext1_new]; exact hg) hT (by rw [ext1_new, hi]; simp; omega)
        rw [ext1_new] at this
        exact this
end

/-- A list in order, laid by insertion: for the kernel. -/
def insK {α : Type} (le : α → α → Bool) (x : α) : List α → List α
  | [] => [x]
  | y :: ys => match le x y with
    | true => x :: y :: ys
    | false => y :: insK le x ys
def isort {α : Type} (le : α → α → Bool) : List α → List α
  | [] => []
  | x :: xs => insK le x (isort le xs)

theorem insK_perm {α : Type} (le : α → α → Bool) (x : α) : ∀ ys, (insK le x ys).Perm (x :: ys)
  | [] => .refl _
  | y :: ys => by
    unfold insK
    split
    · exact .refl _
    · exact ((insK_perm le x ys).cons y).trans (.swap x y ys)
theorem isort_perm {α : Type} (le : α → α → Bool) : ∀ xs, (isort le xs).Perm xs
  | [] => .refl _
  | x :: xs => (insK_perm le x _).trans ((isort_perm le xs).cons x)
theorem insK_pairwise {α : Type} {le : α → α → Bool} (tr : ∀ a b c, le a b = true → le b c = true → le a c = true) (tot : ∀ a b, (le a b || le b a) = true) (x : α) : ∀ ys, ys.Pairwise (fun a b => le a b = true) → (insK le x ys).Pairwise (fun a b => le a b = true)
  | [], _ => by simp [insK]
  | y :: ys, h => by
    rw [List.pairwise_cons] at h
    unfold insK
    split
    · rename_i hxy
      refine List.pairwise_cons.2 ⟨fun z hz => ?_, List.pairwise_cons.2 h⟩
      rcases List.mem_cons.1 hz with rfl | hz
      · exact hxy
      · exact tr _ _ _ hxy (h.1 z hz)
    · rename_i hxy
      have hyx : le y x = true := by
        have := tot x y
        rw [hxy] at this; simpa using this
      refine List.pairwise_cons.2 ⟨fun z hz => ?_, insK_pairwise tr tot x ys h.2⟩
      rcases List.mem_cons.1 ((insK_perm le x ys).subset hz) with rfl | hz
      · exact hyx
      · exact h.1 z hz
theorem isort_pairwise {α : Type} {le : α → α → Bool} (tr : ∀ a b c, le a b = true → le b c = true → le a c = true) (tot : ∀ a b, (le a b || le b a) = true) : ∀ xs, (isort le xs).Pairwise (fun a b => le a b = true)
  | [] => .nil
  | x :: xs => insK_pairwise tr tot x _ (isort_pairwise tr tot xs)
theorem isort_eq {α : Type} {le : α → α → Bool} (tr : ∀ a b c, le a b = true → le b c = true → le a c = true) (tot : ∀ a b, (le a b || le b a) = true) (anti : ∀ a b, le a b = true → le b a = true → a = b) {xs ys : List α} (h : ys.Perm xs) : ys.mergeSort le = isort le xs :=
  List.Perm.eq_of_pairwise (le := fun a b => le a b = true) (fun a b _ _ h1 h2 => anti a b h1 h2) (List.pairwise_mergeSort tr tot ys) (isort_pairwise tr tot xs) (((List.mergeSort_perm ys le).trans h).trans (isort_perm le xs).symm)

/-- The keys, where all are of the kind. -/
def keysV {α : Type} (ofK : Value → Option α) : List Value → Option (List α)
  | [] => some []
  | v :: vs => match ofK v with
    | some x => match keysV ofK vs with
      | some xs => some (x :: xs)
      | none => none
    | none => none

theorem keys_read {α : Type} {P : Program} {k : TypeId} (ofK : Value → Option α) (lit : α → Lit) (back : Lit → α) (hb : ∀ x, back (lit x) = x) (hk : ∀ v x, ofK v = some x → keyOf P k v = some (lit x)) :
    ∀ (l : List MapEntry) (ks : List α), keysV ofK (l.map (·.key)) = some ks → (∀ x ∈ l, ∃ y, WideElems.rd (H := Unit) P k (fun _ => some (.nil, [])) x = some y) ∧ (l.map (WideElems.rg (H := Unit) P k (fun _ => some (.nil, [])))).map (fun p => back p.1) = ks
  | [], ks, h => by cases h; exact ⟨fun x hx => (by cases hx), rfl⟩
  | e :: l, ks, h => by
    simp only [List.map_cons, keysV] at h
    split at h
    · rename_i x hx
      split at h
      · rename_i xs hxs
        cases h
        obtain ⟨h1, h2⟩ := keys_read ofK lit back hb hk l xs hxs
        have hrd : WideElems.rd (H := Unit) P k (fun _ => some (.nil, [])) e = some (lit x, .nil) := by simp [WideElems.rd, hk _ _ hx]
        refine ⟨fun y hy => ?_, ?_⟩
        · rcases List.mem_cons.1 hy with rfl | hy
          · exact ⟨_, hrd⟩
          · exact h1 y hy
        · simp only [List.map_cons, h2, WideElems.rg, hrd, Option.getD_some, hb]
      · cases h
    · cases h

theorem owns_keys {α : Type} {P : Program} {k : TypeId} (ofK : Value → Option α) (lit : α → Lit) (back : Lit → α) (hb : ∀ x, back (lit x) = x) (hk : ∀ v x, ofK v = some x → keyOf P k v = some (lit x))
    {w : World} {q : Nat} {en : Array MapEntry} {clock : Nat} (hq : w.heap[q]? = some (.map en clock)) (hst : MapKept.Stamped en clock) {ks : List α} (hks : keysV ofK (en.toList.map (·.key)) = some ks) (hsz : en.size ≤ maxLen) :
    ∃ es : List (Lit × DataW Unit), w.ownsMap P k (fun _ => some (.nil, [])) q en.size (.map es) ∧ (es.map fun p => back p.1).Perm ks ∧ es.length = en.size := by
  obtain ⟨h1, h2⟩ := keys_read (P := P) (k := k) ofK lit back hb hk _ _ hks
  refine ⟨_, ⟨en, clock, hq, ⟨hsz, hst, h1⟩, Nat.le_refl _, rfl⟩, ?_, by rw [length_sorted]; simp⟩
  have := (WideShapes.sorted_perm (en.toList.map (WideElems.rg (H := Unit) P k (fun _ => some (.nil, []))))).map (fun p => back p.1)
  rw [h2] at this
  exact this

theorem one_arg1 {P : Program} {w : World} {φ : Nat → Nat × Nat} {A : Nat → Prop} {N : Nat} {d : D} {vs : Array Value} (h : Rs P w φ A N [d] vs.toList) : ∃ u, vs = #[u] ∧ R P w φ A N d u := by
  obtain ⟨l⟩ := vs
  obtain ⟨h1, h2⟩ := h
  match l, h1 with
  | [u], _ => exact ⟨u, rfl, h2 0 d u rfl rfl⟩

def sortedG (k : FuncId) (T : TypeId) (srt : List Value → Option (List Value)) : List D → List Row → Option Eff
  | [.fn g [.pt r 0]], H => match Nat.beq g k with
    | true => match H[r]? with
      | some (.box _ [.f (.v (.map none))]) => some ⟨.f (.v (.slice none 0 0)), [], []⟩
      | some (.box _ [.mp q]) => match H[q]? with
        | some (.map es) => match srt (es.map (·.1)) with
          | some xs => some (resOf T H.length xs)
          | none => none
        | _ => none
      | _ => none
    | false => none
  | _, _ => none

theorem sortedG_ok {P : Program} {f k : FuncId} {T : TypeId} (hT0 : (P.info? T).map (·.size) = some 1) {srt : List Value → Option (List Value)} (hone : ∀ l xs, srt l = some xs → ∀ x ∈ xs, x.oneCell' = true)
    (hnil : ∀ (w : World) (b : Nat), b < w.heap.size → w.cell? ⟨b, 0, none⟩ = some (.map none) → Calls P f #[.func (.func k) #[] #[.pointer (some ⟨b, 0, none⟩)]] w fun e w' => e = .returned (.slice none 0 0) ∧ Below w.heap.size w w')
    (hsome : ∀ (w : World) (b q : Nat) (en : Array MapEntry) (clock : Nat) (xs : List Value), b < w.heap.size → w.cell? ⟨b, 0, none⟩ = some (.map (some q)) → w.heap[q]? = some (.map en clock) → MapKept.Stamped en clock → srt (en.toList.map (·.key)) = some xs →
      Calls P f #[.func (.func k) #[] #[.pointer (some ⟨b, 0, none⟩)]] w fun e w' => ∃ v, e = .returned v ∧ w'.ownsRow w.heap.size T 1 v xs.length xs ∧ (v = .slice none 0 0 ↔ xs = []) ∧ Below w.heap.size w w') : Sound P f (sortedG k T srt) := by
  obtain ⟨i, hT, hi⟩ := Option.map_eq_some_iff.1 hT0
  intro args H e hg w φ X vs hH hargs
  unfold sortedG at hg
  split at hg
  · rename_i g r
    split at hg
    · rename_i hgk
      obtain rfl : g = k := Nat.eq_of_beq_eq_true hgk
      obtain ⟨u, rfl, hu⟩ := one_arg1 hargs
      cases hu with | fn hs hr =>
      rename_i us
      obtain ⟨u, rfl⟩ : ∃ u, us = #[u] := by
        obtain ⟨l⟩ := us
        match l, hs with
        | [u], _ => exact ⟨u, rfl⟩
      have hu := hr 0 _ u rfl rfl
      cases hu with | pt hrl =>
      split at hg
      · rename_i T0 hrow
        cases hg
        obtain ⟨h0, cs, h1, h2, h3⟩ := hH.rows r _ hrow
        obtain ⟨u, rfl⟩ : ∃ u, cs = #[u] := by
          obtain ⟨l⟩ := cs
          match l, h2.1 with
          | [u], _ => exact ⟨u, rfl⟩
        have hu := h2.2 0 _ u rfl rfl
        cases hu with | f hu => cases hu with | v _ =>
        rw [h0]
        refine (hnil w (φ r).1 (block_lt h1) (by simp [World.cell?, h1])).mono ?_
        rintro e w' ⟨rfl, hb⟩
        exact ⟨_, rfl, leaves_same hH (keep_below hb) fun A => .f (.v rfl)⟩
      · rename_i T0 q hrow
        split at hg
        · rename_i es hmap
          split at hg
          · rename_i xs hxs
            cases hg
            obtain ⟨h0, cs, h1, h2, h3⟩ := hH.rows r _ hrow
            obtain ⟨u, rfl⟩ : ∃ u, cs = #[u] := by
              obtain ⟨l⟩ := cs
              match l, h2.1 with
              | [u], _ => exact ⟨u, rfl⟩
            have hu := h2.2 0 _ u rfl rfl
            cases hu with | mp hql =>
            obtain ⟨en, clock, m1, m0, m2, m3⟩ := hH.rows q _ hmap
            have hkeys : en.toList.map (·.key) = es.map (·.1) := by
              apply List.ext_getElem?
              intro j
              rw [List.getElem?_map, List.getElem?_map]
              by_cases hj : j < es.length
              · have e1 : es[j]? = some es[j] := List.getElem?_eq_getElem hj
                have hj' : j < en.size := by omega
                have e2 : en[j]? = some en[j] := Array.getElem?_eq_getElem hj'
                have e3 : en.toList[j]? = some en[j] := by rw [Array.getElem?_toList]; exact e2
                rw [e1, e3]
                exact congrArg some ((m3 j es[j].1 es[j].2 en[j] e1 e2).1)
              · rw [List.getElem?_eq_none (by rw [Array.length_toList]; omega), List.getElem?_eq_none (by omega)]; rfl
            rw [h0]
            refine (hsome w (φ r).1 (φ q).1 en clock xs (block_lt h1) (by simp [World.cell?, h1]) m1 m0 (by rw [hkeys]; exact hxs)).mono ?_
            rintro e w' ⟨v, rfl, hrow, hn, hb⟩
            exact ⟨v, rfl, sorted_leaves hH hb hT hi (hone _ _ hxs) hrow hn⟩
          · cases hg
        · cases hg
      · cases hg
    · cases hg
  · cases hg
end Go.Proofs.Ytjhemkeilagnnaa.Mir
