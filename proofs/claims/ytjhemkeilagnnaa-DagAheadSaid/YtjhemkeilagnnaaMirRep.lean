/- What the machine's values and rows mean in a world. -/
import Derived.Test.YtjhemkeilagnnaaMirRun
import Derived.MapKept
namespace Go.Proofs.Ytjhemkeilagnnaa.Mir
open Go Go.RowKit

theorem D.v_def (x : Value) : D.v x = .f (.v x) := rfl

/-- A cell that is laid down for good. 'A': the blocks that may still be written. -/
inductive RF (w : World) (A : Nat → Prop) : F → Value → Prop
  | v {x : Value} : x.oneCell' = true → RF w A (.v x) x
  | s {xs : List F} {n cap : Nat} {a : Addr} (cs : List Value) : n ≤ cap → cs.length = xs.length → (∀ (i : Nat) (u : Value), cs[i]? = some u → w.cell? (a.add i) = some u ∧ ¬ A a.block) →
      (∀ (i : Nat) (x : F) (u : Value), xs[i]? = some x → cs[i]? = some u → RF w A x u) → RF w A (.s xs n) (.slice (some a) n cap)
  | s0 : RF w A (.s [] 0) (.slice none 0 0)
  | e {a : Option Addr} : RF w A .e (.slice a 0 0)

theorem RF.one {w : World} {A : Nat → Prop} {x : F} {u : Value} (h : RF w A x u) : u.oneCell' = true := by
  cases h <;> first | assumption | rfl

/-- A list of cells. -/
def RFs (w : World) (A : Nat → Prop) (xs : List F) (us : List Value) : Prop := us.length = xs.length ∧ ∀ (i : Nat) (x : F) (u : Value), xs[i]? = some x → us[i]? = some u → RF w A x u

/-- A value at hand. 'N': how many rows there are. -/
inductive R (P : Program) (w : World) (φ : Nat → Nat × Nat) (A : Nat → Prop) (N : Nat) : D → Value → Prop
  | f {x : F} {u : Value} : RF w A x u → R P w φ A N (.f x) u
  | sl {r off n cap : Nat} {cs : Array Value} {T : TypeId} {fr : Nat × Nat} {i : TypeInfo} : r < N → n ≤ cap → w.heap[(φ r).1]? = some (.cells cs T fr) → P.info? T = some i → (φ r).2 + off + cap * i.size ≤ cs.size →
      R P w φ A N (.sl r off n) (.slice (some ⟨(φ r).1, (φ r).2 + off, none⟩) n cap)
  | sl0 {r off : Nat} {a : Addr} : r < N → R P w φ A N (.sl r off 0) (.slice (some a) 0 0)
  | pt {r off : Nat} : r < N → R P w φ A N (.pt r off) (.pointer (some ⟨(φ r).1, (φ r).2 + off, none⟩))
  | rf {xs : List F} {a : Addr} (cs : List Value) : cs.length = xs.length → (∀ (i : Nat) (u : Value), cs[i]? = some u → w.cell? (a.add i) = some u ∧ ¬ A a.block) →
      (∀ (i : Nat) (x : F) (u : Value), xs[i]? = some x → cs[i]? = some u → RF w A x u) → R P w φ A N (.rf xs) (.pointer (some a))
  | ag {ds : List D} {vs : Array Value} : vs.size = ds.length → (∀ (i : Nat) (d : D) (u : Value), ds[i]? = some d → vs[i]? = some u → R P w φ A N d u) → (∀ u ∈ vs.toList, u.oneCell' = true) → R P w φ A N (.ag ds) (.agg vs)
  | tp {ds : List D} {vs : Array Value} : vs.size = ds.length → (∀ (i : Nat) (d : D) (u : Value), ds[i]? = some d → vs[i]? = some u → R P w φ A N d u) → R P w φ A N (.tp ds) (.tuple vs)
  | fn {f : FuncId} {ds : List D} {vs : Array Value} : vs.size = ds.length → (∀ (i : Nat) (d : D) (u : Value), ds[i]? = some d → vs[i]? = some u → R P w φ A N d u) → R P w φ A N (.fn f ds) (.func (.func f) #[] vs)
  | mp {r : Nat} : r < N → R P w φ A N (.mp r) (.map (some (φ r).1))
  | junk {u : Value} : R P w φ A N .junk u

def Rs (P : Program) (w : World) (φ : Nat → Nat × Nat) (A : Nat → Prop) (N : Nat) (ds : List D) (us : List Value) : Prop := us.length = ds.length ∧ ∀ (i : Nat) (d : D) (u : Value), ds[i]? = some d → us[i]? = some u → R P w φ A N d u

/-- A value that names no row. -/
inductive Free : D → Prop
  | f {x : F} : Free (.f x)
  | ag {ds : List D} : (∀ (i : Nat) (d : D), ds[i]? = some d → Free d) → Free (.ag ds)

/-- A row. -/
def RowOk (P : Program) (w : World) (φ : Nat → Nat × Nat) (A : Nat → Prop) (N : Nat) (r : Nat) : Row → Prop
  | .dead => True
  | .box T ds => (φ r).2 = 0 ∧ ∃ cs : Array Value, w.heap[(φ r).1]? = some (.cells cs T (0, 0)) ∧ Rs P w φ A N ds cs.toList ∧ ∀ u ∈ cs.toList, u.oneCell' = true
  | .data T xs => ∃ pre us post : List Value, w.heap[(φ r).1]? = some (.cells (pre ++ us ++ post).toArray T (0, 0)) ∧ pre.length = (φ r).2 ∧ RFs w A xs us
  | .froz T xs => ¬ A (φ r).1 ∧ ∃ (pre us post : List Value) (fr : Nat × Nat), w.heap[(φ r).1]? = some (.cells (pre ++ us ++ post).toArray T fr) ∧ pre.length = (φ r).2 ∧ RFs w A xs us
  | .map es => ∃ (en : Array MapEntry) (clock : Nat), w.heap[(φ r).1]? = some (.map en clock) ∧ MapKept.Stamped en clock ∧ en.size = es.length ∧ ∀ (i : Nat) (k : Value) (d : D) (m : MapEntry), es[i]? = some (k, d) → en[i]? = some m → m.key = k ∧ R P w φ A N d m.val ∧ Free d

def Row.live : Row → Bool
  | .box _ _ => true
  | .data _ _ => true
  | .map _ => true
  | _ => false

/-- The blocks that the heap's rows may write. -/
def Live (φ : Nat → Nat × Nat) (H : List Row) (b : Nat) : Prop := ∃ r row, H[r]? = some row ∧ row.live = true ∧ (φ r).1 = b
/-- .. and others' blocks. -/
def Av (X : Nat → Prop) (φ : Nat → Nat × Nat) (H : List Row) (b : Nat) : Prop := X b ∨ Live φ H b

/-- A heap. 'X': blocks of others, not to be touched or looked at. -/
structure HR (P : Program) (w : World) (φ : Nat → Nat × Nat) (X : Nat → Prop) (H : List Row) : Prop where
  rows : ∀ r row, H[r]? = some row → RowOk P w φ (Av X φ H) H.length r row
  apart : ∀ r s row row', H[r]? = some row → H[s]? = some row' → row.live = true → row'.live = true → (φ r).1 = (φ s).1 → r = s
  off : ∀ r row, H[r]? = some row → row.live = true → ¬ X (φ r).1
  old : ∀ b, X b → b < w.heap.size

/-- What may have turned: the blocks of L, and new ones. -/
structure Keep (L : Nat → Prop) (w w' : World) : Prop where
  size : w.heap.size ≤ w'.heap.size
  block : ∀ b, b < w.heap.size → ¬ L b → w'.heap[b]? = w.heap[b]?
  shape : ∀ (b : Nat) (cs : Array Value) (T : TypeId) (fr : Nat × Nat), w.heap[b]? = some (Obj.cells cs T fr) → ∃ (cs' : Array Value) (fr' : Nat × Nat), w'.heap[b]? = some (Obj.cells cs' T fr') ∧ cs'.size = cs.size
  os : w'.os = w.os
  tape : w'.tape = w.tape
  output : w'.output = w.output

theorem Keep.refl (L : Nat → Prop) (w : World) : Keep L w w := ⟨Nat.le_refl _, fun _ _ _ => rfl, fun _ cs _ fr h => ⟨cs, fr, h, rfl⟩, rfl, rfl, rfl⟩
theorem Keep.trans {L L' : Nat → Prop} {a b c : World} (h : Keep L a b) (k : Keep L' b c) (hL : ∀ i, i < a.heap.size → L' i → L i) : Keep L a c :=
  ⟨Nat.le_trans h.size k.size, fun i hi hn => (k.block i (Nat.lt_of_lt_of_le hi h.size) (fun h' => hn (hL i hi h'))).trans (h.block i hi hn),
    fun i cs T fr hc => by
      obtain ⟨c1, f1, h1, e1⟩ := h.shape i cs T fr hc
      obtain ⟨c2, f2, h2, e2⟩ := k.shape i c1 T f1 h1
      exact ⟨c2, f2, h2, e2.trans e1⟩, k.os.trans h.os, k.tape.trans h.tape, k.output.trans h.output⟩
theorem Keep.mono {L L' : Nat → Prop} {a b : World} (h : Keep L a b) (hL : ∀ i, i < a.heap.size → L i → L' i) : Keep L' a b :=
  ⟨h.size, fun i hi hn => h.block i hi (fun h' => hn (hL i hi h')), h.shape, h.os, h.tape, h.output⟩
theorem Keep.cell {L : Nat → Prop} {w w' : World} (h : Keep L w w') {a : Addr} {u : Value} (hc : w.cell? a = some u) (hl : ¬ L a.block) : w'.cell? a = some u := by
  have hlt : a.block < w.heap.size := World.block_lt_of_cell? w a hc
  exact (World.cell?_of_block (h.block a.block hlt hl)).trans hc
theorem Keep.alloc (L : Nat → Prop) (w : World) (o : Obj) : Keep L w (w.alloc o) :=
  ⟨by simp, fun b hb _ => Below.heap_alloc _ _ _ hb, fun b cs T fr h => ⟨cs, fr, alloc_heap_old h o, rfl⟩, rfl, rfl, rfl⟩
theorem Keep.drew {L : Nat → Prop} {w w' : World} (h : Keep L w w') : Keep L w w'.drew := ⟨h.size, h.block, h.shape, h.os, h.tape, h.output⟩

theorem add_block (a : Addr) (i : Nat) : (a.add i).block = a.block := by unfold Addr.add; split <;> rfl

theorem cells_keep {w w' : World} {A A' L : Nat → Prop} (hk : Keep L w w') (hl : ∀ b, L b → A b) (ha : ∀ b, b < w.heap.size → A' b → A b) {a : Addr} {cs : List Value} (hc : ∀ (i : Nat) (u : Value), cs[i]? = some u → w.cell? (a.add i) = some u ∧ ¬ A a.block) :
    ∀ (i : Nat) (u : Value), cs[i]? = some u → w'.cell? (a.add i) = some u ∧ ¬ A' a.block := by
  intro i u hu
  obtain ⟨h1, h2⟩ := hc i u hu
  have hb := add_block a i
  refine ⟨hk.cell h1 (fun h => h2 (hl _ (by rwa [hb] at h))), fun h => h2 (ha _ ?_ h)⟩
  have := World.block_lt_of_cell? w _ h1
  rwa [hb] at this

theorem RF.keep {w w' : World} {A A' L : Nat → Prop} (hk : Keep L w w') (hl : ∀ b, L b → A b) (ha : ∀ b, b < w.heap.size → A' b → A b) {x : F} {u : Value} (h : RF w A x u) : RF w' A' x u := by
  induction h with
  | v h => exact .v h
  | s cs hn hlen hc hr ih =>
    exact .s cs hn hlen (cells_keep hk hl ha hc) ih
  | s0 => exact .s0
  | e => exact .e

theorem RFs.keep {w w' : World} {A A' L : Nat → Prop} (hk : Keep L w w') (hl : ∀ b, L b → A b) (ha : ∀ b, b < w.heap.size → A' b → A b) {xs : List F} {us : List Value} (h : RFs w A xs us) : RFs w' A' xs us :=
  ⟨h.1, fun i x u hx hu => (h.2 i x u hx hu).keep hk hl ha⟩

theorem R.keep {P : Program} {w w' : World} {φ φ' : Nat → Nat × Nat} {A A' L : Nat → Prop} {N N' : Nat} (hk : Keep L w w') (hl : ∀ b, L b → A b) (ha : ∀ b, b < w.heap.size → A' b → A b) (hφ : ∀ r, r < N → φ' r = φ r) (hN : N ≤ N') {d : D} {u : Value} (h : R P w φ A N d u) : R P w' φ' A' N' d u := by
  induction h with
  | f h => exact .f (h.keep hk hl ha)
  | sl hr hn hb hi hc =>
    rw [← hφ _ hr] at hb hc ⊢
    obtain ⟨cs', fr', h1, h2⟩ := hk.shape _ _ _ _ hb
    exact .sl (Nat.lt_of_lt_of_le hr hN) hn h1 hi (by rw [h2]; exact hc)
  | sl0 hr => exact .sl0 (Nat.lt_of_lt_of_le hr hN)
  | pt hr => rw [← hφ _ hr]; exact .pt (Nat.lt_of_lt_of_le hr hN)
  | rf cs hlen hc hr =>
    exact .rf cs hlen (cells_keep hk hl ha hc) (fun i x u hx hu => (hr i x u hx hu).keep hk hl ha)
  | ag hs _ h1 ih => exact .ag hs ih h1
  | tp hs _ ih => exact .tp hs ih
  | fn hs _ ih => exact .fn hs ih
  | mp hr => rw [← hφ _ hr]; exact .mp (Nat.lt_of_lt_of_le hr hN)
  | junk => exact .junk

theorem Rs.keep {P : Program} {w w' : World} {φ φ' : Nat → Nat × Nat} {A A' L : Nat → Prop} {N N' : Nat} (hk : Keep L w w') (hl : ∀ b, L b → A b) (ha : ∀ b, b < w.heap.size → A' b → A b) (hφ : ∀ r, r < N → φ' r = φ r) (hN : N ≤ N') {ds : List D} {us : List Value} (h : Rs P w φ A N ds us) : Rs P w' φ' A' N' ds us :=
  ⟨h.1, fun i d u hd hu => (h.2 i d u hd hu).keep hk hl ha hφ hN⟩

/-- A row whose block did not turn. -/
theorem RowOk.keep {P : Program} {w w' : World} {φ φ' : Nat → Nat × Nat} {A A' L : Nat → Prop} {N N' : Nat} (hk : Keep L w w') (hl : ∀ b, L b → A b) (ha : ∀ b, b < w.heap.size → A' b → A b) (hφ : ∀ r, r < N → φ' r = φ r) (hN : N ≤ N')
    {r : Nat} (hr : r < N) {row : Row} (h : RowOk P w φ A N r row) (hb : row = .dead ∨ w.heap[(φ r).1]? = w'.heap[(φ r).1]?) : RowOk P w' φ' A' N' r row := by
  rcases hb with rfl | hb
  · trivial
  cases row with
  | dead => trivial
  | box T ds =>
    obtain ⟨h0, cs, h1, h2, h3⟩ := h
    simp only [RowOk, hφ r hr]
    exact ⟨h0, cs, by rw [← hb]; exact h1, h2.keep hk hl ha hφ hN, h3⟩
  | data T xs =>
    obtain ⟨pre, us, post, h1, h2, h3⟩ := h
    simp only [RowOk, hφ r hr]
    exact ⟨pre, us, post, by rw [← hb]; exact h1, h2, h3.keep hk hl ha⟩
  | froz T xs =>
    obtain ⟨h0, pre, us, post, fr, h1, h2, h3⟩ := h
    simp only [RowOk, hφ r hr]
    exact ⟨fun h => h0 (ha _ (block_lt h1) h), pre, us, post, fr, by rw [← hb]; exact h1, h2, h3.keep hk hl ha⟩
  | map es =>
    obtain ⟨en, clock, h1, h0, h2, h3⟩ := h
    simp only [RowOk, hφ r hr]
    exact ⟨en, clock, by rw [← hb]; exact h1, h0, h2, fun i k d m hd hm => ⟨(h3 i k d m hd hm).1, (h3 i k d m hd hm).2.1.keep hk hl ha hφ hN, (h3 i k d m hd hm).2.2⟩⟩

theorem live_of {φ : Nat → Nat × Nat} {H : List Row} {r : Nat} {row : Row} (h : H[r]? = some row) (hl : row.live = true) : Live φ H (φ r).1 := ⟨r, row, h, hl, rfl⟩

/-- What a step leaves. -/
structure Post (P : Program) (w : World) (φ : Nat → Nat × Nat) (X : Nat → Prop) (H : List Row) (e : Eff) (v : Value) (w' : World) (φ' : Nat → Nat × Nat) : Prop where
  same : ∀ r, r < H.length → φ' r = φ r
  heap : HR P w' φ' X (e.heap H)
  res : R P w' φ' (Av X φ' (e.heap H)) (e.heap H).length e.res v
  keep : Keep (Live φ H) w w'
  fresh : ∀ b, Live φ' (e.heap H) b → Live φ H b ∨ w.heap.size ≤ b

def Leaves (P : Program) (w : World) (φ : Nat → Nat × Nat) (X : Nat → Prop) (H : List Row) (e : Eff) (v : Value) (w' : World) : Prop := ∃ φ', Post P w φ X H e v w' φ'

/-- A step that only yields. -/
theorem Leaves.quiet {P : Program} {w : World} {φ : Nat → Nat × Nat} {X : Nat → Prop} {H : List Row} (h : HR P w φ X H) {d : D} {v : Value} (hd : R P w φ (Av X φ H) H.length d v) : Leaves P w φ X H ⟨d, [], []⟩ v w := by
  refine ⟨φ, fun _ _ => rfl, ?_, ?_, Keep.refl _ _, fun b hb => .inl ?_⟩ <;> simp only [Eff.heap, applyUpd, List.append_nil] at * <;> assumption

/-- The rows that were there, where nothing of theirs turned, and one more. -/
theorem HR.push {P : Program} {w w' : World} {φ : Nat → Nat × Nat} {X : Nat → Prop} {H : List Row} (h : HR P w φ X H) (hk : Keep (fun _ => False) w w') (b base : Nat) (row : Row) (hb : w.heap.size ≤ b) 
    (hrow : RowOk P w' (fun r => if r = H.length then (b, base) else φ r) (Av X (fun r => if r = H.length then (b, base) else φ r) (H ++ [row])) (H ++ [row]).length H.length row) :
    HR P w' (fun r => if r = H.length then (b, base) else φ r) X (H ++ [row]) ∧ (∀ c, Live (fun r => if r = H.length then (b, base) else φ r) (H ++ [row]) c → Live φ H c ∨ w.heap.size ≤ c) := by
  have hlive : ∀ c, Live (fun r => if r = H.length then (b, base) else φ r) (H ++ [row]) c → Live φ H c ∨ w.heap.size ≤ c := by
    rintro c ⟨r, x, hx, hl, rfl⟩
    by_cases hr : r = H.length
    · simp only [hr, if_true]; exact .inr hb
    · have hlt : r < H.length := by
        have := (List.getElem?_eq_some_iff.1 hx).1
        simp at this; omega
      rw [List.getElem?_append_left hlt] at hx
      simp only [if_neg hr]
      exact .inl ⟨r, x, hx, hl, rfl⟩
  have hav : ∀ c, c < w.heap.size → Av X (fun r => if r = H.length then (b, base) else φ r) (H ++ [row]) c → Av X φ H c := by
    rintro c hc (hx | hx)
    · exact .inl hx
    · rcases hlive c hx with h' | h'
      · exact .inr h'
      · omega
  have blk : ∀ r x, H[r]? = some x → x.live = true → (φ r).1 < w.heap.size := by
    intro r x hx hl
    have := h.rows r x hx
    cases x <;> simp [Row.live] at hl
    · obtain ⟨_, cs, h1, _⟩ := this; exact block_lt h1
    · obtain ⟨_, _, _, h1, _⟩ := this; exact block_lt h1
    · obtain ⟨_, _, h1, _⟩ := this; exact block_lt h1
  refine ⟨⟨?_, ?_, ?_, ?_⟩, hlive⟩
  · intro r x hx
    by_cases hr : r = H.length
    · subst hr
      simp at hx
      subst hx
      exact hrow
    · have hlt : r < H.length := by
        have := (List.getElem?_eq_some_iff.1 hx).1
        simp at this; omega
      rw [List.getElem?_append_left hlt] at hx
      have h1 := h.rows r x hx
      refine h1.keep hk (fun _ h => h.elim) hav (fun s hs => by rw [if_neg (by omega)]) (by simp) hlt ?_
      cases x with
      | dead => exact .inl rfl
      | box T ds => obtain ⟨_, cs, h2, _⟩ := h1; exact .inr (hk.block _ (block_lt h2) (fun h => h)).symm
      | data T xs => obtain ⟨_, _, _, h2, _⟩ := h1; exact .inr (hk.block _ (block_lt h2) (fun h => h)).symm
      | froz T xs => obtain ⟨_, _, _, _, _, h2, _⟩ := h1; exact .inr (hk.block _ (block_lt h2) (fun h => h)).symm
      | map es => obtain ⟨_, _, h2, _⟩ := h1; exact .inr (hk.block _ (block_lt h2) (fun h => h)).symm
  · intro r s x y hx hy hlx hly heq
    have lt : ∀ {r x}, (H ++ [row])[r]? = some x → r ≠ H.length → r < H.length := by
      intro r x hx hr
      have := (List.getElem?_eq_some_iff.1 hx).1
      simp at this; omega
    by_cases hr : r = H.length <;> by_cases hs : s = H.length
    · omega
    · have hlt := lt hy hs
      rw [List.getElem?_append_left hlt] at hy
      have := blk s y hy hly
      simp only [hr, if_true, if_neg hs] at heq
      omega
    · have hlt := lt hx hr
      rw [List.getElem?_append_left hlt] at hx
      have := blk r x hx hlx
      simp only [hs, if_true, if_neg hr] at heq
      omega
    · have h1 := lt hx hr; have h2 := lt hy hs
      rw [List.getElem?_append_left h1] at hx
      rw [List.getElem?_append_left h2] at hy
      simp only [if_neg hr, if_neg hs] at heq
      exact h.apart r s x y hx hy hlx hly heq
  · intro r x hx hl
    by_cases hr : r = H.length
    · simp only [hr, if_true]
      exact fun hX => by have := h.old b hX; omega
    · have hlt : r < H.length := by
        have := (List.getElem?_eq_some_iff.1 hx).1
        simp at this; omega
      rw [List.getElem?_append_left hlt] at hx
      simp only [if_neg hr]
      exact h.off r x hx hl
  · intro c hc
    exact Nat.lt_of_lt_of_le (h.old c hc) hk.size

end Go.Proofs.Ytjhemkeilagnnaa.Mir
