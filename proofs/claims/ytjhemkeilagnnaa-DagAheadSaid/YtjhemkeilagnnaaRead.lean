/- Readers: what a datum that came in looks like in memory, type by type. Of whatever program. -/
import Derived.Test.YtjhemkeilagnnaaOpen
namespace Go.Proofs.Ytjhemkeilagnnaa
open Go Go.RowKit Go.ChangeShapes Go.WideShapes Go.ChangeAt Go.Deep

/-- Whatever reads at type e has the cells 'f a' of some a that is good. -/
def Reader (P : Program) (W : World) (e : TypeId) {α : Type} (f : α → List Value) (good : α → Prop) : Prop :=
  ∀ (H : Type) (enc : TypeId × Value → H) (fuel : Nat) (cs : List Value) (x : DataW H × List MemPlace), DataW.trod enc P W 0 (fun _ => true) true fuel e cs = some x → (∀ n ∈ x.1.weights P e, n ≤ reachBytes) → ∃ a, cs = f a ∧ good a

theorem Reader.map {P : Program} {W : World} {e : TypeId} {α β : Type} {f : α → List Value} {good : α → Prop} (h : Reader P W e f good) (g : α → β) {f' : β → List Value} {good' : β → Prop} (hf : ∀ a, good a → f' (g a) = f a) (hg : ∀ a, good a → good' (g a)) : Reader P W e f' good' := by
  intro H enc fuel cs x hx hw
  obtain ⟨a, h1, h2⟩ := h H enc fuel cs x hx hw
  exact ⟨g a, by rw [hf a h2]; exact h1, hg a h2⟩

theorem reader_int {P : Program} {W : World} {e : TypeId} {k : IntKind} (he : P.underlying e = some (.int k)) : Reader P W e (fun n : Int => [.int k n]) (fun n => (Lit.int k n).wf = true) := by
  intro H enc fuel cs x hx _
  obtain ⟨n, h1, h2, h3⟩ := DataW.trod_int he hx
  exact ⟨n, h1, h3⟩

/-- A byte's cell. -/
def byteCell (x : UInt8) : List Value := [.int .u8 (x.toNat : Nat)]
theorem reader_byte {P : Program} {W : World} {e : TypeId} (he : P.underlying e = some (.int .u8)) : Reader P W e byteCell (fun _ => True) :=
  Reader.map (reader_int he) (fun n => UInt8.ofNat n.toNat) (fun n hn => by
    have h := bounds_u8 hn
    have : (UInt8.ofNat n.toNat).toNat = n.toNat := by simp; omega
    simp only [byteCell, this]
    rw [Int.toNat_of_nonneg h.1]) (fun _ _ => trivial)

theorem reader_bool {P : Program} {W : World} {e : TypeId} (he : P.underlying e = some .bool) : Reader P W e (fun b : Bool => [.bool b]) (fun _ => True) := by
  intro H enc fuel cs x hx _
  obtain ⟨b, h1, h2⟩ := DataW.trod_bool he hx
  exact ⟨b, h1, trivial⟩

theorem reader_string {P : Program} {W : World} {e : TypeId} (he : P.underlying e = some .string) : Reader P W e (fun s : ByteArray => [.string s]) (fun s => s.size ≤ 140737488351232) := by
  intro H enc fuel cs x hx hw
  obtain ⟨s, h1, h2, h3⟩ := DataW.trod_string he hx
  subst h2
  exact ⟨s, h1, by have := hw _ (show s.data.toList.length ∈ DataW.weights P e (.lit (.string s.data.toList)) by simp [DataW.weights]); simpa [reachBytes] using this⟩

/-- What a slice that came in looks like. -/
structure InS {α : Type} (f : α → List Value) (good : α → Prop) (B : Nat) (W : World) (a : Option Addr) (c : Nat) (xs : List α) : Prop where
  rd : Rd W a (xs.flatMap f)
  ok : ∀ x ∈ xs, good x
  lc : xs.length ≤ c
  sz : c * B ≤ 140737488351232
  nil : a = none → c = 0

theorem weightsAll_mem {H : Type} {P : Program} {e : TypeId} {ds : List (DataW H)} {d : DataW H} (hd : d ∈ ds) {n : Nat} (hn : n ∈ d.weights P e) : n ∈ DataW.weightsAll P e ds := by
  induction ds with
  | nil => simp at hd
  | cons x xs ih =>
    simp only [DataW.weightsAll, List.mem_append]
    rcases List.mem_cons.1 hd with rfl | h
    · exact .inl hn
    · exact .inr (ih h)

theorem cells_of_cells? {w : World} {a : Addr} {n : Nat} {cs : List Value} (h : w.cells? 0 a n = some cs) : cs.length = n ∧ ∀ i, i < n → w.cell? (a.add i) = cs[i]? := by
  unfold World.cells? at h
  rw [if_pos (Nat.zero_le _)] at h
  exact ⟨by simpa using mapM_some_length h, fun i hi => by have := mapM_some_get h i i (by simp [hi]); exact this⟩

theorem reader_slice {P : Program} {W : World} {t e : TypeId} {α : Type} {f : α → List Value} {good : α → Prop} (ht : P.underlying t = some (.slice e)) {n B : Nat} (hc : P.cellsOf e = n) (hB : P.bytesOf e = B) (hf : ∀ a, (f a).length = n) (he : Reader P W e f good) :
    Reader P W t (fun x : Option Addr × Nat × List α => [.slice x.1 x.2.2.length x.2.1]) (fun x => InS f good B W x.1 x.2.1 x.2.2) := by
  intro H enc fuel cs x hx hw
  rcases open_slice ht hx with ⟨h1, h2⟩ | ⟨a, len, cap, m, n', D, Pl, rfl, _, hl, hm, hmm, rfl, hel⟩
  · subst h1
    exact ⟨(none, 0, []), rfl, Rd.nil _ _, by simp, Nat.le_refl _, by simp, fun _ => rfl⟩
  · have hmc : m = cap := by simpa using hmm
    subst hmc
    have each : ∀ i, i < len → ∃ y : α, good y ∧ W.cells? 0 (a.add (i * n)) n = some (f y) := by
      intro i hi
      obtain ⟨cs', h1, h2⟩ := hel i (by omega)
      rw [hc] at h1
      obtain ⟨y, h3, h4⟩ := he H enc n' cs' _ h2 (fun k hk => hw k (by
        simp only [DataW.weights, ht, List.mem_cons, List.mem_append]
        exact .inr (.inl (weightsAll_mem (d := D i) (by simpa using ⟨i, hi, rfl⟩) hk))))
      exact ⟨y, h4, by rw [h1, h3]⟩
    have hxs : ∃ xs : List α, xs.length = len ∧ ∀ i (hi : i < xs.length), good xs[i] ∧ W.cells? 0 (a.add (i * n)) n = some (f xs[i]) := by
      clear hel hx hw hmm hl hm
      induction len with
      | zero => exact ⟨[], rfl, fun i hi => by simp at hi⟩
      | succ k ih =>
        obtain ⟨xs, h1, h2⟩ := ih (fun i hi => each i (by omega))
        obtain ⟨y, h3, h4⟩ := each k (by omega)
        refine ⟨xs ++ [y], by simp [h1], fun i hi => ?_⟩
        by_cases hik : i < xs.length
        · rw [List.getElem_append_left hik]; exact h2 i hik
        · have : i = k := by simp at hi; omega
          subst this
          rw [List.getElem_append_right (by omega)]
          simp only [List.getElem_singleton]
          exact ⟨h3, h4⟩
    obtain ⟨xs, hlen, hall⟩ := hxs
    subst hlen
    refine ⟨(some a, m, xs), rfl, ?_, ?_, hl, ?_, by simp⟩
    · refine .inr ⟨a, rfl, fun j u hu => ?_⟩
      have hj : j < (xs.flatMap f).length := (List.getElem?_eq_some_iff.1 hu).1
      rw [flat_len f n hf] at hj
      rcases Nat.eq_zero_or_pos n with h0 | hpos
      · subst h0; simp at hj
      · have hq : j / n < xs.length := Nat.div_lt_of_lt_mul (by rw [Nat.mul_comm]; exact hj)
        have hr : j % n < n := Nat.mod_lt _ hpos
        have hjj : j = j / n * n + j % n := by rw [Nat.mul_comm]; exact (Nat.div_add_mod j n).symm
        obtain ⟨_, hcell⟩ := hall (j / n) hq
        have h5 := (cells_of_cells? hcell).2 (j % n) hr
        rw [Go.Deep.add_add] at h5
        rw [hjj] at hu ⊢
        rw [h5, ← flat_get f n hf xs (j / n) hq (j % n) hr]
        exact hu
    · intro y hy
      obtain ⟨i, hi, rfl⟩ := List.getElem_of_mem hy
      exact (hall i hi).1
    · have := hw (m * B) (by
        simp only [DataW.weights, ht, List.mem_cons, hB]
        left
        simp; congr 1; omega)
      simpa [reachBytes] using this

/-- Fields, one behind the other. -/
def FReader (P : Program) (W : World) (fs : List Field) (off total : Nat) {α : Type} (f : α → List Value) (good : α → Prop) : Prop :=
  ∀ (H : Type) (enc : TypeId × Value → H) (n : Nat) (cs : List Value) (xs : List (DataW H × List MemPlace)), xs.length = fs.length →
    (∀ (i : Nat) (fd : Field), fs[i]? = some fd → DataW.trod enc P W 0 (fun _ => true) true n fd.type ((cs.drop fd.offset).take (P.cellsOf fd.type)) = xs[i]?) →
    (∀ m ∈ DataW.weightsEach P (fs.map (·.type)) (xs.map (·.1)), m ≤ reachBytes) → ∃ a, (cs.drop off).take total = f a ∧ good a

theorem freader_nil {P : Program} {W : World} (off : Nat) : FReader P W [] off 0 (fun _ : Unit => []) (fun _ => True) :=
  fun _ _ _ _ _ _ _ _ => ⟨(), by simp, trivial⟩

theorem freader_cons {P : Program} {W : World} {fd : Field} {fs : List Field} {off m total : Nat} {α β : Type} {f : α → List Value} {good : α → Prop} {f' : β → List Value} {good' : β → Prop}
    (ho : fd.offset = off) (hc : P.cellsOf fd.type = m) (h1 : Reader P W fd.type f good) (h2 : FReader P W fs (off + m) total f' good') :
    FReader P W (fd :: fs) off (m + total) (fun x : α × β => f x.1 ++ f' x.2) (fun x => good x.1 ∧ good' x.2) := by
  intro H enc n cs xs hl hx hw
  cases xs with
  | nil => simp at hl
  | cons y ys =>
    have e0 := hx 0 fd rfl
    simp only [List.getElem?_cons_zero] at e0
    rw [ho, hc] at e0
    obtain ⟨a, ha, ga⟩ := h1 H enc n _ y e0 (fun k hk => hw k (by simp only [List.map_cons, DataW.weightsEach, List.mem_append]; exact .inl hk))
    obtain ⟨b, hb, gb⟩ := h2 H enc n cs ys (by simpa using hl) (fun i fd' hi => by have := hx (i + 1) fd' (by simpa using hi); simpa using this) (fun k hk => hw k (by simp only [List.map_cons, DataW.weightsEach, List.mem_append]; exact .inr hk))
    refine ⟨(a, b), ?_, ga, gb⟩
    rw [List.take_add, ha, List.drop_drop, hb]

theorem reader_struct {P : Program} {W : World} {t : TypeId} {fs : Array Field} {total : Nat} {α : Type} {f : α → List Value} {good : α → Prop} (ht : P.underlying t = some (.struct fs)) (hc : P.cellsOf t = total) (h : FReader P W fs.toList 0 total f good) : Reader P W t f good := by
  intro H enc fuel cs x hx hw
  obtain ⟨xs, n, _, rfl, hl, hlen, hf⟩ := DataW.trod_struct ht hx
  obtain ⟨a, ha, ga⟩ := h H enc n cs xs (by simpa using hlen) (fun i fd hi => hf i fd (by simpa using hi)) (fun k hk => hw k (by simp only [DataW.weights, ht]; exact hk))
  refine ⟨a, ?_, ga⟩
  rw [List.drop_zero, List.take_of_length_le (by rw [hl, hc]; exact Nat.le_refl _)] at ha
  exact ha

/-- An argument that is a slice. -/
theorem open_slice_arg {H : Type} {enc : TypeId × Value → H} {P : Program} {W : World} {ts : List TypeId} {ds : List (DataW H)} (hsz : (DataW.weightsEach P ts ds).all (· ≤ reachBytes) = true) {t e : TypeId} {d : DataW H} {ps : List MemPlace} (j : Nat) (htj : ts[j]? = some t) (hdj : ds[j]? = some d)
    {α : Type} {f : α → List Value} {good : α → Prop} (ht : P.underlying t = some (.slice e)) {n B : Nat} (hc : P.cellsOf e = n) (hB : P.bytesOf e = B) (hf : ∀ a, (f a).length = n) (he : Reader P W e f good)
    {a : Option Addr} {len cap : Nat} (h : DataW.Trod enc P W 0 (fun _ => true) true t (.slice a len cap) d ps) : ∃ xs : List α, xs.length = len ∧ InS f good B W a cap xs := by
  obtain ⟨fuel, hf'⟩ := h
  obtain ⟨⟨a', c', xs⟩, h1, h2⟩ := reader_slice ht hc hB hf he H enc fuel _ _ hf' (fun k hk => by
    have := List.all_eq_true.1 hsz _ (DataW.weights_mem_each htj hdj k hk)
    simpa using this)
  simp [Value.cells] at h1
  obtain ⟨rfl, rfl, rfl⟩ := h1
  exact ⟨xs, rfl, h2⟩

end Go.Proofs.Ytjhemkeilagnnaa
