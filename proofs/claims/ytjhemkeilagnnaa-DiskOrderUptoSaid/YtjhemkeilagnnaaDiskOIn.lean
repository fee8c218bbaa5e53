/- DiskOrder: its arguments, opened; its walk as a call. -/
import Derived.Test.YtjhemkeilagnnaaIn
import Derived.Test.YtjhemkeilagnnaaUpto
import Derived.Test.YtjhemkeilagnnaaDiskOL
namespace Go.Proofs.Ytjhemkeilagnnaa
open Go Go.RowKit

theorem bulk_elems {H : Type} {enc : TypeId × Value → H} {P : Program} {W : World} {t e e2 : TypeId} {d : DataW H} {ps : List MemPlace} (ht : P.underlying t = some (.slice e)) (he : P.underlying e = some (.slice e2)) (hc : P.cellsOf e = 1) {a : Option Addr} {len cap : Nat}
    (h : DataW.Trod enc P W 0 (fun _ => true) true t (.slice a len cap) d ps) {i : Nat} (hi : i < len) {a' : Addr} {b : Option Addr} {l c : Nat} (ha : a = some a') (hcell : W.cell? (a'.add i) = some (.slice b l c)) : l ≤ Rows.uptoBulk d := by
  obtain ⟨fuel, hf⟩ := h
  rcases Go.Deep.open_slice ht hf with ⟨h1, h2⟩ | ⟨a1, len', cap', m, n, D, Pl, h1, _, hl, _, hmm, h2, hel⟩
  · simp [Value.cells] at h1
    omega
  · simp [Value.cells] at h1
    obtain ⟨h3, rfl, rfl⟩ := h1
    rw [ha] at h3
    cases h3
    injection h2 with h4 _
    subst h4
    have hm : m = cap := by simpa using hmm
    obtain ⟨cs', k1, k2⟩ := hel i (by omega)
    rw [hc, Nat.mul_one] at k1
    obtain ⟨k3, k4⟩ := cells_of_cells? k1
    have k5 := k4 0 (by omega)
    have k6 : (a'.add i).add 0 = a'.add i := by simp [Addr.add]
    rw [k6, hcell] at k5
    have k7 : cs' = [.slice b l c] := by
      match cs', k3, k5 with
      | [x], _, k5 => cases k5; rfl
    subst k7
    have k8 := bulk_slice he (W := W) (d := D i) (ps := Pl i) ⟨n, by simpa [Value.cells] using k2⟩
    have k9 := bulk_part (d := D i) (l := (List.range len).map D) (List.mem_map.2 ⟨i, List.mem_range.2 hi, rfl⟩)
    simp only [Rows.uptoBulk]
    omega
/-- A slice of bytes' cell in a slice of those. -/
def bytesCell (x : Option Addr × Nat × List UInt8) : List Value := [.slice x.1 x.2.2.length x.2.1]
/-- What each of them leads to. -/
def bytesOk (W : World) (x : Option Addr × Nat × List UInt8) : Prop := InS byteCell (fun _ => True) 1 W x.1 x.2.1 x.2.2
theorem reader_bytes (W : World) : Reader Try.prog W 37 bytesCell (bytesOk W) :=
  reader_slice Try.underlying37 (n := 1) (B := 1) (by kernel_rfl) (by kernel_rfl) (fun _ => rfl) (reader_byte Try.underlying5)
theorem open_bss {H : Type} {enc : TypeId × Value → H} {W : World} {ts : List TypeId} {ds : List (DataW H)} (hsz : (DataW.weightsEach Try.prog ts ds).all (· ≤ reachBytes) = true) {d : DataW H} {ps : List MemPlace} (j : Nat) (htj : ts[j]? = some 34) (hdj : ds[j]? = some d)
    {a : Option Addr} {len cap : Nat} (h : DataW.Trod enc Try.prog W 0 (fun _ => true) true 34 (.slice a len cap) d ps) : ∃ xs : List (Option Addr × Nat × List UInt8), xs.length = len ∧ InS bytesCell (bytesOk W) 24 W a cap xs :=
  open_slice_arg (n := 1) (B := 24) (f := bytesCell) hsz j htj hdj Try.underlying34 (by kernel_rfl) (by kernel_rfl) (fun _ => rfl) (reader_bytes W) h
theorem bss_at {l : List (Option Addr × Nat × List UInt8)} {i : Nat} (h : i < l.length) : (l.flatMap bytesCell)[i]? = some (.slice l[i].1 l[i].2.2.length l[i].2.1) := by
  have e : l.flatMap bytesCell = l.map fun x => Value.slice x.1 x.2.2.length x.2.1 := by
    clear h
    induction l with
    | nil => rfl
    | cons x l ih => rw [List.flatMap_cons, ih]; rfl
  rw [e, List.getElem?_map, List.getElem?_eq_getElem h]; rfl
theorem bulk_bss {H : Type} {enc : TypeId × Value → H} {W : World} {d : DataW H} {ps : List MemPlace} {a : Option Addr} {cap : Nat} {xs : List (Option Addr × Nat × List UInt8)}
    (h : DataW.Trod enc Try.prog W 0 (fun _ => true) true 34 (.slice a xs.length cap) d ps) (w : InS bytesCell (bytesOk W) 24 W a cap xs) : ∀ x ∈ xs, x.2.2.length ≤ Rows.uptoBulk d := by
  intro x hx
  obtain ⟨i, hi, rfl⟩ := List.mem_iff_getElem.1 hx
  have h1 := bss_at hi
  rcases w.rd with h2 | ⟨a', h2, h3⟩
  · rw [h2] at h1; simp at h1
  · exact bulk_elems Try.underlying34 Try.underlying37 (by kernel_rfl) h hi h2 (h3 i _ h1)
theorem Mir.rf_bs {W : World} {A : Nat → Prop} (hA : ∀ b, ¬ A b) {a : Option Addr} {c : Nat} {xs : List UInt8} (h : InS byteCell (fun _ => True) 1 W a c xs) : Mir.RF W A (Mir.fY xs) (.slice a xs.length c) := by
  have h1 := Mir.rf_in (A := A) (g := fun b => [Mir.uF b]) h hA fun x _ => .cons (.v rfl) .nil
  have e : ∀ l : List UInt8, l.flatMap (fun b => [Mir.uF b]) = l.map Mir.uF := fun l => by
    induction l with
    | nil => rfl
    | cons x l ih => rw [List.flatMap_cons, ih]; rfl
  rw [e] at h1
  exact h1
theorem Mir.rf_bss {W : World} {A : Nat → Prop} (hA : ∀ b, ¬ A b) {a : Option Addr} {c : Nat} {xs : List (Option Addr × Nat × List UInt8)} (h : InS bytesCell (bytesOk W) 24 W a c xs) : Mir.RF W A (Mir.fYs (xs.map fun x => x.2.2)) (.slice a xs.length c) := by
  have h1 := Mir.rf_in (A := A) (g := fun x => [Mir.fY x.2.2]) h hA fun x hx => .cons (Mir.rf_bs hA hx) .nil
  have e : ∀ l : List (Option Addr × Nat × List UInt8), l.flatMap (fun x => [Mir.fY x.2.2]) = (l.map fun x => x.2.2).map Mir.fY := fun l => by
    induction l with
    | nil => rfl
    | cons x l ih => rw [List.flatMap_cons, ih]; rfl
  rw [e] at h1
  rw [Mir.fYs, List.length_map]
  exact h1
theorem diskOrder_walk (W : World) (a0 : Option Addr) (c0 : Nat) (xs : List (Option Addr × Nat × List UInt8)) (done cut : Int) (h : InS bytesCell (bytesOk W) 24 W a0 c0 xs) (_ : -9223372036854775808 ≤ done ∧ done ≤ 9223372036854775807) (_ : -9223372036854775808 ≤ cut ∧ cut ≤ 9223372036854775807) (hb : ∀ x ∈ xs, x.2.2.length ≤ 1048576) :
    Calls Try.prog 4 #[.slice a0 xs.length c0, .int .i64 done, .int .i64 cut] W fun e w' => e = .returned (.bool true) ∧ Below W.heap.size W w' :=
  Mir.Con.calls (Mir.c_law_DiskOrder (xs.map fun x => x.2.2) done cut (by
    intro b hb'
    obtain ⟨x, hx, rfl⟩ := List.mem_map.1 hb'
    exact hb x hx)) fun _ hA => .one (.f (Mir.rf_bss hA h)) (.one (.f (.v rfl)) (.one (.f (.v rfl)) .none))
end Go.Proofs.Ytjhemkeilagnnaa
