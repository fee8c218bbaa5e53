/- Opening a statement's arguments: what each reads as, said of cells. -/
import Derived.Test.YtjhemkeilagnnaaKit
import Derived.ProofKit
import Derived.OpenShut
import Derived.ShutString
import Derived.ChangeOld
import Derived.Below
import Derived.SizedLaws
import Derived.Deep.Slices
namespace Go.Proofs.Ytjhemkeilagnnaa
open Go Go.RowKit Go.ChangeShapes Go.WideShapes Go.ChangeAt

/-- A slice of integers that came in. -/
structure InInts (k : IntKind) (B : Nat) (W : World) (a : Option Addr) (c : Nat) (xs : List Int) : Prop where
  rd : Rd W a (xs.map (Value.int k))
  wf : ∀ n ∈ xs, (Lit.int k n).wf = true
  lc : xs.length ≤ c
  sz : c * B ≤ 140737488351232
  nil : a = none → c = 0

section
variable {H : Type} {enc : TypeId × Value → H} {P : Program} {w : World} {held : Bool}

theorem rd_of_cells {w : World} {a : Addr} {xs : List Value} (h : ∀ i (hi : i < xs.length), w.cell? (a.add i) = some xs[i]) : Rd w (some a) xs :=
  .inr ⟨a, rfl, fun j u hu => by
    obtain ⟨hj, rfl⟩ := List.getElem?_eq_some_iff.1 hu
    exact h j hj⟩

theorem open_ints_rd {ts : List TypeId} {ds : List (DataW H)} (hsz : (DataW.weightsEach P ts ds).all (· ≤ reachBytes) = true) {t e : TypeId} {k : IntKind} {B : Nat} {a : Option Addr} {len cap : Nat} {d : DataW H} {ps : List MemPlace} (j : Nat) (htj : ts[j]? = some t) (hdj : ds[j]? = some d)
    (ht : P.underlying t = some (.slice e)) (he : P.underlying e = some (.int k)) (hc : P.cellsOf e = 1) (hB : P.bytesOf e = B)
    (h : DataW.Trod enc P w 0 (fun _ => true) held t (.slice a len cap) d ps) :
    ∃ xs : List Int, xs.length = len ∧ InInts k B w a cap xs := by
  obtain ⟨fuel, hf⟩ := h
  rcases open_ints ht he hc hf with ⟨hcs, hx⟩ | ⟨x, l, c, zs, hcs, _, hl, hm, hz, hx, hcell, hwz⟩
  · simp [Value.cells] at hcs
    obtain ⟨rfl, rfl, rfl⟩ := hcs
    exact ⟨[], rfl, Rd.nil _ _, by simp, Nat.le_refl _, by simp, fun _ => rfl⟩
  · simp [Value.cells] at hcs
    obtain ⟨rfl, rfl, rfl⟩ := hcs
    simp only [Prod.mk.injEq] at hx
    obtain ⟨rfl, _⟩ := hx
    have hs := sized_slice hsz htj hdj ht
    simp only [if_true] at hz
    have hz' : zs.length = cap := by simpa using hz
    refine ⟨zs.take len, by simp; omega, rd_of_cells (fun i hi => ?_), fun n hn => hwz n (List.mem_of_mem_take hn), by simp; omega, ?_, by simp⟩
    · have hi' : i < zs.length := by simp at hi; omega
      rw [hcell i hi']
      simp [List.getElem?_eq_getElem hi']
    · rw [hB] at hs
      simp only [lits, List.length_map, List.length_take, List.length_drop, reachBytes] at hs
      rw [show min len zs.length + (zs.length - len) = cap by omega] at hs
      exact hs
end

end Go.Proofs.Ytjhemkeilagnnaa
