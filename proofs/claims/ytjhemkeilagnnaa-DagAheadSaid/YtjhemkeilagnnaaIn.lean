/- From contracts to the model's calls: arguments that came in, as the machine's values. -/
import Derived.Test.YtjhemkeilagnnaaRead
import Derived.Test.YtjhemkeilagnnaaW
namespace Go.Proofs.Ytjhemkeilagnnaa.Mir
open Go Go.RowKit

variable {P : Program} {W : World} {A : Nat → Prop}

theorem RFs.nil : RFs W A [] [] := ⟨rfl, fun i x u hx => by simp at hx⟩
theorem RFs.flat {α : Type} {f : α → List Value} {g : α → List F} : ∀ (l : List α), (∀ x ∈ l, RFs W A (g x) (f x)) → RFs W A (l.flatMap g) (l.flatMap f)
  | [], _ => RFs.nil
  | x :: l, h => by
    rw [List.flatMap_cons, List.flatMap_cons]
    exact (h x (by simp)).append (RFs.flat l fun y hy => h y (by simp [hy]))
/-- A slice that came in. -/
theorem rf_in {α : Type} {f : α → List Value} {g : α → List F} {good : α → Prop} {B : Nat} {a : Option Addr} {c : Nat} {xs : List α} (h : InS f good B W a c xs) (hA : ∀ b, ¬ A b) (hfg : ∀ x, good x → RFs W A (g x) (f x)) :
    RF W A (.s (xs.flatMap g) xs.length) (.slice a xs.length c) := by
  have hall := RFs.flat xs fun x hx => hfg x (h.ok x hx)
  cases a with
  | none =>
    have h1 := h.nil rfl
    have h2 := h.lc
    obtain rfl : xs = [] := List.eq_nil_of_length_eq_zero (by omega)
    subst h1
    exact .s0
  | some a =>
    refine .s (xs.flatMap f) h.lc hall.1 (fun i u hu => ⟨?_, hA _⟩) hall.2
    rcases h.rd with h1 | ⟨a', h1, h2⟩
    · rw [h1] at hu; simp at hu
    · cases h1
      exact h2 i u hu
theorem rf_ints {good : Int → Prop} {B : Nat} {a : Option Addr} {c : Nat} {xs : List Int} (h : InS (fun n : Int => [Value.int .i64 n]) good B W a c xs) (hA : ∀ b, ¬ A b) : RF W A (.s (xs.map fun n => F.v (.int .i64 n)) xs.length) (.slice a xs.length c) := by
  have := rf_in (A := A) (g := fun n => [F.v (.int .i64 n)]) h hA fun x _ => RFs.cons (.v rfl) RFs.nil
  have e : xs.flatMap (fun n => [F.v (.int .i64 n)]) = xs.map fun n => F.v (.int .i64 n) := by
    clear this h
    induction xs with
    | nil => rfl
    | cons x xs ih => rw [List.flatMap_cons, ih]; rfl
  rw [e] at this
  exact this
theorem Rs.one {N : Nat} {φ : Nat → Nat × Nat} {d : D} {u : Value} {ds : List D} {us : List Value} (h : R P W φ A N d u) (k : Rs P W φ A N ds us) : Rs P W φ A N (d :: ds) (u :: us) := by
  refine ⟨by simp [k.1], fun i y v hy hv => ?_⟩
  cases i with
  | zero => cases hy; cases hv; exact h
  | succ i => exact k.2 i y v hy hv
theorem Rs.none {N : Nat} {φ : Nat → Nat × Nat} : Rs P W φ A N [] [] := ⟨rfl, fun i d u hd => by simp at hd⟩

/-- A contract without rows, as a call. -/
theorem Con.calls {f : FuncId} {args : List D} (h : Con P f args [] fun r H' => r = .f (.v (.bool true)) ∧ H' = []) {vs : Array Value} (ha : ∀ A : Nat → Prop, (∀ b, ¬ A b) → Rs P W (fun _ => (0, 0)) A 0 args vs.toList) :
    Calls P f vs W fun e w' => e = .returned (.bool true) ∧ Below W.heap.size W w' := by
  have h0 : HR P W (fun _ => (0, 0)) (fun _ => False) [] := ⟨fun r x hx => by simp at hx, fun r s x y hx => by simp at hx, fun r x hx => by simp at hx, fun b hb => hb.elim⟩
  have hA : ∀ b, ¬ Av (fun _ => False) (fun _ => (0, 0)) ([] : List Row) b := by
    rintro b (hb | ⟨r, x, hx, _⟩)
    · exact hb
    · simp at hx
  refine (h.2 W (fun _ => (0, 0)) (fun _ => False) vs h0 (ha _ hA)).mono ?_
  rintro e w' ⟨v, d, H', rfl, ⟨rfl, rfl⟩, φ', ho, _, hr⟩
  cases hr with | f hr => cases hr with | v _ =>
  refine ⟨rfl, ho.keep.os, ho.keep.tape, ho.keep.output, ho.keep.size, fun k hk => ho.keep.block k hk ?_⟩
  rintro ⟨r, x, hx, _⟩
  simp at hx
end Go.Proofs.Ytjhemkeilagnnaa.Mir
