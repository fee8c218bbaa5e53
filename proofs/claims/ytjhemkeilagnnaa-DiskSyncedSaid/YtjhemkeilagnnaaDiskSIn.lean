/- DiskSynced: its arguments, opened; its walk as a call. -/
import Derived.Test.YtjhemkeilagnnaaIn
import Derived.Test.YtjhemkeilagnnaaDiskH
namespace Go.Proofs.Ytjhemkeilagnnaa
open Go Go.RowKit

theorem open_bs {H : Type} {enc : TypeId × Value → H} {W : World} {ts : List TypeId} {ds : List (DataW H)} (hsz : (DataW.weightsEach Try.prog ts ds).all (· ≤ reachBytes) = true) {d : DataW H} {ps : List MemPlace} (j : Nat) (htj : ts[j]? = some 37) (hdj : ds[j]? = some d)
    {a : Option Addr} {len cap : Nat} (h : DataW.Trod enc Try.prog W 0 (fun _ => true) true 37 (.slice a len cap) d ps) : ∃ xs : List UInt8, xs.length = len ∧ InS byteCell (fun _ => True) 1 W a cap xs :=
  open_slice_arg (n := 1) (B := 1) (f := byteCell) hsz j htj hdj Try.underlying37 (by kernel_rfl) (by kernel_rfl) (fun _ => rfl) (reader_byte Try.underlying5) h
theorem Mir.rf_inints {W : World} {A : Nat → Prop} {B : Nat} {a : Option Addr} {c : Nat} {xs : List Int} (h : InInts .i64 B W a c xs) (hA : ∀ b, ¬ A b) : Mir.RF W A (Mir.fI xs) (.slice a xs.length c) := by
  have hf : ∀ l : List Int, l.flatMap (fun n : Int => [Value.int .i64 n]) = l.map (Value.int .i64) := fun l => by
    induction l with
    | nil => rfl
    | cons x l ih => rw [List.flatMap_cons, ih]; rfl
  have h' : InS (fun n : Int => [Value.int .i64 n]) (fun n => (Lit.int .i64 n).wf = true) B W a c xs := ⟨by rw [hf]; exact h.rd, h.wf, h.lc, h.sz, h.nil⟩
  exact Mir.rf_ints h' hA
theorem Mir.rf_bs {W : World} {A : Nat → Prop} (hA : ∀ b, ¬ A b) {a : Option Addr} {c : Nat} {xs : List UInt8} (h : InS byteCell (fun _ => True) 1 W a c xs) : Mir.RF W A (Mir.fY xs) (.slice a xs.length c) := by
  have h1 := Mir.rf_in (A := A) (g := fun b => [Mir.uF b]) h hA fun x _ => .cons (.v rfl) .nil
  have e : ∀ l : List UInt8, l.flatMap (fun b => [Mir.uF b]) = l.map Mir.uF := fun l => by
    induction l with
    | nil => rfl
    | cons x l ih => rw [List.flatMap_cons, ih]; rfl
  rw [e] at h1
  exact h1
theorem diskSynced_walk (W : World) (a0 : Option Addr) (c0 : Nat) (a : List UInt8) (a1 : Option Addr) (c1 : Nat) (b : List UInt8) (a2 : Option Addr) (c2 : Nat) (l : List Int) (h0 : InS byteCell (fun _ => True) 1 W a0 c0 a) (h1 : InS byteCell (fun _ => True) 1 W a1 c1 b) (h2 : InInts .i64 8 W a2 c2 l) :
    Calls Try.prog 5 #[.slice a0 a.length c0, .slice a1 b.length c1, .slice a2 l.length c2] W fun e w' => e = .returned (.bool true) ∧ Below W.heap.size W w' :=
  Mir.Con.calls (Mir.c_law_DiskSynced a b l (by have := h0.lc; have := h0.sz; omega) (by have := h1.lc; have := h1.sz; omega)) fun _ hA => .one (.f (Mir.rf_bs hA h0)) (.one (.f (Mir.rf_bs hA h1)) (.one (.f (Mir.rf_inints h2 hA)) .none))
end Go.Proofs.Ytjhemkeilagnnaa
