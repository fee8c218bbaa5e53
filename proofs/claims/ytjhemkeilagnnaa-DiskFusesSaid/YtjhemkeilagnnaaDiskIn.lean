/- The disk's laws: their walks as calls. -/
import Derived.Test.YtjhemkeilagnnaaIn
import Derived.Test.YtjhemkeilagnnaaDiskF
namespace Go.Proofs.Ytjhemkeilagnnaa
open Go Go.RowKit

theorem Mir.rf_inints {W : World} {A : Nat → Prop} {B : Nat} {a : Option Addr} {c : Nat} {xs : List Int} (h : InInts .i64 B W a c xs) (hA : ∀ b, ¬ A b) : Mir.RF W A (Mir.fI xs) (.slice a xs.length c) := by
  have hf : ∀ l : List Int, l.flatMap (fun n : Int => [Value.int .i64 n]) = l.map (Value.int .i64) := fun l => by
    induction l with
    | nil => rfl
    | cons x l ih => rw [List.flatMap_cons, ih]; rfl
  have h' : InS (fun n : Int => [Value.int .i64 n]) (fun n => (Lit.int .i64 n).wf = true) B W a c xs := ⟨by rw [hf]; exact h.rd, h.wf, h.lc, h.sz, h.nil⟩
  exact Mir.rf_ints h' hA
theorem diskFuses_walk (W : World) (n : Int) (a : Option Addr) (c : Nat) (l : List Int) (_ : -9223372036854775808 ≤ n ∧ n ≤ 9223372036854775807) (h : InInts .i64 8 W a c l) :
    Calls Try.prog 6 #[.int .i64 n, .slice a l.length c] W fun e w' => e = .returned (.bool true) ∧ Below W.heap.size W w' :=
  Mir.Con.calls (Mir.c_law_DiskFuses n l) fun _ hA => .one (.f (.v rfl)) (.one (.f (Mir.rf_inints h hA)) .none)
end Go.Proofs.Ytjhemkeilagnnaa
