/- MeterPlays: its argument, opened. -/
import Derived.Test.YtlphhadomhdacaaMeterPlays
namespace Go.Proofs.Ytlphhadomhdacaa
open Go Go.RowKit

theorem reader_step (W : World) : Reader Try.prog W 33 stepCells (fun _ => True) :=
  Reader.map (reader_struct Try.underlying33 (by kernel_rfl) (freader_cons (m := 1) rfl (by kernel_rfl) (reader_bool Try.underlying4)
    (freader_cons (m := 1) rfl (by kernel_rfl) (reader_int Try.underlying3) (freader_cons (m := 1) rfl (by kernel_rfl) (reader_int Try.underlying3) (freader_nil _)))))
    (fun x => (x.1, x.2.1, x.2.2.1)) (fun _ => rfl) (fun _ _ => trivial)

theorem open_steps {H : Type} {enc : TypeId × Value → H} {W : World} {ts : List TypeId} {ds : List (DataW H)} (hsz : (DataW.weightsEach Try.prog ts ds).all (· ≤ reachBytes) = true) {d : DataW H} {ps : List MemPlace} (j : Nat) (htj : ts[j]? = some 30) (hdj : ds[j]? = some d)
    {a : Option Addr} {len cap : Nat} (h : DataW.Trod enc Try.prog W 0 (fun _ => true) true 30 (.slice a len cap) d ps) : ∃ xs : List (Bool × Int × Int), xs.length = len ∧ InS stepCells (fun _ => True) 24 W a cap xs :=
  open_slice_arg (n := 3) (B := 24) (f := stepCells) hsz j htj hdj Try.underlying30 (by kernel_rfl) (by kernel_rfl) (fun _ => rfl) (reader_step W) h

theorem plays_final (W : World) (a0 : Option Addr) (c0 : Nat) (l : List (Bool × Int × Int)) (h : InS stepCells (fun _ => True) 24 W a0 c0 l) :
    Calls Try.prog 4 #[.slice a0 l.length c0] W fun e w' => e = .returned (.bool true) ∧ Below W.heap.size W w' :=
  plays_walk W a0 c0 l (by have := h.lc; have := h.sz; omega) h.rd

end Go.Proofs.Ytlphhadomhdacaa
