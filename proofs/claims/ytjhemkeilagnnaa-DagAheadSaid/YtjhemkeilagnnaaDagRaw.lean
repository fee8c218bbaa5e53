/- Raw graphs that came in, opened. -/
import Derived.Test.YtjhemkeilagnnaaIn
import Derived.Test.YtjhemkeilagnnaaDagD
namespace Go.Proofs.Ytjhemkeilagnnaa
open Go Go.RowKit

abbrev RawIn := Int × Int × Option Addr × Nat × List Int
def rawV (x : RawIn) : List Value := [.int .i64 x.1, .int .i64 x.2.1, .slice x.2.2.1 x.2.2.2.2.length x.2.2.2.1]
def rawOk (W : World) (x : RawIn) : Prop := InS (fun n : Int => [Value.int .i64 n]) (fun n => (Lit.int .i64 n).wf = true) 8 W x.2.2.1 x.2.2.2.1 x.2.2.2.2
theorem reader_raw (W : World) : Reader Try.prog W 70 rawV (rawOk W) :=
  Reader.map (reader_struct Try.underlying70 (by kernel_rfl) (freader_cons (m := 1) rfl (by kernel_rfl) (reader_int Try.underlying3)
    (freader_cons (m := 1) rfl (by kernel_rfl) (reader_int Try.underlying3) (freader_cons (m := 1) rfl (by kernel_rfl) (reader_slice (n := 1) (B := 8) Try.underlying25 (by kernel_rfl) (by kernel_rfl) (fun _ => rfl) (reader_int Try.underlying3)) (freader_nil _)))))
    (fun x => (x.1, x.2.1, x.2.2.1)) (fun _ _ => rfl) (fun _ h => h.2.2.1)
theorem open_raws {H : Type} {enc : TypeId × Value → H} {W : World} {ts : List TypeId} {ds : List (DataW H)} (hsz : (DataW.weightsEach Try.prog ts ds).all (· ≤ reachBytes) = true) {d : DataW H} {ps : List MemPlace} (j : Nat) (htj : ts[j]? = some 22) (hdj : ds[j]? = some d)
    {a : Option Addr} {len cap : Nat} (h : DataW.Trod enc Try.prog W 0 (fun _ => true) true 22 (.slice a len cap) d ps) : ∃ xs : List RawIn, xs.length = len ∧ InS rawV (rawOk W) 40 W a cap xs :=
  open_slice_arg (n := 3) (B := 40) (f := rawV) hsz j htj hdj Try.underlying22 (by kernel_rfl) (by kernel_rfl) (fun _ => rfl) (reader_raw W) h
def rawD (x : RawIn) : Mir.Rd := ⟨x.1, x.2.1, x.2.2.2.2⟩
theorem rf_raws {W : World} {A : Nat → Prop} (hA : ∀ b, ¬ A b) {a : Option Addr} {c : Nat} {xs : List RawIn} (h : InS rawV (rawOk W) 40 W a c xs) : Mir.RF W A (Mir.fR (xs.map rawD)) (.slice a xs.length c) := by
  have h1 := Mir.rf_in (A := A) (g := fun x => Mir.Rd.cs (rawD x)) h hA fun x hx => .cons (.v rfl) (.cons (.v rfl) (.cons (Mir.rf_ints hx hA) .nil))
  have e : Mir.fR (xs.map rawD) = .s (xs.flatMap fun x => Mir.Rd.cs (rawD x)) xs.length := by rw [Mir.fR, List.flatMap_map, List.length_map]
  rw [e]; exact h1
end Go.Proofs.Ytjhemkeilagnnaa
