/- CrcSums: the walk. -/
import Derived.Test.YtlphhadomhdacaaCrcKnown
import Derived.Test.YtlphhadomhdacaaRead
import Derived.Deep.DeepCutAuto
import Derived.Deep.RegionWith
import Derived.Deep.QuietTactic
import Derived.BigQuiet
namespace Go.Proofs.Ytlphhadomhdacaa
open Go Go.RowKit

theorem u8s_flat (bs : List UInt8) : bs.flatMap byteCell = u8s bs := by
  induction bs with
  | nil => rfl
  | cons x xs ih => rw [List.flatMap_cons, ih]; rfl

/-- A slice of bytes' cell in a slice of those. -/
def bytesCell (x : Option Addr × Nat × List UInt8) : List Value := [.slice x.1 x.2.2.length x.2.1]
/-- What each of them leads to. -/
def bytesOk (W : World) (x : Option Addr × Nat × List UInt8) : Prop := InS byteCell (fun _ => True) 1 W x.1 x.2.1 x.2.2

theorem reader_bytes (W : World) : Reader Try.prog W 40 bytesCell (bytesOk W) :=
  reader_slice Try.underlying40 (n := 1) (B := 1) (by kernel_rfl) (by kernel_rfl) (fun _ => rfl) (reader_byte Try.underlying5)

theorem open_bs {H : Type} {enc : TypeId × Value → H} {W : World} {ts : List TypeId} {ds : List (DataW H)} (hsz : (DataW.weightsEach Try.prog ts ds).all (· ≤ reachBytes) = true) {d : DataW H} {ps : List MemPlace} (j : Nat) (htj : ts[j]? = some 40) (hdj : ds[j]? = some d)
    {a : Option Addr} {len cap : Nat} (h : DataW.Trod enc Try.prog W 0 (fun _ => true) true 40 (.slice a len cap) d ps) : ∃ xs : List UInt8, xs.length = len ∧ InS byteCell (fun _ => True) 1 W a cap xs :=
  open_slice_arg (n := 1) (B := 1) (f := byteCell) hsz j htj hdj Try.underlying40 (by kernel_rfl) (by kernel_rfl) (fun _ => rfl) (reader_byte Try.underlying5) h

theorem open_bss {H : Type} {enc : TypeId × Value → H} {W : World} {ts : List TypeId} {ds : List (DataW H)} (hsz : (DataW.weightsEach Try.prog ts ds).all (· ≤ reachBytes) = true) {d : DataW H} {ps : List MemPlace} (j : Nat) (htj : ts[j]? = some 42) (hdj : ds[j]? = some d)
    {a : Option Addr} {len cap : Nat} (h : DataW.Trod enc Try.prog W 0 (fun _ => true) true 42 (.slice a len cap) d ps) : ∃ xs : List (Option Addr × Nat × List UInt8), xs.length = len ∧ InS bytesCell (bytesOk W) 24 W a cap xs :=
  open_slice_arg (n := 1) (B := 24) (f := bytesCell) hsz j htj hdj Try.underlying42 (by kernel_rfl) (by kernel_rfl) (fun _ => rfl) (reader_bytes W) h

/-- What came in lies below what is new. -/
theorem InS.lt {α : Type} {f : α → List Value} {good : α → Prop} {B : Nat} {W : World} {a : Option Addr} {c : Nat} {xs : List α} (h : InS f good B W a c xs) (hne : xs.flatMap f ≠ []) : ∀ ad, a = some ad → ad.block < W.heap.size := by
  intro ad had
  obtain ⟨b, off, h1, h2, _⟩ := Rd.at h.rd (k := 0) (by cases hx : xs.flatMap f with
    | nil => exact absurd hx hne
    | cons y ys => simp)
  rw [had] at h1; cases h1; exact h2

theorem rd_bytes {W w : World} {a : Option Addr} {c : Nat} {bs : List UInt8} (h : InS byteCell (fun _ => True) 1 W a c bs) (hch : Ch (fun k => W.heap.size ≤ k) W w) : Rd w a (u8s bs) := by
  by_cases hne : bs.flatMap byteCell = []
  · rw [u8s_flat] at hne; rw [hne]; exact Rd.nil _ _
  · rw [← u8s_flat]
    exact Rd.keep hch h.rd (fun ad had => by have := h.lt hne ad had; omega)

/-- A sum over bytes that came in: the table lies in new memory. -/
theorem sum_in {W w : World} {b : Nat} {m : Bool} {a : Option Addr} {c : Nat} {bs : List UInt8} (h : InS byteCell (fun _ => True) 1 W a c bs) (hch : Ch (fun k => W.heap.size ≤ k) W w) (ht : TS w b m) (hb : W.heap.size ≤ b) :
    Calls Try.prog 22 #[.pointer (some ⟨b, 0, none⟩), .slice a bs.length c] w fun e w' => e = .returned (.int .u32 (crcN bs : Nat)) ∧ TS w' b true ∧ Ch (fun k => k = b) w w' := by
  refine sum_any b m a c bs w ht (rd_bytes h hch) (fun hne ad had => ?_) (by have := h.lc; have := h.sz; omega)
  have := h.lt (by rw [u8s_flat]; simpa [u8s] using hne) ad had
  omega

end Go.Proofs.Ytlphhadomhdacaa
