/- DagAhead: its walk as a call. -/
import Derived.Test.YtjhemkeilagnnaaDagRaw
import Derived.Test.YtjhemkeilagnnaaDagU
namespace Go.Proofs.Ytjhemkeilagnnaa
open Go Go.RowKit

theorem dagAhead_walk (W : World) (a0 : Option Addr) (c0 : Nat) (xs : List RawIn) (how a : Int) (h : InS rawV (rawOk W) 40 W a0 c0 xs) (_ : -9223372036854775808 ≤ how ∧ how ≤ 9223372036854775807) (_ : -9223372036854775808 ≤ a ∧ a ≤ 9223372036854775807) :
    Calls Try.prog 7 #[.slice a0 xs.length c0, .int .i64 how, .int .i64 a] W fun e w' => e = .returned (.bool true) ∧ Below W.heap.size W w' :=
  Mir.Con.calls (Mir.c_law_DagAhead (xs.map rawD) how a) fun _ hA => .one (.f (rf_raws hA h)) (.one (.f (.v rfl)) (.one (.f (.v rfl)) .none))
end Go.Proofs.Ytjhemkeilagnnaa
