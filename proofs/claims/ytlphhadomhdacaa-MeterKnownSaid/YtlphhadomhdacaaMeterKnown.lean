/- MeterKnown: the walk. -/
import Derived.Test.YtlphhadomhdacaaMeterStop
import Derived.Test.YtlphhadomhdacaaOpen
namespace Go.Proofs.Ytlphhadomhdacaa
open Go Go.RowKit

set_option maxRecDepth 100000 in
set_option maxHeartbeats 2000000 in
theorem meterKnown_walk (W : World) : Calls Try.prog 9 #[] W fun e w' => e = .returned (.bool true) ∧ Below W.heap.size W w' := by
  have hmf : ∀ (fn : Fn) (first cap : Array Value) (w : World), (Instr.makeFunc fn first cap).run Try.prog w = .ok (.func fn first cap) w := fun _ _ _ _ => rfl
  have i1 : isKind (-1) = false := by decide
  have i5 : isKind 5 = false := by decide
  have i99 : isKind 99 = false := by decide
  go_enter Try.func9, Try.ntmps9
  go_wp2_with fail
  refine (new_M _).mono ?_; rintro e w1 ⟨rfl, m1, ch1, z1⟩
  have Hz1 := Lib.hid z1; clear z1
  go_wp2_with fail
  refine (mknown_M _).mono ?_; rintro e w2 ⟨rfl, ch2⟩
  have hs2 : W.heap.size < w2.heap.size := by have := ch2.size; have := Hz1.out; omega
  have m2 : MAt (w2.alloc (.cells #[.int .i64 0] 3)) W.heap.size [0, 0, 0, 0, 0] (restOf 0 0 0) := MAt.keep (ch_new _ _) (MAt.keep ch2 m1 (fun h => h)) (fun h => h)
  have c2 := ((ch1.trans ch2).alloc (.cells #[.int .i64 0] 3)).mono (T := fun k => W.heap.size ≤ k) (fun _ _ h => h.elim)
  have n2 := alloc_heap_new w2 (.cells #[.int .i64 0] 3)
  clear m1 ch1 ch2
  go_wp2_with fail
  refine (stopped_any _ _ 0 0 0 _ m2).mono ?_; rintro e w' ⟨rfl, rfl⟩
  go_wp2_with fail
  refine (stop_k1 w2.heap.size 0 W.heap.size _ _ m2 n2 (by omega)).mono ?_; rintro e w3 ⟨rfl, m3, n3, ch3⟩
  have c3 := c2.seq ch3 (fun k => W.heap.size ≤ k) (fun _ _ h => h) (fun i _ h => by omega)
  clear m2 n2 c2 ch3
  go_wp2_with fail
  refine (stop_again W.heap.size _ _ _ _ 1 _ m3).mono ?_; rintro e w4 ⟨rfl, ch4⟩
  have m4 := MAt.keep ch4 m3 (fun h => h)
  have n4 := ch4.heap n3 (fun h => h)
  have c4 := c3.seq ch4 (fun k => W.heap.size ≤ k) (fun _ _ h => h) (fun i _ h => h.elim)
  have hs4 := block_lt n4
  clear m3 n3 c3 ch4
  go_wp2_with fail
  refine (new_M _).mono ?_; rintro e w5 ⟨rfl, o5, ch5, z5⟩
  have m5 := MAt.keep ch5 m4 (fun h => h)
  have n5 := ch5.heap n4 (fun h => h)
  have c5 := c4.seq ch5 (fun k => W.heap.size ≤ k) (fun _ _ h => h) (fun i _ h => h.elim)
  have nc : w5.cell? ⟨w2.heap.size, 0, none⟩ = some (.int .i64 1) := by rw [cellH n5]; simp [wrap64]
  have hs5 := block_lt n5
  clear m4 n4 c4 ch5 z5 n5
  go_wp2_with fail
  refine (stopped_any _ _ 1 0 1 _ m5).mono ?_; rintro e w' ⟨rfl, rfl⟩
  go_wp2_with fail
  refine (stop_nil w4.heap.size _ _ (show MAt w' w4.heap.size _ (restOf 0 0 0) from o5)).mono ?_; rintro e w6 ⟨rfl, o6, ch6⟩
  have m6 := MAt.keep ch6 m5 (by omega)
  have c6 := c5.seq ch6 (fun k => W.heap.size ≤ k) (fun _ _ h => h) (fun i _ h => by omega)
  clear m5 o5 c5 ch6 nc
  go_wp2_with fail
  refine (stopped_any _ _ 1 0 1 _ o6).mono ?_; rintro e w' ⟨rfl, rfl⟩
  go_wp2_with fail
  refine (madd_no _ _ _ _ i1).mono ?_; rintro e w' ⟨rfl, rfl⟩
  go_wp2_with fail
  refine (madd_no _ _ _ _ i5).mono ?_; rintro e w' ⟨rfl, rfl⟩
  go_wp2_with fail
  refine (mraise_no _ _ _ _ i99).mono ?_; rintro e w' ⟨rfl, rfl⟩
  go_wp2_with fail
  refine (mval_no _ _ _ i1).mono ?_; rintro e w' ⟨rfl, rfl⟩
  go_wp2_with fail
  go_ret
  exact ⟨rfl, c6.below (Nat.le_refl _) (fun k hk h => by omega)⟩

end Go.Proofs.Ytlphhadomhdacaa
