/- CrcKnown: the walk; the example. -/
import Derived.Test.YtlphhadomhdacaaCrcRef
import Derived.Lib.SlBytesConst
namespace Go.Proofs.Ytlphhadomhdacaa
open Go Go.RowKit

theorem u8s_rd {w : World} {b : Nat} {cs : Array Value} {T : TypeId} {fr : Nat × Nat} (hb : w.heap[b]? = some (.cells cs T fr)) (bs : List UInt8) (h : cs.toList = u8s bs) : Rd w (some ⟨b, 0, none⟩) (u8s bs) := by
  refine .inr ⟨_, rfl, fun j u hu => ?_⟩
  have hadd : (⟨b, 0, none⟩ : Addr).add j = ⟨b, j, none⟩ := by unfold Addr.add; split <;> simp_all
  rw [hadd, cellH hb, ← Array.getElem?_toList, h]
  exact hu

set_option maxRecDepth 100000 in
set_option maxHeartbeats 1000000 in
theorem cknown_any (w : World) : Calls Try.prog 21 #[] w fun e w' => e = .returned (.bool true) ∧ Ch (fun _ => False) w w' := by
  have kc := fun (w : World) (C : Array Value) (n c : Nat) => Lib.run_convert_bytes_const (P := Try.prog) w 40 5 C n c Try.underlying40 Try.underlying5
  go_enter Try.func21, Try.ntmps21
  go_wp2_with fail
  refine (tnew_any _).mono ?_; rintro e w1 ⟨rfl, t1, ch1, z1⟩
  have Hz := Lib.hid z1; clear z1
  go_wp2_with fail
  refine (TS.made (m := false) t1).mono ?_; rintro e w' ⟨rfl, rfl⟩
  go_wp2_with fail
  have hzz := Hz.out
  refine (sum_any w.heap.size false _ 9 [49, 50, 51, 52, 53, 54, 55, 56, 57] _ (TS.keep (ch_new _ _) t1 (fun h => h)) (u8s_rd (alloc_heap_new _ _) _ rfl) (fun _ ad had => by cases had; show w'.heap.size ≠ w.heap.size; omega) (by simp)).mono ?_
  clear hzz
  rintro e w2 ⟨rfl, t2, ch2⟩
  rw [crc_digits]
  go_wp2_with fail
  refine (TS.made (m := true) t2).mono ?_; rintro e w3 ⟨rfl, rfl⟩
  go_wp2_with fail
  go_ret
  refine ⟨rfl, ?_⟩
  exact (ch1.alloc _).seq ch2 _ (fun _ _ h => h) (fun i hi h => by omega)

def sumIs (bs : List UInt8) (n : Nat) : Prop := crcN bs = n

set_option maxRecDepth 100000 in
set_option maxHeartbeats 1000000 in
theorem crcKnown_walk (W : World) : Calls Try.prog 5 #[] W fun e w' => e = .returned (.bool true) ∧ Below W.heap.size W w' := by
  have kc := fun (w : World) (C : Array Value) (n c : Nat) => Lib.run_convert_bytes_const (P := Try.prog) w 40 5 C n c Try.underlying40 Try.underlying5
  go_enter Try.func5, Try.ntmps5
  go_wp2_with fail
  refine (tnew_any _).mono ?_; rintro e w1 ⟨rfl, t1, ch1, z1⟩
  have Hz := Lib.hid z1; clear z1
  go_wp2_with fail
  refine (cknown_any _).mono ?_; rintro e w2 ⟨rfl, ch2⟩
  have t2 := TS.keep (m := false) ch2 t1 (fun h => h)
  have hlt : W.heap.size < w2.heap.size := by have := ch2.size; have := Hz.out; omega
  go_wp2_with fail
  refine (sum_any W.heap.size false none 0 [] _ t2 (Rd.nil _ _) (by simp) (by simp)).mono ?_
  rintro e w3 ⟨rfl, t3, ch3⟩
  rw [crc_nil]
  have hl3 := ch3.size
  go_wp2_with fail
  refine (sum_any W.heap.size true _ 1 [97] _ (TS.keep (ch_new _ _) t3 (fun h => h)) (u8s_rd (alloc_heap_new _ _) _ rfl) (fun _ ad had => by cases had; show w3.heap.size ≠ W.heap.size; omega) (by simp)).mono ?_
  rintro e w4 ⟨rfl, t4, ch4⟩
  rw [crc_a]
  have hl4 := ch4.size
  simp only [heap_alloc_size] at hl4
  go_wp2_with fail
  refine (sum_any W.heap.size true _ 1 [0] _ (TS.keep (ch_new _ _) t4 (fun h => h)) (u8s_rd (alloc_heap_new _ _) _ rfl) (fun _ ad had => by cases had; show w4.heap.size ≠ W.heap.size; omega) (by simp)).mono ?_
  rintro e w5 ⟨rfl, t5, ch5⟩
  rw [crc_0]
  go_wp2_with fail
  refine (TS.made (m := true) t5).mono ?_; rintro e w6 ⟨rfl, rfl⟩
  go_wp2_with fail
  go_ret
  refine ⟨rfl, ?_⟩
  have c1 := (ch1.trans ch2).mono (T := fun k => W.heap.size ≤ k) (fun _ _ h => h.elim)
  have c3 := (c1.seq ch3 (fun k => W.heap.size ≤ k) (fun _ _ h => h) (fun _ _ h => by omega)).alloc (.cells #[.int .u8 97] 5 (1, 2))
  have c4 := (c3.seq ch4 (fun k => W.heap.size ≤ k) (fun _ _ h => h) (fun _ _ h => by omega)).alloc (.cells #[.int .u8 0] 5)
  exact (c4.seq ch5 (fun k => W.heap.size ≤ k) (fun _ _ h => h) (fun _ _ h => by omega)).below (Nat.le_refl _) (fun k hk h => by omega)

end Go.Proofs.Ytlphhadomhdacaa
