/- MeterOnce: the walk. -/
import Derived.Test.YtlphhadomhdacaaMeterStop
import Derived.Test.YtlphhadomhdacaaRead
import Derived.Deep.DeepCutAuto
import Derived.Deep.CutBlock
import Derived.Deep.QuietTactic
import Derived.BigQuiet
namespace Go.Proofs.Ytlphhadomhdacaa
open Go Go.RowKit

def b01 (b : Bool) : Int := match b with | true => 1 | false => 0

structure MSt (W : World) (bd k : Nat) (st : Bool) (wr : World) : Prop where
  m : MAt wr W.heap.size [(k : Int), 0, 0, 0, 0] (restOf (b01 st) 0 (b01 st))
  o : MAt wr (W.heap.size + 1) [0, 0, 0, 0, 0] (restOf 0 0 0)
  d : wr.heap[bd]? = some (.cells #[.int .i64 (b01 st)] 3 (0, 0))
  hch : Ch (fun k => W.heap.size ≤ k) W wr

theorem open_bls {H : Type} {enc : TypeId × Value → H} {W : World} {ts : List TypeId} {ds : List (DataW H)} (hsz : (DataW.weightsEach Try.prog ts ds).all (· ≤ reachBytes) = true) {d : DataW H} {ps : List MemPlace} (j : Nat) (htj : ts[j]? = some 43) (hdj : ds[j]? = some d)
    {a : Option Addr} {len cap : Nat} (h : DataW.Trod enc Try.prog W 0 (fun _ => true) true 43 (.slice a len cap) d ps) : ∃ xs : List Bool, xs.length = len ∧ InS (fun b : Bool => [Value.bool b]) (fun _ => True) 1 W a cap xs :=
  open_slice_arg (n := 1) (B := 1) hsz j htj hdj Try.underlying43 (by kernel_rfl) (by kernel_rfl) (fun _ => rfl) (reader_bool Try.underlying4) h

set_option maxRecDepth 100000 in
set_option maxHeartbeats 2000000 in
theorem meterOnce_walk (W : World) (a0 : Option Addr) (c0 : Nat) (l : List Bool) (n : Int) (h0 : InS (fun b : Bool => [Value.bool b]) (fun _ => True) 1 W a0 c0 l) (_ : -9223372036854775808 ≤ n ∧ n ≤ 9223372036854775807) :
    Calls Try.prog 10 #[.slice a0 l.length c0, .int .i64 n] W fun e w' => e = .returned (.bool true) ∧ Below W.heap.size W w' := by
  have hl : l.length ≤ 9223372036854775807 := by have := h0.lc; have := h0.sz; omega
  have hmf : ∀ (fn : Fn) (first cap : Array Value) (w : World), (Instr.makeFunc fn first cap).run Try.prog w = .ok (.func fn first cap) w := fun _ _ _ _ => rfl
  go_enter Try.func10, Try.ntmps10
  go_wp2_with fail
  refine (new_M _).mono ?_; rintro e w1 ⟨rfl, m1, ch1, z1⟩
  have Hz1 := Lib.hid z1; clear z1
  go_wp2_with fail
  refine (new_M _).mono ?_; rintro e w2 ⟨rfl, m2, ch2, z2⟩
  rw [Hz1.out] at m2 z2 ⊢
  have Hz2 := Lib.hid z2; clear z2
  go_wp2_with fail
  refine (mknown_M _).mono ?_; rintro e w3 ⟨rfl, ch3⟩
  have hs3 : W.heap.size + 2 ≤ w3.heap.size := by have := ch3.size; have := Hz2.out; omega
  have c3 : Ch (fun _ => False) w3 (w3.alloc (.cells #[.int .i64 0] 3)) := ch_new _ _
  have S0 : MSt W w3.heap.size 0 false (w3.alloc (.cells #[.int .i64 0] 3)) :=
    ⟨MAt.keep c3 (MAt.keep ch3 (MAt.keep ch2 m1 (fun h => h)) (fun h => h)) (fun h => h), MAt.keep c3 (MAt.keep ch3 m2 (fun h => h)) (fun h => h), alloc_heap_new _ _, (((ch1.trans ch2).trans ch3).trans c3).mono (fun _ _ h => h.elim)⟩
  have HS := Lib.hid S0
  clear m1 m2 ch1 ch2 ch3 c3 Hz1 Hz2 S0
  go_wp2_with fail
  go_loopw [8, 9] (fun s i wr => ∃ (k : Nat) (st : Bool), i = .int .i64 k ∧ k ≤ l.length ∧ k ≤ 30 ∧ s = .bool st ∧ MSt W w3.heap.size k st wr) (fun _ i _ => l.length - (intOf i).toNat)
  case atStart => exact ⟨0, false, rfl, Nat.zero_le _, by omega, rfl, HS.out⟩
  case round =>
    obtain ⟨k, st, rfl, hk, hk30, rfl, hS⟩ := hrel
    by_cases hlt : k < l.length ∧ k < 30
    · obtain ⟨hk1, hk2⟩ := hlt
      obtain ⟨g, off, rfl, hg, hcell⟩ := Rd.at h0.rd (k := 0) (by rw [flat_len _ 1 (fun _ => rfl)]; omega)
      have hx0 := hS.hch.cell (hcell (k * 1 + 0) _ ((flat_get _ 1 (fun _ => rfl) l k hk1 0 (by omega)).trans rfl)) (by show ¬ _ ≤ g; omega)
      rw [show off + (k * 1 + 0) = off + k by omega] at hx0
      generalize l[k] = x at hx0
      obtain ⟨hm, ho, hd, hch⟩ := hS
      clear hcell
      go_wp2_with fail
      refine (madd_M hm 0 0 rfl (by omega) 1).mono ?_; rintro e w4 ⟨rfl, m4, ch4⟩
      have hw1 : wrap64 ((k : Int) + 1) = ((k + 1 : Nat) : Int) := by unfold wrap64; omega
      simp only [List.getD_cons_zero, List.set_cons_zero, hw1] at m4
      have S4 : MSt W w3.heap.size (k + 1) st w4 := ⟨m4, MAt.keep ch4 ho (by omega), ch4.heap hd (by omega), hch.seq ch4 _ (fun _ _ h => h) (fun _ _ h => by omega)⟩
      have hx4 := ch4.cell hx0 (by show ¬ g = _; omega)
      clear hm ho hd hch m4 ch4 hx0 hw1
      go_upto_if 37 with fail
      go_cut [8] (fun s w' => ∃ st' : Bool, s = .bool st' ∧ MSt W w3.heap.size (k + 1) st' w')
      case first =>
        cases x
        · go_wp2_with fail
          go_meet
          exact ⟨st, rfl, S4⟩
        · cases st
          · go_wp2_with fail
            refine (stop_o1 w3.heap.size 0 W.heap.size _ _ S4.m S4.d (by omega)).mono ?_; rintro e w5 ⟨rfl, m5, d5, ch5⟩
            have S5 : MSt W w3.heap.size (k + 1) true w5 := ⟨m5, MAt.keep ch5 S4.o (by omega), by rw [d5]; simp [wrap64, b01], S4.hch.seq ch5 _ (fun _ _ h => h) (fun _ _ h => by omega)⟩
            clear d5 m5 ch5
            go_wp2_with fail
            go_meet
            exact ⟨true, rfl, S5⟩
          · go_wp2_with fail
            refine (stop_again W.heap.size _ _ _ _ 1 _ S4.m).mono ?_; rintro e w5 ⟨rfl, ch5⟩
            have S5 : MSt W w3.heap.size (k + 1) true w5 := ⟨MAt.keep ch5 S4.m (fun h => h), MAt.keep ch5 S4.o (fun h => h), ch5.heap S4.d (fun h => h), S4.hch.seq ch5 _ (fun _ _ h => h) (fun _ _ h => h.elim)⟩
            clear ch5
            go_wp2_with fail
            go_meet
            exact ⟨true, rfl, S5⟩
      case rest =>
        obtain ⟨st', rfl, S5⟩ := hcut
        have hdc : wc.cell? ⟨w3.heap.size, 0, none⟩ = some (.int .i64 (b01 st')) := by rw [cellH S5.d]; rfl
        have hv := mval_M S5.m 0 0 rfl (by omega)
        simp only [List.getD_cons_zero] at hv
        have Hv := Lib.hid hv
        clear hv S4 hx4
        cases st'
        all_goals
          go_wp2_with fail
          refine (stopped_any _ _ _ _ _ _ S5.m).mono ?_; rintro e w' ⟨rfl, rfl⟩
          go_wp2_with fail
          refine (stopped_any _ _ _ _ _ _ S5.o).mono ?_; rintro e w' ⟨rfl, rfl⟩
          go_wp2_with fail
          refine Hv.out.mono ?_; rintro e w' ⟨rfl, rfl⟩
          go_wp2_with fail
          go_roundw
          case rel => exact ⟨k + 1, _, by go_num, by omega, by omega, rfl, S5⟩
          case measure => simp [intOf]; omega
    · obtain ⟨hm, ho, hd, hch⟩ := hS
      have p0 := Int.emod_nonneg n (show (9 : Int) ≠ 0 by omega)
      have p1 := Int.emod_lt_of_pos n (show (0 : Int) < 9 by omega)
      have hup := fun (q : Int) (h : 0 < q) => mraise_upM ho 3 (by omega) q h
      have Hup := Lib.hid hup
      clear hup
      go_wp2_with fail
      all_goals
        refine (mval_M ho 0 0 rfl (by omega)).mono ?_; rintro e w' ⟨rfl, rfl⟩
        simp only [List.getD_cons_zero]
        go_wp2_with fail
        refine (pick_any n 9 _ (by omega) (by omega)).mono ?_; rintro e w' ⟨rfl, rfl⟩
        generalize n % 9 = q at p0 p1 ⊢
        go_wp2_with fail
        refine (Hup.out (1 + q) (by omega)).mono ?_; rintro e w' ⟨rfl, _, ch5⟩
        go_wp2_with fail
        go_ret
        exact ⟨rfl, (hch.seq ch5 (fun k => W.heap.size ≤ k) (fun _ _ h => h) (fun _ _ h => by omega)).below (Nat.le_refl _) (fun k hk h => by omega)⟩

end Go.Proofs.Ytlphhadomhdacaa
