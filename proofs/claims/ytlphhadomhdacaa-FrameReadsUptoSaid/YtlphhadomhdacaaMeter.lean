/- What each of the meter's functions does to a meter's block, said of its cells. -/
import Derived.Test.YtlphhadomhdacaaRows
import Derived.WalkKit
import Derived.WalkSpells
import Derived.WalkLawsBesides
namespace Go.Proofs.Ytlphhadomhdacaa
open Go.RowKit

theorem i64_add_any (b o : Nat) (x y : Int) (w : World) (hc : w.cell? ⟨b, o, none⟩ = some (.int .i64 x)) (hf : w.frozen? ⟨b, o, none⟩ = false) :
    Calls Try.prog 38 #[.pointer (some ⟨b, o, none⟩), .int .i64 y] w fun e w' => e = .returned (.int .i64 (wrap64 (x + y))) ∧ w' = w.setCell ⟨b, o, none⟩ (.int .i64 (wrap64 (x + y))) := by
  have hadd := run_call_add (P := Try.prog) Try.func61 (by kernel_rfl) (by kernel_rfl) (by kernel_rfl) .i64 (by kernel_rfl) (y := y) (s := wrap64 (x + y)) hc hf (by simp [go_sem, wrap64, IntKind.wrap_i64])
  go_enter Try.func38, Try.ntmps38
  go_wp2
  go_ret
  exact ⟨rfl, rfl⟩

theorem i64_load_any (b o : Nat) (x : Int) (w : World) (hc : w.cell? ⟨b, o, none⟩ = some (.int .i64 x)) :
    Calls Try.prog 39 #[.pointer (some ⟨b, o, none⟩)] w fun e w' => e = .returned (.int .i64 x) ∧ w' = w := by
  have hadd := run_call_load (P := Try.prog) Try.func62 (by kernel_rfl) (by kernel_rfl) (by kernel_rfl) .i64 (by kernel_rfl) hc
  go_enter Try.func39, Try.ntmps39
  go_wp2
  go_ret
  exact ⟨rfl, rfl⟩

theorem i64_cas_any (b o : Nat) (x y : Int) (w : World) (hc : w.cell? ⟨b, o, none⟩ = some (.int .i64 x)) (hf : w.frozen? ⟨b, o, none⟩ = false) :
    Calls Try.prog 40 #[.pointer (some ⟨b, o, none⟩), .int .i64 x, .int .i64 y] w fun e w' => e = .returned (.bool true) ∧ w' = w.setCell ⟨b, o, none⟩ (.int .i64 y) := by
  have hadd := run_call_cas_hit (P := Try.prog) Try.func63 (by kernel_rfl) (by kernel_rfl) (by kernel_rfl) .i64 (by kernel_rfl) (y := y) hc hf
  go_enter Try.func40, Try.ntmps40
  go_wp2
  go_ret
  exact ⟨rfl, rfl⟩

def isKind (k : Int) : Bool := decide (0 ≤ k ∧ k < 5)

theorem is_any (k : Int) (w : World) :
    Calls Try.prog 37 #[.int .i64 k] w fun e w' => e = .returned (.bool (isKind k)) ∧ w' = w := by
  by_cases h0 : 0 ≤ k <;> by_cases h5 : k < 5 <;>
  · go_enter Try.func37, Try.ntmps37
    go_wp2
    go_ret
    exact ⟨by simp [isKind, h0, h5], rfl⟩

theorem new_any (w : World) :
    Calls Try.prog 13 #[] w fun e w' => e = .returned (.pointer (some ⟨w.heap.size, 0, none⟩)) ∧ w' = w.alloc (.cells
        #[.int .i64 0, .int .i64 0, .int .i64 0, .int .i64 0, .int .i64 0, .int .u32 0, .int .i32 0, .int .u32 0, .int .u32 0] 77) := by
  go_enter Try.func13, Try.ntmps13
  go_wp2
  go_ret
  exact ⟨rfl, rfl⟩

theorem madd_no (a : Value) (k n : Int) (w : World) (hk : isKind k = false) :
    Calls Try.prog 16 #[a, .int .i64 k, .int .i64 n] w fun e w' => e = .returned (.bool false) ∧ w' = w := by
  go_enter Try.func16, Try.ntmps16
  go_wp2_with (go_at_call 37; refine (is_any _ _).mono ?_; rintro e w' ⟨rfl, rfl⟩)
  go_ret
  exact ⟨rfl, rfl⟩

theorem madd_yes (b : Nat) (k : Nat) (x n : Int) (w : World) (hk : k < 5) (hc : w.cell? ⟨b, k, none⟩ = some (.int .i64 x)) (hf : w.frozen? ⟨b, k, none⟩ = false) :
    Calls Try.prog 16 #[.pointer (some ⟨b, 0, none⟩), .int .i64 k, .int .i64 n] w fun e w' => e = .returned (.bool true) ∧ w' = w.setCell ⟨b, k, none⟩ (.int .i64 (wrap64 (x + n))) := by
  have hi : isKind k = true := by simp [isKind]; omega
  go_enter Try.func16, Try.ntmps16
  go_wp2_with (first
    | (go_at_call 37; refine (is_any _ _).mono ?_; rintro e w' ⟨rfl, rfl⟩)
    | (go_at_call 38; refine (i64_add_any b k x n _ hc hf).mono ?_; rintro e w' ⟨rfl, rfl⟩))
  go_ret
  exact ⟨rfl, rfl⟩

theorem mval_no (a : Value) (k : Int) (w : World) (hk : isKind k = false) :
    Calls Try.prog 18 #[a, .int .i64 k] w fun e w' => e = .returned (.int .i64 0) ∧ w' = w := by
  go_enter Try.func18, Try.ntmps18
  go_wp2_with (go_at_call 37; refine (is_any _ _).mono ?_; rintro e w' ⟨rfl, rfl⟩)
  go_ret
  exact ⟨rfl, rfl⟩

theorem mval_yes (b : Nat) (k : Nat) (x : Int) (w : World) (hk : k < 5) (hc : w.cell? ⟨b, k, none⟩ = some (.int .i64 x)) :
    Calls Try.prog 18 #[.pointer (some ⟨b, 0, none⟩), .int .i64 k] w fun e w' => e = .returned (.int .i64 x) ∧ w' = w := by
  have hi : isKind k = true := by simp [isKind]; omega
  go_enter Try.func18, Try.ntmps18
  go_wp2_with (first
    | (go_at_call 37; refine (is_any _ _).mono ?_; rintro e w' ⟨rfl, rfl⟩)
    | (go_at_call 39; refine (i64_load_any b k x _ hc).mono ?_; rintro e w' ⟨rfl, rfl⟩))
  go_ret
  exact ⟨rfl, rfl⟩

theorem mraise_no (a : Value) (k n : Int) (w : World) (hk : isKind k = false) :
    Calls Try.prog 17 #[a, .int .i64 k, .int .i64 n] w fun e w' => e = .returned (.bool false) ∧ w' = w := by
  go_enter Try.func17, Try.ntmps17
  go_wp2_with (go_at_call 37; refine (is_any _ _).mono ?_; rintro e w' ⟨rfl, rfl⟩)
  go_ret
  exact ⟨rfl, rfl⟩

theorem mraise_low (b : Nat) (k : Nat) (x n : Int) (w : World) (hk : k < 5) (hc : w.cell? ⟨b, k, none⟩ = some (.int .i64 x)) (hn : n ≤ x) :
    Calls Try.prog 17 #[.pointer (some ⟨b, 0, none⟩), .int .i64 k, .int .i64 n] w fun e w' => e = .returned (.bool false) ∧ w' = w := by
  have hi : isKind k = true := by simp [isKind]; omega
  go_enter Try.func17, Try.ntmps17
  go_wp2_with (go_at_call 37; refine (is_any _ _).mono ?_; rintro e w' ⟨rfl, rfl⟩)
  refine wp_loop_rounds 1 ?_
  rw [rounds_succ]
  go_wp2_with (go_at_call 39; refine (i64_load_any b k x _ hc).mono ?_; rintro e w' ⟨rfl, rfl⟩)
  go_ret
  exact ⟨rfl, rfl⟩

theorem mraise_up (b : Nat) (k : Nat) (x n : Int) (w : World) (hk : k < 5) (hc : w.cell? ⟨b, k, none⟩ = some (.int .i64 x)) (hf : w.frozen? ⟨b, k, none⟩ = false) (hn : x < n) :
    Calls Try.prog 17 #[.pointer (some ⟨b, 0, none⟩), .int .i64 k, .int .i64 n] w fun e w' => e = .returned (.bool true) ∧ w' = w.setCell ⟨b, k, none⟩ (.int .i64 n) := by
  have hi : isKind k = true := by simp [isKind]; omega
  go_enter Try.func17, Try.ntmps17
  go_wp2_with (go_at_call 37; refine (is_any _ _).mono ?_; rintro e w' ⟨rfl, rfl⟩)
  refine wp_loop_rounds 1 ?_
  rw [rounds_succ]
  go_wp2_with (first
    | (go_at_call 39; refine (i64_load_any b k x _ hc).mono ?_; rintro e w' ⟨rfl, rfl⟩)
    | (go_at_call 40; refine (i64_cas_any b k x n _ hc hf).mono ?_; rintro e w' ⟨rfl, rfl⟩))
  go_ret
  exact ⟨rfl, rfl⟩

theorem pick_any (n m : Int) (w : World) (hm : 1 ≤ m) (hm' : m ≤ 9223372036854775807) :
    Calls Try.prog 15 #[.int .i64 n, .int .i64 m] w fun e w' => e = .returned (.int .i64 (n % m)) ∧ w' = w := by
  have h1 : n % m = if n.tmod m < 0 then n.tmod m + m else n.tmod m := by
    have h2 := Int.emod_nonneg n (show m ≠ 0 by omega)
    have h3 := Int.emod_lt_of_pos n (show 0 < m by omega)
    rw [Int.tmod_eq_emod]
    split <;> split <;> omega
  have h4 := Int.tmod_lt_of_pos n (show 0 < m by omega)
  have h5 : -m < n.tmod m := Int.lt_tmod_of_pos n (show 0 < m by omega)
  by_cases hlt : n.tmod m < 0
  · rw [if_pos hlt] at h1
    rw [h1]; clear h1
    go_enter Try.func15, Try.ntmps15
    go_wp2
    go_ret
    exact ⟨rfl, rfl⟩
  · rw [if_neg hlt] at h1
    rw [h1]; clear h1
    go_enter Try.func15, Try.ntmps15
    go_wp2
    go_ret
    exact ⟨rfl, rfl⟩

set_option maxHeartbeats 400000 in
theorem mknown_any (w : World) :
    Calls Try.prog 14 #[] w fun e w' => e = .returned (.bool true) ∧ Below w.heap.size w w' := by
  have i0 : isKind 0 = true := by decide
  go_enter Try.func14, Try.ntmps14
  go_wp2_with fail
  refine (new_any _).mono ?_; rintro e w' ⟨rfl, rfl⟩
  go_wp2_with fail
  refine (madd_yes _ 0 0 2 _ (by omega) (by simp [go_sem]) (by simp [go_sem])).mono ?_; rintro e w' ⟨rfl, rfl⟩
  go_wp2_with fail
  refine (mraise_low _ 0 2 1 _ (by omega) (by simp [go_sem, wrap64]) (by omega)).mono ?_; rintro e w' ⟨rfl, rfl⟩
  go_wp2_with fail
  refine (mval_yes _ 0 2 _ (by omega) (by simp [go_sem, wrap64])).mono ?_; rintro e w' ⟨rfl, rfl⟩
  go_wp2_with fail
  refine (mraise_up _ 0 2 5 _ (by omega) (by simp [go_sem, wrap64]) (by simp [go_sem]) (by omega)).mono ?_; rintro e w' ⟨rfl, rfl⟩
  go_wp2_with fail
  refine (mval_yes _ 0 5 _ (by omega) (by simp [go_sem, wrap64])).mono ?_; rintro e w' ⟨rfl, rfl⟩
  go_wp2_with fail
  go_ret
  refine ⟨rfl, ?_⟩
  exact (Below.refl _ _).alloc (Nat.le_refl _) _

end Go.Proofs.Ytlphhadomhdacaa
