/- The meter said of its block as a whole. -/
import Derived.Test.YtlphhadomhdacaaKit
import Derived.Test.YtlphhadomhdacaaMeter
namespace Go.Proofs.Ytlphhadomhdacaa
open Go Go.RowKit

/-- A meter lies in block b. -/
def MAt (w : World) (b : Nat) (ns : List Int) (rest : List Value) : Prop :=
  ns.length = 5 ∧ w.heap[b]? = some (.cells ((ns.map (Value.int .i64)) ++ rest).toArray 77 (0, 0))

theorem MAt.cell {w : World} {b : Nat} {ns : List Int} {rest : List Value} (h : MAt w b ns rest) {k : Nat} (hk : k < 5) : w.cell? ⟨b, k, none⟩ = some (.int .i64 (ns.getD k 0)) := by
  have hk' : k < ns.length := by rw [h.1]; exact hk
  rw [cellH h.2]
  simp [List.getElem?_append, hk']
theorem MAt.frozen {w : World} {b : Nat} {ns : List Int} {rest : List Value} (h : MAt w b ns rest) (k : Nat) : w.frozen? ⟨b, k, none⟩ = false := frozH h.2 k
theorem MAt.set {w : World} {b : Nat} {ns : List Int} {rest : List Value} (h : MAt w b ns rest) {k : Nat} (hk : k < 5) (x : Int) : MAt (w.setCell ⟨b, k, none⟩ (.int .i64 x)) b (ns.set k x) rest := by
  have hk' : k < ns.length := by rw [h.1]; exact hk
  refine ⟨by simp [h.1], ?_⟩
  rw [setH h.2]
  congr 2
  apply Array.ext'
  simp [hk', List.map_set]
theorem MAt.keep {S : Nat → Prop} {w w' : World} (h : Ch S w w') {b : Nat} {ns : List Int} {rest : List Value} (hm : MAt w b ns rest) (hs : ¬ S b) : MAt w' b ns rest := ⟨hm.1, h.heap hm.2 hs⟩
theorem set_ch (w : World) (b o : Nat) (u : Value) : Ch (fun k => k = b) w (w.setCell ⟨b, o, none⟩ u) := Ch.setCell (S := fun k => k = b) (Ch.refl _ _) (p := ⟨b, o, none⟩) (fun _ => rfl) _

theorem madd_M {w : World} {b : Nat} {ns : List Int} {rest : List Value} (h : MAt w b ns rest) (k : Int) (j : Nat) (hj : k = j) (hk : j < 5) (n : Int) :
    Calls Try.prog 16 #[.pointer (some ⟨b, 0, none⟩), .int .i64 k, .int .i64 n] w fun e w' => e = .returned (.bool true) ∧ MAt w' b (ns.set j (wrap64 (ns.getD j 0 + n))) rest ∧ Ch (fun k => k = b) w w' := by
  subst hj
  refine (madd_yes b j _ n w hk (h.cell hk) (h.frozen _)).mono ?_
  rintro e w' ⟨rfl, rfl⟩
  exact ⟨rfl, h.set hk _, set_ch _ _ _ _⟩

theorem mraise_M {w : World} {b : Nat} {ns : List Int} {rest : List Value} (h : MAt w b ns rest) (k : Int) (j : Nat) (hj : k = j) (hk : j < 5) (n : Int) :
    Calls Try.prog 17 #[.pointer (some ⟨b, 0, none⟩), .int .i64 k, .int .i64 n] w fun e w' => e = .returned (.bool (decide (ns.getD j 0 < n))) ∧ MAt w' b (ns.set j (max (ns.getD j 0) n)) rest ∧ Ch (fun k => k = b) w w' := by
  subst hj
  by_cases hn : n ≤ ns.getD j 0
  · refine (mraise_low b j _ n w hk (h.cell hk) hn).mono ?_
    rintro e w' ⟨rfl, rfl⟩
    refine ⟨by simp only [decide_eq_false (show ¬ ns.getD j 0 < n by omega)], ?_, Ch.refl _ _⟩
    rw [Int.max_eq_left hn]
    have : ns.set j (ns.getD j 0) = ns := by
      have hl : j < ns.length := by rw [h.1]; exact hk
      simp [hl]
    rw [this]; exact h
  · refine (mraise_up b j _ n w hk (h.cell hk) (h.frozen _) (by omega)).mono ?_
    rintro e w' ⟨rfl, rfl⟩
    refine ⟨by simp only [decide_eq_true (show ns.getD j 0 < n by omega)], ?_, set_ch _ _ _ _⟩
    rw [Int.max_eq_right (by omega)]
    exact h.set hk _

theorem mraise_upM {w : World} {b : Nat} {ns : List Int} {rest : List Value} (h : MAt w b ns rest) (j : Nat) (hk : j < 5) (n : Int) (hn : ns.getD j 0 < n) :
    Calls Try.prog 17 #[.pointer (some ⟨b, 0, none⟩), .int .i64 j, .int .i64 n] w fun e w' => e = .returned (.bool true) ∧ MAt w' b (ns.set j n) rest ∧ Ch (fun k => k = b) w w' := by
  refine (mraise_up b j _ n w hk (h.cell hk) (h.frozen _) hn).mono ?_
  rintro e w' ⟨rfl, rfl⟩
  exact ⟨rfl, h.set hk _, set_ch _ _ _ _⟩
theorem mraise_lowM {w : World} {b : Nat} {ns : List Int} {rest : List Value} (h : MAt w b ns rest) (j : Nat) (hk : j < 5) (n : Int) (hn : n ≤ ns.getD j 0) :
    Calls Try.prog 17 #[.pointer (some ⟨b, 0, none⟩), .int .i64 j, .int .i64 n] w fun e w' => e = .returned (.bool false) ∧ w' = w :=
  mraise_low b j _ n w hk (h.cell hk) hn

theorem mval_M {w : World} {b : Nat} {ns : List Int} {rest : List Value} (h : MAt w b ns rest) (k : Int) (j : Nat) (hj : k = j) (hk : j < 5) :
    Calls Try.prog 18 #[.pointer (some ⟨b, 0, none⟩), .int .i64 k] w fun e w' => e = .returned (.int .i64 (ns.getD j 0)) ∧ w' = w := by
  subst hj
  exact mval_yes b j _ w hk (h.cell hk)

theorem new_M (w : World) : Calls Try.prog 13 #[] w fun e w' => e = .returned (.pointer (some ⟨w.heap.size, 0, none⟩)) ∧
    MAt w' w.heap.size [0, 0, 0, 0, 0] [.int .u32 0, .int .i32 0, .int .u32 0, .int .u32 0] ∧ Ch (fun _ => False) w w' ∧ w'.heap.size = w.heap.size + 1 := by
  refine (new_any w).mono ?_
  rintro e w' ⟨rfl, rfl⟩
  exact ⟨rfl, ⟨rfl, by simpa using alloc_heap_new w _⟩, (Ch.refl _ _).alloc _, by simp⟩

theorem mknown_M (w : World) : Calls Try.prog 14 #[] w fun e w' => e = .returned (.bool true) ∧ Ch (fun _ => False) w w' :=
  (mknown_any w).mono fun _ _ ⟨h1, h2⟩ => ⟨h1, Ch.ofNew h2 _⟩

theorem mval_Z {w : World} {b : Nat} {ns : List Int} {rest : List Value} (h : MAt w b ns rest) (k : Int) (h0 : 0 ≤ k) (h5 : k < 5) :
    Calls Try.prog 18 #[.pointer (some ⟨b, 0, none⟩), .int .i64 k] w fun e w' => e = .returned (.int .i64 (ns.getD k.toNat 0)) ∧ w' = w :=
  mval_M h k k.toNat (by omega) (by omega)

set_option maxHeartbeats 1000000 in
theorem mall_M {w : World} {b : Nat} {n0 n1 n2 n3 n4 : Int} {rest : List Value} (h : MAt w b [n0, n1, n2, n3, n4] rest) :
    Calls Try.prog 19 #[.pointer (some ⟨b, 0, none⟩)] w fun e w' => e = .returned (.agg #[.int .i64 n0, .int .i64 n1, .int .i64 n2, .int .i64 n3, .int .i64 n4]) ∧ Ch (fun _ => False) w w' := by
  have hlt := block_lt h.2
  go_enter Try.func19, Try.ntmps19
  go_wp2_with fail
  refine wp_loop_rounds 6 ?_
  iterate 6
    rw [rounds_succ]
    go_wp2_with (go_at_call 18; refine (mval_Z (MAt.keep (((Ch.refl (fun _ => False) w).alloc _).alloc _) h (fun h => h)) _ (by omega) (by omega)).mono ?_; rintro e w' ⟨rfl, rfl⟩)
  refine bodyPost_ret (v := .agg #[.int .i64 n0, .int .i64 n1, .int .i64 n2, .int .i64 n3, .int .i64 n4]) (by simp [results, Try.results19, go_sem]) rfl ⟨rfl, ?_⟩
  exact ((Ch.refl _ _).alloc _).alloc _

end Go.Proofs.Ytlphhadomhdacaa
