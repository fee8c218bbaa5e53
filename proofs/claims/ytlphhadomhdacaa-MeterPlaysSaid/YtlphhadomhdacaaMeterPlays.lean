/- MeterPlays: the walk. -/
import Derived.Test.YtlphhadomhdacaaKit
import Derived.Test.YtlphhadomhdacaaMeterM
import Derived.Test.YtlphhadomhdacaaRead
import Derived.Outline
import Derived.Deep.DeepCutAuto
import Derived.Deep.CutBlock
import Derived.Deep.QuietTactic
import Derived.BigQuiet
import Derived.RegionTactic
import Derived.Deep.RegionWith
namespace Go.Proofs.Ytlphhadomhdacaa
open Go Go.RowKit

/-- A step's cells. -/
def stepCells (x : Bool × Int × Int) : List Value := [.bool x.1, .int .i64 x.2.1, .int .i64 x.2.2]

/-- An array of five counters. -/
def AAt (w : World) (b : Nat) (ns : List Int) : Prop := ns.length = 5 ∧ w.heap[b]? = some (.cells (ns.map (Value.int .i64)).toArray 31 (0, 0))

theorem AAt.cell {w : World} {b : Nat} {ns : List Int} (h : AAt w b ns) {k : Nat} (hk : k < 5) : w.cell? ⟨b, k, none⟩ = some (.int .i64 (ns.getD k 0)) := by
  have hk' : k < ns.length := by rw [h.1]; exact hk
  rw [cellH h.2]
  simp [hk']
theorem AAt.frozen {w : World} {b : Nat} {ns : List Int} (h : AAt w b ns) (k : Nat) : w.frozen? ⟨b, k, none⟩ = false := frozH h.2 k
theorem AAt.set {w : World} {b : Nat} {ns : List Int} (h : AAt w b ns) (k : Nat) (x : Int) : AAt (w.setCell ⟨b, k, none⟩ (.int .i64 x)) b (ns.set k x) := by
  refine ⟨by simp [h.1], ?_⟩
  rw [setH h.2]
  congr 2
  apply Array.ext'
  simp [List.map_set]
theorem AAt.keep {S : Nat → Prop} {w w' : World} (h : Ch S w w') {b : Nat} {ns : List Int} (hm : AAt w b ns) (hs : ¬ S b) : AAt w' b ns := ⟨hm.1, h.heap hm.2 hs⟩

def PWorld (W : World) (B wb : Nat) (wr : World) : Prop :=
  ∃ ns : List Int, MAt wr B ns [.int .u32 0, .int .i32 0, .int .u32 0, .int .u32 0] ∧ AAt wr wb ns ∧ Ch (fun b => W.heap.size ≤ b) W wr

theorem PWorld.ch {W : World} {B wb : Nat} {wr : World} (h : PWorld W B wb wr) : Ch (fun b => W.heap.size ≤ b) W wr := by
  obtain ⟨_, _, _, h⟩ := h; exact h

theorem PWorld.add {W : World} {B wb j : Nat} {w4 : World} {ns : List Int} {x : Int} (hm : MAt w4 B (ns.set j x) [.int .u32 0, .int .i32 0, .int .u32 0, .int .u32 0]) (ha : AAt w4 wb ns) (hch : Ch (fun b => W.heap.size ≤ b) W w4)
    (h1 : W.heap.size ≤ wb) (h2 : B ≠ wb) : PWorld W B wb (w4.setCell ⟨wb, j, none⟩ (.int .i64 x)).drew :=
  ⟨ns.set j x, MAt.keep (set_ch w4 wb j (.int .i64 x)) hm h2, ha.set j x, (hch.setCell (p := ⟨wb, j, none⟩) (fun _ => h1) _).drew⟩

theorem PWorld.add' {W : World} {B wb j : Nat} {w4 : World} {ns : List Int} {x : Int} (hm : MAt w4 B (ns.set j x) [.int .u32 0, .int .i32 0, .int .u32 0, .int .u32 0]) (ha : AAt w4 wb ns) (hch : Ch (fun b => W.heap.size ≤ b) W w4)
    (h1 : W.heap.size ≤ wb) (h2 : B ≠ wb) : PWorld W B wb (w4.setCell ⟨wb, j, none⟩ (.int .i64 x)) :=
  ⟨ns.set j x, MAt.keep (set_ch w4 wb j (.int .i64 x)) hm h2, ha.set j x, hch.setCell (p := ⟨wb, j, none⟩) (fun _ => h1) _⟩
theorem five {ns : List Int} (h : ns.length = 5) : ∃ n0 n1 n2 n3 n4, ns = [n0, n1, n2, n3, n4] := by
  match ns, h with
  | [a, b, c, d, e], _ => exact ⟨a, b, c, d, e, rfl⟩

theorem eq5 (n0 n1 n2 n3 n4 : Int) (w : World) : (Op.equalIn 10000 31 (.agg #[.int .i64 n0, .int .i64 n1, .int .i64 n2, .int .i64 n3, .int .i64 n4]) (.agg #[.int .i64 n0, .int .i64 n1, .int .i64 n2, .int .i64 n3, .int .i64 n4])).run Try.prog w = .ok true w := by
  have c3 : ∀ w, (sizeOf 3).run Try.prog w = .ok 1 w := fun _ => by kernel_rfl
  have l5 : List.range' 0 5 = [0,1,2,3,4] := rfl
  have hp : ∀ (cs : Array Value) (i : Nat) (n : Int) (w : World), cs[i]? = some (.int .i64 n) → (part 3 cs i).run Try.prog w = .ok (.int .i64 n) w := by
    intro cs i n w h
    simp [part, h, go_sem]
  rw [show (10000 : Nat) = 9998 + 1 + 1 from rfl, Op.equalIn]
  simp [run_underlying Try.underlying31, c3, Std.Legacy.Range.forIn_eq_forIn_range', Std.Legacy.Range.size, l5, hp, run_equalIn_int _ 9998 3 .i64 .i64 _ _ Try.underlying3]

structure PRel (W : World) (l : List (Bool × Int × Int)) (B wb : Nat) (k : Nat) (wr : World) : Prop where
  hk : k ≤ l.length
  hk80 : k ≤ 80
  hw : PWorld W B wb wr

set_option maxRecDepth 100000 in
set_option maxHeartbeats 1000000 in
theorem plays_walk (W : World) (a0 : Option Addr) (c0 : Nat) (l : List (Bool × Int × Int)) (hl : l.length ≤ 9223372036854775807) (r0 : Rd W a0 (l.flatMap stepCells)) :
    Calls Try.prog 4 #[.slice a0 l.length c0] W fun e w' => e = .returned (.bool true) ∧ Below W.heap.size W w' := by
  go_enter Try.func4, Try.ntmps4
  go_wp2_with fail
  refine (new_M _).mono ?_; rintro e w1 ⟨rfl, m1, ch1, z1⟩
  go_wp2_with fail
  refine (mknown_M _).mono ?_; rintro e w3 ⟨rfl, ch3⟩
  have m3 := MAt.keep ch3 m1 (fun h => h)
  have ch := ch1.trans ch3
  have hz : W.heap.size + 1 ≤ w3.heap.size := by have := ch3.size; omega
  clear m1 ch1 ch3 z1
  go_wp2_with fail
  go_loopw [5, 6, 7, 8] (fun i _ _ _ wr => ∃ k : Nat, i = .int .i64 k ∧ PRel W l W.heap.size w3.heap.size k wr) (fun i _ _ _ _ => l.length - (intOf i).toNat)
  case atStart =>
    refine ⟨0, rfl, Nat.zero_le _, by omega, [0, 0, 0, 0, 0], MAt.keep (ch_new _ _) m3 (fun h => h), ⟨rfl, by simpa using alloc_heap_new w3 _⟩, (Ch.mono ch (fun _ _ (h : False) => h.elim)).alloc _⟩
  case round =>
    obtain ⟨k, rfl, hr⟩ := hrel
    by_cases hk : k < l.length ∧ k < 80
    · obtain ⟨hk1, hk2⟩ := hk
      obtain ⟨b, off, rfl, hbs, hcell⟩ := Rd.at r0 (k := 0) (by rw [flat_len _ 3 (fun _ => rfl)]; omega)
      have hx0 := hr.hw.ch.cell (hcell (k * 3 + 0) _ ((flat_get _ 3 (fun _ => rfl) l k hk1 0 (by omega)).trans rfl)) (by show ¬ _ ≤ b; omega)
      have hx1 := hr.hw.ch.cell (hcell (k * 3 + 1) _ ((flat_get _ 3 (fun _ => rfl) l k hk1 1 (by omega)).trans rfl)) (by show ¬ _ ≤ b; omega)
      have hx2 := hr.hw.ch.cell (hcell (k * 3 + 2) _ ((flat_get _ 3 (fun _ => rfl) l k hk1 2 (by omega)).trans rfl)) (by show ¬ _ ≤ b; omega)
      obtain ⟨hk, hk30, ⟨ns, hm, ha, hch⟩⟩ := hr
      rw [show off + (k * 3 + 0) = off + k * 3 by omega] at hx0
      rw [show off + (k * 3 + 1) = off + k * 3 + 1 by omega] at hx1
      rw [show off + (k * 3 + 2) = off + k * 3 + 2 by omega] at hx2
      generalize l[k] = x at hx0 hx1 hx2
      obtain ⟨rz, kd, n⟩ := x
      have p0 := Int.emod_nonneg kd (show (7 : Int) ≠ 0 by omega)
      have p1 := Int.emod_lt_of_pos kd (show (0 : Int) < 7 by omega)
      go_wp2_with fail
      refine (pick_any kd 7 _ (by omega) (by omega)).mono ?_; rintro e w' ⟨rfl, rfl⟩
      generalize kd % 7 = q at p0 p1
      go_upto_region 9 with fail
      by_cases hin : 1 ≤ q ∧ q ≤ 5
      · obtain ⟨j, hj⟩ := Int.eq_ofNat_of_zero_le (show 0 ≤ q - 1 by omega)
        obtain rfl : q = (j : Int) + 1 := by omega
        have hj5 : j < 5 := by omega
        rw [show (j : Int) + 1 - 1 = j by omega]
        clear hj p0 p1 hin
        have hjb : decide ((j : Int) < 5) = true := decide_eq_true (by omega)
        go_upto_if 43 with fail
        go_cut [8] (fun _ w' => PWorld W W.heap.size w3.heap.size w')
        case first =>
          have hac := ha.cell hj5
          have haf := ha.frozen j
          have hmc := hm.cell hj5
          generalize hnj : ns.getD j 0 = x at hac hmc
          have Hnj := Lib.hid hnj; clear hnj
          cases rz
          · go_wp2_with fail
            refine (madd_M hm _ j rfl hj5 _).mono ?_; rintro e w4 ⟨rfl, hm4, ch4⟩
            have ha4 := AAt.keep ch4 ha (by omega)
            have hac4 := ch4.cell hac (by show ¬ w3.heap.size = _; omega)
            have haf4 := ha4.frozen j
            have hx4 := ch4.cell hx2 (by show ¬ b = _; omega)
            have hch4 : Ch (fun b => W.heap.size ≤ b) W w4 := hch.seq ch4 _ (fun _ _ h => h) (by omega)
            rw [Hnj.out] at hm4
            have Hm4 := Lib.hid hm4
            clear hm ha hac haf hmc hch ch4 hx0 hx1 hx2 hm4
            go_wp2_with fail
            go_region
            all_goals
              go_wp2_with fail
              go_meet
              exact PWorld.add Hm4.out ha4 hch4 (by omega) (by omega)
          · by_cases hup : x < n
            · go_wp2_with fail
              go_quiet (fail)
              go_wp2_with fail
              refine (mraise_upM (show MAt (World.drewN w' _) W.heap.size ns _ from hm) j hj5 n (by rw [Hnj.out]; exact hup)).mono ?_; rintro e w4 ⟨rfl, hm4, ch4⟩
              have ha4 := AAt.keep ch4 ha (by omega)
              have hac4 := ch4.cell hac (by show ¬ w3.heap.size = _; omega)
              have haf4 := ha4.frozen j
              have hx4 := ch4.cell hx2 (by show ¬ b = _; omega)
              have hch4 : Ch (fun b => W.heap.size ≤ b) W w4 := Ch.seq (Ch.drewN hch _) ch4 _ (fun _ _ h => h) (by omega)
              have Hm4 := Lib.hid hm4
              clear hm ha hac haf hmc hch ch4 hx0 hx1 hx2 hm4
              go_wp2_with fail
              go_meet
              exact PWorld.add' Hm4.out ha4 hch4 (by omega) (by omega)
            · go_wp2_with fail
              go_quiet (fail)
              go_wp2_with fail
              refine (mraise_lowM (show MAt (World.drewN w' _) W.heap.size ns _ from hm) j hj5 n (by rw [Hnj.out]; omega)).mono ?_; rintro e w4 ⟨rfl, rfl⟩
              go_wp2_with fail
              go_meet
              exact ⟨ns, hm, ha, hch.drewN _⟩
        case rest =>
          obtain ⟨ns', hm', ha', hch'⟩ := hcut
          obtain ⟨n0, n1, n2, n3, n4, rfl⟩ := five hm'.1
          have c0 := ha'.cell (k := 0) (by omega)
          have c1 := ha'.cell (k := 1) (by omega)
          have c2 := ha'.cell (k := 2) (by omega)
          have c3 := ha'.cell (k := 3) (by omega)
          have c4 := ha'.cell (k := 4) (by omega)
          simp only [List.getD_cons_zero, List.getD_cons_succ] at c0 c1 c2 c3 c4
          go_wp2_with fail
          go_cut [99] (fun s w' => s = .bool false ∧ MAt w' W.heap.size [n0, n1, n2, n3, n4] [.int .u32 0, .int .i32 0, .int .u32 0, .int .u32 0] ∧ AAt w' w3.heap.size [n0, n1, n2, n3, n4] ∧ Ch (fun b => W.heap.size ≤ b) W w')
          case first =>
            have hE := eq5 n0 n1 n2 n3 n4
            go_region_with (first
              | (go_at_call 19; refine (mall_M (w := World.drew wc) hm').mono ?_; rintro e w6 ⟨rfl, ch6⟩; have d0 := ch6.cell c0 (fun h => h); have d1 := ch6.cell c1 (fun h => h); have d2 := ch6.cell c2 (fun h => h); have d3 := ch6.cell c3 (fun h => h); have d4 := ch6.cell c4 (fun h => h)))
            all_goals
              go_wp2_with fail
              go_meet
              exact ⟨rfl, MAt.keep ch6 hm' (fun h => h), AAt.keep ch6 ha' (fun h => h), Ch.seq (Ch.drew hch') ch6 (fun b => W.heap.size ≤ b) (fun _ _ h => h) (fun _ _ (h : False) => h.elim)⟩
          case rest =>
            obtain ⟨rfl, hm2, ha2, hch2⟩ := hcut
            have hmc := hm2.cell hj5
            have hac := ha2.cell hj5
            generalize hnj : ([n0, n1, n2, n3, n4] : List Int).getD j 0 = x at hac hmc
            have Hnj := Lib.hid hnj; clear hnj
            go_wp2_with fail
            go_quiet ((go_at_call 18; exact Calls.quiet_of_same (mval_yes _ _ x _ hj5 hmc)))
            go_wp2_with fail
            go_roundw
            case rel => exact ⟨k + 1, by go_num, by omega, by omega, ⟨_, hm2, ha2, hch2.drewN _⟩⟩
            case measure => simp [intOf]; omega
      · have hqq : q = 0 ∨ q = 6 := by omega
        clear p0 p1 hin
        have hkf : isKind (-1) = false := by decide
        have hkf5 : isKind 5 = false := by decide
        rcases hqq with rfl | rfl
        all_goals
          go_upto_if 43 with fail
          go_cut [8] (fun _ w' => PWorld W W.heap.size w3.heap.size w')
          case first =>
            cases rz
            · go_wp2_with fail
              refine (madd_no _ _ _ _ (by assumption)).mono ?_; rintro e w4 ⟨rfl, rfl⟩
              go_wp2_with fail
              go_meet
              exact ⟨ns, hm, ha, hch⟩
            · go_wp2_with fail
              go_quiet (fail)
              go_wp2_with fail
              refine (mraise_no _ _ _ _ (by assumption)).mono ?_; rintro e w4 ⟨rfl, rfl⟩
              go_wp2_with fail
              go_meet
              exact ⟨ns, hm, ha, hch.drewN _⟩
          case rest =>
            obtain ⟨ns', hm', ha', hch'⟩ := hcut
            obtain ⟨n0, n1, n2, n3, n4, rfl⟩ := five hm'.1
            have c0 := ha'.cell (k := 0) (by omega)
            have c1 := ha'.cell (k := 1) (by omega)
            have c2 := ha'.cell (k := 2) (by omega)
            have c3 := ha'.cell (k := 3) (by omega)
            have c4 := ha'.cell (k := 4) (by omega)
            simp only [List.getD_cons_zero, List.getD_cons_succ] at c0 c1 c2 c3 c4
            go_wp2_with fail
            go_cut [99] (fun s w' => s = .bool false ∧ MAt w' W.heap.size [n0, n1, n2, n3, n4] [.int .u32 0, .int .i32 0, .int .u32 0, .int .u32 0] ∧ AAt w' w3.heap.size [n0, n1, n2, n3, n4] ∧ Ch (fun b => W.heap.size ≤ b) W w')
            case first =>
              have hE := eq5 n0 n1 n2 n3 n4
              go_region_with (first
                | (go_at_call 19; refine (mall_M (w := World.drew wc) hm').mono ?_; rintro e w6 ⟨rfl, ch6⟩; have d0 := ch6.cell c0 (fun h => h); have d1 := ch6.cell c1 (fun h => h); have d2 := ch6.cell c2 (fun h => h); have d3 := ch6.cell c3 (fun h => h); have d4 := ch6.cell c4 (fun h => h)))
              all_goals
                go_wp2_with fail
                go_meet
                exact ⟨rfl, MAt.keep ch6 hm' (fun h => h), AAt.keep ch6 ha' (fun h => h), Ch.seq (Ch.drew hch') ch6 (fun b => W.heap.size ≤ b) (fun _ _ h => h) (fun _ _ (h : False) => h.elim)⟩
            case rest =>
              obtain ⟨rfl, hm2, ha2, hch2⟩ := hcut
              go_wp2_with fail
              go_quiet (fail)
              go_wp2_with fail
              go_roundw
              case rel => exact ⟨k + 1, by go_num, by omega, by omega, ⟨_, hm2, ha2, hch2.drewN _⟩⟩
              case measure => simp [intOf]; omega
    · obtain ⟨_, _, ⟨_, _, _, hch⟩⟩ := hr
      go_wp2_with fail
      all_goals
        go_ret
        exact ⟨rfl, hch.below (Nat.le_refl _) (by omega)⟩

end Go.Proofs.Ytlphhadomhdacaa
