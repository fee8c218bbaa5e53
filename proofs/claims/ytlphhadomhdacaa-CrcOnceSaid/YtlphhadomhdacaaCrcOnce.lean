/- CrcOnce: the walk. -/
import Derived.Test.YtlphhadomhdacaaCrcSums
import Derived.Deep.RegionHeld3
namespace Go.Proofs.Ytlphhadomhdacaa
open Go Go.RowKit

theorem set_cho (w : World) (b o : Nat) (u : Value) : Ch (fun k => k = b) w (w.setCell ⟨b, o, none⟩ u) := Ch.setCell (S := fun k => k = b) (Ch.refl _ _) (p := ⟨b, o, none⟩) (fun _ => rfl) _

theorem tsDrew {w : World} {b : Nat} {m : Bool} (h : TS w b m) : TS w.drew b m := TS.keep ((Ch.refl (fun _ => False) w).drew) h (fun h => h)

def made01 (m : Bool) : Int := if m then 1 else 0

/-- Two tables, their array, and how often each was made. -/
structure OSt (W : World) (bt bm : Nat) (m0 m1 : Bool) (wr : World) : Prop where
  t0 : TS wr W.heap.size m0
  t1 : TS wr (W.heap.size + 1) m1
  ht : wr.heap[bt]? = some (.cells #[.pointer (some ⟨W.heap.size, 0, none⟩), .pointer (some ⟨W.heap.size + 1, 0, none⟩)] 44 (0, 0))
  hm : wr.heap[bm]? = some (.cells #[.int .i64 (made01 m0), .int .i64 (made01 m1)] 45 (0, 0))
  hch : Ch (fun k => W.heap.size ≤ k) W wr

theorem made_of (b : Nat) (m : Bool) (w : World) (h : TS w b m) : Calls Try.prog 23 #[.pointer (some ⟨b, 0, none⟩)] w fun e w' => e = .returned (.int .i64 (made01 m)) ∧ w' = w := TS.made h

theorem reader_b (W : World) : Reader Try.prog W 4 (fun b : Bool => [.bool b]) (fun _ => True) := reader_bool Try.underlying4

theorem open_bools {H : Type} {enc : TypeId × Value → H} {W : World} {ts : List TypeId} {ds : List (DataW H)} (hsz : (DataW.weightsEach Try.prog ts ds).all (· ≤ reachBytes) = true) {d : DataW H} {ps : List MemPlace} (j : Nat) (htj : ts[j]? = some 43) (hdj : ds[j]? = some d)
    {a : Option Addr} {len cap : Nat} (h : DataW.Trod enc Try.prog W 0 (fun _ => true) true 43 (.slice a len cap) d ps) : ∃ xs : List Bool, xs.length = len ∧ InS (fun b : Bool => [Value.bool b]) (fun _ => True) 1 W a cap xs :=
  open_slice_arg (n := 1) (B := 1) hsz j htj hdj Try.underlying43 (by kernel_rfl) (by kernel_rfl) (fun _ => rfl) (reader_b W) h

theorem OSt.step0 {W : World} {bt bm : Nat} {m0 m1 : Bool} {wr w5 : World} (h : OSt W bt bm m0 m1 wr) (ht : W.heap.size + 2 ≤ bt) (hm : bt < bm) (t5 : TS w5 W.heap.size true) (ch5 : Ch (fun k => k = W.heap.size) wr w5) :
    OSt W bt bm true m1 (w5.setCell ⟨bm, 0, none⟩ (.int .i64 1)) := by
  have c2 := set_cho w5 bm 0 (.int .i64 1)
  refine ⟨TS.keep c2 t5 (by omega), TS.keep c2 (TS.keep ch5 h.t1 (by omega)) (by omega), c2.heap (ch5.heap h.ht (by omega)) (by omega), ?_, (h.hch.seq ch5 _ (fun _ _ h => h) (by omega)).seq c2 _ (fun _ _ h => h) (by omega)⟩
  rw [setH (ch5.heap h.hm (by omega))]; rfl
theorem OSt.step1 {W : World} {bt bm : Nat} {m0 m1 : Bool} {wr w5 : World} (h : OSt W bt bm m0 m1 wr) (ht : W.heap.size + 2 ≤ bt) (hm : bt < bm) (t5 : TS w5 (W.heap.size + 1) true) (ch5 : Ch (fun k => k = W.heap.size + 1) wr w5) :
    OSt W bt bm m0 true (w5.setCell ⟨bm, 1, none⟩ (.int .i64 1)) := by
  have c2 := set_cho w5 bm 1 (.int .i64 1)
  refine ⟨TS.keep c2 (TS.keep ch5 h.t0 (by omega)) (by omega), TS.keep c2 t5 (by omega), c2.heap (ch5.heap h.ht (by omega)) (by omega), ?_, (h.hch.seq ch5 _ (fun _ _ h => h) (by omega)).seq c2 _ (fun _ _ h => h) (by omega)⟩
  rw [setH (ch5.heap h.hm (by omega))]; rfl
theorem OSt.after0 {W : World} {bt bm : Nat} {m1 : Bool} {wr w5 : World} (h : OSt W bt bm true m1 wr) (ht : W.heap.size + 2 ≤ bt) (hm : bt < bm) (t5 : TS w5 W.heap.size true) (ch5 : Ch (fun k => k = W.heap.size) wr w5) : OSt W bt bm true m1 w5 :=
  ⟨t5, TS.keep ch5 h.t1 (by omega), ch5.heap h.ht (by omega), ch5.heap h.hm (by omega), h.hch.seq ch5 _ (fun _ _ h => h) (by omega)⟩
theorem OSt.after1 {W : World} {bt bm : Nat} {m0 : Bool} {wr w5 : World} (h : OSt W bt bm m0 true wr) (ht : W.heap.size + 2 ≤ bt) (hm : bt < bm) (t5 : TS w5 (W.heap.size + 1) true) (ch5 : Ch (fun k => k = W.heap.size + 1) wr w5) : OSt W bt bm m0 true w5 :=
  ⟨TS.keep ch5 h.t0 (by omega), t5, ch5.heap h.ht (by omega), ch5.heap h.hm (by omega), h.hch.seq ch5 _ (fun _ _ h => h) (by omega)⟩
theorem OSt.drew {W : World} {bt bm : Nat} {m0 m1 : Bool} {wr : World} (h : OSt W bt bm m0 m1 wr) : OSt W bt bm m0 m1 wr.drew := ⟨h.t0, h.t1, h.ht, h.hm, h.hch.drew⟩

theorem OSt.cells {W : World} {bt bm : Nat} {m0 m1 : Bool} {wr : World} (h : OSt W bt bm m0 m1 wr) :
    wr.cell? ⟨bt, 0, none⟩ = some (.pointer (some ⟨W.heap.size, 0, none⟩)) ∧ wr.cell? ⟨bt, 1, none⟩ = some (.pointer (some ⟨W.heap.size + 1, 0, none⟩)) ∧
    wr.cell? ⟨bm, 0, none⟩ = some (.int .i64 (made01 m0)) ∧ wr.cell? ⟨bm, 1, none⟩ = some (.int .i64 (made01 m1)) ∧ wr.frozen? ⟨bm, 0, none⟩ = false ∧ wr.frozen? ⟨bm, 1, none⟩ = false := by
  refine ⟨?_, ?_, ?_, ?_, frozH h.hm 0, frozH h.hm 1⟩ <;> first | (rw [cellH h.ht]; rfl) | (rw [cellH h.hm]; rfl)

set_option maxRecDepth 100000 in
set_option maxHeartbeats 1000000 in
theorem crcOnce_walk (W : World) (a0 : Option Addr) (c0 : Nat) (l : List (Option Addr × Nat × List UInt8)) (a1 : Option Addr) (c1 : Nat) (who : List Bool) (h0 : InS bytesCell (bytesOk W) 24 W a0 c0 l) (h1 : InS (fun b : Bool => [Value.bool b]) (fun _ => True) 1 W a1 c1 who) :
    Calls Try.prog 6 #[.slice a0 l.length c0, .slice a1 who.length c1] W fun e w' => e = .returned (.bool true) ∧ Below W.heap.size W w' := by
  have hl : l.length ≤ 9223372036854775807 := by have := h0.lc; have := h0.sz; omega
  have hl1 : who.length ≤ 9223372036854775807 := by have := h1.lc; have := h1.sz; omega
  go_enter Try.func6, Try.ntmps6
  go_wp2_with fail
  refine (tnew_any _).mono ?_; rintro e w1 ⟨rfl, t1, ch1, z1⟩
  have Hz1 := Lib.hid z1; clear z1
  go_wp2_with fail
  refine (tnew_any _).mono ?_; rintro e w2 ⟨rfl, t2, ch2, z2⟩
  rw [Hz1.out] at t2 z2 ⊢
  have t1' := TS.keep (m := false) ch2 t1 (fun h => h)
  have c12 := (ch1.trans ch2).mono (T := fun k => W.heap.size ≤ k) (fun _ _ h => h.elim)
  have Hz2 := Lib.hid z2; clear z2 t1 ch1 ch2
  go_wp2_with fail
  refine (cknown_any _).mono ?_; rintro e w3 ⟨rfl, ch3⟩
  have hs : W.heap.size + 2 < w3.heap.size := by have := ch3.size; have := Hz2.out; rw [heap_alloc_size] at *; omega
  have hsm : w2.heap.size = W.heap.size + 2 := Hz2.out
  have O1 : TS w3 W.heap.size false := TS.keep (m := false) ((ch_new w2 _).trans ch3) t1' (fun h => h)
  have O2 : TS w3 (W.heap.size + 1) false := TS.keep (m := false) ((ch_new w2 _).trans ch3) t2 (fun h => h)
  have O3 := ch3.heap (alloc_heap_new w2 _) (fun h => h)
  have O4 := c12.seq ((ch_new w2 _).trans ch3) (fun k => W.heap.size ≤ k) (fun _ _ h => h) (fun _ _ h => h.elim)
  rw [hsm] at O3
  have d0 : w3.cell? ⟨W.heap.size + 2, 0, none⟩ = some (.pointer (some ⟨W.heap.size, 0, none⟩)) := by rw [cellH O3]; rfl
  have d1 : w3.cell? ⟨W.heap.size + 2, 1, none⟩ = some (.pointer (some ⟨W.heap.size + 1, 0, none⟩)) := by rw [cellH O3]; rfl
  have OS : OSt W (W.heap.size + 2) w3.heap.size false false (w3.alloc (.cells #[.int .i64 0, .int .i64 0] 45)) :=
    ⟨TS.keep (ch_new _ _) O1 (fun h => h), TS.keep (ch_new _ _) O2 (fun h => h), alloc_heap_old O3 _, alloc_heap_new _ _, O4.alloc _⟩
  have HOS := Lib.hid OS
  clear t1' t2 c12 Hz1 ch3 O1 O2 O3 O4 OS Hz2
  go_wp2_with fail
  generalize hbm : w3.heap.size = bm at HOS hs ⊢
  generalize (w3.alloc (.cells #[.int .i64 0, .int .i64 0] 45)) = w4 at HOS ⊢
  clear hbm d0 d1 hsm
  go_loopw [7, 8, 9] (fun i _ _ wr => ∃ (k : Nat) (m0 m1 : Bool), i = .int .i64 k ∧ k ≤ l.length ∧ OSt W (W.heap.size + 2) bm m0 m1 wr) (fun i _ _ _ => l.length - (intOf i).toNat)
  case atStart => exact ⟨0, false, false, rfl, Nat.zero_le _, HOS.out⟩
  case round =>
    obtain ⟨k, m0, m1, rfl, hk, hO⟩ := hrel
    by_cases hlt : k < l.length ∧ k < 12
    · obtain ⟨hk1, hk2⟩ := hlt
      obtain ⟨g, off, rfl, hg, hcell⟩ := Rd.at h0.rd (k := 0) (by rw [flat_len _ 1 (fun _ => rfl)]; omega)
      have hcellk := (flat_get bytesCell 1 (fun _ => rfl) l k hk1 0 (by omega)).trans rfl
      have hcell0 := hcell
      have hx0 := hO.hch.cell (hcell (k * 1 + 0) _ hcellk) (by show ¬ _ ≤ g; omega)
      have hok := h0.ok l[k] (List.getElem_mem hk1)
      rw [show off + (k * 1 + 0) = off + k by omega] at hx0
      generalize l[k] = x at hx0 hok hcellk
      obtain ⟨xa, xc, xs⟩ := x
      clear hcell
      have HO := Lib.hid hO
      go_upto_region 9 with fail
      go_cut [44] (fun s w' => ∃ kb : Bool, s = .bool kb ∧ wr = w')
      case first =>
        by_cases hw : k < who.length
        · obtain ⟨g1, off1, rfl, hg1, hcell1⟩ := Rd.at h1.rd (k := 0) (by rw [flat_len _ 1 (fun _ => rfl)]; omega)
          have hx1 := hO.hch.cell (hcell1 (k * 1 + 0) _ ((flat_get _ 1 (fun _ => rfl) who k hw 0 (by omega)).trans rfl)) (by show ¬ _ ≤ g1; omega)
          rw [show off1 + (k * 1 + 0) = off1 + k by omega] at hx1
          generalize who[k] = y at hx1
          cases y
          · go_wp2_with fail
            go_meet
            exact ⟨false, rfl, rfl⟩
          · go_wp2_with fail
            go_meet
            exact ⟨true, rfl, rfl⟩
        · go_wp2_with fail
          go_meet
          exact ⟨false, rfl, rfl⟩
      case rest =>
        obtain ⟨kb, rfl, rfl⟩ := hcut
        obtain ⟨e0, e1, e2, e3, f0, f1⟩ := hO.cells
        have hxl : xs.length ≤ 140737488355328 := by have := hok.lc; have := hok.sz; simp only at *; omega
        cases kb
        · go_wp2_with fail
          go_cut [9] (fun s w' => s = .int .u32 (crcN xs : Nat) ∧ TS w' W.heap.size true ∧ Ch (fun k => k = W.heap.size) wr w')
          case first =>
            go_region_held3 (fun w' => w'.cell? ⟨g, off + k, none⟩ = some (.slice xa xs.length xc) ∧ w'.cell? ⟨W.heap.size + 2, 0, none⟩ = some (.pointer (some ⟨W.heap.size, 0, none⟩))) (first | (constructor <;> assumption) | assumption) (first
              | (go_at_call 22; refine (sum_in hok hO.hch.drew (show TS (World.drew wr) W.heap.size m0 from hO.t0) (by omega)).mono ?_; rintro e w5 ⟨rfl, t5, ch5⟩; have hx5 := ch5.cell hx0 (by show ¬ g = _; omega); have e5 := ch5.cell e0 (by show ¬ W.heap.size + 2 = _; omega)))
            all_goals
              go_wp2_with fail
              go_meet
              exact ⟨rfl, t5, (Ch.refl _ wr).drew.trans ch5⟩
          case rest =>
            obtain ⟨rfl, t5, ch5⟩ := hcut
            have hN := hO.step0 (by omega) (by omega) t5 ch5
            have f5 : wc.frozen? ⟨bm, 0, none⟩ = false := frozH (ch5.heap hO.hm (by omega)) 0
            have g5 := ch5.cell e2 (by show ¬ bm = _; omega)
            have HN := Lib.hid hN
            clear hO HO e0 e1 e2 e3 f0 f1 t5 ch5 hN hx0
            go_upto_region 13 with fail
            generalize (World.setCell wc ⟨bm, 0, none⟩ (.int .i64 1)) = wn at HN ⊢
            have hO := HN.out
            have hch := hO.hch
            clear g5 f5
            obtain ⟨e0, e1, e2, e3, f0, f1⟩ := hO.cells
            have hx0 := hO.hch.cell (hcell0 (k * 1 + 0) _ hcellk) (by show ¬ _ ≤ g; omega)
            rw [show off + (k * 1 + 0) = off + k by omega] at hx0
            go_cut [80] (fun s w' => s = .bool false ∧ OSt W (W.heap.size + 2) bm true m1 w')
            case first =>
              have ht0d := tsDrew hO.t0
              have ht1d := tsDrew hO.t1
              go_region_held3 (fun w' => w'.cell? ⟨g, off + k, none⟩ = some (.slice xa xs.length xc) ∧ w'.cell? ⟨W.heap.size + 2, 0, none⟩ = some (.pointer (some ⟨W.heap.size, 0, none⟩)) ∧ w'.cell? ⟨W.heap.size + 2, 1, none⟩ = some (.pointer (some ⟨W.heap.size + 1, 0, none⟩)) ∧
                  w'.cell? ⟨bm, 0, none⟩ = some (.int .i64 (made01 true)) ∧ w'.cell? ⟨bm, 1, none⟩ = some (.int .i64 (made01 m1)))
                (first | (refine ⟨?_, ?_, ?_, ?_, ?_⟩ <;> assumption) | assumption) (first
                | (go_at_call 23; ((with_reducible refine (made_of _ _ _ ht0d).mono ?_)); rintro e w6 ⟨rfl, rfl⟩)
                | (go_at_call 23; ((with_reducible refine (made_of _ _ _ ht1d).mono ?_)); rintro e w6 ⟨rfl, rfl⟩)
                | (go_at_call 22; refine (sum_in hok hO.hch.drew (show TS (World.drew wn) W.heap.size true from hO.t0) (by omega)).mono ?_; rintro e w7 ⟨rfl, t7, ch7⟩; have hx7 := ch7.cell hx0 (by show ¬ g = _; omega); have a0 := ch7.cell e0 (by show ¬ W.heap.size + 2 = _; omega); have a1 := ch7.cell e1 (by show ¬ W.heap.size + 2 = _; omega); have a2 := ch7.cell e2 (by show ¬ bm = _; omega); have a3 := ch7.cell e3 (by show ¬ bm = _; omega)))
              all_goals
                go_wp2_with fail
                go_meet
                exact ⟨rfl, hO.after0 (by omega) (by omega) t7 ((Ch.refl _ wn).drew.trans ch7)⟩
            case rest =>
              obtain ⟨rfl, hO2⟩ := hcut
              go_wp2_with fail
              go_roundw
              case rel => exact ⟨k + 1, _, _, by go_num, by omega, hO2⟩
              case measure => simp [intOf]; omega
        · go_wp2_with fail
          go_cut [9] (fun s w' => s = .int .u32 (crcN xs : Nat) ∧ TS w' (W.heap.size + 1) true ∧ Ch (fun k => k = W.heap.size + 1) wr w')
          case first =>
            go_region_held3 (fun w' => w'.cell? ⟨g, off + k, none⟩ = some (.slice xa xs.length xc) ∧ w'.cell? ⟨W.heap.size + 2, 1, none⟩ = some (.pointer (some ⟨W.heap.size + 1, 0, none⟩))) (first | (constructor <;> assumption) | assumption) (first
              | (go_at_call 22; refine (sum_in hok hO.hch.drew (show TS (World.drew wr) (W.heap.size + 1) m1 from hO.t1) (by omega)).mono ?_; rintro e w5 ⟨rfl, t5, ch5⟩; have hx5 := ch5.cell hx0 (by show ¬ g = _; omega); have e5 := ch5.cell e1 (by show ¬ W.heap.size + 2 = _; omega)))
            all_goals
              go_wp2_with fail
              go_meet
              exact ⟨rfl, t5, (Ch.refl _ wr).drew.trans ch5⟩
          case rest =>
            obtain ⟨rfl, t5, ch5⟩ := hcut
            have hN := hO.step1 (by omega) (by omega) t5 ch5
            have f5 : wc.frozen? ⟨bm, 1, none⟩ = false := frozH (ch5.heap hO.hm (by omega)) 1
            have g5 := ch5.cell e3 (by show ¬ bm = _; omega)
            have HN := Lib.hid hN
            clear hO HO e0 e1 e2 e3 f0 f1 t5 ch5 hN hx0
            go_upto_region 13 with fail
            generalize (World.setCell wc ⟨bm, 1, none⟩ (.int .i64 1)) = wn at HN ⊢
            have hO := HN.out
            have hch := hO.hch
            clear g5 f5
            obtain ⟨e0, e1, e2, e3, f0, f1⟩ := hO.cells
            have hx0 := hO.hch.cell (hcell0 (k * 1 + 0) _ hcellk) (by show ¬ _ ≤ g; omega)
            rw [show off + (k * 1 + 0) = off + k by omega] at hx0
            go_cut [80] (fun s w' => s = .bool false ∧ OSt W (W.heap.size + 2) bm m0 true w')
            case first =>
              have ht0d := tsDrew hO.t0
              have ht1d := tsDrew hO.t1
              go_region_held3 (fun w' => w'.cell? ⟨g, off + k, none⟩ = some (.slice xa xs.length xc) ∧ w'.cell? ⟨W.heap.size + 2, 0, none⟩ = some (.pointer (some ⟨W.heap.size, 0, none⟩)) ∧ w'.cell? ⟨W.heap.size + 2, 1, none⟩ = some (.pointer (some ⟨W.heap.size + 1, 0, none⟩)) ∧
                  w'.cell? ⟨bm, 0, none⟩ = some (.int .i64 (made01 m0)) ∧ w'.cell? ⟨bm, 1, none⟩ = some (.int .i64 (made01 true)))
                (first | (refine ⟨?_, ?_, ?_, ?_, ?_⟩ <;> assumption) | assumption) (first
                | (go_at_call 23; ((with_reducible refine (made_of _ _ _ ht0d).mono ?_)); rintro e w6 ⟨rfl, rfl⟩)
                | (go_at_call 23; ((with_reducible refine (made_of _ _ _ ht1d).mono ?_)); rintro e w6 ⟨rfl, rfl⟩)
                | (go_at_call 22; refine (sum_in hok hO.hch.drew (show TS (World.drew wn) (W.heap.size + 1) true from hO.t1) (by omega)).mono ?_; rintro e w7 ⟨rfl, t7, ch7⟩; have hx7 := ch7.cell hx0 (by show ¬ g = _; omega); have a0 := ch7.cell e0 (by show ¬ W.heap.size + 2 = _; omega); have a1 := ch7.cell e1 (by show ¬ W.heap.size + 2 = _; omega); have a2 := ch7.cell e2 (by show ¬ bm = _; omega); have a3 := ch7.cell e3 (by show ¬ bm = _; omega)))
              all_goals
                go_wp2_with fail
                go_meet
                exact ⟨rfl, hO.after1 (by omega) (by omega) t7 ((Ch.refl _ wn).drew.trans ch7)⟩
            case rest =>
              obtain ⟨rfl, hO2⟩ := hcut
              go_wp2_with fail
              go_roundw
              case rel => exact ⟨k + 1, _, _, by go_num, by omega, hO2⟩
              case measure => simp [intOf]; omega
    · have hch := hO.hch
      go_wp2_with fail
      all_goals
        go_ret
        exact ⟨rfl, hch.below (Nat.le_refl _) (by omega)⟩

end Go.Proofs.Ytlphhadomhdacaa
