/- CrcSums: the walk. -/
import Derived.Test.YtlphhadomhdacaaCrcSums
import Derived.Deep.RegionHeld3
namespace Go.Proofs.Ytlphhadomhdacaa
open Go Go.RowKit

structure CRel (W : World) (b : Nat) (k : Nat) (wr : World) : Prop where
  ht : TS wr b true
  hch : Ch (fun k => W.heap.size ≤ k) W wr

set_option maxRecDepth 100000 in
set_option maxHeartbeats 1000000 in
theorem crcSums_walk (W : World) (a0 : Option Addr) (c0 : Nat) (bs : List UInt8) (a1 : Option Addr) (c1 : Nat) (l : List (Option Addr × Nat × List UInt8)) (h0 : InS byteCell (fun _ => True) 1 W a0 c0 bs) (h1 : InS bytesCell (bytesOk W) 24 W a1 c1 l) :
    Calls Try.prog 7 #[.slice a0 bs.length c0, .slice a1 l.length c1] W fun e w' => e = .returned (.bool true) ∧ Below W.heap.size W w' := by
  have hl : l.length ≤ 9223372036854775807 := by have := h1.lc; have := h1.sz; omega
  go_enter Try.func7, Try.ntmps7
  go_wp2_with fail
  refine (tnew_any _).mono ?_; rintro e w1 ⟨rfl, t1, ch1, z1⟩
  have Hz := Lib.hid z1; clear z1
  go_wp2_with fail
  refine (cknown_any _).mono ?_; rintro e w2 ⟨rfl, ch2⟩
  have t2 := TS.keep (m := false) ch2 t1 (fun h => h)
  have hlt : W.heap.size < w2.heap.size := by have := ch2.size; have := Hz.out; omega
  have c2 := (ch1.trans ch2).mono (T := fun k => W.heap.size ≤ k) (fun _ _ h => h.elim)
  clear t1 ch1 ch2 Hz
  go_wp2_with fail
  refine (TS.made (m := false) t2).mono ?_; rintro e w3 ⟨rfl, rfl⟩
  go_wp2_with fail
  refine (sum_in h0 c2 t2 (Nat.le_refl _)).mono ?_; rintro e w3 ⟨rfl, t3, ch3⟩
  have c3 := c2.seq ch3 (fun k => W.heap.size ≤ k) (fun _ _ h => h) (fun _ _ h => by omega)
  go_wp2_with fail
  refine (refsum_any a0 c0 bs _ (rd_bytes h0 c3) (by have := h0.lc; have := h0.sz; omega)).mono ?_; rintro e w4 ⟨rfl, rfl⟩
  go_wp2_with fail
  clear t2 ch3 c2
  go_loopw [6] (fun i wr => ∃ k : Nat, i = .int .i64 k ∧ k ≤ l.length ∧ CRel W W.heap.size k wr) (fun i _ => l.length - (intOf i).toNat)
  case atStart => exact ⟨0, rfl, Nat.zero_le _, t3, c3⟩
  case round =>
    obtain ⟨k, rfl, hk, ht, hch⟩ := hrel
    by_cases hlt : k < l.length ∧ k < 10
    · obtain ⟨hk1, hk2⟩ := hlt
      obtain ⟨g, off, rfl, hg, hcell⟩ := Rd.at h1.rd (k := 0) (by rw [flat_len _ 1 (fun _ => rfl)]; omega)
      have hx0 := hch.cell (hcell (k * 1 + 0) _ ((flat_get _ 1 (fun _ => rfl) l k hk1 0 (by omega)).trans rfl)) (by show ¬ _ ≤ g; omega)
      have hok := h1.ok l[k] (List.getElem_mem hk1)
      rw [show off + (k * 1 + 0) = off + k by omega] at hx0
      generalize l[k] = x at hx0 hok
      obtain ⟨xa, xc, xs⟩ := x
      clear hcell
      go_wp2_with fail
      have Hr0 := Lib.hid (rd_bytes hok hch)
      have hxl : xs.length ≤ 140737488355328 := by have := hok.lc; have := hok.sz; simp only at *; omega
      go_cut [53] (fun s w' => s = .bool false ∧ TS w' W.heap.size true ∧ Ch (fun k => W.heap.size ≤ k) W w')
      case first =>
        go_region_held3 (fun w' => w'.cell? ⟨g, off + k, none⟩ = some (.slice xa xs.length xc)) (first | assumption) (first
          | (go_at_call 22; refine (sum_in hok hch.drew (show TS (World.drew wr) W.heap.size true from ht) (Nat.le_refl _)).mono ?_; rintro e w5 ⟨rfl, t5, ch5⟩; have hx5 := ch5.cell hx0 (by show ¬ g = _; omega); have Hr5 := Lib.hid (rd_bytes hok (Ch.seq (Ch.drew hch) ch5 (fun k => W.heap.size ≤ k) (fun _ _ h => h) (fun _ _ h => by omega))))
          | (go_at_call 24; refine (refsum_any xa xc xs _ (by first | exact Hr5.out | exact Hr0.out) hxl).mono ?_; rintro e w6 ⟨rfl, rfl⟩)
          | (go_at_call 23; refine (TS.made t5).mono ?_; rintro e w6 ⟨rfl, rfl⟩))
        all_goals
          go_wp2_with fail
          go_meet
          exact ⟨rfl, t5, Ch.seq (Ch.drew hch) ch5 (fun k => W.heap.size ≤ k) (fun _ _ h => h) (fun _ _ h => by omega)⟩
      case rest =>
        obtain ⟨rfl, ht2, hch2⟩ := hcut
        go_wp2_with fail
        go_roundw
        case rel => exact ⟨k + 1, by go_num, by omega, ht2, hch2⟩
        case measure => simp [intOf]; omega
    · go_wp2_with fail
      all_goals
        go_ret
        exact ⟨rfl, hch.below (Nat.le_refl _) (by omega)⟩

end Go.Proofs.Ytlphhadomhdacaa
