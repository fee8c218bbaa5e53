/- CrcTurns: the walk. -/
import Derived.Test.YtlphhadomhdacaaFew
import Derived.Test.YtlphhadomhdacaaMeter
import Derived.Deep.AppendLies
namespace Go.Proofs.Ytlphhadomhdacaa
open Go Go.RowKit

theorem turned (x : UInt8) (y : Int) (h0 : 0 < y) (h1 : y ≤ 255) : ∃ z : UInt8, z ≠ x ∧ bits BinOp.xor IntKind.u8 (x.toNat : Nat) y = (z.toNat : Nat) := by
  obtain ⟨n, rfl⟩ := Int.eq_ofNat_of_zero_le (show 0 ≤ y by omega)
  have hx := x.toNat_lt
  have hb : x.toNat ^^^ n < 256 := Nat.xor_lt_two_pow (n := 8) (by omega) (by omega)
  have e : (UInt8.ofNat (x.toNat ^^^ n)).toNat = x.toNat ^^^ n := by rw [UInt8.toNat_ofNat']; exact Nat.mod_eq_of_lt hb
  refine ⟨UInt8.ofNat (x.toNat ^^^ n), fun h => ?_, by rw [u8_xor_nat _ _ (by omega) (by omega), e]⟩
  have h2 := congrArg UInt8.toNat h
  rw [e] at h2
  have h3 : x.toNat ^^^ n = x.toNat ^^^ 0 := by rw [h2]; simp
  have := xor_cancel h3
  omega

theorem u8s_set (bs : List UInt8) (j : Nat) (z : UInt8) : (u8s bs).set j (.int .u8 (z.toNat : Nat)) = u8s (bs.set j z) := by simp [u8s, List.map_set]

set_option maxRecDepth 100000 in
set_option maxHeartbeats 1000000 in
theorem crcTurns_walk (W : World) (a0 : Option Addr) (c0 : Nat) (bs : List UInt8) (at_ : Int) (by_ : Int) (h0 : InS byteCell (fun _ => True) 1 W a0 c0 bs) (_ : -9223372036854775808 ≤ at_ ∧ at_ ≤ 9223372036854775807) (hby : 0 ≤ by_ ∧ by_ ≤ 255) :
    Calls Try.prog 8 #[.slice a0 bs.length c0, .int .i64 at_, .int .u8 by_] W fun e w' => e = .returned (.bool true) ∧ Below W.heap.size W w' := by
  have hl : bs.length ≤ 140737488351232 := by have := h0.lc; have := h0.sz; omega
  obtain ⟨hb0, hb1⟩ := hby
  by_cases hno : bs.length = 0 ∨ by_ = 0
  · have hcase : (bs.length = 0) ∨ (0 < bs.length ∧ by_ = 0) := by omega
    rcases hcase with h | ⟨h, rfl⟩
    · obtain rfl : bs = [] := List.eq_nil_of_length_eq_zero h
      go_enter Try.func8, Try.ntmps8
      go_wp2_with fail
      refine (tnew_any _).mono ?_; rintro e w1 ⟨rfl, t1, ch1, z1⟩
      go_wp2_with fail
      refine (cknown_any _).mono ?_; rintro e w2 ⟨rfl, ch2⟩
      go_wp2_with fail
      go_ret
      exact ⟨rfl, (ch1.trans ch2).below (Nat.le_refl _) (fun _ _ h => h)⟩
    · have hnl : ((bs.length : Int) == 0) = false := beq_eq_false_iff_ne.2 (by omega)
      go_enter Try.func8, Try.ntmps8
      go_wp2_with fail
      refine (tnew_any _).mono ?_; rintro e w1 ⟨rfl, t1, ch1, z1⟩
      go_wp2_with fail
      refine (cknown_any _).mono ?_; rintro e w2 ⟨rfl, ch2⟩
      go_wp2_with fail
      go_ret
      exact ⟨rfl, (ch1.trans ch2).below (Nat.le_refl _) (fun _ _ h => h)⟩
  · have hpos : 0 < bs.length := by omega
    have hbpos : 0 < by_ := by omega
    clear hno
    have p0 := Int.emod_nonneg at_ (show (bs.length : Int) ≠ 0 by omega)
    have p1 := Int.emod_lt_of_pos at_ (show (0 : Int) < bs.length by omega)
    obtain ⟨j, hj⟩ := Int.eq_ofNat_of_zero_le p0
    rw [hj] at p1
    have hjl : j < bs.length := by omega
    have Hj := Lib.hid hj; clear hj p0 p1
    obtain ⟨z, hz1, hz2⟩ := turned bs[j] by_ hbpos hb1
    have hsum := crc_turn bs j hjl z hz1
    have Hz2 := Lib.hid hz2; clear hz2 hz1
    have hnl : ((bs.length : Int) == 0) = false := beq_eq_false_iff_ne.2 (by omega)
    have hnb : (by_ == 0) = false := beq_eq_false_iff_ne.2 (by omega)
    go_enter Try.func8, Try.ntmps8
    go_wp2_with fail
    refine (tnew_any _).mono ?_; rintro e w1 ⟨rfl, t1, ch1, z1⟩
    have Hz := Lib.hid z1; clear z1
    go_wp2_with fail
    refine (cknown_any _).mono ?_; rintro e w2 ⟨rfl, ch2⟩
    have t2 := TS.keep (m := false) ch2 t1 (fun h => h)
    have hlt : W.heap.size < w2.heap.size := by have := ch2.size; have := Hz.out; omega
    have c2 := (ch1.trans ch2).mono (T := fun k => W.heap.size ≤ k) (fun _ _ h => h.elim)
    clear t1 ch1 ch2 Hz
    go_wp2_with fail
    refine (few_any a0 c0 bs bs.length _ (rd_bytes h0 c2) h0.lc (by have := h0.sz; omega) (by omega)).mono ?_
    rintro e w3 ⟨v, rfl, own, ch3⟩
    rw [show ((bs.length : Int)).toNat = bs.length by omega, List.take_length] at own
    obtain ⟨g, cap, rfl, hg1, hg2⟩ := own.form hpos
    have t3 := TS.keep (m := false) ch3 t2 (fun h => h)
    have c3 := c2.seq ch3 (fun k => W.heap.size ≤ k) (fun _ _ h => h) (fun _ _ h => h.elim)
    have hcell : w3.cell? ⟨g, j, none⟩ = some (.int .u8 (bs[j].toNat : Nat)) := by rw [own.cellAt j (by omega)]; simp [u8s, hjl]
    have hfrz := own.frozenAt j
    have hst := own.stored j (.int .u8 (z.toNat : Nat))
    rw [u8s_set] at hst
    have Hst := Lib.hid hst; clear hst own
    go_wp2_with fail
    refine (pick_any at_ bs.length _ (by omega) (by omega)).mono ?_; rintro e w' ⟨rfl, rfl⟩
    rw [Hj.out]
    go_wp2_with fail
    rw [Hz2.out]
    obtain ⟨own4, gr4⟩ := Hst.out
    have c4 := c3.setCell (p := ⟨g, j, none⟩) (fun _ => by show W.heap.size ≤ g; omega) (.int .u8 (z.toNat : Nat))
    have t4 : TS (World.setCell w' ⟨g, j, none⟩ (.int .u8 (z.toNat : Nat))) W.heap.size false := TS.keep (Ch.ofGrown gr4) t3 (fun h => by cases h; omega)
    have hs := sum_any W.heap.size false (some ⟨g, 0, none⟩) cap (bs.set j z) _ t4 (Rd.own own4) (fun _ ad had => by cases had; show g ≠ W.heap.size; omega) (by simp; omega)
    rw [List.length_set] at hs
    have Hs := Lib.hid hs
    clear hs own4 gr4 Hst
    refine Hs.out.mono ?_; rintro e w5 ⟨rfl, t5, ch5⟩
    have c5 := c4.seq ch5 (fun k => W.heap.size ≤ k) (fun _ _ h => h) (fun _ _ h => by omega)
    clear Hs t4 c4
    go_wp2_with fail
    refine (sum_in h0 c5 t5 (Nat.le_refl _)).mono ?_; rintro e w6 ⟨rfl, t6, ch6⟩
    have hne : (((crcN (bs.set j z) : Nat) : Int) != ((crcN bs : Nat) : Int)) = true := by rw [bne_iff_ne]; omega
    go_wp2_with fail
    go_ret
    refine ⟨?_, (c5.seq ch6 (fun k => W.heap.size ≤ k) (fun _ _ h => h) (fun _ _ h => by omega)).below (Nat.le_refl _) (fun k hk h => by omega)⟩
    simp

end Go.Proofs.Ytlphhadomhdacaa
