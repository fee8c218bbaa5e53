/- The document's sum, and the example. -/
import Derived.Test.YtlphhadomhdacaaCrc
namespace Go.Proofs.Ytlphhadomhdacaa
open Go Go.RowKit

theorem cstep_even {c : Nat} (h : c % 2 = 0) : cstep c = c / 2 := by unfold cstep; rw [h, Nat.shiftRight_eq_div_pow]; simp
theorem cstep_odd {c : Nat} (h : c % 2 = 1) : cstep c = (c / 2) ^^^ 3988292384 := by unfold cstep cpoly; rw [h, Nat.shiftRight_eq_div_pow]

set_option maxRecDepth 100000 in
set_option maxHeartbeats 1000000 in
theorem refsum_any (a : Option Addr) (c : Nat) (bs : List UInt8) (w : World) (hr : Rd w a (u8s bs)) (hl : bs.length ≤ 140737488355328) :
    Calls Try.prog 24 #[.slice a bs.length c] w fun e w' => e = .returned (.int .u32 (crcN bs : Nat)) ∧ w' = w := by
  go_enter Try.func24, Try.ntmps24
  go_wp2
  go_loop [3, 4, 5, 6] (fun cc i _ _ => ∃ k : Nat, i = .int .i64 k ∧ k ≤ bs.length ∧ cc = .int .u32 ((bs.take k).foldl cupd 4294967295 : Nat)) (fun _ i _ _ => bs.length - (intOf i).toNat)
  case atStart => exact ⟨0, rfl, by omega, rfl⟩
  case round =>
    obtain ⟨k, rfl, hk, rfl⟩ := hrel
    by_cases hlt : k < bs.length
    · obtain ⟨g, off, rfl, _, hcell⟩ := Rd.at hr (k := k) (by simpa [u8s] using hlt)
      have hx := hcell k (.int .u8 (bs[k].toNat : Nat)) (by simp [u8s, hlt])
      have hcl := foldl_lt (bs.take k) (c := 4294967295) (by omega)
      have hstep : (bs.take (k + 1)).foldl cupd 4294967295 = cupd ((bs.take k).foldl cupd 4294967295) bs[k] := by
        rw [List.take_succ_eq_append_getElem hlt, List.foldl_append]; rfl
      generalize (bs.take k).foldl cupd 4294967295 = cc at hcl hstep
      have hxl := bs[k].toNat_lt
      have Hstep := Lib.hid hstep; clear hstep
      obtain ⟨x, hxx⟩ : ∃ x, x = bs[k] := ⟨_, rfl⟩
      rw [← hxx] at hx hxl Hstep
      have Hxx := Lib.hid hxx; clear hxx
      have hix := u32_xor_nat cc x.toNat (by omega) (by omega)
      have hcx : cc ^^^ x.toNat < 4294967296 := xlt (by omega) x
      generalize hg : cc ^^^ x.toNat = t at hix hcx
      have Hg := Lib.hid hg
      clear hcell hg
      go_wp2
      go_loop [3, 5, 6] (fun c j _ => ∃ n : Nat, j = .int .i64 n ∧ n ≤ 8 ∧ c = .int .u32 (citer n t : Nat)) (fun _ j _ => 8 - (intOf j).toNat)
      case atStart => exact ⟨0, rfl, by omega, by simp [citer]⟩
      case round =>
        obtain ⟨n, rfl, hn, rfl⟩ := hrel
        by_cases hn8 : n < 8
        · have hcl := citer_lt hcx n
          have hs : citer (n + 1) t = cstep (citer n t) := rfl
          generalize citer n t = y at hcl hs
          have hand := u32_and_nat y 1 hcl (by omega)
          rw [show ((1 : Nat) : Int) = 1 from rfl, Nat.and_one_is_mod] at hand
          rcases Nat.mod_two_eq_zero_or_one y with h2 | h2
          · rw [cstep_even h2] at hs
            rw [h2] at hand
            have Hs := Lib.hid hs; clear hs h2
            go_wp2
            go_round
            case rel => exact ⟨n + 1, by go_num, by omega, by rw [Hs.out]; rfl⟩
            case measure => simp [intOf]; omega
          · rw [cstep_odd h2] at hs
            rw [h2] at hand
            have hxr := u32_xor_nat (y / 2) 3988292384 (by omega) (by omega)
            rw [show ((y / 2 : Nat) : Int) = (y : Int) / 2 from rfl, ← hs] at hxr
            have Hs := Lib.hid hs; clear hs h2
            go_wp2
            go_round
            case rel => exact ⟨n + 1, by go_num, by omega, congrArg (Value.int .u32) hxr⟩
            case measure => simp [intOf]; omega
        · obtain rfl : n = 8 := by omega
          go_wp2
          go_round
          case rel => exact ⟨k + 1, by go_num, by omega, by rw [Hstep.out]; unfold cupd; rw [Hg.out, citer_8]⟩
          case measure => simp [intOf]; omega
    · obtain rfl : k = bs.length := by omega
      have hcl := foldl_lt bs (c := 4294967295) (by omega)
      rw [List.take_length]
      have hfin := u32_xor_nat 4294967295 _ (by omega) hcl
      have Hfin := Lib.hid hfin
      clear hfin
      go_wp2
      go_ret
      exact ⟨congrArg (fun n => Ending.returned (.int .u32 n)) Hfin.out, rfl⟩

end Go.Proofs.Ytlphhadomhdacaa
