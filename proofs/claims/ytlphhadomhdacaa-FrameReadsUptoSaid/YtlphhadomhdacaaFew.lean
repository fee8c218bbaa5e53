/- Few: at most so many bytes, in new memory. -/
import Derived.Test.YtlphhadomhdacaaRows
import Derived.Test.YtlphhadomhdacaaCrcSums
import Derived.Outline
namespace Go.Proofs.Ytlphhadomhdacaa
open Go Go.RowKit

theorem ei_bytes : EI Try.prog 40 5 (.int .u8 0) 1 1 := ⟨Try.underlying40, by kernel_rfl, rfl, by decide⟩

theorem u8s_one (l : List UInt8) : ∀ u ∈ u8s l, u.oneCell' = true := by
  intro u hu; obtain ⟨x, _, rfl⟩ := List.mem_map.1 hu; rfl
theorem u8s_len (l : List UInt8) : (u8s l).length = l.length := by simp [u8s]
theorem u8s_take (l : List UInt8) (n : Nat) : u8s (l.take n) = (u8s l).take n := by simp [u8s]
theorem u8s_drop (l : List UInt8) (n : Nat) : u8s (l.drop n) = (u8s l).drop n := by simp [u8s]
theorem u8s_app (l r : List UInt8) : u8s (l ++ r) = u8s l ++ u8s r := by simp [u8s]

set_option maxHeartbeats 400000 in
theorem few_any (a : Option Addr) (c : Nat) (bs : List UInt8) (n : Int) (w : World) (hr : Rd w a (u8s bs)) (hl : bs.length ≤ c) (hc : c ≤ 140737488351232) (h0 : 0 ≤ n) :
    Calls Try.prog 25 #[.slice a bs.length c, .int .i64 n] w fun e w' => ∃ v, e = .returned v ∧ w'.ownsRow w.heap.size 5 1 v (bs.take n.toNat).length (u8s (bs.take n.toNat)) ∧ Ch (fun _ => False) w w' := by
  have hmx : maxLen = 9223372036854775807 := rfl
  have Hmx := Lib.hid hmx; clear hmx
  have o1 : ∀ (fr : Nat × Nat), fr = (0, 0) → (w.alloc (.cells #[] 5)).ownsRow w.heap.size 5 1 (.slice (some ⟨w.heap.size, 0, none⟩) 0 0) 0 [] := fun _ _ => World.ownsRow_lit w #[] 0 (Nat.le_refl _) (Nat.zero_le _) rfl
  by_cases hn : bs.length ≤ n
  · rw [List.take_of_length_le (by omega)]
    have rd1 : Rd (w.alloc (.cells #[] 5)) a (u8s bs) := Rd.keep (ch_new _ _) hr (fun _ _ h => h)
    go_enter Try.func25, Try.ntmps25
    go_wp2_with (at_builtin; refine wpList_append_rd rfl (.tmp 5) (.tmp 11) rfl ei_bytes w.heap.size (.slice (some ⟨w.heap.size, 0, none⟩) 0 0) 0 [] rfl (o1 _ rfl) _ bs.length _ (u8s bs) rfl (by rw [u8s_len]; omega) (by simpa using rd1) (u8s_one _) (by rw [Hmx.out]; omega) (by omega) (by simp) ?_)
    intro v' w' own gr _ _
    have ch2 : Ch (fun _ => False) w w' := (ch_new w _).seq (Ch.ofGrown gr) _ (fun _ _ h => h) (fun i hi h => by simp [Value.ownBlock] at h; omega)
    have Own := Lib.hid own; clear own gr
    go_wp2_with fail
    go_ret
    exact ⟨v', rfl, Own.out, ch2⟩
  · obtain ⟨k, rfl⟩ := Int.eq_ofNat_of_zero_le h0
    rw [Int.toNat_natCast]
    have hk : k < bs.length := by omega
    have hkl : (bs.take k).length = k := by simp; omega
    have rd1 : Rd (w.alloc (.cells #[] 5)) a (u8s (bs.take k)) := Rd.keep (ch_new _ _) (by rw [u8s_take]; exact hr.take k) (fun _ _ h => h)
    have Hkl := Lib.hid hkl; clear hkl
    go_enter Try.func25, Try.ntmps25
    go_wp2_with (at_builtin; refine wpList_append_rd rfl (.tmp 5) (.tmp 11) rfl ei_bytes w.heap.size (.slice (some ⟨w.heap.size, 0, none⟩) 0 0) 0 [] rfl (o1 _ rfl) _ k _ (u8s (bs.take k)) rfl (by rw [u8s_len, Hkl.out]; omega) (by simpa using rd1) (u8s_one _) (by rw [Hmx.out]; omega) (by omega) (by simp) ?_)
    intro v' w' own gr _ _
    have ch2 : Ch (fun _ => False) w w' := (ch_new w _).seq (Ch.ofGrown gr) _ (fun _ _ h => h) (fun i hi h => by simp [Value.ownBlock] at h; omega)
    have Own := Lib.hid own; clear own gr
    go_wp2_with fail
    go_ret
    refine ⟨v', rfl, ?_, ch2⟩
    rw [Hkl.out]
    have := Own.out
    simpa using this

end Go.Proofs.Ytlphhadomhdacaa
