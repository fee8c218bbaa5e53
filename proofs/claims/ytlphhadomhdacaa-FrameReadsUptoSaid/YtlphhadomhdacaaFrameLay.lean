/- Lay and Next: their contracts. -/
import Derived.Test.YtlphhadomhdacaaFrame
namespace Go.Proofs.Ytlphhadomhdacaa
open Go Go.RowKit

theorem lay_bad (bf bt : Nat) (a : Option Addr) (c : Nat) (body : List UInt8) (kind : Int) (w : World) (h : kind < 1 ∨ 255 < kind ∨ 1048576 < body.length) :
    Calls Try.prog 33 #[.pointer (some ⟨bf, 0, none⟩), .int .i64 kind, .slice a body.length c] w fun e w' => e = .returned (.tuple #[.slice none 0 0, .int .i64 1]) ∧ w' = w := by
  have hc : kind < 1 ∨ (1 ≤ kind ∧ 255 < kind) ∨ (1 ≤ kind ∧ kind ≤ 255 ∧ 1048576 < body.length) := by omega
  clear h
  rcases hc with h | ⟨h1, h2⟩ | ⟨h1, h2, h3⟩
  all_goals
    go_enter Try.func33, Try.ntmps33
    go_wp2_with fail
    go_ret2
    exact ⟨rfl, rfl⟩

set_option maxRecDepth 100000 in
set_option maxHeartbeats 2000000 in
theorem lay_any (bf bt : Nat) (m : Bool) (a : Option Addr) (c : Nat) (body : List UInt8) (kind : Nat) (w : World) (hk : 1 ≤ kind) (hk2 : kind ≤ 255) (hl : body.length ≤ 1048576) (hf : FAt w bf bt m) (hr : Rd w a (u8s body)) (hbb : body ≠ [] → ∀ ad, a = some ad → ad.block ≠ bt) :
    Calls Try.prog 33 #[.pointer (some ⟨bf, 0, none⟩), .int .i64 kind, .slice a body.length c] w fun e w' => ∃ g v, e = .returned (.tuple #[v, .int .i64 0]) ∧ BsAt w' g v (frameB kind body) ∧ (∃ k, g = some k ∧ w.heap.size ≤ k) ∧ FAt w' bf bt true ∧ Ch (fun k => k = bt) w w' := by
  have hbf := block_lt (show w.heap[bf]? = _ from hf.2.1)
  have hbt : bt < w.heap.size := by have := hf.2.2; cases m <;> exact block_lt this.2
  go_enter Try.func33, Try.ntmps33
  go_wp2_with fail
  refine (newWriter_any _).mono ?_; rintro e w1 ⟨rfl, hw1, ch1, z1⟩
  have Hz1 := Lib.hid z1; clear z1
  go_wp2_with fail
  refine (wU8 w.heap.size none [] (kind : Int) _ hw1 (by simp)).mono ?_; rintro e w2 ⟨rfl, g2, hw2, hg2, ch2⟩
  rw [u64of_nat (by omega), List.nil_append] at hw2
  have c2 : Ch (fun _ => False) w w2 := ch1.seq ch2 _ (fun _ _ h => h) (fun i hi h => by simp at h; omega)
  have f2 : ∀ k, g2 = some k → w.heap.size ≤ k := fun k hk => by rcases hg2 with h | ⟨j, h, h2⟩ <;> rw [h] at hk <;> cases hk; have := ch1.size; omega
  clear hw1 ch1 ch2 hg2
  go_wp2_with fail
  refine (four_any w.heap.size g2 _ body.length _ hw2 (by omega) (by simp [beB_len])).mono ?_; rintro e w3 ⟨rfl, g3, hw3, hg3, ch3⟩
  have hs2 := c2.size
  have c3 : Ch (fun _ => False) w w3 := c2.seq ch3 _ (fun _ _ h => h) (fun i hi h => by rcases h with h | h; omega; have := f2 i h; omega)
  have f3 : ∀ k, g3 = some k → w.heap.size ≤ k := fun k hk => by
    rcases hg3 with h | ⟨j, h, h2⟩
    · exact f2 k (by rw [← h]; exact hk)
    · rw [h] at hk; cases hk; omega
  rw [show beB 1 kind ++ beB 4 body.length = headB kind body.length from rfl] at hw3
  clear hw2 ch3 hg3 c2 f2
  have hhl : (headB kind body.length).length = 5 := by simp [headB, beB_len]
  have Hhl := Lib.hid hhl; clear hhl
  generalize hhd : headB kind body.length = hd at hw3 Hhl
  have Hhd := Lib.hid hhd; clear hhd
  go_wp2_with fail
  refine (wBytes w.heap.size g3 hd _ hw3 (by rw [Hhl.out]; omega)).mono ?_; rintro e w4 ⟨g4, v4, rfl, hb4, hg4, ch4⟩
  obtain ⟨ao, cp, rfl, hrd4, _, _, _⟩ := hb4.form
  have c4 := c3.trans ch4
  have hw4 := WrAt.keep ch4 hw3 (fun h => h) (fun _ _ h => h)
  have hf4 := FAt.keep c4 hf (fun h => h) (fun h => h)
  have hr4 := Rd.keep c4 hr (fun _ _ h => h)
  have hs4 := c4.size
  clear hw3 hb4 ch4 hg4
  go_wp2_with fail
  refine (fsum_any bf bt m ao cp hd a c body _ hf4 hrd4 hr4 (by rw [Hhl.out]; omega)).mono ?_; rintro e w5 ⟨rfl, hf5, ch5⟩
  have hw5 := WrAt.keep ch5 hw4 (by omega) (fun k hk h => by have := f3 k hk; omega)
  have c5 := c4.seq ch5 (fun k => k = bt) (fun _ _ h => h.elim) (fun _ _ h => h)
  have hr5 : Rd w5 a (u8s body) := by
    by_cases hne : body = []
    · rw [hne]; exact Rd.nil _ _
    · exact Rd.keep c5 hr (fun ad had h => hbb hne ad had h)
  have hcl := crcN_lt (hd ++ body)
  have hs5 := ch5.size
  clear hw4 hf4 hr4 hrd4 ch5
  go_wp2_with fail
  refine (four_any w.heap.size g3 hd (crcN (hd ++ body)) _ hw5 (by omega) (by rw [Hhl.out]; omega)).mono ?_; rintro e w6 ⟨rfl, g6, hw6, hg6, ch6⟩
  have hs6 := ch6.size
  have c6 := c5.seq ch6 (fun k => k = bt) (fun _ _ h => h) (fun i hi h => by rcases h with h | h; omega; have := f3 i h; omega)
  have f6 : ∀ k, g6 = some k → w.heap.size ≤ k := fun k hk => by
    rcases hg6 with h | ⟨j, h, h2⟩
    · exact f3 k (by rw [← h]; exact hk)
    · rw [h] at hk; cases hk; omega
  have hf6 := FAt.keep ch6 hf5 (fun h => by rcases h with h | h; omega; have := f3 _ h; omega) (fun h => by rcases h with h | h; omega; have := f3 _ h; omega)
  have hr6 : Rd w6 a (u8s body) := by
    by_cases hne : body = []
    · rw [hne]; exact Rd.nil _ _
    · exact Rd.keep c6 hr (fun ad had h => hbb hne ad had h)
  have hlen : (hd ++ beB 4 (crcN (hd ++ body))).length = 9 := by rw [List.length_append, Hhl.out, beB_len]
  have Hlen := Lib.hid hlen; clear hlen
  have Hhd2 := Lib.hid (show frameB kind body = hd ++ beB 4 (crcN (hd ++ body)) ++ body by unfold frameB; rw [Hhd.out])
  generalize hd ++ beB 4 (crcN (hd ++ body)) = h9 at hw6 Hlen Hhd2
  clear hw5 hf5 hr5 ch6 hg6
  go_wp2_with fail
  refine (wRaw w.heap.size g6 h9 a c body _ hw6 hr6 (by rw [Hlen.out]; omega)).mono ?_; rintro e w7 ⟨rfl, g7, hw7, hg7, ch7⟩
  have c7 := c6.seq ch7 (fun k => k = bt) (fun _ _ h => h) (fun i hi h => by rcases h with h | h; omega; have := f6 i h; omega)
  have hf7 := FAt.keep ch7 hf6 (fun h => by rcases h with h | h; omega; have := f6 _ h; omega) (fun h => by rcases h with h | h; omega; have := f6 _ h; omega)
  have hs7 := ch7.size
  clear hw6 hf6 hr6 ch7 hg7
  go_wp2_with fail
  refine (wBytes w.heap.size g7 (h9 ++ body) _ hw7 (by rw [List.length_append, Hlen.out]; omega)).mono ?_; rintro e w8 ⟨g8, v8, rfl, hb8, ⟨k8, hk8, hk9⟩, ch8⟩
  have hf8 := FAt.keep ch8 hf7 (fun h => h) (fun h => h)
  have c8 := c7.seq ch8 (fun k => k = bt) (fun _ _ h => h) (fun _ _ h => h.elim)
  have Hf8 := Lib.hid hf8; have Hb8 := Lib.hid hb8; have Hk8 := Lib.hid hk8
  clear hw7 hf7 ch8 hf8 hb8 hk8
  go_wp2_with fail
  go_ret2
  exact ⟨g8, v8, rfl, by rw [Hhd2.out]; exact Hb8.out, ⟨k8, Hk8.out, by omega⟩, Hf8.out, c8⟩

end Go.Proofs.Ytlphhadomhdacaa
