/- FrameKnown: the example, and the walk. -/
import Derived.Test.YtlphhadomhdacaaFrameNext
import Derived.Test.YtlphhadomhdacaaStr
import Derived.Lib.SlBytesConst
namespace Go.Proofs.Ytlphhadomhdacaa
open Go Go.RowKit

theorem f1_len : (frameB 1 [97]).length = 10 := by decide +kernel
theorem f1_next : nextF (frameB 1 [97]) = (1, [97], 10, 0) := by decide +kernel

theorem size_any (n : Int) (w : World) (h0 : 0 ≤ n) (h1 : n ≤ 1048576) : Calls Try.prog 46 #[.int .i64 n] w fun e w' => e = .returned (.int .i64 (9 + n)) ∧ w' = w := by
  go_enter Try.func46, Try.ntmps46
  go_wp2
  go_ret
  exact ⟨rfl, rfl⟩

set_option maxRecDepth 100000 in
set_option maxHeartbeats 2000000 in
theorem fknown_any (w : World) : Calls Try.prog 32 #[] w fun e w' => e = .returned (.bool true) ∧ Ch (fun _ => False) w w' := by
  have kc := fun (w : World) (C : Array Value) (n c : Nat) => Lib.run_convert_bytes_const (P := Try.prog) w 40 5 C n c Try.underlying40 Try.underlying5
  go_enter Try.func32, Try.ntmps32
  go_wp2_with fail
  refine (fnew_any _).mono ?_; rintro e w1 ⟨bf, bt, rfl, hf1, hb1, hb2, ch1⟩
  go_wp2_with fail
  refine (next_any bf bt false none 0 [] _ hf1 (Rd.nil _ _) (Nat.le_refl _) (by omega) (by simp) (by simp)).mono ?_
  rintro e w2 ⟨g2, v2, m2, rfl, _, _, hf2, ch2⟩
  rw [show nextF [] = (0, [], 0, 7) from rfl]
  have c2 : Ch (fun _ => False) w w2 := ch1.seq ch2 _ (fun _ _ h => h) (fun i hi h => by omega)
  clear hf1 ch1 ch2
  go_wp2_with fail
  have hs2 := c2.size
  have hbt2 : bt < w2.heap.size := by have := hf2.2.2; cases m2 <;> exact block_lt this.2
  refine (lay_any bf bt m2 _ 1 [97] 1 _ (by omega) (by omega) (by simp) (FAt.keep (ch_new _ _) hf2 (fun h => h) (fun h => h)) (u8s_rd (alloc_heap_new _ _) _ rfl) (fun _ ad had => by cases had; show w2.heap.size ≠ bt; omega)).mono ?_
  rintro e w3 ⟨g3, v3, rfl, hb3, ⟨k3, rfl, hk3⟩, hf3, ch3⟩
  have c3 : Ch (fun _ => False) w w3 := (c2.alloc _).seq ch3 _ (fun _ _ h => h) (fun i hi h => by omega)
  obtain ⟨ao, cp, rfl, rd3, hl3, hm3, hab3⟩ := hb3.form
  rw [f1_len]
  rw [f1_len] at hl3
  rw [heap_alloc_size] at hk3
  have hn := next_any bf bt true ao cp (frameB 1 [97]) w3 hf3 rd3 (by rw [f1_len]; exact hl3) (by unfold maxLen at hm3; omega) (by rw [f1_len]; omega) (fun _ ad had => by
    have h := hab3 ad had
    have h2 : k3 = ad.block := by injection h
    omega)
  rw [f1_len, f1_next] at hn
  have Hn := Lib.hid hn
  clear hf2 ch3 c2 hn hm3
  go_wp2_with fail
  refine Hn.out.mono ?_; rintro e w4 ⟨g4, v4, m4, rfl, hb4, _, hf4, ch4⟩
  obtain ⟨ao4, cp4, rfl, rd4, hl4, hm4, hab4⟩ := hb4.form
  have c4 := c3.seq ch4 (fun _ => False) (fun _ _ h => h) (fun i hi h => by omega)
  clear Hn hb4 hf4 ch4
  go_wp2_with fail
  refine (size_any 1 _ (by omega) (by omega)).mono ?_; rintro e w5 ⟨rfl, rfl⟩
  have hstr : ∀ (c : Nat), (convert 40 9 (.slice ao4 1 c)).run Try.prog w5 = .ok (.string ⟨#[97]⟩) w5 := fun (c : Nat) => run_str (P := Try.prog) (w := w5) 40 9 5 Try.underlying40 Try.underlying5 Try.underlying9 rd4 c
  go_wp2_with fail
  go_ret
  exact ⟨rfl, c4⟩


def bX : List UInt8 := [7, 0, 0, 0, 5, 161, 169, 179, 39, 104, 101, 108, 108, 111]
def bY : List UInt8 := [7, 0, 0, 0, 5, 161, 169, 179, 39, 104, 101, 108, 108, 112]
theorem fX : frameB 7 [104, 101, 108, 108, 111] = bX := by decide +kernel
theorem nX : nextF (bX.take 13) = (0, [], 0, 7) := by decide +kernel
theorem nY : nextF bY = (0, [], 0, 8) := by decide +kernel
theorem n0 : nextF [0, 0, 0, 0, 0, 0, 0, 0, 0] = (0, [], 0, 5) := by decide +kernel
theorem n1 : nextF [1, 255, 0, 0, 0, 0, 0, 0, 0] = (0, [], 0, 5) := by decide +kernel
theorem setXY : (u8s bX).set 13 (.int .u8 112) = u8s bY := rfl

theorem lay_long (bf bt : Nat) (a : Option Addr) (c n : Nat) (kind : Int) (w : World) (h : 1048576 < n) :
    Calls Try.prog 33 #[.pointer (some ⟨bf, 0, none⟩), .int .i64 kind, .slice a n c] w fun e w' => e = .returned (.tuple #[.slice none 0 0, .int .i64 1]) ∧ w' = w := by
  have h1 := lay_bad bf bt a c (List.replicate n 0) kind w (by rw [List.length_replicate]; omega)
  rw [List.length_replicate] at h1
  exact h1

theorem rd_put {w : World} {g : Nat} {cs : Array Value} {T : TypeId} {fr : Nat × Nat} (hb : w.heap[g]? = some (.cells cs T fr)) {xs : List Value} (hr : Rd w (some ⟨g, 0, none⟩) xs) (k : Nat) (u : Value) (hk : k < xs.length) :
    Rd (w.setCell ⟨g, k, none⟩ u) (some ⟨g, 0, none⟩) (xs.set k u) := by
  have hadd : ∀ j, (⟨g, 0, none⟩ : Addr).add j = ⟨g, j, none⟩ := fun j => by unfold Addr.add; split <;> simp_all
  rcases hr with h0 | ⟨ad, h1, h2⟩
  · subst h0; simp at hk
  · cases h1
    have h3 : ∀ j v, xs[j]? = some v → cs[j]? = some v := fun j v hv => by
      have := h2 j v hv
      rwa [hadd, cellH hb] at this
    refine .inr ⟨_, rfl, fun j v hv => ?_⟩
    rw [hadd, cellH (setH hb k u)]
    have hkc : k < cs.size := by
      have := h3 k xs[k] (by simp)
      exact (Array.getElem?_eq_some_iff.1 this).1
    by_cases hj : k = j
    · subst hj
      rw [List.getElem?_set_self hk] at hv
      cases hv
      simp [hkc]
    · rw [List.getElem?_set_ne hj] at hv
      rw [Array.getElem?_setIfInBounds_ne hj]
      exact h3 j v hv

set_option maxRecDepth 100000 in
set_option maxHeartbeats 4000000 in
theorem frameKnown_walk (W : World) : Calls Try.prog 11 #[] W fun e w' => e = .returned (.bool true) ∧ Below W.heap.size W w' := by
  have kc := fun (w : World) (C : Array Value) (n c : Nat) => Lib.run_convert_bytes_const (P := Try.prog) w 40 5 C n c Try.underlying40 Try.underlying5
  have hmx : maxLen = 9223372036854775807 := rfl
  have Hmx := Lib.hid hmx; clear hmx
  obtain ⟨i0, hi, hz0, hz1, hz2⟩ := info_parts (P := Try.prog) (e := 5) (z := .int .u8 0) (size := 1) (bytes := 1) (by kernel_rfl)
  go_enter Try.func11, Try.ntmps11
  go_wp2_with fail
  refine (fnew_any _).mono ?_; rintro e w1 ⟨bf, bt, rfl, hf1, hb1, hb2, ch1⟩
  go_wp2_with fail
  refine (fknown_any _).mono ?_; rintro e w2 ⟨rfl, ch2⟩
  have c2 : Ch (fun k => W.heap.size ≤ k) W w2 := (ch1.trans ch2).mono (fun _ _ h => h.elim)
  have hf2 := FAt.keep ch2 hf1 (fun h => h) (fun h => h)
  clear ch1 ch2 hf1
  go_wp2_with fail
  refine (lay_bad bf bt none 0 [] 0 _ (by omega)).mono ?_; rintro e w' ⟨rfl, rfl⟩
  go_wp2_with fail
  refine (lay_bad bf bt none 0 [] 256 _ (by omega)).mono ?_; rintro e w' ⟨rfl, rfl⟩
  go_wp2_with (at_make; refine wpList_make_full _ rfl _ _ 40 rfl 0 5 i0 (.int .u8 0) 1 Try.underlying40 hi hz0 hz1 .i64 .i64 _ _ 1048577 rfl rfl rfl rfl (by rw [hz2]; omega) (by rw [Hmx.out]; omega) (Nat.zero_le _) ?_)
  intro w3 _ g3
  have ch3 : Ch (fun _ => False) w' w3 := (Ch.ofGrown g3).mono (fun _ _ h => by cases h)
  have c3 := c2.seq ch3 (fun k => W.heap.size ≤ k) (fun _ _ h => h) (fun _ _ h => h.elim)
  have hf3 := FAt.keep ch3 hf2 (fun h => h) (fun h => h)
  clear g3 ch3 c2 hf2
  go_wp2_with fail
  refine (lay_long bf bt _ _ 1048577 1 _ (by omega)).mono ?_; rintro e w4 ⟨rfl, rfl⟩
  go_wp2_with fail
  have hbt4 : bt < w4.heap.size := by have := hf3.2.2; exact block_lt this.2
  refine (lay_any bf bt false _ 5 [104, 101, 108, 108, 111] 7 _ (by omega) (by omega) (by simp) (FAt.keep (ch_new _ _) hf3 (fun h => h) (fun h => h)) (u8s_rd (alloc_heap_new _ _) _ rfl) (fun _ ad had => by cases had; show w4.heap.size ≠ bt; omega)).mono ?_
  rintro e w5 ⟨g5, v5, rfl, hb5, ⟨k5, rfl, hk5⟩, hf5, ch5⟩
  rw [fX] at hb5
  have c5 := (c3.alloc _).seq ch5 (fun k => W.heap.size ≤ k) (fun _ _ h => h) (fun i hi h => by omega)
  obtain ⟨ao, cp, rfl, rd5, hl5, hm5, hab5⟩ := hb5.form
  rw [heap_alloc_size] at hk5
  rw [show bX.length = 14 from rfl] at hl5 ⊢
  have hk5b : ∀ ad, ao = some ad → ad.block ≠ bt := fun ad had => by
    have h := hab5 ad had
    have h2 : k5 = ad.block := by injection h
    omega
  have hs5 := ch5.size
  rw [heap_alloc_size] at hs5
  clear c3 ch5 hf3 hab5
  have hcp : cp ≤ 9223372036854775807 := by rw [Hmx.out] at hm5; exact hm5
  go_wp2_with fail
  refine (next_any bf bt true ao cp (bX.take 13) w5 hf5 (by rw [u8s_take]; exact rd5.take 13) (by show 13 ≤ cp; omega) hcp (by decide) (fun _ => hk5b)).mono ?_
  rw [nX]
  rintro e w6 ⟨g6, v6, m6, rfl, hb6, _, hf6, ch6⟩
  obtain ⟨ao6, cp6, rfl, _, _, _, _⟩ := hb6.form
  have c6 := c5.seq ch6 (fun k => W.heap.size ≤ k) (fun _ _ h => h) (fun i hi h => by omega)
  have rd6 := Rd.keep ch6 rd5 hk5b
  have hs6 := ch6.size
  clear c5 ch6 rd5 hf5 hb6
  go_wp2_with fail
  refine (next_any bf bt m6 _ 9 [0, 0, 0, 0, 0, 0, 0, 0, 0] _ (FAt.keep (ch_new _ _) hf6 (fun h => h) (fun h => h)) (u8s_rd (alloc_heap_new _ _) _ rfl) (by decide) (by omega) (by decide) (fun _ ad had => by cases had; show w6.heap.size ≠ bt; omega)).mono ?_
  rw [n0]
  rintro e w7 ⟨g7, v7, m7, rfl, hb7, _, hf7, ch7⟩
  obtain ⟨ao7, cp7, rfl, _, _, _, _⟩ := hb7.form
  have c7 := (c6.alloc _).seq ch7 (fun k => W.heap.size ≤ k) (fun _ _ h => h) (fun i hi h => by omega)
  have rd7 := Rd.keep ch7 (Rd.keep (ch_new _ _) rd6 (fun _ _ h => h)) hk5b
  have hs7 := ch7.size
  rw [heap_alloc_size] at hs7
  clear c6 ch7 rd6 hf6 hb7
  go_wp2_with fail
  refine (next_any bf bt m7 _ 9 [1, 255, 0, 0, 0, 0, 0, 0, 0] _ (FAt.keep (ch_new _ _) hf7 (fun h => h) (fun h => h)) (u8s_rd (alloc_heap_new _ _) _ rfl) (by decide) (by omega) (by decide) (fun _ ad had => by cases had; show w7.heap.size ≠ bt; omega)).mono ?_
  rw [n1]
  rintro e w8 ⟨g8, v8, m8, rfl, hb8, _, hf8, ch8⟩
  obtain ⟨ao8, cp8, rfl, _, _, _, _⟩ := hb8.form
  have c8 := (c7.alloc _).seq ch8 (fun k => W.heap.size ≤ k) (fun _ _ h => h) (fun i hi h => by omega)
  have rd8 := Rd.keep ch8 (Rd.keep (ch_new _ _) rd7 (fun _ _ h => h)) hk5b
  have hs8 := ch8.size
  rw [heap_alloc_size] at hs8
  clear c7 ch8 rd7 hf7 hb8
  have o1 : (w8.alloc (.cells #[] 5)).ownsRow w8.heap.size 5 1 (.slice (some ⟨w8.heap.size, 0, none⟩) 0 0) 0 [] := World.ownsRow_lit w8 #[] 0 (Nat.le_refl _) (Nat.zero_le _) rfl
  have rd9 : Rd (w8.alloc (.cells #[] 5)) ao (u8s bX) := Rd.keep (ch_new _ _) rd8 (fun _ _ h => h)
  go_wp2_with (at_builtin; refine wpList_append_rd rfl (.tmp 85) (.tmp 86) rfl ei_bytes w8.heap.size (.slice (some ⟨w8.heap.size, 0, none⟩) 0 0) 0 [] rfl o1 _ 14 _ (u8s bX) rfl rfl (by first | exact rd9 | simpa using rd9) (u8s_one _) (by rw [Hmx.out]; omega) (by omega) (by simp) ?_)
  intro v9 w9 own9 gr9 _ at9
  have ch9 : Ch (fun _ => False) w8 w9 := (ch_new w8 _).seq (Ch.ofGrown gr9) _ (fun _ _ h => h) (fun i hi h => by simp [Value.ownBlock] at h; omega)
  obtain ⟨k9, cp9, cur9, hv9, hk9, hh9, hn9, hm9, _, _⟩ : ∃ g cap cur, v9 = .slice (some ⟨g, 0, none⟩) 14 cap ∧ w8.heap.size ≤ g ∧ w9.heap[g]? = some (.cells cur 5 (0, 0)) ∧ 14 ≤ cap ∧ cap ≤ maxLen ∧ True ∧ True := by
    rcases own9.2 with ⟨_, h⟩ | ⟨g, cap, cur, h1, h2, h3, h4, h5, h6, h7⟩
    · simp at h
    · exact ⟨g, cap, cur, h1, h2, h3, h4, h5, trivial, trivial⟩
  subst hv9
  have rdA : Rd w9 (some ⟨k9, 0, none⟩) (u8s bX) := Rd.own own9
  have hcell : w9.cell? ⟨k9, 13, none⟩ = some (.int .u8 111) := by
    rcases rdA with h | ⟨ad, h, h2⟩
    · cases h
    · cases h; exact h2 13 _ rfl
  have hfro : w9.frozen? ⟨k9, 13, none⟩ = false := frozH hh9 13
  have rdB := rd_put hh9 rdA 13 (.int .u8 112) (by decide)
  rw [setXY] at rdB
  have ch9b : Ch (fun k => k = k9) w9 (w9.setCell ⟨k9, 13, none⟩ (.int .u8 112)) := Ch.setCell (S := fun k => k = k9) (Ch.refl _ _) (p := ⟨k9, 13, none⟩) (fun _ => rfl) _
  have hbt8 : bt < w8.heap.size := by omega
  have hbf8 : bf < w8.heap.size := block_lt (show w8.heap[bf]? = _ from hf8.2.1)
  have hf9 := FAt.keep ch9b (FAt.keep ch9 hf8 (fun h => h) (fun h => h)) (by omega) (by omega)
  have c9 := (c8.seq ch9 (fun k => W.heap.size ≤ k) (fun _ _ h => h) (fun i hi h => h.elim)).seq ch9b (fun k => W.heap.size ≤ k) (fun _ _ h => h) (fun i hi h => by have := c8.size; omega)
  have hn := next_any bf bt m8 (some ⟨k9, 0, none⟩) cp9 bY _ hf9 rdB hn9 (by rw [Hmx.out] at hm9; exact hm9) (by decide) (fun _ ad had => by cases had; show k9 ≠ bt; omega)
  rw [nY] at hn
  have Hn := Lib.hid hn; have Hc9 := Lib.hid c9
  clear hn own9 gr9 at9 o1 rd9 rd8 rdA rdB ch9 ch9b hf8 hf9 c8 c9 hh9
  go_wp2_with fail
  refine Hn.out.mono ?_
  rintro e wA ⟨gA, vA, mA, rfl, hbA, _, _, chA⟩
  obtain ⟨aoA, cpA, rfl, _, _, _, _⟩ := hbA.form
  have cA := Hc9.out.seq chA (fun k => W.heap.size ≤ k) (fun _ _ h => h) (fun i hi h => by omega)
  clear Hn Hc9 chA hbA
  go_wp2_with fail
  go_ret
  exact ⟨rfl, cA.below (Nat.le_refl _) (fun k hk h => by omega)⟩

end Go.Proofs.Ytlphhadomhdacaa
