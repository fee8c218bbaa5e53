/- Next: its contract. -/
import Derived.Test.YtlphhadomhdacaaFrameLay
namespace Go.Proofs.Ytlphhadomhdacaa
open Go Go.RowKit

theorem nine {bs : List UInt8} (h : 9 ≤ bs.length) : ∃ b0 b1 b2 b3 b4 b5 b6 b7 b8 tl, bs = b0 :: b1 :: b2 :: b3 :: b4 :: b5 :: b6 :: b7 :: b8 :: tl := by
  match bs, h with
  | b0 :: b1 :: b2 :: b3 :: b4 :: b5 :: b6 :: b7 :: b8 :: tl, _ => exact ⟨b0, b1, b2, b3, b4, b5, b6, b7, b8, tl, rfl⟩

theorem two_lt (a b : UInt8) : beN [a, b] < 65536 := Nat.lt_of_lt_of_eq (beN_lt [a, b]) (show 256 ^ 2 = 65536 by decide)
theorem four_eq (a b c d : UInt8) : beN [a, b] * 65536 + beN [c, d] = beN [a, b, c, d] := by
  have h := beN_app [a, b] [c, d]
  rw [show 256 ^ [c, d].length = 65536 from (show 256 ^ 2 = 65536 by decide)] at h
  exact h.symm
theorem four_lt (a b c d : UInt8) : beN [a, b, c, d] < 4294967296 := Nat.lt_of_lt_of_eq (beN_lt [a, b, c, d]) (show 256 ^ 4 = 4294967296 by decide)
theorem one_eq (a : UInt8) : beN [a] = a.toNat := by simp [beN]

/-- What Next answers, and what it leaves. -/
def NextPost (bf bt : Nat) (w : World) (r : Nat × List UInt8 × Nat × Int) (e : Ending) (w' : World) : Prop :=
  ∃ g v m, e = .returned (.tuple #[.int .i64 r.1, v, .int .i64 r.2.2.1, .int .i64 r.2.2.2]) ∧ BsAt w' g v r.2.1 ∧ (g = none ∨ ∃ k, g = some k ∧ w.heap.size ≤ k) ∧ FAt w' bf bt m ∧ Ch (fun k => k = bt) w w'

theorem next_none {bf bt : Nat} {w w' : World} {m : Bool} {er : Int} (hf : FAt w' bf bt m) (hch : Ch (fun k => k = bt) w w') : NextPost bf bt w (0, [], 0, er) (.returned (.tuple #[.int .i64 0, .slice none 0 0, .int .i64 0, .int .i64 er])) w' :=
  ⟨none, .slice none 0 0, m, rfl, ⟨rfl, World.ownsRow_nil _ _ _ _⟩, .inl rfl, hf, hch⟩

theorem next_short (bf bt : Nat) (m : Bool) (a : Option Addr) (c : Nat) (bs : List UInt8) (w : World) (h : bs.length < 9) (hf : FAt w bf bt m) :
    Calls Try.prog 34 #[.pointer (some ⟨bf, 0, none⟩), .slice a bs.length c] w (NextPost bf bt w (nextF bs)) := by
  have hn : nextF bs = (0, [], 0, 7) := by simp [nextF, h]
  rw [hn]
  clear hn
  go_enter Try.func34, Try.ntmps34
  go_wp2_with fail
  refine bodyPost_ret (v := .tuple #[.int .i64 0, .slice none 0 0, .int .i64 0, .int .i64 7]) (by simp [results, Try.results34, go_sem]) rfl ?_
  exact next_none hf (Ch.refl _ _)

set_option maxRecDepth 100000 in
set_option maxHeartbeats 2000000 in
theorem next_long (bf bt : Nat) (m : Bool) (a : Option Addr) (c : Nat) (b0 b1 b2 b3 b4 b5 b6 b7 b8 : UInt8) (tl : List UInt8) (w : World) (hf : FAt w bf bt m)
    (hr : Rd w a (u8s (b0 :: b1 :: b2 :: b3 :: b4 :: b5 :: b6 :: b7 :: b8 :: tl))) (hlc : tl.length + 9 ≤ c) (hc : c ≤ 9223372036854775807) (hln : tl.length + 9 ≤ 140737488355328) (hbb : ∀ ad, a = some ad → ad.block ≠ bt) :
    Calls Try.prog 34 #[.pointer (some ⟨bf, 0, none⟩), .slice a (tl.length + 9) c] w (NextPost bf bt w (nextF (b0 :: b1 :: b2 :: b3 :: b4 :: b5 :: b6 :: b7 :: b8 :: tl))) := by
  have hmx : maxLen = 9223372036854775807 := rfl
  have Hmx := Lib.hid hmx; clear hmx
  have r9 : Rd w a (u8s [b0, b1, b2, b3, b4, b5, b6, b7, b8]) := hr.take 9
  have q0 := b0.toNat_lt
  have q1 := two_lt b1 b2
  have q2 := two_lt b3 b4
  have q3 := two_lt b5 b6
  have q4 := two_lt b7 b8
  have o1 := or_i64 (beN [b1, b2]) (beN [b3, b4]) q1 q2
  have o2 := or_i64 (beN [b5, b6]) (beN [b7, b8]) q3 q4
  rw [four_eq] at o1 o2
  have hn : nextF (b0 :: b1 :: b2 :: b3 :: b4 :: b5 :: b6 :: b7 :: b8 :: tl) =
      if b0.toNat = 0 ∨ 1048576 < beN [b1, b2, b3, b4] then (0, [], 0, 5)
      else if tl.length < beN [b1, b2, b3, b4] then (0, [], 0, 7)
      else if crcN ([b0, b1, b2, b3, b4] ++ tl.take (beN [b1, b2, b3, b4])) ≠ beN [b5, b6, b7, b8] then (0, [], 0, 8)
      else (b0.toNat, tl.take (beN [b1, b2, b3, b4]), 9 + beN [b1, b2, b3, b4], 0) := by
    simp [nextF, one_eq]
    intro h; omega
  have n4 := four_lt b1 b2 b3 b4
  have n5 := four_lt b5 b6 b7 b8
  generalize beN [b1, b2, b3, b4] = N at o1 hn n4
  generalize beN [b5, b6, b7, b8] = S at o2 hn n5
  have Hn := Lib.hid hn
  have rb : Rd w a (u8s [b0, b1, b2, b3, b4]) := hr.take 5
  have Rb := Lib.hid rb; have Hr := Lib.hid hr
  clear hn rb hr
  go_enter Try.func34, Try.ntmps34
  go_wp2_with fail
  refine (newReader_any _ _ [b0, b1, b2, b3, b4, b5, b6, b7, b8] _ r9 (by simp)).mono ?_
  rintro e w1 ⟨br, g, rfl, hre, hb1, hg1, ch1⟩
  go_wp2_with fail
  refine (rU8 br g _ false _ hre (by simp)).mono ?_; rintro e w2 ⟨rfl, hre2, ch2⟩
  rw [show rOut [b0, b1, b2, b3, b4, b5, b6, b7, b8] false 1 = [b0] from rfl, one_eq]
  rw [show rLeft [b0, b1, b2, b3, b4, b5, b6, b7, b8] false 1 = [b1, b2, b3, b4, b5, b6, b7, b8] from rfl, show (!rOk [b0, b1, b2, b3, b4, b5, b6, b7, b8] false 1) = false from rfl] at hre2
  go_wp2_with fail
  refine (rU16 br g _ false _ hre2 (by simp)).mono ?_; rintro e w3 ⟨rfl, hre3, ch3⟩
  rw [show rOut [b1, b2, b3, b4, b5, b6, b7, b8] false 2 = [b1, b2] from rfl]
  rw [show rLeft [b1, b2, b3, b4, b5, b6, b7, b8] false 2 = [b3, b4, b5, b6, b7, b8] from rfl, show (!rOk [b1, b2, b3, b4, b5, b6, b7, b8] false 2) = false from rfl] at hre3
  go_wp2_with fail
  refine (rU16 br g _ false _ hre3 (by simp)).mono ?_; rintro e w4 ⟨rfl, hre4, ch4⟩
  rw [show rOut [b3, b4, b5, b6, b7, b8] false 2 = [b3, b4] from rfl]
  rw [show rLeft [b3, b4, b5, b6, b7, b8] false 2 = [b5, b6, b7, b8] from rfl, show (!rOk [b3, b4, b5, b6, b7, b8] false 2) = false from rfl] at hre4
  go_wp2_with fail
  refine (rU16 br g _ false _ hre4 (by simp)).mono ?_; rintro e w5 ⟨rfl, hre5, ch5⟩
  rw [show rOut [b5, b6, b7, b8] false 2 = [b5, b6] from rfl]
  rw [show rLeft [b5, b6, b7, b8] false 2 = [b7, b8] from rfl, show (!rOk [b5, b6, b7, b8] false 2) = false from rfl] at hre5
  go_wp2_with fail
  refine (rU16 br g _ false _ hre5 (by simp)).mono ?_; rintro e w6 ⟨rfl, _, ch6⟩
  rw [show rOut [b7, b8] false 2 = [b7, b8] from rfl]
  have c6 : Ch (fun _ => False) w w6 := ((((ch1.seq ch2 _ (fun _ _ h => h) (by omega)).seq ch3 _ (fun _ _ h => h) (by omega)).seq ch4 _ (fun _ _ h => h) (by omega)).seq ch5 _ (fun _ _ h => h) (by omega)).seq ch6 _ (fun _ _ h => h) (by omega)
  have hf6 := FAt.keep c6 hf (fun h => h) (fun h => h)
  clear hre hre2 hre3 hre4 hre5 ch1 ch2 ch3 ch4 ch5 ch6 hf hb1 hg1
  go_upto_region 7 with fail
  clear o1 o2 q1 q2 q3 q4
  have e0 : Try.results34 = Try.results34 := rfl
  clear e0
  by_cases hk0 : b0.toNat = 0
  · rw [if_pos (.inl hk0)] at Hn
    have hb : ((b0.toNat : Int) == 0) = true := beq_iff_eq.2 (by omega)
    clear hk0 q0
    go_wp2_with fail
    refine bodyPost_ret (v := .tuple #[.int .i64 0, .slice none 0 0, .int .i64 0, .int .i64 5]) (by simp [results, Try.results34, go_sem]) rfl ?_
    rw [Hn.out]
    exact next_none hf6 (c6.mono (fun _ _ h => h.elim))
  · have hb : ((b0.toNat : Int) == 0) = false := beq_eq_false_iff_ne.2 (by omega)
    by_cases hN : 1048576 < N
    · rw [if_pos (.inr hN)] at Hn
      clear hk0 q0
      go_wp2_with fail
      refine bodyPost_ret (v := .tuple #[.int .i64 0, .slice none 0 0, .int .i64 0, .int .i64 5]) (by simp [results, Try.results34, go_sem]) rfl ?_
      rw [Hn.out]
      exact next_none hf6 (c6.mono (fun _ _ h => h.elim))
    · rw [if_neg (by omega)] at Hn
      by_cases hT : tl.length < N
      · rw [if_pos hT] at Hn
        clear hk0 q0
        go_wp2_with fail
        refine bodyPost_ret (v := .tuple #[.int .i64 0, .slice none 0 0, .int .i64 0, .int .i64 7]) (by simp [results, Try.results34, go_sem]) rfl ?_
        rw [Hn.out]
        exact next_none hf6 (c6.mono (fun _ _ h => h.elim))
      · rw [if_neg hT] at Hn
        have hs6 := c6.size
        have o1 : (w6.alloc (.cells #[] 5)).ownsRow w6.heap.size 5 1 (.slice (some ⟨w6.heap.size, 0, none⟩) 0 0) 0 [] := World.ownsRow_lit w6 #[] 0 (Nat.le_refl _) (Nat.zero_le _) rfl
        have rd1 : Rd (w6.alloc (.cells #[] 5)) (if c = 9 then a else a.map (·.add 9)) (u8s (tl.take N)) := by
          refine Rd.keep (ch_new _ _) (Rd.keep c6 ?_ (fun _ _ h => h)) (fun _ _ h => h)
          rw [u8s_take]
          refine Rd.take ?_ N
          exact Hr.out.drop 9 _ (fun hlt => by rw [if_neg (by simp [u8s] at hlt; omega)])
        have htl : (tl.take N).length = N := by simp; omega
        have Htl := Lib.hid htl; clear htl
        by_cases hc9 : c = 9
        all_goals
          first
            | (subst hc9; rw [if_pos rfl] at rd1)
            | rw [if_neg hc9] at rd1
          go_wp2_with (at_builtin; refine wpList_append_rd rfl (.tmp 44) (.tmp 48) rfl ei_bytes w6.heap.size (.slice (some ⟨w6.heap.size, 0, none⟩) 0 0) 0 [] rfl o1 _ (9 + N - 9) _ (u8s (tl.take N)) rfl (by rw [u8s_len, Htl.out]; omega) (by first | exact rd1 | simpa using rd1) (u8s_one _) (by rw [Hmx.out]; omega) (by omega) (by simp) ?_)
          intro v1 w7 own1 gr1 _ at1
          have ch7 : Ch (fun _ => False) w6 w7 := (ch_new w6 _).seq (Ch.ofGrown gr1) _ (fun _ _ h => h) (fun i hi h => by simp [Value.ownBlock] at h; omega)
          have own7 : w7.ownsRow w6.heap.size 5 1 v1 (tl.take N).length (u8s (tl.take N)) := by
            rw [Htl.out]
            exact own1
          have hat : ∃ k, v1.ownBlock = some k ∧ w6.heap.size ≤ k := by
            rcases at1 with h | h
            · exact ⟨w6.heap.size, h, Nat.le_refl _⟩
            · exact ⟨_, h, by simp⟩
          obtain ⟨k1, hk1, hk2⟩ := hat
          have hb7 : BsAt w7 (some k1) v1 (tl.take N) := ⟨hk1, own7.1, by
            rcases own7.2 with h | ⟨g', cap', cur', h1, h2, h3⟩
            · exact .inl h
            · exact .inr ⟨g', cap', cur', h1, Nat.zero_le _, h3⟩⟩
          have hf7 := FAt.keep ch7 hf6 (fun h => h) (fun h => h)
          have rb7 := Rd.keep ch7 (Rd.keep c6 Rb.out (fun _ _ h => h)) (fun _ _ h => h)
          have c7 := c6.trans ch7
          obtain ⟨ao, cp, rfl, rd7, _, _, hab⟩ := hb7.form
          have hsum := fun c1 => fsum_any bf bt m a c1 [b0, b1, b2, b3, b4] ao cp (tl.take N) w7 hf7 rb7 rd7 (by rw [Htl.out]; simp; omega)
          simp only [Htl.out, show [b0, b1, b2, b3, b4].length = 5 from rfl] at hsum
          have Hsum := Lib.hid hsum
          have Hb7 := Lib.hid hb7
          have hbt6 : bt < w6.heap.size := by have := hf6.2.2; cases m <;> exact block_lt this.2
          clear own1 own7 gr1 at1 o1 rd1 hk1 hf7 rb7 rd7 hab hsum hb7 c6 hf6
          rw [Htl.out]
          go_wp2_with fail
          refine (Hsum.out _).mono ?_; rintro e w8 ⟨rfl, hf8, ch8⟩
          have c8 := c7.seq ch8 (fun k => k = bt) (fun _ _ h => h.elim) (fun _ _ h => h)
          have hb8 := BsAt.keep ch8 Hb7.out (fun k hk h => by cases hk; omega)
          rw [Htl.out] at hb8
          have Hb8 := Lib.hid hb8; have Hf8 := Lib.hid hf8
          clear hb8 hf8 Hsum ch8 c7
          generalize hcr : crcN ([b0, b1, b2, b3, b4] ++ tl.take N) = R at Hn ⊢
          clear hcr
          by_cases hS : R = S
          · rw [if_neg (by simpa using hS)] at Hn
            have hse : ((R : Int) != (S : Int)) = false := by rw [hS]; simp
            go_wp2_with fail
            refine bodyPost_ret (v := .tuple #[.int .i64 b0.toNat, .slice ao N cp, .int .i64 (9 + N : Nat), .int .i64 0]) (by simp [results, Try.results34, go_sem]) rfl ?_
            rw [Hn.out]
            exact ⟨some k1, _, true, rfl, Hb8.out, .inr ⟨k1, rfl, by omega⟩, Hf8.out, c8⟩
          · rw [if_pos hS] at Hn
            have hse : ((R : Int) != (S : Int)) = true := by rw [bne_iff_ne]; omega
            go_wp2_with fail
            refine bodyPost_ret (v := .tuple #[.int .i64 0, .slice none 0 0, .int .i64 0, .int .i64 8]) (by simp [results, Try.results34, go_sem]) rfl ?_
            rw [Hn.out]
            exact next_none Hf8.out c8

theorem next_any (bf bt : Nat) (m : Bool) (a : Option Addr) (c : Nat) (bs : List UInt8) (w : World) (hf : FAt w bf bt m) (hr : Rd w a (u8s bs)) (hlc : bs.length ≤ c) (hc : c ≤ 9223372036854775807) (hln : bs.length ≤ 140737488355328) (hbb : bs ≠ [] → ∀ ad, a = some ad → ad.block ≠ bt) :
    Calls Try.prog 34 #[.pointer (some ⟨bf, 0, none⟩), .slice a bs.length c] w (NextPost bf bt w (nextF bs)) := by
  by_cases h9 : bs.length < 9
  · exact next_short bf bt m a c bs w h9 hf
  · obtain ⟨b0, b1, b2, b3, b4, b5, b6, b7, b8, tl, rfl⟩ := nine (Nat.le_of_not_lt h9)
    exact next_long bf bt m a c b0 b1 b2 b3 b4 b5 b6 b7 b8 tl w hf hr (by simpa using hlc) hc (by simpa using hln) (hbb (by simp))

end Go.Proofs.Ytlphhadomhdacaa
