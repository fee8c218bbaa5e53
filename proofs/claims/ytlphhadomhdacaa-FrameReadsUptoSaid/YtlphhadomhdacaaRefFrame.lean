/- The reference's Frame and Next: their contracts. -/
import Derived.Test.YtlphhadomhdacaaRefRW
import Derived.Test.YtlphhadomhdacaaFrameNext
namespace Go.Proofs.Ytlphhadomhdacaa.R1
open Go Go.RowKit

set_option maxRecDepth 100000 in
set_option maxHeartbeats 2000000 in
theorem rframe_any (kind : Nat) (a : Option Addr) (c : Nat) (body : List UInt8) (w : World) (hk : 1 ≤ kind) (hk2 : kind ≤ 256) (hl : body.length ≤ 1048576) (hr : Rd w a (u8s body)) :
    Calls Try.prog 35 #[.int .i64 kind, .slice a body.length c] w fun e w' => ∃ g v, e = .returned v ∧ BsAt w' g v (frameB kind body) ∧ (∃ k, g = some k ∧ w.heap.size ≤ k) ∧ Ch (fun _ => False) w w' := by
  have hmx : maxLen = 9223372036854775807 := rfl
  have Hmx := Lib.hid hmx; clear hmx
  have Hr := Lib.hid hr; clear hr
  go_enter Try.func35, Try.ntmps35
  go_wp2_with fail
  refine (wU8 w.heap.size none [] (kind : Int) _ ⟨by simp, .slice none 0 0, alloc_heap_new _ _, rfl, World.ownsRow_nil _ _ _ _⟩ (by simp)).mono ?_; rintro e w2 ⟨rfl, g2, hw2, hg2, ch2⟩
  rw [u64of_nat (by omega), List.nil_append] at hw2
  have c2 : Ch (fun _ => False) w w2 := (ch_new w _).seq ch2 _ (fun _ _ h => h) (fun i hi h => by simp at h; omega)
  have f2 : ∀ k, g2 = some k → w.heap.size ≤ k := fun k hk => by
    rcases hg2 with h | ⟨j, h, h2⟩
    · rw [h] at hk; cases hk
    · rw [h] at hk; cases hk; rw [heap_alloc_size] at h2; omega
  clear ch2 hg2
  go_wp2_with fail
  refine (wU32 w.heap.size g2 _ (body.length : Int) _ hw2 (by simp [beB_len])).mono ?_; rintro e w3 ⟨rfl, g3, hw3, hg3, ch3⟩
  have hs2 := c2.size
  have c3 : Ch (fun _ => False) w w3 := c2.seq ch3 _ (fun _ _ h => h) (fun i hi h => by rcases h with h | h; omega; have := f2 i h; omega)
  have f3 : ∀ k, g3 = some k → w.heap.size ≤ k := fun k hk => by
    rcases hg3 with h | ⟨j, h, h2⟩
    · exact f2 k (by rw [← h]; exact hk)
    · rw [h] at hk; cases hk; omega
  rw [u64of_nat (by omega), show beB 1 kind ++ beB 4 body.length = headB kind body.length from rfl] at hw3
  clear hw2 ch3 hg3 c2 f2
  have hhl : (headB kind body.length).length = 5 := by simp [headB, beB_len]
  have Hhl := Lib.hid hhl; clear hhl
  have Hhd2 := Lib.hid (show frameB kind body = headB kind body.length ++ beB 4 (crcN (headB kind body.length ++ body)) ++ body from rfl)
  generalize headB kind body.length = hd at hw3 Hhl Hhd2
  obtain ⟨hg0, u, hu, hb3⟩ := id hw3
  obtain ⟨ao, cp, rfl, rd3, _, _, _⟩ := hb3.form
  rw [Hhl.out] at hu
  have hc := (cellH hu 0).trans rfl
  have hcA : ∀ o : Obj, (w3.alloc o).cell? ⟨w.heap.size, 0, none⟩ = some (.slice ao 5 cp) := fun o => (ch_new w3 o).cell hc (fun h => h)
  have o1 : (w3.alloc (.cells #[] 5)).ownsRow w3.heap.size 5 1 (.slice (some ⟨w3.heap.size, 0, none⟩) 0 0) 0 [] := World.ownsRow_lit w3 #[] 0 (Nat.le_refl _) (Nat.zero_le _) rfl
  have rd1 : Rd (w3.alloc (.cells #[] 5)) ao (u8s hd) := Rd.keep (ch_new _ _) rd3 (fun _ _ h => h)
  have Hw3 := Lib.hid hw3
  clear hw3 hb3 hu rd3
  go_wp2_with (at_builtin; refine wpList_append_rd rfl (.tmp 16) (.tmp 20) rfl ei_bytes w3.heap.size (.slice (some ⟨w3.heap.size, 0, none⟩) 0 0) 0 [] rfl o1 _ 5 _ (u8s hd) rfl (by rw [u8s_len, Hhl.out]) rd1 (u8s_one _) (by rw [Hmx.out]; omega) (by omega) (by simp) ?_)
  intro v4 w4 own4 gr4 _ at4
  have ch4 : Ch (fun _ => False) w3 w4 := (ch_new w3 _).seq (Ch.ofGrown gr4) _ (fun _ _ h => h) (fun i hi h => by simp [Value.ownBlock] at h; omega)
  have own4' : w4.ownsRow w3.heap.size 5 1 v4 5 (u8s hd) := by simpa using own4
  have rd4 : Rd w4 a (u8s body) := Rd.keep ch4 (Rd.keep c3 Hr.out (fun _ _ h => h)) (fun _ _ h => h)
  have hs4 := ch4.size
  clear own4 gr4 at4 o1 rd1 hcA hc
  go_wp2_with (at_builtin; refine wpList_append_rd rfl (.tmp 21) (.tmp 22) rfl ei_bytes w3.heap.size v4 _ _ rfl own4' a body.length c (u8s body) rfl (by rw [u8s_len]; omega) rd4 (u8s_one _) (by rw [Hmx.out]; omega) (by omega) (by omega) ?_)
  intro v5 w5 own5 gr5 _ at5
  have ch5 : Ch (fun _ => False) w3 w5 := ch4.seq (Ch.ofGrown gr5) _ (fun _ _ h => h) (fun i hi h => by have := (own4'.lt i h).1; omega)
  obtain ⟨ao5, cp5, rfl⟩ := own_form own5
  have rd5 : Rd w5 ao5 (u8s (hd ++ body)) := by rw [u8s_app]; exact Rd.own own5
  have hsum := refsum_any ao5 cp5 (hd ++ body) w5 rd5 (by rw [List.length_append, Hhl.out]; omega)
  rw [List.length_append, Hhl.out] at hsum
  have Hsum := Lib.hid hsum
  have hw5 := WrAt.keep ch5 Hw3.out (fun h => h) (fun _ _ h => h)
  have c5 := c3.trans ch5
  have hcl := crcN_lt (hd ++ body)
  have Hw5 := Lib.hid hw5
  clear own4' own5 gr5 at5 rd4 rd5 hsum Hw3 hw5 ch4 ch5
  go_wp2_with fail
  refine Hsum.out.mono ?_; rintro e w6 ⟨rfl, rfl⟩
  clear Hsum
  go_wp2_with fail
  refine (wU32 w.heap.size g3 hd (crcN (hd ++ body) : Nat) _ Hw5.out (by rw [Hhl.out]; omega)).mono ?_; rintro e w7 ⟨rfl, g7, hw7, hg7, ch7⟩
  have hs5 := c5.size
  have c7 := c5.seq ch7 (fun _ => False) (fun _ _ h => h) (fun i hi h => by rcases h with h | h; omega; have := f3 i h; omega)
  have f7 : ∀ k, g7 = some k → w.heap.size ≤ k := fun k hk => by
    rcases hg7 with h | ⟨j, h, h2⟩
    · exact f3 k (by rw [← h]; exact hk)
    · rw [h] at hk; cases hk; omega
  rw [u64of_nat (by omega)] at hw7
  have hlen : (hd ++ beB 4 (crcN (hd ++ body))).length = 9 := by rw [List.length_append, Hhl.out, beB_len]
  have Hlen := Lib.hid hlen; clear hlen
  generalize hd ++ beB 4 (crcN (hd ++ body)) = h9 at hw7 Hlen Hhd2
  have rd7 := Rd.keep c7 Hr.out (fun _ _ h => h)
  clear Hw5 ch7 hg7 c3 c5 f3
  go_wp2_with fail
  refine (wRaw w.heap.size g7 h9 a c body _ hw7 rd7 (by rw [Hlen.out]; omega)).mono ?_; rintro e w8 ⟨rfl, g8, hw8, hg8, ch8⟩
  have hs7 := c7.size
  have c8 := c7.seq ch8 (fun _ => False) (fun _ _ h => h) (fun i hi h => by rcases h with h | h; omega; have := f7 i h; omega)
  have f8 : ∀ k, g8 = some k → w.heap.size ≤ k := fun k hk => by
    rcases hg8 with h | ⟨j, h, h2⟩
    · exact f7 k (by rw [← h]; exact hk)
    · rw [h] at hk; cases hk; omega
  obtain ⟨_, u8, hu8, hb8⟩ := hw8
  have hb : ∃ k, g8 = some k := by
    rcases hb8.2.2 with ⟨_, h⟩ | ⟨g, cap, cur, h1, _⟩
    · rw [List.length_append, Hlen.out] at h; omega
    · exact ⟨g, by rw [← hb8.1, h1]; rfl⟩
  obtain ⟨k8, rfl⟩ := hb
  have hc8 := (cellH hu8 0).trans rfl
  have Hb8 := Lib.hid hb8
  clear hb8 hu8 hw7 rd7 ch8 hg8
  go_wp2_with fail
  go_ret
  exact ⟨some k8, u8, rfl, by rw [Hhd2.out]; exact Hb8.out, ⟨k8, rfl, f8 k8 rfl⟩, c8⟩

/-- What the reference's Next answers. -/
def NextR (w : World) (r : Nat × List UInt8 × Nat × Int) (e : Ending) (w' : World) : Prop :=
  ∃ g v, e = .returned (.tuple #[.int .i64 r.1, v, .int .i64 r.2.2.1, .int .i64 r.2.2.2]) ∧ BsAt w' g v r.2.1 ∧ Ch (fun _ => False) w w'

theorem nextr_none {w w' : World} {er : Int} (hch : Ch (fun _ => False) w w') : NextR w (0, [], 0, er) (.returned (.tuple #[.int .i64 0, .slice none 0 0, .int .i64 0, .int .i64 er])) w' :=
  ⟨none, .slice none 0 0, rfl, ⟨rfl, World.ownsRow_nil _ _ _ _⟩, hch⟩

theorem rnext_short (a : Option Addr) (c : Nat) (bs : List UInt8) (w : World) (h : bs.length < 9) :
    Calls Try.prog 36 #[.slice a bs.length c] w (NextR w (nextF bs)) := by
  have hn : nextF bs = (0, [], 0, 7) := by simp [nextF, h]
  rw [hn]
  clear hn
  go_enter Try.func36, Try.ntmps36
  go_wp2_with fail
  refine bodyPost_ret (v := .tuple #[.int .i64 0, .slice none 0 0, .int .i64 0, .int .i64 7]) (by simp [results, Try.results36, go_sem]) rfl ?_
  exact nextr_none (Ch.refl _ _)

theorem rOk_t {bs : List UInt8} {n : Nat} (h : n ≤ bs.length) : rOk bs false (n : Int) = true := by simp [rOk]; omega
theorem rOut_t {bs : List UInt8} {n : Nat} (h : n ≤ bs.length) : rOut bs false (n : Int) = bs.take n := by unfold rOut; rw [if_pos (rOk_t h), Int.toNat_natCast]
theorem rLeft_t {bs : List UInt8} {n : Nat} (h : n ≤ bs.length) : rLeft bs false (n : Int) = bs.drop n := by unfold rLeft; rw [if_pos (rOk_t h), Int.toNat_natCast]

theorem rOk_1 {bs : List UInt8} (h : 1 ≤ bs.length) : rOk bs false 1 = true := rOk_t (n := 1) h
theorem rOut_1 {bs : List UInt8} (h : 1 ≤ bs.length) : rOut bs false 1 = bs.take 1 := rOut_t (n := 1) h
theorem rLeft_1 {bs : List UInt8} (h : 1 ≤ bs.length) : rLeft bs false 1 = bs.drop 1 := rLeft_t (n := 1) h
theorem rOk_4 {bs : List UInt8} (h : 4 ≤ bs.length) : rOk bs false 4 = true := rOk_t (n := 4) h
theorem rOut_4 {bs : List UInt8} (h : 4 ≤ bs.length) : rOut bs false 4 = bs.take 4 := rOut_t (n := 4) h
theorem rLeft_4 {bs : List UInt8} (h : 4 ≤ bs.length) : rLeft bs false 4 = bs.drop 4 := rLeft_t (n := 4) h

set_option maxRecDepth 100000 in
set_option maxHeartbeats 2000000 in
theorem rnext_long (a : Option Addr) (c : Nat) (b0 b1 b2 b3 b4 b5 b6 b7 b8 : UInt8) (tl : List UInt8) (w : World)
    (hr : Rd w a (u8s (b0 :: b1 :: b2 :: b3 :: b4 :: b5 :: b6 :: b7 :: b8 :: tl))) (hlc : tl.length + 9 ≤ c) (hc : c ≤ 9223372036854775807) (hln : tl.length + 9 ≤ 140737488355328) :
    Calls Try.prog 36 #[.slice a (tl.length + 9) c] w (NextR w (nextF (b0 :: b1 :: b2 :: b3 :: b4 :: b5 :: b6 :: b7 :: b8 :: tl))) := by
  have hmx : maxLen = 9223372036854775807 := rfl
  have Hmx := Lib.hid hmx; clear hmx
  have q0 := b0.toNat_lt
  have n4 := four_lt b1 b2 b3 b4
  have n5 := four_lt b5 b6 b7 b8
  have hn : nextF (b0 :: b1 :: b2 :: b3 :: b4 :: b5 :: b6 :: b7 :: b8 :: tl) =
      if b0.toNat = 0 ∨ 1048576 < beN [b1, b2, b3, b4] then (0, [], 0, 5)
      else if tl.length < beN [b1, b2, b3, b4] then (0, [], 0, 7)
      else if crcN ([b0, b1, b2, b3, b4] ++ tl.take (beN [b1, b2, b3, b4])) ≠ beN [b5, b6, b7, b8] then (0, [], 0, 8)
      else (b0.toNat, tl.take (beN [b1, b2, b3, b4]), 9 + beN [b1, b2, b3, b4], 0) := by
    simp [nextF, one_eq]
    intro h; omega
  have Hn := Lib.hid hn
  have rb : Rd w a (u8s [b0, b1, b2, b3, b4]) := hr.take 5
  have Rb := Lib.hid rb; have Hr := Lib.hid hr
  have hga : ∀ ad, a = some ad → ad.block < w.heap.size := by
    obtain ⟨b, off, rfl, hlt, _⟩ := Rd.at hr (k := 0) (by simp [u8s])
    intro ad had; cases had; exact hlt
  have hre0 : ReAt (w.alloc (.cells #[.slice a (tl.length + 9) c, .bool false] 104)) w.heap.size (a.map (·.block)) (b0 :: b1 :: b2 :: b3 :: b4 :: b5 :: b6 :: b7 :: b8 :: tl) false := by
    refine ⟨?_, a, c, alloc_heap_new _ _, Rd.keep (ch_new _ _) hr (fun _ _ h => h), by simpa using hlc, hc, fun ad had => by rw [had]; rfl⟩
    intro h
    cases a with
    | none => cases h
    | some ad => have := hga ad rfl; simp at h; omega
  have Hre0 := Lib.hid hre0
  clear hn rb hr hga hre0
  go_enter Try.func36, Try.ntmps36
  go_wp2_with fail
  refine (rU8 w.heap.size _ _ false _ Hre0.out (by simpa using hln)).mono ?_; rintro e w2 ⟨rfl, hre2, ch2⟩
  have c2 : Ch (fun _ => False) w w2 := (ch_new w _).seq ch2 _ (fun _ _ h => h) (fun i hi h => by omega)
  rw [rOut_1 (by simp), show List.take 1 (b0 :: b1 :: b2 :: b3 :: b4 :: b5 :: b6 :: b7 :: b8 :: tl) = [b0] from rfl, one_eq]
  rw [rLeft_1 (by simp), rOk_1 (by simp), show List.drop 1 (b0 :: b1 :: b2 :: b3 :: b4 :: b5 :: b6 :: b7 :: b8 :: tl) = (b1 :: b2 :: b3 :: b4 :: b5 :: b6 :: b7 :: b8 :: tl) from rfl, Bool.not_true] at hre2
  clear Hre0 ch2
  go_wp2_with fail
  refine (rU32 w.heap.size _ _ false _ hre2 (by simp; omega)).mono ?_; rintro e w3 ⟨rfl, hre3, ch3⟩
  have c3 : Ch (fun _ => False) w w3 := c2.seq ch3 _ (fun _ _ h => h) (fun i hi h => by omega)
  rw [rOut_4 (by simp), show List.take 4 (b1 :: b2 :: b3 :: b4 :: b5 :: b6 :: b7 :: b8 :: tl) = [b1, b2, b3, b4] from rfl]
  rw [rLeft_4 (by simp), rOk_4 (by simp), show List.drop 4 (b1 :: b2 :: b3 :: b4 :: b5 :: b6 :: b7 :: b8 :: tl) = (b5 :: b6 :: b7 :: b8 :: tl) from rfl, Bool.not_true] at hre3
  clear hre2 ch3 c2
  go_wp2_with fail
  refine (rU32 w.heap.size _ _ false _ hre3 (by simp; omega)).mono ?_; rintro e w4 ⟨rfl, _, ch4⟩
  have c4 : Ch (fun _ => False) w w4 := c3.seq ch4 _ (fun _ _ h => h) (fun i hi h => by omega)
  rw [rOut_4 (by simp), show List.take 4 (b5 :: b6 :: b7 :: b8 :: tl) = [b5, b6, b7, b8] from rfl]
  clear hre3 ch4 c3
  generalize beN [b1, b2, b3, b4] = N at Hn n4 ⊢
  generalize beN [b5, b6, b7, b8] = S at Hn n5 ⊢
  have hw32 : IntKind.u32.wrap (S : Int) = (S : Int) := by simp [IntKind.wrap, IntKind.bits, IntKind.signed]; omega
  go_upto_region 7 with fail
  by_cases hk0 : b0.toNat = 0
  · rw [if_pos (.inl hk0)] at Hn
    have hb : ((b0.toNat : Int) == 0) = true := beq_iff_eq.2 (by omega)
    clear hk0 q0
    go_wp2_with fail
    refine bodyPost_ret (v := .tuple #[.int .i64 0, .slice none 0 0, .int .i64 0, .int .i64 5]) (by simp [results, Try.results36, go_sem]) rfl ?_
    rw [Hn.out]
    exact nextr_none c4
  · have hb : ((b0.toNat : Int) == 0) = false := beq_eq_false_iff_ne.2 (by omega)
    by_cases hN : 1048576 < N
    · rw [if_pos (.inr hN)] at Hn
      clear hk0 q0
      go_wp2_with fail
      refine bodyPost_ret (v := .tuple #[.int .i64 0, .slice none 0 0, .int .i64 0, .int .i64 5]) (by simp [results, Try.results36, go_sem]) rfl ?_
      rw [Hn.out]
      exact nextr_none c4
    · rw [if_neg (by omega)] at Hn
      by_cases hT : tl.length < N
      · rw [if_pos hT] at Hn
        clear hk0 q0
        go_wp2_with fail
        refine bodyPost_ret (v := .tuple #[.int .i64 0, .slice none 0 0, .int .i64 0, .int .i64 7]) (by simp [results, Try.results36, go_sem]) rfl ?_
        rw [Hn.out]
        exact nextr_none c4
      · rw [if_neg hT] at Hn
        have hs4 := c4.size
        have o1 : (w4.alloc (.cells #[] 5)).ownsRow w4.heap.size 5 1 (.slice (some ⟨w4.heap.size, 0, none⟩) 0 0) 0 [] := World.ownsRow_lit w4 #[] 0 (Nat.le_refl _) (Nat.zero_le _) rfl
        have rd1 : Rd (w4.alloc (.cells #[] 5)) (if c = 9 then a else a.map (·.add 9)) (u8s (tl.take N)) := by
          refine Rd.keep (ch_new _ _) (Rd.keep c4 ?_ (fun _ _ h => h)) (fun _ _ h => h)
          rw [u8s_take]
          refine Rd.take ?_ N
          exact Hr.out.drop 9 _ (fun hlt => by rw [if_neg (by simp [u8s] at hlt; omega)])
        have htl : (tl.take N).length = N := by simp; omega
        have Htl := Lib.hid htl; clear htl
        by_cases hc9 : c = 9
        all_goals
          first
            | (subst hc9; rw [if_pos rfl] at rd1)
            | rw [if_neg hc9] at rd1
          go_wp2_with (at_builtin; refine wpList_append_rd rfl (.tmp 35) (.tmp 39) rfl ei_bytes w4.heap.size (.slice (some ⟨w4.heap.size, 0, none⟩) 0 0) 0 [] rfl o1 _ (9 + N - 9) _ (u8s (tl.take N)) rfl (by rw [u8s_len, Htl.out]; omega) (by first | exact rd1 | simpa using rd1) (u8s_one _) (by rw [Hmx.out]; omega) (by omega) (by simp) ?_)
          intro v1 w7 own1 gr1 _ at1
          have ch7 : Ch (fun _ => False) w4 w7 := (ch_new w4 _).seq (Ch.ofGrown gr1) _ (fun _ _ h => h) (fun i hi h => by simp [Value.ownBlock] at h; omega)
          have own7 : w7.ownsRow 0 5 1 v1 (tl.take N).length (u8s (tl.take N)) := by
            rw [Htl.out]
            refine ⟨own1.1, ?_⟩
            rcases own1.2 with h | ⟨g', cap', cur', h1, h2, h3⟩
            · exact .inl h
            · exact .inr ⟨g', cap', cur', h1, Nat.zero_le _, h3⟩
          have hb7 : BsAt w7 v1.ownBlock v1 (tl.take N) := ⟨rfl, own7⟩
          have c7 := c4.trans ch7
          have rb7 := Rd.keep c7 Rb.out (fun _ _ h => h)
          obtain ⟨ao, cp, rfl, rd7, _, _, _⟩ := hb7.form
          have Hb7 := Lib.hid hb7
          have o8 : (w7.alloc (.cells #[] 5)).ownsRow w7.heap.size 5 1 (.slice (some ⟨w7.heap.size, 0, none⟩) 0 0) 0 [] := World.ownsRow_lit w7 #[] 0 (Nat.le_refl _) (Nat.zero_le _) rfl
          have rb8 : Rd (w7.alloc (.cells #[] 5)) a (u8s [b0, b1, b2, b3, b4]) := Rd.keep (ch_new _ _) rb7 (fun _ _ h => h)
          clear own1 own7 gr1 at1 o1 rd1 rb7 hb7 c4 ch7
          rw [Htl.out]
          go_wp2_with (at_builtin; refine wpList_append_rd rfl (.tmp 41) (.tmp 43) rfl ei_bytes w7.heap.size (.slice (some ⟨w7.heap.size, 0, none⟩) 0 0) 0 [] rfl o8 _ 5 _ (u8s [b0, b1, b2, b3, b4]) rfl rfl (by first | exact rb8 | simpa using rb8) (u8s_one _) (by rw [Hmx.out]; omega) (by omega) (by simp) ?_)
          intro v9 w9 own9 gr9 _ at9
          have ch9 : Ch (fun _ => False) w7 w9 := (ch_new w7 _).seq (Ch.ofGrown gr9) _ (fun _ _ h => h) (fun i hi h => by simp [Value.ownBlock] at h; omega)
          have own9' : w9.ownsRow w7.heap.size 5 1 v9 5 (u8s [b0, b1, b2, b3, b4]) := by simpa using own9
          have rd9 : Rd w9 ao (u8s (tl.take N)) := Rd.keep ch9 rd7 (fun _ _ h => h)
          have hs9 := ch9.size
          clear own9 gr9 at9 o8 rb8 rd7
          go_wp2_with (at_builtin; refine wpList_append_rd rfl (.tmp 44) (.tmp 45) rfl ei_bytes w7.heap.size v9 _ _ rfl own9' ao N cp (u8s (tl.take N)) rfl (by rw [u8s_len, Htl.out]; omega) rd9 (u8s_one _) (by rw [Hmx.out]; omega) (by omega) (by omega) ?_)
          intro vA wA ownA grA _ atA
          have chA : Ch (fun _ => False) w7 wA := ch9.seq (Ch.ofGrown grA) _ (fun _ _ h => h) (fun i hi h => by have := (own9'.lt i h).1; omega)
          obtain ⟨aoA, cpA, rfl⟩ := own_form ownA
          have rdA : Rd wA aoA (u8s ([b0, b1, b2, b3, b4] ++ tl.take N)) := by rw [u8s_app]; exact Rd.own ownA
          have hsum := refsum_any aoA cpA ([b0, b1, b2, b3, b4] ++ tl.take N) wA rdA (by rw [List.length_append, Htl.out]; simp; omega)
          simp only [List.length_append, Htl.out, show [b0, b1, b2, b3, b4].length = 5 from rfl] at hsum
          have Hsum := Lib.hid hsum
          have hbA := BsAt.keep chA Hb7.out (fun k hk h => h)
          rw [Htl.out] at hbA
          have HbA := Lib.hid hbA
          have cA := c7.trans chA
          clear own9' ownA grA atA rd9 rdA hsum hbA Hb7 ch9 chA
          go_wp2_with fail
          refine Hsum.out.mono ?_; rintro e w8 ⟨rfl, rfl⟩
          clear Hsum
          generalize hcr : crcN ([b0, b1, b2, b3, b4] ++ tl.take N) = R at Hn ⊢
          clear hcr
          by_cases hS : R = S
          · rw [if_neg (by simpa using hS)] at Hn
            have hse : ((R : Int) != (S : Int)) = false := by rw [hS]; simp
            go_wp2_with fail
            refine bodyPost_ret (v := .tuple #[.int .i64 b0.toNat, .slice ao N cp, .int .i64 (9 + N : Nat), .int .i64 0]) (by simp [results, Try.results36, go_sem]) rfl ?_
            rw [Hn.out]
            exact ⟨_, _, rfl, HbA.out, cA⟩
          · rw [if_pos hS] at Hn
            have hse : ((R : Int) != (S : Int)) = true := by rw [bne_iff_ne]; omega
            go_wp2_with fail
            refine bodyPost_ret (v := .tuple #[.int .i64 0, .slice none 0 0, .int .i64 0, .int .i64 8]) (by simp [results, Try.results36, go_sem]) rfl ?_
            rw [Hn.out]
            exact nextr_none cA

theorem rnext_any (a : Option Addr) (c : Nat) (bs : List UInt8) (w : World) (hr : Rd w a (u8s bs)) (hlc : bs.length ≤ c) (hc : c ≤ 9223372036854775807) (hln : bs.length ≤ 140737488355328) :
    Calls Try.prog 36 #[.slice a bs.length c] w (NextR w (nextF bs)) := by
  by_cases h9 : bs.length < 9
  · exact rnext_short a c bs w h9
  · obtain ⟨b0, b1, b2, b3, b4, b5, b6, b7, b8, tl, rfl⟩ := nine (Nat.le_of_not_lt h9)
    exact rnext_long a c b0 b1 b2 b3 b4 b5 b6 b7 b8 tl w hr (by simpa using hlc) hc (by simpa using hln)

end Go.Proofs.Ytlphhadomhdacaa.R1
