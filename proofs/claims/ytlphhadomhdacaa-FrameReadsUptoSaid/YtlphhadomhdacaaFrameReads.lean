/- FrameReads: the walk. -/
import Derived.Test.YtlphhadomhdacaaRefFrame
import Derived.Test.YtlphhadomhdacaaFrameKnown
import Derived.Test.YtlphhadomhdacaaCrcTurns
namespace Go.Proofs.Ytlphhadomhdacaa
open Go Go.RowKit

theorem frameB_len (k : Nat) (body : List UInt8) : (frameB k body).length = 9 + body.length := by simp [frameB, headB, beB_len]; omega
theorem own_zero {w : World} {base : Nat} {e : TypeId} {size : Nat} {v : Value} {n : Nat} {xs : List Value} (h : w.ownsRow base e size v n xs) : w.ownsRow 0 e size v n xs :=
  ⟨h.1, h.2.imp id (fun ⟨g, cap, cur, h1, _, h3⟩ => ⟨g, cap, cur, h1, Nat.zero_le _, h3⟩)⟩
theorem xor_u8 (a b : Int) : ∃ z : UInt8, bits BinOp.xor IntKind.u8 a b = (z.toNat : Int) := by
  have h : ∀ m : Int, ∃ z : UInt8, IntKind.u8.wrap m = (z.toNat : Int) := fun m => by
    refine ⟨UInt8.ofNat (m % 256).toNat, ?_⟩
    simp [IntKind.wrap, IntKind.bits, IntKind.signed]
    omega
  exact h _

set_option maxRecDepth 100000 in
set_option maxHeartbeats 4000000 in
theorem frameReads_walk (W : World) (kind : Int) (a1 : Option Addr) (c1 : Nat) (body : List UInt8) (a2 : Option Addr) (c2 : Nat) (raw : List UInt8) (a3 : Option Addr) (c3 : Nat) (more : List UInt8) (turn at_ by_ : Int)
    (_ : -9223372036854775808 ≤ kind ∧ kind ≤ 9223372036854775807) (h1 : InS byteCell (fun _ => True) 1 W a1 c1 body) (h2 : InS byteCell (fun _ => True) 1 W a2 c2 raw) (h3 : InS byteCell (fun _ => True) 1 W a3 c3 more)
    (_ : -9223372036854775808 ≤ turn ∧ turn ≤ 9223372036854775807) (_ : -9223372036854775808 ≤ at_ ∧ at_ ≤ 9223372036854775807) (_ : 0 ≤ by_ ∧ by_ ≤ 255) (hl1 : body.length ≤ 1048576) (hl3 : more.length ≤ 1048576) :
    Calls Try.prog 12 #[.int .i64 kind, .slice a1 body.length c1, .slice a2 raw.length c2, .slice a3 more.length c3, .int .i64 turn, .int .i64 at_, .int .u8 by_] W fun e w' => e = .returned (.bool true) ∧ Below W.heap.size W w' := by
  have hmx : maxLen = 9223372036854775807 := rfl
  have Hmx := Lib.hid hmx; clear hmx
  have hl2 : raw.length ≤ 140737488351232 := by have := h2.lc; have := h2.sz; omega
  go_enter Try.func12, Try.ntmps12
  go_wp2_with fail
  refine (fnew_any _).mono ?_; rintro e w1 ⟨bf, bt, rfl, hf1, hb1, hb2, ch1⟩
  go_wp2_with fail
  refine (fknown_any _).mono ?_; rintro e w2 ⟨rfl, ch2⟩
  have d2 : Ch (fun k => W.heap.size ≤ k) W w2 := (ch1.trans ch2).mono (fun _ _ h => h.elim)
  have hf2 := FAt.keep ch2 hf1 (fun h => h) (fun h => h)
  have hbt2 : bt < w2.heap.size := by have := hf2.2.2; exact block_lt this.2
  clear ch1 ch2 hf1
  go_wp2_with fail
  refine (few_any a2 c2 raw raw.length _ (rd_bytes h2 d2) h2.lc (by have := h2.sz; omega) (by omega)).mono ?_
  rintro e w3 ⟨v3, rfl, own3, ch3⟩
  rw [show ((raw.length : Int)).toNat = raw.length by omega, List.take_length] at own3
  have d3 := d2.seq ch3 (fun k => W.heap.size ≤ k) (fun _ _ h => h) (fun _ _ h => h.elim)
  have hf3 := FAt.keep ch3 hf2 (fun h => h) (fun h => h)
  have hs3 := ch3.size
  have hbf3 : bf < w3.heap.size := block_lt hf3.2.1
  clear d2 hf2 ch3
  by_cases htm : 0 < Int.tmod turn 5
  · clear own3
    obtain ⟨kk, hkk⟩ := Int.eq_ofNat_of_zero_le (Int.emod_nonneg kind (show (255 : Int) ≠ 0 by omega))
    have hkl := Int.emod_lt_of_pos kind (show (0 : Int) < 255 by omega)
    rw [hkk] at hkl
    have hfr := R1.rframe_any (1 + kk) a1 c1 body w3 (by omega) (by omega) hl1 (rd_bytes h1 d3)
    rw [show (((1 + kk : Nat)) : Int) = 1 + (kk : Int) by omega] at hfr
    have Hfr := Lib.hid hfr; have Hkk := Lib.hid hkk
    clear hfr hkk
    go_wp2_with fail
    refine (pick_any kind 255 _ (by omega) (by omega)).mono ?_; rintro e w' ⟨rfl, rfl⟩
    rw [Hkk.out]
    go_wp2_with fail
    refine Hfr.out.mono ?_; rintro e w4 ⟨g4, v4, rfl, hb4, ⟨k4, rfl, hk4⟩, ch4⟩
    have hxl := frameB_len (1 + kk) body
    generalize frameB (1 + kk) body = ys at hb4 hxl
    generalize hL0 : 9 + body.length = L0 at hxl
    have d4 := d3.seq ch4 (fun k => W.heap.size ≤ k) (fun _ _ h => h) (fun _ _ h => h.elim)
    have d3s := d3.size
    have hf4 := FAt.keep ch4 hf3 (fun h => h) (fun h => h)
    obtain ⟨ao, cp, rfl, rd4, hlc4, hm4, hab4⟩ := hb4.form
    rw [hxl] at hlc4
    have own4 : w4.ownsRow 0 5 1 (.slice ao L0 cp) L0 (u8s ys) := by have := hb4.2; rw [hxl] at this; exact this
    rw [hxl]
    have hcm : cp ≤ 9223372036854775807 := by rw [Hmx.out] at hm4; exact hm4
    have hab : ∀ ad, ao = some ad → ad.block ≠ bt := fun ad had => by
      have h := hab4 ad had
      have h2 : k4 = ad.block := by injection h
      omega
    have hob : (Value.slice ao L0 cp).ownBlock = some k4 := by rw [← hxl]; exact hb4.1
    clear Hfr Hkk hf3 d3 ch4 hm4 hab4 hb4
    go_wp2_with fail
    refine (pick_any turn 4 _ (by omega) (by omega)).mono ?_; rintro e w' ⟨rfl, rfl⟩
    have hm : turn % 4 = 0 ∨ turn % 4 = 1 ∨ turn % 4 = 2 ∨ turn % 4 = 3 := by omega
    clear htm
    rcases hm with hm | hm | hm | hm
    all_goals rw [hm]
    all_goals clear hm
    · have p0 := Int.emod_nonneg at_ (show (L0 : Int) ≠ 0 by omega)
      have p1 := Int.emod_lt_of_pos at_ (show (0 : Int) < L0 by omega)
      obtain ⟨j, hj⟩ := Int.eq_ofNat_of_zero_le p0
      rw [hj] at p1
      have hjl : j < ys.length := by omega
      have hjL : j < L0 := by omega
      obtain ⟨z, hz⟩ := xor_u8 (ys[j].toNat : Nat) by_
      obtain ⟨g, cap, hv, hg1, hg2⟩ := own4.form (by omega)
      obtain ⟨rfl, rfl⟩ : ao = some ⟨g, 0, none⟩ ∧ cp = cap := by injection hv with e1 e2 e3; exact ⟨e1, e3⟩
      have hgk : g = k4 := by simpa [Value.ownBlock] using hob
      subst hgk
      have hcell : w'.cell? ⟨g, j, none⟩ = some (.int .u8 (ys[j].toNat : Nat)) := by rw [own4.cellAt j (by omega)]; simp [u8s, hjl]
      have hfrz := own4.frozenAt j
      have hst := own4.stored j (.int .u8 (z.toNat : Nat))
      rw [u8s_set] at hst
      obtain ⟨own5, gr5⟩ := hst
      have d5 := d4.setCell (p := ⟨g, j, none⟩) (fun _ => by show W.heap.size ≤ g; have := d4.size; omega) (.int .u8 (z.toNat : Nat))
      have hbf : bf < w'.heap.size := block_lt hf4.2.1
      have hf6 : FAt (World.setCell w' ⟨g, j, none⟩ (.int .u8 (z.toNat : Nat))) bf bt false := FAt.keep (Ch.ofGrown gr5) hf4 (fun h => by cases h; omega) (fun h => by cases h; omega)
      have rd6 := Rd.own own5
      have d6 := d5
      have hxs6 : (ys.set j z).length = L0 := by rw [List.length_set]; exact hxl
      have hab6 : ∀ ad, some (⟨g, 0, none⟩ : Addr) = some ad → ad.block ≠ bt := hab
      have Hz := Lib.hid hz; have Hj := Lib.hid hj
      clear own4 own5 gr5 d5 hf4 hab rd4 d4 p0 p1 hz hj
      go_wp2_with fail
      refine (pick_any at_ L0 _ (by omega) (by omega)).mono ?_; rintro e w9 ⟨rfl, rfl⟩
      rw [Hj.out]
      go_wp2_with fail
      rw [Hz.out]
      have Hn := Lib.hid (next_any bf bt false (some ⟨g, 0, none⟩) cp (ys.set j z) _ hf6 rd6 (by rw [hxs6]; omega) (by omega) (by rw [hxs6]; omega) (fun _ => hab6))
      rw [hxs6] at Hn
      obtain ⟨r, hr⟩ : ∃ r, r = nextF (ys.set j z) := ⟨_, rfl⟩
      obtain ⟨rk, rb, rn, re⟩ := r
      have Hxs6 := Lib.hid hxs6; have Hr := Lib.hid hr
      rw [← Hr.out] at Hn
      have Hd := Lib.hid d6; have Hrd := Lib.hid rd6
      clear hf6 d6 rd6 hxs6 hr hcell hfrz
      go_wp2_with fail
      refine Hn.out.mono ?_; rintro e w7 ⟨g7, v7, m7, rfl, hb7, _, _, ch7⟩
      dsimp only at hb7
      have rd7 := Rd.keep ch7 Hrd.out hab6
      have hrr := R1.rnext_any (some ⟨g, 0, none⟩) cp (ys.set j z) w7 rd7 (by rw [Hxs6.out]; omega) (by omega) (by rw [Hxs6.out]; omega)
      rw [Hxs6.out, ← Hr.out] at hrr
      have Hrr := Lib.hid hrr
      have d7 := Hd.out.seq ch7 (fun k => W.heap.size ≤ k) (fun _ _ h => h) (fun i hi h => by omega)
      clear Hn Hrd Hd ch7 rd7 hrr
      go_wp2_with fail
      refine Hrr.out.mono ?_; rintro e w8 ⟨g8, v8, rfl, hb8, ch8⟩
      dsimp only at hb8
      have hb7' := BsAt.keep ch8 hb7 (fun _ _ h => h)
      obtain ⟨ao7, cp7, rfl, rd7, _, _, _⟩ := hb7'.form
      obtain ⟨ao8, cp8, rfl, rd8, _, _, _⟩ := hb8.form
      have hstr7 : ∀ (c : Nat), (convert 40 9 (.slice ao7 rb.length c)).run Try.prog w8 = .ok (.string ⟨rb.toArray⟩) w8 := fun (c : Nat) => run_str (P := Try.prog) (w := w8) 40 9 5 Try.underlying40 Try.underlying5 Try.underlying9 rd7 c
      have hstr8 : ∀ (c : Nat), (convert 40 9 (.slice ao8 rb.length c)).run Try.prog w8 = .ok (.string ⟨rb.toArray⟩) w8 := fun (c : Nat) => run_str (P := Try.prog) (w := w8) 40 9 5 Try.underlying40 Try.underlying5 Try.underlying9 rd8 c
      have d8 := d7.seq ch8 (fun k => W.heap.size ≤ k) (fun _ _ h => h) (fun _ _ h => h.elim)
      go_wp2_with fail
      go_ret
      exact ⟨by simp, d8.below (Nat.le_refl _) (fun k hk h => by omega)⟩
    · have p0 := Int.emod_nonneg at_ (show (L0 : Int) + 1 ≠ 0 by omega)
      have p1 := Int.emod_lt_of_pos at_ (show (0 : Int) < (L0 : Int) + 1 by omega)
      obtain ⟨j, hj⟩ := Int.eq_ofNat_of_zero_le p0
      rw [hj] at p1
      have hjL : j ≤ L0 := by omega
      have hf6 := hf4
      have rd6 : Rd w' ao (u8s (ys.take j)) := by rw [u8s_take]; exact rd4.take j
      have d6 := d4
      have hxs6 : (ys.take j).length = j := by rw [List.length_take, hxl]; omega
      have hab6 := hab
      have Hj := Lib.hid hj
      have hbf6 : bf < w'.heap.size := block_lt hf4.2.1
      clear own4 hf4 hab rd4 d4 p0 p1 hj hob
      go_wp2_with fail
      refine (pick_any at_ ((L0 : Int) + 1) _ (by omega) (by omega)).mono ?_; rintro e w9 ⟨rfl, rfl⟩
      rw [Hj.out]
      have Hn := Lib.hid (next_any bf bt false ao cp (ys.take j) _ hf6 rd6 (by rw [hxs6]; omega) (by omega) (by rw [hxs6]; omega) (fun _ => hab6))
      rw [hxs6] at Hn
      obtain ⟨r, hr⟩ : ∃ r, r = nextF (ys.take j) := ⟨_, rfl⟩
      obtain ⟨rk, rb, rn, re⟩ := r
      have Hxs6 := Lib.hid hxs6; have Hr := Lib.hid hr
      rw [← Hr.out] at Hn
      have Hd := Lib.hid d6; have Hrd := Lib.hid rd6
      clear hf6 d6 rd6 hxs6 hr 
      go_wp2_with fail
      refine Hn.out.mono ?_; rintro e w7 ⟨g7, v7, m7, rfl, hb7, _, _, ch7⟩
      dsimp only at hb7
      have rd7 := Rd.keep ch7 Hrd.out hab6
      have hrr := R1.rnext_any ao cp (ys.take j) w7 rd7 (by rw [Hxs6.out]; omega) (by omega) (by rw [Hxs6.out]; omega)
      rw [Hxs6.out, ← Hr.out] at hrr
      have Hrr := Lib.hid hrr
      have d7 := Hd.out.seq ch7 (fun k => W.heap.size ≤ k) (fun _ _ h => h) (fun i hi h => by omega)
      clear Hn Hrd Hd ch7 rd7 hrr
      go_wp2_with fail
      refine Hrr.out.mono ?_; rintro e w8 ⟨g8, v8, rfl, hb8, ch8⟩
      dsimp only at hb8
      have hb7' := BsAt.keep ch8 hb7 (fun _ _ h => h)
      obtain ⟨ao7, cp7, rfl, rd7, _, _, _⟩ := hb7'.form
      obtain ⟨ao8, cp8, rfl, rd8, _, _, _⟩ := hb8.form
      have hstr7 : ∀ (c : Nat), (convert 40 9 (.slice ao7 rb.length c)).run Try.prog w8 = .ok (.string ⟨rb.toArray⟩) w8 := fun (c : Nat) => run_str (P := Try.prog) (w := w8) 40 9 5 Try.underlying40 Try.underlying5 Try.underlying9 rd7 c
      have hstr8 : ∀ (c : Nat), (convert 40 9 (.slice ao8 rb.length c)).run Try.prog w8 = .ok (.string ⟨rb.toArray⟩) w8 := fun (c : Nat) => run_str (P := Try.prog) (w := w8) 40 9 5 Try.underlying40 Try.underlying5 Try.underlying9 rd8 c
      have d8 := d7.seq ch8 (fun k => W.heap.size ≤ k) (fun _ _ h => h) (fun _ _ h => h.elim)
      go_wp2_with fail
      go_ret
      exact ⟨by simp, d8.below (Nat.le_refl _) (fun k hk h => by omega)⟩
    · have rd3 := rd_bytes h3 d4
      go_wp2_with (at_builtin; refine wpList_append_rd rfl (.tmp 69) (.tmp 70) rfl ei_bytes 0 (.slice ao L0 cp) L0 (u8s ys) rfl own4 a3 more.length c3 (u8s more) rfl (by rw [u8s_len]; omega) rd3 (u8s_one _) (by rw [Hmx.out]; omega) (by omega) (by omega) ?_)
      intro v5 w5 own5 gr5 _ at5
      have hxs6 : (ys ++ more).length = L0 + more.length := by rw [List.length_append, hxl]
      have hb5 : BsAt w5 v5.ownBlock v5 (ys ++ more) := ⟨rfl, by rw [hxs6, u8s_app]; exact own5⟩
      obtain ⟨ao5, cp5, hv5, rd6, hlc5, hm5, hab5⟩ := hb5.form
      rw [hxs6] at hv5 hlc5
      have hbf4 : bf < w'.heap.size := block_lt hf4.2.1
      have hbt4 : bt < w'.heap.size := by have := hf4.2.2; exact block_lt this.2
      have hf6 := FAt.keep (Ch.ofGrown gr5) hf4 (fun h => by cases h; omega) (fun h => by cases h; omega)
      have d6 := d4.seq (Ch.ofGrown gr5) (fun k => W.heap.size ≤ k) (fun _ _ h => h) (fun i hi h => by cases h; have := d3s; omega)
      have hab6 : ∀ ad, ao5 = some ad → ad.block ≠ bt := fun ad had => by
        have h := hab5 ad had

        rcases at5 with h5 | h5 <;> rw [h5] at h <;> injection h with h6 <;> omega
      have hcm5 : cp5 ≤ 9223372036854775807 := by rw [Hmx.out] at hm5; exact hm5
      subst hv5
      clear own4 own5 gr5 at5 hf4 hab rd4 d4 hob hb5 hab5 hm5 rd3
      have Hn := Lib.hid (next_any bf bt false ao5 cp5 (ys ++ more) _ hf6 rd6 (by rw [hxs6]; omega) (by omega) (by rw [hxs6]; omega) (fun _ => hab6))
      rw [hxs6] at Hn
      obtain ⟨r, hr⟩ : ∃ r, r = nextF (ys ++ more) := ⟨_, rfl⟩
      obtain ⟨rk, rb, rn, re⟩ := r
      have Hxs6 := Lib.hid hxs6; have Hr := Lib.hid hr
      rw [← Hr.out] at Hn
      have Hd := Lib.hid d6; have Hrd := Lib.hid rd6
      clear hf6 d6 rd6 hxs6 hr 
      go_wp2_with fail
      refine Hn.out.mono ?_; rintro e w7 ⟨g7, v7, m7, rfl, hb7, _, _, ch7⟩
      dsimp only at hb7
      have rd7 := Rd.keep ch7 Hrd.out hab6
      have hrr := R1.rnext_any ao5 cp5 (ys ++ more) w7 rd7 (by rw [Hxs6.out]; omega) (by omega) (by rw [Hxs6.out]; omega)
      rw [Hxs6.out, ← Hr.out] at hrr
      have Hrr := Lib.hid hrr
      have d7 := Hd.out.seq ch7 (fun k => W.heap.size ≤ k) (fun _ _ h => h) (fun i hi h => by omega)
      clear Hn Hrd Hd ch7 rd7 hrr
      go_wp2_with fail
      refine Hrr.out.mono ?_; rintro e w8 ⟨g8, v8, rfl, hb8, ch8⟩
      dsimp only at hb8
      have hb7' := BsAt.keep ch8 hb7 (fun _ _ h => h)
      obtain ⟨ao7, cp7, rfl, rd7, _, _, _⟩ := hb7'.form
      obtain ⟨ao8, cp8, rfl, rd8, _, _, _⟩ := hb8.form
      have hstr7 : ∀ (c : Nat), (convert 40 9 (.slice ao7 rb.length c)).run Try.prog w8 = .ok (.string ⟨rb.toArray⟩) w8 := fun (c : Nat) => run_str (P := Try.prog) (w := w8) 40 9 5 Try.underlying40 Try.underlying5 Try.underlying9 rd7 c
      have hstr8 : ∀ (c : Nat), (convert 40 9 (.slice ao8 rb.length c)).run Try.prog w8 = .ok (.string ⟨rb.toArray⟩) w8 := fun (c : Nat) => run_str (P := Try.prog) (w := w8) 40 9 5 Try.underlying40 Try.underlying5 Try.underlying9 rd8 c
      have d8 := d7.seq ch8 (fun k => W.heap.size ≤ k) (fun _ _ h => h) (fun _ _ h => h.elim)
      go_wp2_with fail
      go_ret
      exact ⟨by simp, d8.below (Nat.le_refl _) (fun k hk h => by omega)⟩
    · have hf6 := hf4
      have rd6 := rd4
      have d6 := d4
      have hxs6 := hxl
      have hab6 := hab
      have hbf6 : bf < w'.heap.size := block_lt hf4.2.1
      clear own4 hf4 hab rd4 d4 hob
      have Hn := Lib.hid (next_any bf bt false ao cp ys _ hf6 rd6 (by rw [hxs6]; omega) (by omega) (by rw [hxs6]; omega) (fun _ => hab6))
      rw [hxs6] at Hn
      obtain ⟨r, hr⟩ : ∃ r, r = nextF ys := ⟨_, rfl⟩
      obtain ⟨rk, rb, rn, re⟩ := r
      have Hxs6 := Lib.hid hxs6; have Hr := Lib.hid hr
      rw [← Hr.out] at Hn
      have Hd := Lib.hid d6; have Hrd := Lib.hid rd6
      clear hf6 d6 rd6 hxs6 hr 
      go_wp2_with fail
      refine Hn.out.mono ?_; rintro e w7 ⟨g7, v7, m7, rfl, hb7, _, _, ch7⟩
      dsimp only at hb7
      have rd7 := Rd.keep ch7 Hrd.out hab6
      have hrr := R1.rnext_any ao cp ys w7 rd7 (by rw [Hxs6.out]; omega) (by omega) (by rw [Hxs6.out]; omega)
      rw [Hxs6.out, ← Hr.out] at hrr
      have Hrr := Lib.hid hrr
      have d7 := Hd.out.seq ch7 (fun k => W.heap.size ≤ k) (fun _ _ h => h) (fun i hi h => by omega)
      clear Hn Hrd Hd ch7 rd7 hrr
      go_wp2_with fail
      refine Hrr.out.mono ?_; rintro e w8 ⟨g8, v8, rfl, hb8, ch8⟩
      dsimp only at hb8
      have hb7' := BsAt.keep ch8 hb7 (fun _ _ h => h)
      obtain ⟨ao7, cp7, rfl, rd7, _, _, _⟩ := hb7'.form
      obtain ⟨ao8, cp8, rfl, rd8, _, _, _⟩ := hb8.form
      have hstr7 : ∀ (c : Nat), (convert 40 9 (.slice ao7 rb.length c)).run Try.prog w8 = .ok (.string ⟨rb.toArray⟩) w8 := fun (c : Nat) => run_str (P := Try.prog) (w := w8) 40 9 5 Try.underlying40 Try.underlying5 Try.underlying9 rd7 c
      have hstr8 : ∀ (c : Nat), (convert 40 9 (.slice ao8 rb.length c)).run Try.prog w8 = .ok (.string ⟨rb.toArray⟩) w8 := fun (c : Nat) => run_str (P := Try.prog) (w := w8) 40 9 5 Try.underlying40 Try.underlying5 Try.underlying9 rd8 c
      have d8 := d7.seq ch8 (fun k => W.heap.size ≤ k) (fun _ _ h => h) (fun _ _ h => h.elim)
      go_wp2_with fail
      go_ret
      exact ⟨by simp, d8.below (Nat.le_refl _) (fun k hk h => by omega)⟩
  · have hb5 : BsAt w3 v3.ownBlock v3 raw := ⟨rfl, own_zero own3⟩
    have hlt3 := own3.lt
    obtain ⟨ao, cp, hv5, rd6, hlc5, hm5, hab5⟩ := hb5.form
    have hab6 : ∀ ad, ao = some ad → ad.block ≠ bt := fun ad had => by
      have h := (hlt3 ad.block (hab5 ad had)).1
      omega
    have hcm5 : cp ≤ 9223372036854775807 := by rw [Hmx.out] at hm5; exact hm5
    have hf6 := hf3
    have d6 := d3
    obtain ⟨ys, hys⟩ : ∃ ys : List UInt8, raw = ys := ⟨_, rfl⟩
    rw [hys] at rd6
    have hxs6 : ys.length = raw.length := by rw [hys]
    clear hys
    subst hv5
    clear own3 hb5 hab5 hm5 hlt3 hf3 d3
    have Hn := Lib.hid (next_any bf bt false ao cp ys _ hf6 rd6 (by rw [hxs6]; omega) (by omega) (by rw [hxs6]; omega) (fun _ => hab6))
    rw [hxs6] at Hn
    obtain ⟨r, hr⟩ : ∃ r, r = nextF ys := ⟨_, rfl⟩
    obtain ⟨rk, rb, rn, re⟩ := r
    have Hxs6 := Lib.hid hxs6; have Hr := Lib.hid hr
    rw [← Hr.out] at Hn
    have Hd := Lib.hid d6; have Hrd := Lib.hid rd6
    clear hf6 d6 rd6 hxs6 hr 
    go_wp2_with fail
    refine Hn.out.mono ?_; rintro e w7 ⟨g7, v7, m7, rfl, hb7, _, _, ch7⟩
    dsimp only at hb7
    have rd7 := Rd.keep ch7 Hrd.out hab6
    have hrr := R1.rnext_any ao cp ys w7 rd7 (by rw [Hxs6.out]; omega) (by omega) (by rw [Hxs6.out]; omega)
    rw [Hxs6.out, ← Hr.out] at hrr
    have Hrr := Lib.hid hrr
    have d7 := Hd.out.seq ch7 (fun k => W.heap.size ≤ k) (fun _ _ h => h) (fun i hi h => by omega)
    clear Hn Hrd Hd ch7 rd7 hrr
    go_wp2_with fail
    refine Hrr.out.mono ?_; rintro e w8 ⟨g8, v8, rfl, hb8, ch8⟩
    dsimp only at hb8
    have hb7' := BsAt.keep ch8 hb7 (fun _ _ h => h)
    obtain ⟨ao7, cp7, rfl, rd7, _, _, _⟩ := hb7'.form
    obtain ⟨ao8, cp8, rfl, rd8, _, _, _⟩ := hb8.form
    have hstr7 : ∀ (c : Nat), (convert 40 9 (.slice ao7 rb.length c)).run Try.prog w8 = .ok (.string ⟨rb.toArray⟩) w8 := fun (c : Nat) => run_str (P := Try.prog) (w := w8) 40 9 5 Try.underlying40 Try.underlying5 Try.underlying9 rd7 c
    have hstr8 : ∀ (c : Nat), (convert 40 9 (.slice ao8 rb.length c)).run Try.prog w8 = .ok (.string ⟨rb.toArray⟩) w8 := fun (c : Nat) => run_str (P := Try.prog) (w := w8) 40 9 5 Try.underlying40 Try.underlying5 Try.underlying9 rd8 c
    have d8 := d7.seq ch8 (fun k => W.heap.size ≤ k) (fun _ _ h => h) (fun _ _ h => h.elim)
    go_wp2_with fail
    go_ret
    exact ⟨by simp, d8.below (Nat.le_refl _) (fun k hk h => by omega)⟩

end Go.Proofs.Ytlphhadomhdacaa
