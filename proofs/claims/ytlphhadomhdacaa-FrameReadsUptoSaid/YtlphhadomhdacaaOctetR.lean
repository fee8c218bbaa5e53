/- The reader of bytes: each method's contract. -/
import Derived.Test.YtlphhadomhdacaaOctet
namespace Go.Proofs.Ytlphhadomhdacaa
open Go Go.RowKit

/-- A reader lies in block br: what is left, in block g; was something taken beyond the end? -/
def ReAt (w : World) (br : Nat) (g : Option Nat) (bs : List UInt8) (lack : Bool) : Prop :=
  g ≠ some br ∧ ∃ ao cap, w.heap[br]? = some (.cells #[.slice ao bs.length cap, .bool lack] 121 (0, 0)) ∧ Rd w ao (u8s bs) ∧ bs.length ≤ cap ∧ cap ≤ 9223372036854775807 ∧ (∀ ad, ao = some ad → g = some ad.block)

theorem ReAt.keep {S : Nat → Prop} {w w' : World} (h : Ch S w w') {br : Nat} {g : Option Nat} {bs : List UInt8} {lack : Bool} (hr : ReAt w br g bs lack) (h1 : ¬ S br) (h2 : ∀ k, g = some k → ¬ S k) : ReAt w' br g bs lack := by
  obtain ⟨h0, ao, cap, hh, hrd, hc, hm, ha⟩ := hr
  exact ⟨h0, ao, cap, h.heap hh h1, Rd.keep h hrd (fun ad had => h2 _ (ha ad had)), hc, hm, ha⟩

/-- What is taken, and what is left. -/
def rOk (bs : List UInt8) (lack : Bool) (n : Int) : Bool := !lack && decide (0 ≤ n) && decide (n ≤ bs.length)
def rOut (bs : List UInt8) (lack : Bool) (n : Int) : List UInt8 := if rOk bs lack n then bs.take n.toNat else []
def rLeft (bs : List UInt8) (lack : Bool) (n : Int) : List UInt8 := if rOk bs lack n then bs.drop n.toNat else []

theorem slice_rd {w : World} {ao : Option Addr} {xs : List Value} (h : Rd w ao xs) (k cap : Nat) (hc : xs.length ≤ cap) : Rd w (if cap = k then ao else ao.map (·.add (k * 1))) (xs.drop k) := by
  refine h.drop k _ (fun hk => ?_)
  rw [if_neg (by omega), Nat.mul_one]

theorem raw_set {w w1 : World} {br : Nat} {g : Option Nat} {bs : List UInt8} (e : Ch (fun _ => False) w w1) (hg : g ≠ some br) {ao : Option Addr} {cap : Nat} (hh : w.heap[br]? = some (.cells #[.slice ao bs.length cap, .bool false] 121 (0, 0))) (hrd : Rd w ao (u8s bs)) (hc : bs.length ≤ cap) (hm : cap ≤ 9223372036854775807)
    (ha : ∀ ad, ao = some ad → g = some ad.block) (k : Nat) (ao' : Option Addr) (hao : ao' = if cap = k then ao else ao.map (·.add (k * 1))) : ReAt (w1.setCell ⟨br, 0, none⟩ (.slice ao' (bs.length - k) (cap - k))) br g (bs.drop k) false := by
  have c3 : Ch (fun k => k = br) w1 (w1.setCell ⟨br, 0, none⟩ (.slice ao' (bs.length - k) (cap - k))) := Ch.setCell (S := fun k => k = br) (Ch.refl _ _) (p := ⟨br, 0, none⟩) (fun _ => rfl) _
  have hb' : ∀ ad, ao' = some ad → g = some ad.block := by
    intro ad had
    rw [hao] at had
    split at had
    · exact ha ad had
    · rcases ao with _ | a0
      · cases had
      · simp at had; subst had
        have := ha a0 rfl
        rw [this]; unfold Addr.add; split <;> rfl
  refine ⟨hg, ao', cap - k, ?_, ?_, by simp; omega, by omega, hb'⟩
  · rw [setH (e.heap hh (fun h => h)), List.length_drop]; rfl
  · rw [u8s_drop]
    have h1 : Rd w ao' ((u8s bs).drop k) := by rw [hao]; exact slice_rd hrd k cap (by rw [u8s_len]; exact hc)
    refine Rd.keep c3 (Rd.keep e h1 (fun _ _ h => h)) (fun ad had h => ?_)
    have := hb' ad had
    rw [this] at hg; rw [h] at hg; exact hg rfl

theorem newReader_any (a : Option Addr) (c : Nat) (bs : List UInt8) (w : World) (hr : Rd w a (u8s bs)) (hl : bs.length ≤ 140737488355328) :
    Calls Try.prog 53 #[.slice a bs.length c] w fun e w' => ∃ br g, e = .returned (.pointer (some ⟨br, 0, none⟩)) ∧ ReAt w' br g bs false ∧ w.heap.size ≤ br ∧ (∀ k, g = some k → w.heap.size ≤ k) ∧ Ch (fun _ => False) w w' := by
  have hmx : maxLen = 9223372036854775807 := rfl
  have Hmx := Lib.hid hmx; clear hmx
  have o1 : (w.alloc (.cells #[] 5)).ownsRow 0 5 1 (.slice (some ⟨w.heap.size, 0, none⟩) 0 0) 0 [] := World.ownsRow_lit w #[] 0 (Nat.zero_le _) (Nat.zero_le _) rfl
  have rd1 : Rd (w.alloc (.cells #[] 5)) a (u8s bs) := Rd.keep (ch_new _ _) hr (fun _ _ h => h)
  go_enter Try.func53, Try.ntmps53
  go_wp2_with (at_builtin; refine wpList_append_rd rfl (.tmp 3) (.tmp 4) rfl ei_bytes 0 (.slice (some ⟨w.heap.size, 0, none⟩) 0 0) 0 [] rfl o1 a bs.length c (u8s bs) rfl (by rw [u8s_len]; omega) rd1 (u8s_one _) (by rw [Hmx.out]; omega) (by omega) (by simp) ?_)
  intro v1 w1 own1 gr1 _ at1
  have ch1 : Ch (fun _ => False) w w1 := (ch_new w _).seq (Ch.ofGrown gr1) _ (fun _ _ h => h) (fun i hi h => by simp [Value.ownBlock] at h; omega)
  have own2 : w1.ownsRow 0 5 1 v1 bs.length (u8s bs) := by simpa using own1
  have hat : ∃ k, v1.ownBlock = some k ∧ w.heap.size ≤ k := by
    rcases at1 with h | h
    · exact ⟨w.heap.size, h, Nat.le_refl _⟩
    · exact ⟨_, h, by simp⟩
  obtain ⟨ao, cp, rfl, hrd, hcl, hcm, hab⟩ := BsAt.form (g := v1.ownBlock) ⟨rfl, own2⟩
  have hblt := fun k (hk : Value.ownBlock (.slice ao bs.length cp) = some k) => (own2.lt k hk).2
  obtain ⟨k0, hk0, hk1⟩ := hat
  rw [hk0] at hab
  have hk2 := hblt k0 hk0
  have Hrd := Lib.hid hrd; have Hab := Lib.hid hab; have Hk := Lib.hid hk2
  have Hm := Lib.hid (show cp ≤ 9223372036854775807 by rw [Hmx.out] at hcm; exact hcm)
  clear own1 own2 gr1 at1 hrd hab hblt hk0 hk2
  go_wp2_with fail
  go_ret
  refine ⟨w1.heap.size, some k0, rfl, ⟨?_, ao, cp, alloc_heap_new _ _, Rd.keep (ch_new _ _) Hrd.out (fun _ _ h => h), hcl, Hm.out, Hab.out⟩, ch1.size, ?_, ch1.alloc _⟩
  · intro h; cases h; have := Hk.out; omega
  · intro k hk; cases hk; exact hk1

set_option maxRecDepth 100000 in
set_option maxHeartbeats 2000000 in
theorem rRaw (br : Nat) (g : Option Nat) (bs : List UInt8) (lack : Bool) (n : Int) (w : World) (h : ReAt w br g bs lack) (hn : -9223372036854775808 ≤ n ∧ n ≤ 9223372036854775807) (hl : bs.length ≤ 140737488355328) :
    Calls Try.prog 75 #[.pointer (some ⟨br, 0, none⟩), .int .i64 n] w fun e w' => ∃ g' v, e = .returned v ∧ BsAt w' g' v (rOut bs lack n) ∧ (g' = none ∨ ∃ k, g' = some k ∧ w.heap.size ≤ k) ∧ ReAt w' br g (rLeft bs lack n) (!rOk bs lack n) ∧ Ch (fun k => k = br) w w' := by
  have hmx : maxLen = 9223372036854775807 := rfl
  have Hmx := Lib.hid hmx; clear hmx
  obtain ⟨hg0, ao, cap, hh, hrd, hc, hm, hab⟩ := h
  have hc0 := (cellH hh 0).trans rfl
  have hc1 := (cellH hh 1).trans rfl
  have hz0 := frozH hh 0
  have hz1 := frozH hh 1
  by_cases hok : rOk bs lack n = true
  · have h3 : lack = false ∧ 0 ≤ n ∧ n ≤ bs.length := by simpa [rOk, and_assoc] using hok
    obtain ⟨rfl, h0, h1⟩ := h3
    obtain ⟨k, rfl⟩ := Int.eq_ofNat_of_zero_le h0
    have hkl : k ≤ bs.length := by omega
    unfold rOut rLeft
    rw [hok, if_pos rfl, if_pos rfl, Int.toNat_natCast]
    have hcA : ∀ o : Obj, (w.alloc o).cell? ⟨br, 0, none⟩ = some (.slice ao bs.length cap) := fun o => (ch_new w o).cell hc0 (fun h => h)
    have o1 : (w.alloc (.cells #[] 5)).ownsRow 0 5 1 (.slice (some ⟨w.heap.size, 0, none⟩) 0 0) 0 [] := World.ownsRow_lit w #[] 0 (Nat.zero_le _) (Nat.zero_le _) rfl
    have rd1 : Rd (w.alloc (.cells #[] 5)) ao (u8s (bs.take k)) := Rd.keep (ch_new _ _) (by rw [u8s_take]; exact hrd.take k) (fun _ _ h => h)
    have Hfin := Lib.hid (fun (w1 : World) (e : Ch (fun _ => False) w w1) (ao' : Option Addr) (hao : ao' = if cap = k then ao else ao.map (·.add (k * 1))) => raw_set e hg0 hh hrd hc hm hab k ao' hao)
    have Htl := Lib.hid (show (bs.take k).length = k by simp; omega)
    have HhX := Lib.hid hh
    clear hok hrd hh hab
    go_enter Try.func75, Try.ntmps75
    go_wp2_with (at_builtin; refine wpList_append_rd rfl (.tmp 29) (.tmp 35) rfl ei_bytes 0 (.slice (some ⟨w.heap.size, 0, none⟩) 0 0) 0 [] rfl o1 _ k _ (u8s (bs.take k)) rfl (by rw [u8s_len, Htl.out]; omega) (by simpa using rd1) (u8s_one _) (by rw [Hmx.out]; omega) (by omega) (by simp) ?_)
    intro v1 w1 own1 gr1 _ at1
    have ch1 : Ch (fun _ => False) w w1 := (ch_new w _).seq (Ch.ofGrown gr1) _ (fun _ _ h => h) (fun i hi h => by simp [Value.ownBlock] at h; omega)
    have own2 : w1.ownsRow 0 5 1 v1 (bs.take k).length (u8s (bs.take k)) := by rw [Htl.out]; simpa using own1
    have hat : ∃ k, v1.ownBlock = some k ∧ w.heap.size ≤ k := by
      rcases at1 with h | h
      · exact ⟨w.heap.size, h, Nat.le_refl _⟩
      · exact ⟨_, h, by simp⟩
    have hc1' := ch1.cell hc0 (fun h => h)
    have hz1' : w1.frozen? ⟨br, 0, none⟩ = false := frozH (ch1.heap HhX.out (fun h => h)) 0
    have Hown := Lib.hid own2
    have hbl := block_lt HhX.out
    obtain ⟨k0, hk0, hk1⟩ := hat
    have Hk0 := Lib.hid hk0
    have Hf := Lib.hid (Hfin.out w1 ch1)
    clear own1 own2 gr1 at1 hc0 hc1 hz0 hz1 rd1 o1 hcA hk0
    go_wp2_with fail
    all_goals
      go_ret
      have c3 : ∀ u, Ch (fun k => k = br) w1 (w1.setCell ⟨br, 0, none⟩ u) := fun u => Ch.setCell (S := fun k => k = br) (Ch.refl _ _) (p := ⟨br, 0, none⟩) (fun _ => rfl) _
      refine ⟨some k0, v1, rfl, ⟨Hk0.out, (c3 _).own Hown.out (fun j hj h => by rw [Hk0.out] at hj; cases hj; omega)⟩, .inr ⟨k0, rfl, hk1⟩, ?_, ch1.seq (c3 _) _ (fun _ _ h => h.elim) (fun _ _ h => h)⟩
      first
        | (have hck : cap = k := by assumption
           have := Hf.out ao (by rw [if_pos hck])
           rw [show cap - k = 0 by omega] at this
           exact this)
        | (have hck : ¬ cap = k := by assumption
           exact Hf.out _ (by rw [if_neg hck, Nat.mul_one]))
  · have hok' : rOk bs lack n = false := by simpa using hok
    unfold rOut rLeft
    rw [hok', if_neg (by simp), if_neg (by simp)]
    have hfin : ∀ w', w' = (w.setCell ⟨br, 0, none⟩ (.slice none 0 0)).setCell ⟨br, 1, none⟩ (.bool true) → ∃ g' v, Ending.returned (.slice none 0 0) = .returned v ∧ BsAt w' g' v [] ∧ (g' = none ∨ ∃ k, g' = some k ∧ w.heap.size ≤ k) ∧ ReAt w' br g [] (!false) ∧ Ch (fun k => k = br) w w' := by
      rintro w' rfl
      refine ⟨none, .slice none 0 0, rfl, ⟨rfl, World.ownsRow_nil _ _ _ _⟩, .inl rfl, ⟨hg0, none, 0, ?_, Rd.nil _ _, Nat.le_refl _, by omega, by simp⟩, (Ch.setCell (S := fun k => k = br) (Ch.refl _ _) (p := ⟨br, 0, none⟩) (fun _ => rfl) _).setCell (p := ⟨br, 1, none⟩) (fun _ => rfl) _⟩
      rw [setH (setH hh 0 _) 1]; rfl
    have Hfin := Lib.hid hfin
    have hcase : lack = true ∨ (lack = false ∧ n < 0) ∨ (lack = false ∧ 0 ≤ n ∧ (bs.length : Int) < n) := by
      cases lack
      · right
        have : ¬ (0 ≤ n ∧ n ≤ bs.length) := by simpa [rOk] using hok
        rcases Int.lt_or_le n 0 with h | h
        · exact .inl ⟨rfl, h⟩
        · exact .inr ⟨rfl, h, by omega⟩
      · exact .inl rfl
    clear hfin hok hok' hrd hab hh
    rcases hcase with rfl | ⟨rfl, h1⟩ | ⟨rfl, h1, h2⟩
    all_goals
      go_enter Try.func75, Try.ntmps75
      go_wp2_with fail
      go_ret
      exact Hfin.out _ rfl

theorem rOut_len (bs : List UInt8) (lack : Bool) (n : Nat) : (rOut bs lack n).length ≤ n := by
  unfold rOut; split
  · simp; omega
  · simp

theorem join_byte (y : Nat) (x : UInt8) (h : y * 256 + 255 < 18446744073709551616) : bits BinOp.or IntKind.u64 ((y : Int) * 256) (x.toNat : Nat) = ((y * 256 + x.toNat : Nat) : Int) := by
  have hx := x.toNat_lt
  have h1 := u64_or_nat (y * 256) x.toNat (Nat.lt_of_le_of_lt (Nat.le_add_right _ 255) h) (Nat.lt_of_lt_of_le hx (by decide))
  rw [nat_join 8 (y * 256) x.toNat (Nat.mul_mod_left y 256) hx] at h1
  rw [Int.natCast_mul] at h1
  exact h1

set_option maxRecDepth 100000 in
set_option maxHeartbeats 1000000 in
theorem rGet (br : Nat) (g : Option Nat) (bs : List UInt8) (lack : Bool) (n : Nat) (hn : n ≤ 8) (w : World) (h : ReAt w br g bs lack) (hl : bs.length ≤ 140737488355328) :
    Calls Try.prog 70 #[.pointer (some ⟨br, 0, none⟩), .int .i64 n] w fun e w' => e = .returned (.int .u64 (beN (rOut bs lack n) : Nat)) ∧ ReAt w' br g (rLeft bs lack n) (!rOk bs lack n) ∧ Ch (fun k => k = br) w w' := by
  go_enter Try.func70, Try.ntmps70
  go_wp2_with fail
  refine (rRaw br g bs lack n _ h (by omega) hl).mono ?_
  rintro e w1 ⟨g1, v, rfl, hb, _, hre, ch1⟩
  have hlen := rOut_len bs lack n
  generalize hxs : rOut bs lack n = xs at hb hlen
  have Hxs := Lib.hid hxs; clear hxs
  obtain ⟨ao, cp, rfl, hrd, hcl, hcm, _⟩ := hb.form
  have Hre := Lib.hid hre
  clear hb hre h
  go_wp2_with fail
  go_loop [5, 7, 12] (fun v _ i => ∃ k : Nat, i = .int .i64 k ∧ k ≤ xs.length ∧ v = .int .u64 (beN (xs.take k) : Nat)) (fun _ _ i => xs.length - (intOf i).toNat)
  case atStart => exact ⟨0, rfl, Nat.zero_le _, rfl⟩
  case round =>
    obtain ⟨k, rfl, hk, rfl⟩ := hrel
    by_cases hlt : k < xs.length
    · obtain ⟨b, off, rfl, _, hcell⟩ := Rd.at hrd (k := k) (by rw [u8s_len]; exact hlt)
      have hx := hcell k (.int .u8 (xs[k].toNat : Nat)) (by simp [u8s, hlt])
      have hst : beN (xs.take (k + 1)) = beN (xs.take k) * 256 + xs[k].toNat := by rw [List.take_succ_eq_append_getElem hlt, beN_snoc]
      have hyl := beN_lt (xs.take k)
      have hpw : 256 ^ (xs.take k).length ≤ 256 ^ 7 := Nat.pow_le_pow_right (by omega) (by rw [List.length_take]; omega)
      have hyl2 : beN (xs.take k) < 72057594037927936 := by omega
      generalize beN (xs.take k) = y at hst hyl2
      obtain ⟨x, hxx⟩ : ∃ x, x = xs[k] := ⟨_, rfl⟩
      rw [← hxx] at hx hst
      have hj := join_byte y x (by omega)
      rw [← hst] at hj
      have hxl := x.toNat_lt
      have Hj := Lib.hid hj
      clear hcell hyl hpw hst hxx hj
      go_wp2
      go_round
      case rel => exact ⟨k + 1, by go_num, by omega, by rw [Hj.out]⟩
      case measure => simp [intOf]; omega
    · obtain rfl : k = xs.length := by omega
      rw [List.take_length]
      go_wp2
      go_ret
      exact ⟨by rw [Hxs.out]; rfl, Hre.out, ch1⟩

theorem rU8 (br : Nat) (g : Option Nat) (bs : List UInt8) (lack : Bool) (w : World) (h : ReAt w br g bs lack) (hl : bs.length ≤ 140737488355328) :
    Calls Try.prog 54 #[.pointer (some ⟨br, 0, none⟩)] w fun e w' => e = .returned (.int .i64 (beN (rOut bs lack 1) : Nat)) ∧ ReAt w' br g (rLeft bs lack 1) (!rOk bs lack 1) ∧ Ch (fun k => k = br) w w' := by
  have hb := beN_lt (rOut bs lack 1)
  have hp : 256 ^ (rOut bs lack 1).length ≤ 256 ^ 1 := Nat.pow_le_pow_right (by omega) (rOut_len bs lack 1)
  have hy : beN (rOut bs lack 1) < 256 := by omega
  clear hb hp
  have hg := rGet br g bs lack 1 (by omega) w h hl
  have Hg := Lib.hid hg
  clear hg h
  go_enter Try.func54, Try.ntmps54
  go_wp2_with fail
  refine Hg.out.mono ?_; rintro e w1 ⟨rfl, hr, ch⟩
  have Hr := Lib.hid hr
  clear hr
  go_wp2_with fail
  go_ret
  exact ⟨rfl, Hr.out, ch⟩

theorem rU16 (br : Nat) (g : Option Nat) (bs : List UInt8) (lack : Bool) (w : World) (h : ReAt w br g bs lack) (hl : bs.length ≤ 140737488355328) :
    Calls Try.prog 55 #[.pointer (some ⟨br, 0, none⟩)] w fun e w' => e = .returned (.int .i64 (beN (rOut bs lack 2) : Nat)) ∧ ReAt w' br g (rLeft bs lack 2) (!rOk bs lack 2) ∧ Ch (fun k => k = br) w w' := by
  have hb := beN_lt (rOut bs lack 2)
  have hp : 256 ^ (rOut bs lack 2).length ≤ 256 ^ 2 := Nat.pow_le_pow_right (by omega) (rOut_len bs lack 2)
  have hy : beN (rOut bs lack 2) < 65536 := by omega
  clear hb hp
  have hg := rGet br g bs lack 2 (by omega) w h hl
  have Hg := Lib.hid hg
  clear hg h
  go_enter Try.func55, Try.ntmps55
  go_wp2_with fail
  refine Hg.out.mono ?_; rintro e w1 ⟨rfl, hr, ch⟩
  have Hr := Lib.hid hr
  clear hr
  go_wp2_with fail
  go_ret
  exact ⟨rfl, Hr.out, ch⟩

end Go.Proofs.Ytlphhadomhdacaa
