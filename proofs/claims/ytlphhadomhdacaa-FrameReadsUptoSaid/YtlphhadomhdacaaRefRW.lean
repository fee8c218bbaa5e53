/- The writer and the reader of the reference: each method's contract. -/
import Derived.Test.YtlphhadomhdacaaOctetR
import Derived.Test.YtlphhadomhdacaaCrcRef
namespace Go.Proofs.Ytlphhadomhdacaa.R1
open Go Go.RowKit

def WrAt (w : World) (bw : Nat) (g : Option Nat) (bs : List UInt8) : Prop :=
  g ≠ some bw ∧ ∃ v, w.heap[bw]? = some (.cells #[v] 101 (0, 0)) ∧ BsAt w g v bs

theorem WrAt.keep {S : Nat → Prop} {w w' : World} (h : Ch S w w') {bw : Nat} {g : Option Nat} {bs : List UInt8} (hw : WrAt w bw g bs) (h1 : ¬ S bw) (h2 : ∀ k, g = some k → ¬ S k) : WrAt w' bw g bs := by
  obtain ⟨h0, v, h3, h4⟩ := hw
  exact ⟨h0, v, h.heap h3 h1, h4.keep h h2⟩

theorem WrAt.app {w w1 w2 : World} {bw : Nat} {g : Option Nat} {bs : List UInt8} {v v' : Value} (hg : g ≠ some bw) (hw : w.heap[bw]? = some (.cells #[v] 101 (0, 0))) (hb : BsAt w g v bs) (e : Ch (fun _ => False) w w1) (hgr : w1.grownBy w2 v.ownBlock)
    {n : Nat} {news : List UInt8} (hn : n = (bs ++ news).length) (hown : w2.ownsRow 0 5 1 v' n (u8s bs ++ u8s news)) (hat : v'.ownBlock = v.ownBlock ∨ v'.ownBlock = some w1.heap.size) :
    ∃ g', WrAt (w2.setCell ⟨bw, 0, none⟩ v') bw g' (bs ++ news) ∧ (g' = g ∨ ∃ k, g' = some k ∧ w.heap.size ≤ k) ∧ Ch (fun k => k = bw ∨ g = some k) w (w2.setCell ⟨bw, 0, none⟩ v') := by
  subst hn
  have c2 : Ch (fun k => g = some k) w w2 := e.seq (Ch.ofGrown hgr) _ (fun _ _ h => h.elim) (fun i _ h => by rw [← hb.1]; exact h)
  have hbl := block_lt hw
  have hne : v'.ownBlock ≠ some bw := by
    rcases hat with h | h
    · rw [h, hb.1]; exact hg
    · rw [h]; intro hh; cases hh; have := e.size; omega
  have c3 : Ch (fun k => k = bw) w2 (w2.setCell ⟨bw, 0, none⟩ v') := Ch.setCell (S := fun k => k = bw) (Ch.refl _ _) (p := ⟨bw, 0, none⟩) (fun _ => rfl) _
  refine ⟨v'.ownBlock, ⟨hne, v', ?_, rfl, ?_⟩, ?_, c2.seq c3 _ (fun _ _ h => .inr h) (fun _ _ h => .inl h)⟩
  · rw [setH (c2.heap hw (fun h => hg h))]; rfl
  · rw [u8s_app]
    exact c3.own hown (fun k hk h => hne (by rw [hk, h]))
  · rcases hat with h | h
    · left; rw [h, hb.1]
    · right; exact ⟨_, h, e.size⟩

theorem shr_u (v i : Nat) (hi : i < 8) (w : World) : (Op.shift BinOp.shr IntKind.u64 (v : Int) IntKind.u64 (8 * (i : Int))).run Try.prog w = .ok (.int .u64 ((v / 256 ^ i : Nat) : Int)) w := by
  rw [shift_shr_any _ _ _ _ (by omega)]
  rw [show (8 * (i : Int)).toNat = 8 * i by omega, show min (8 * i) IntKind.u64.bits = 8 * i by simp [IntKind.bits]; omega]
  rw [show (256 : Nat) ^ i = 2 ^ (8 * i) by rw [Nat.pow_mul]]
  simp

set_option maxRecDepth 100000 in
set_option maxHeartbeats 1000000 in
theorem put_any (bw : Nat) (g : Option Nat) (bs : List UInt8) (v n : Nat) (w : World) (h : WrAt w bw g bs) (hv : v < 18446744073709551616) (hn : n ≤ 8) (hl : bs.length + n ≤ 140737488355328) :
    Calls Try.prog 71 #[.pointer (some ⟨bw, 0, none⟩), .int .u64 v, .int .i64 n] w fun e w' => e = .returned (.tuple #[]) ∧
      ∃ g', WrAt w' bw g' (bs ++ beB n v) ∧ (g' = g ∨ ∃ k, g' = some k ∧ w.heap.size ≤ k) ∧ Ch (fun k => k = bw ∨ g = some k) w w' := by
  have hmx : maxLen = 9223372036854775807 := rfl
  have Hmx := Lib.hid hmx; clear hmx
  go_enter Try.func71, Try.ntmps71
  go_wp2
  go_loopw [6] (fun i wr => ∃ (j : Nat) (g' : Option Nat), i = .int .i64 ((n : Int) - 1 - j) ∧ j ≤ n ∧ WrAt wr bw g' (bs ++ (beB n v).take j) ∧ (g' = g ∨ ∃ k, g' = some k ∧ w.heap.size ≤ k) ∧ Ch (fun k => k = bw ∨ g = some k) w wr) (fun i _ => (intOf i + 1).toNat)
  case atStart => exact ⟨0, g, by simp, Nat.zero_le _, by simpa using h, .inl rfl, Ch.refl _ _⟩
  case round =>
    obtain ⟨j, g1, rfl, hj, hw, hg, hch⟩ := hrel
    by_cases hlt : j < n
    · obtain ⟨i, hi⟩ : ∃ i : Nat, n - 1 - j = i := ⟨_, rfl⟩
      rw [show (n : Int) - 1 - j = (i : Int) by omega]
      obtain ⟨hg0, u, hu, hbs⟩ := hw
      have hc := (cellH hu 0).trans rfl
      have hz := frozH hu 0
      have hcA : ∀ o : Obj, (wr.alloc o).cell? ⟨bw, 0, none⟩ = some u := fun o => (ch_new wr o).cell hc (fun h => h)
      have hw8 : IntKind.i64.wrap (8 * (i : Int)) = 8 * (i : Int) := IntWalk.i64_in _ (by omega)
      have hwu : IntKind.u64.wrap (8 * (i : Int)) = 8 * (i : Int) := by rw [show (8 * (i : Int)) = ((8 * i : Nat) : Int) by omega]; rw [IntKind.wrap_u64]; omega
      have hsh := shr_u v i (by omega)
      have hbt := beB_take (v := v) hlt
      rw [hi] at hbt
      generalize v / 256 ^ i = q at hsh hbt
      have Hbt := Lib.hid hbt; clear hbt
      have hbl : (bs ++ (beB n v).take j).length = bs.length + j := by simp [beB_len]; omega
      obtain ⟨hb1, hb2⟩ := hbs
      rw [hbl] at hb2
      have Hbl := Lib.hid hbl
      have hne : u.ownBlock ≠ some bw := by rw [hb1]; exact hg0
      have Hb1 := Lib.hid hb1
      have Hu := Lib.hid hu
      have Hi8 := Lib.hid (show i < 8 by omega)
      have Hi := Lib.hid hi
      clear hbl hb1 hu hi
      go_wp2_with (at_builtin; refine wpList_append_rd rfl (.tmp 17) (.tmp 24) rfl ei_bytes 0 u _ _ rfl (World.ownsRow.alloc hb2 _) (some ⟨wr.heap.size, 0, none⟩) 1 1 [.int .u8 (IntKind.u8.wrap (q : Int))] rfl rfl (rd_new wr [_] _) (by simp [Value.oneCell']) (by rw [Hmx.out]; omega) (by omega) (by omega) ?_)
      intro v1 w1 own1 gr1 _ at1
      obtain ⟨gn, cn, rfl, _, _⟩ := own1.form (by omega)
      have hc1 := app_cell (ch_new wr _) hc gr1 hne
      have hz1 := app_froz (ch_new wr _) Hu.out gr1 hne
      all_goals
        obtain ⟨g2, hw2, hg2, ch2⟩ := WrAt.app hg0 Hu.out (bs := bs ++ (beB n v).take j) ⟨Hb1.out, by rw [Hbl.out]; exact hb2⟩ (ch_new wr _) gr1 (news := [UInt8.ofNat q]) (by rw [List.length_append, Hbl.out]) (by rw [u8_q]; exact own1) (by rw [heap_alloc_size]; exact at1)
        rw [List.append_assoc, ← Hbt.out] at hw2
        have R := wr_next hg hg2 hch ch2
        have Hw2 := Lib.hid hw2
        clear hw2 hg2 ch2 own1 gr1 at1 hcA hsh hb2 hc hz hw8 hwu
        have hi8 := Hi8.out
        go_wp2_with fail
        go_roundw
        case rel => exact ⟨j + 1, g2, by have := Hi.out; congr 1; omega, by omega, Hw2.out, R.1, R.2⟩
        case measure => simp [intOf]
    · obtain rfl : j = n := by omega
      go_wp2_with fail
      go_end0
      refine ⟨rfl, g1, ?_, hg, hch⟩
      rw [List.take_of_length_le (by rw [beB_len]; exact Nat.le_refl _)] at hw
      exact hw

def WrPost (bw : Nat) (g : Option Nat) (w : World) (bs : List UInt8) (e : Ending) (w' : World) : Prop :=
  e = .returned (.tuple #[]) ∧ ∃ g', WrAt w' bw g' bs ∧ (g' = g ∨ ∃ k, g' = some k ∧ w.heap.size ≤ k) ∧ Ch (fun k => k = bw ∨ g = some k) w w'

theorem wU8 (bw : Nat) (g : Option Nat) (bs : List UInt8) (n : Int) (w : World) (h : WrAt w bw g bs) (hl : bs.length + 1 ≤ 140737488355328) :
    Calls Try.prog 56 #[.pointer (some ⟨bw, 0, none⟩), .int .i64 n] w (WrPost bw g w (bs ++ beB 1 (u64of n))) := by
  have hp := put_any bw g bs (u64of n) 1 w h (u64of_lt n) (by omega) hl
  rw [← u64of_cast] at hp
  have Hp := Lib.hid hp
  clear hp h
  go_enter Try.func56, Try.ntmps56
  go_wp2_with fail
  refine Hp.out.mono ?_; rintro e w' ⟨rfl, hq⟩
  have Hq := Lib.hid hq; clear hq
  go_wp2_with fail
  go_end0
  exact ⟨rfl, Hq.out⟩

theorem wU32 (bw : Nat) (g : Option Nat) (bs : List UInt8) (n : Int) (w : World) (h : WrAt w bw g bs) (hl : bs.length + 4 ≤ 140737488355328) :
    Calls Try.prog 57 #[.pointer (some ⟨bw, 0, none⟩), .int .i64 n] w (WrPost bw g w (bs ++ beB 4 (u64of n))) := by
  have hp := put_any bw g bs (u64of n) 4 w h (u64of_lt n) (by omega) hl
  rw [← u64of_cast] at hp
  have Hp := Lib.hid hp
  clear hp h
  go_enter Try.func57, Try.ntmps57
  go_wp2_with fail
  refine Hp.out.mono ?_; rintro e w' ⟨rfl, hq⟩
  have Hq := Lib.hid hq; clear hq
  go_wp2_with fail
  go_end0
  exact ⟨rfl, Hq.out⟩

set_option maxRecDepth 100000 in
set_option maxHeartbeats 1000000 in
theorem wRaw (bw : Nat) (g : Option Nat) (bs : List UInt8) (a : Option Addr) (c : Nat) (l : List UInt8) (w : World) (h : WrAt w bw g bs) (hr : Rd w a (u8s l)) (hl : bs.length + l.length ≤ 140737488355328) :
    Calls Try.prog 58 #[.pointer (some ⟨bw, 0, none⟩), .slice a l.length c] w (WrPost bw g w (bs ++ l)) := by
  have hmx : maxLen = 9223372036854775807 := rfl
  have Hmx := Lib.hid hmx; clear hmx
  obtain ⟨hg0, u, hu, hb1, hb2⟩ := h
  have hc := (cellH hu 0).trans rfl
  have hz := frozH hu 0
  have hne : u.ownBlock ≠ some bw := by rw [hb1]; exact hg0
  have Hb1 := Lib.hid hb1
  have Hu := Lib.hid hu
  clear hu hb1
  go_enter Try.func58, Try.ntmps58
  go_wp2_with (at_builtin; refine wpList_append_rd rfl (.tmp 8) (.tmp 9) rfl ei_bytes 0 u _ _ rfl hb2 a l.length c (u8s l) rfl (by rw [u8s_len]; omega) hr (u8s_one _) (by rw [Hmx.out]; omega) (by omega) (by omega) ?_)
  intro v1 w1 own1 gr1 _ at1
  have hc1 := app_cell (Ch.refl (fun _ => False) w) hc gr1 hne
  have hz1 := app_froz (Ch.refl (fun _ => False) w) Hu.out gr1 hne
  obtain ⟨ao, cp, hv⟩ := own_form own1
  subst hv
  obtain ⟨g2, hw2, hg2, ch2⟩ := WrAt.app hg0 Hu.out (bs := bs) ⟨Hb1.out, hb2⟩ (Ch.refl _ w) gr1 (news := l) (by simp) own1 at1
  have Hw2 := Lib.hid hw2
  clear hw2 own1 gr1 at1 hb2 hc hz hr
  go_wp2_with fail
  go_end0
  exact ⟨rfl, g2, Hw2.out, hg2, ch2⟩

def ReAt (w : World) (br : Nat) (g : Option Nat) (bs : List UInt8) (lack : Bool) : Prop :=
  g ≠ some br ∧ ∃ ao cap, w.heap[br]? = some (.cells #[.slice ao bs.length cap, .bool lack] 104 (0, 0)) ∧ Rd w ao (u8s bs) ∧ bs.length ≤ cap ∧ cap ≤ 9223372036854775807 ∧ (∀ ad, ao = some ad → g = some ad.block)

theorem ReAt.keep {S : Nat → Prop} {w w' : World} (h : Ch S w w') {br : Nat} {g : Option Nat} {bs : List UInt8} {lack : Bool} (hr : ReAt w br g bs lack) (h1 : ¬ S br) (h2 : ∀ k, g = some k → ¬ S k) : ReAt w' br g bs lack := by
  obtain ⟨h0, ao, cap, hh, hrd, hc, hm, ha⟩ := hr
  exact ⟨h0, ao, cap, h.heap hh h1, Rd.keep h hrd (fun ad had => h2 _ (ha ad had)), hc, hm, ha⟩

theorem raw_set {w w1 : World} {br : Nat} {g : Option Nat} {bs : List UInt8} (e : Ch (fun _ => False) w w1) (hg : g ≠ some br) {ao : Option Addr} {cap : Nat} (hh : w.heap[br]? = some (.cells #[.slice ao bs.length cap, .bool false] 104 (0, 0))) (hrd : Rd w ao (u8s bs)) (hc : bs.length ≤ cap) (hm : cap ≤ 9223372036854775807)
    (ha : ∀ ad, ao = some ad → g = some ad.block) (k : Nat) (ao' : Option Addr) (hao : ao' = if cap = k then ao else ao.map (·.add (k * 1))) : ReAt (w1.setCell ⟨br, 0, none⟩ (.slice ao' (bs.length - k) (cap - k))) br g (bs.drop k) false := by
  have c3 : Ch (fun k => k = br) w1 (w1.setCell ⟨br, 0, none⟩ (.slice ao' (bs.length - k) (cap - k))) := Ch.setCell (S := fun k => k = br) (Ch.refl _ _) (p := ⟨br, 0, none⟩) (fun _ => rfl) _
  have hb' : ∀ ad, ao' = some ad → g = some ad.block := by
    intro ad had
    rw [hao] at had
    split at had
    · exact ha ad had
    · rcases ao with _ | a0
      · cases had
      · simp at had; subst had
        have := ha a0 rfl
        rw [this]; unfold Addr.add; split <;> rfl
  refine ⟨hg, ao', cap - k, ?_, ?_, by simp; omega, by omega, hb'⟩
  · rw [setH (e.heap hh (fun h => h)), List.length_drop]; rfl
  · rw [u8s_drop]
    have h1 : Rd w ao' ((u8s bs).drop k) := by rw [hao]; exact slice_rd hrd k cap (by rw [u8s_len]; exact hc)
    refine Rd.keep c3 (Rd.keep e h1 (fun _ _ h => h)) (fun ad had h => ?_)
    have := hb' ad had
    rw [this] at hg; rw [h] at hg; exact hg rfl

set_option maxRecDepth 100000 in
set_option maxHeartbeats 2000000 in
theorem rRaw (br : Nat) (g : Option Nat) (bs : List UInt8) (lack : Bool) (n : Int) (w : World) (h : ReAt w br g bs lack) (hn : -9223372036854775808 ≤ n ∧ n ≤ 9223372036854775807) (hl : bs.length ≤ 140737488355328) :
    Calls Try.prog 76 #[.pointer (some ⟨br, 0, none⟩), .int .i64 n] w fun e w' => ∃ g' v, e = .returned v ∧ BsAt w' g' v (rOut bs lack n) ∧ (g' = none ∨ ∃ k, g' = some k ∧ w.heap.size ≤ k) ∧ ReAt w' br g (rLeft bs lack n) (!rOk bs lack n) ∧ Ch (fun k => k = br) w w' := by
  have hmx : maxLen = 9223372036854775807 := rfl
  have Hmx := Lib.hid hmx; clear hmx
  obtain ⟨hg0, ao, cap, hh, hrd, hc, hm, hab⟩ := h
  have hc0 := (cellH hh 0).trans rfl
  have hc1 := (cellH hh 1).trans rfl
  have hz0 := frozH hh 0
  have hz1 := frozH hh 1
  by_cases hok : rOk bs lack n = true
  · have h3 : lack = false ∧ 0 ≤ n ∧ n ≤ bs.length := by simpa [rOk, and_assoc] using hok
    obtain ⟨rfl, h0, h1⟩ := h3
    obtain ⟨k, rfl⟩ := Int.eq_ofNat_of_zero_le h0
    have hkl : k ≤ bs.length := by omega
    unfold rOut rLeft
    rw [hok, if_pos rfl, if_pos rfl, Int.toNat_natCast]
    have hcA : ∀ o : Obj, (w.alloc o).cell? ⟨br, 0, none⟩ = some (.slice ao bs.length cap) := fun o => (ch_new w o).cell hc0 (fun h => h)
    have o1 : (w.alloc (.cells #[] 5)).ownsRow 0 5 1 (.slice (some ⟨w.heap.size, 0, none⟩) 0 0) 0 [] := World.ownsRow_lit w #[] 0 (Nat.zero_le _) (Nat.zero_le _) rfl
    have rd1 : Rd (w.alloc (.cells #[] 5)) ao (u8s (bs.take k)) := Rd.keep (ch_new _ _) (by rw [u8s_take]; exact hrd.take k) (fun _ _ h => h)
    have Hfin := Lib.hid (fun (w1 : World) (e : Ch (fun _ => False) w w1) (ao' : Option Addr) (hao : ao' = if cap = k then ao else ao.map (·.add (k * 1))) => raw_set e hg0 hh hrd hc hm hab k ao' hao)
    have Htl := Lib.hid (show (bs.take k).length = k by simp; omega)
    have HhX := Lib.hid hh
    clear hok hrd hh hab
    go_enter Try.func76, Try.ntmps76
    go_wp2_with (at_builtin; refine wpList_append_rd rfl (.tmp 29) (.tmp 35) rfl ei_bytes 0 (.slice (some ⟨w.heap.size, 0, none⟩) 0 0) 0 [] rfl o1 _ k _ (u8s (bs.take k)) rfl (by rw [u8s_len, Htl.out]; omega) (by simpa using rd1) (u8s_one _) (by rw [Hmx.out]; omega) (by omega) (by simp) ?_)
    intro v1 w1 own1 gr1 _ at1
    have ch1 : Ch (fun _ => False) w w1 := (ch_new w _).seq (Ch.ofGrown gr1) _ (fun _ _ h => h) (fun i hi h => by simp [Value.ownBlock] at h; omega)
    have own2 : w1.ownsRow 0 5 1 v1 (bs.take k).length (u8s (bs.take k)) := by rw [Htl.out]; simpa using own1
    have hat : ∃ k, v1.ownBlock = some k ∧ w.heap.size ≤ k := by
      rcases at1 with h | h
      · exact ⟨w.heap.size, h, Nat.le_refl _⟩
      · exact ⟨_, h, by simp⟩
    have hc1' := ch1.cell hc0 (fun h => h)
    have hz1' : w1.frozen? ⟨br, 0, none⟩ = false := frozH (ch1.heap HhX.out (fun h => h)) 0
    have Hown := Lib.hid own2
    have hbl := block_lt HhX.out
    obtain ⟨k0, hk0, hk1⟩ := hat
    have Hk0 := Lib.hid hk0
    have Hf := Lib.hid (Hfin.out w1 ch1)
    clear own1 own2 gr1 at1 hc0 hc1 hz0 hz1 rd1 o1 hcA hk0
    go_wp2_with fail
    all_goals
      go_ret
      have c3 : ∀ u, Ch (fun k => k = br) w1 (w1.setCell ⟨br, 0, none⟩ u) := fun u => Ch.setCell (S := fun k => k = br) (Ch.refl _ _) (p := ⟨br, 0, none⟩) (fun _ => rfl) _
      refine ⟨some k0, v1, rfl, ⟨Hk0.out, (c3 _).own Hown.out (fun j hj h => by rw [Hk0.out] at hj; cases hj; omega)⟩, .inr ⟨k0, rfl, hk1⟩, ?_, ch1.seq (c3 _) _ (fun _ _ h => h.elim) (fun _ _ h => h)⟩
      first
        | (have hck : cap = k := by assumption
           have := Hf.out ao (by rw [if_pos hck])
           rw [show cap - k = 0 by omega] at this
           exact this)
        | (have hck : ¬ cap = k := by assumption
           exact Hf.out _ (by rw [if_neg hck, Nat.mul_one]))
  · have hok' : rOk bs lack n = false := by simpa using hok
    unfold rOut rLeft
    rw [hok', if_neg (by simp), if_neg (by simp)]
    have hfin : ∀ w', w' = (w.setCell ⟨br, 1, none⟩ (.bool true)).setCell ⟨br, 0, none⟩ (.slice none 0 0) → ∃ g' v, Ending.returned (.slice none 0 0) = .returned v ∧ BsAt w' g' v [] ∧ (g' = none ∨ ∃ k, g' = some k ∧ w.heap.size ≤ k) ∧ ReAt w' br g [] (!false) ∧ Ch (fun k => k = br) w w' := by
      rintro w' rfl
      refine ⟨none, .slice none 0 0, rfl, ⟨rfl, World.ownsRow_nil _ _ _ _⟩, .inl rfl, ⟨hg0, none, 0, ?_, Rd.nil _ _, Nat.le_refl _, by omega, by simp⟩, (Ch.setCell (S := fun k => k = br) (Ch.refl _ _) (p := ⟨br, 1, none⟩) (fun _ => rfl) _).setCell (p := ⟨br, 0, none⟩) (fun _ => rfl) _⟩
      rw [setH (setH hh 1 _) 0]; rfl
    have Hfin := Lib.hid hfin
    have hcase : lack = true ∨ (lack = false ∧ n < 0) ∨ (lack = false ∧ 0 ≤ n ∧ (bs.length : Int) < n) := by
      cases lack
      · right
        have : ¬ (0 ≤ n ∧ n ≤ bs.length) := by simpa [rOk] using hok
        rcases Int.lt_or_le n 0 with h | h
        · exact .inl ⟨rfl, h⟩
        · exact .inr ⟨rfl, h, by omega⟩
      · exact .inl rfl
    clear hfin hok hok' hrd hab hh
    rcases hcase with rfl | ⟨rfl, h1⟩ | ⟨rfl, h1, h2⟩
    all_goals
      go_enter Try.func76, Try.ntmps76
      go_wp2_with fail
      go_ret
      exact Hfin.out _ rfl

set_option maxRecDepth 100000 in
set_option maxHeartbeats 1000000 in
theorem rGet (br : Nat) (g : Option Nat) (bs : List UInt8) (lack : Bool) (n : Nat) (hn : n ≤ 8) (w : World) (h : ReAt w br g bs lack) (hl : bs.length ≤ 140737488355328) :
    Calls Try.prog 72 #[.pointer (some ⟨br, 0, none⟩), .int .i64 n] w fun e w' => e = .returned (.int .u64 (beN (rOut bs lack n) : Nat)) ∧ ReAt w' br g (rLeft bs lack n) (!rOk bs lack n) ∧ Ch (fun k => k = br) w w' := by
  go_enter Try.func72, Try.ntmps72
  go_wp2_with fail
  refine (rRaw br g bs lack n _ h (by omega) hl).mono ?_
  rintro e w1 ⟨g1, v, rfl, hb, _, hre, ch1⟩
  have hlen := rOut_len bs lack n
  generalize hxs : rOut bs lack n = xs at hb hlen
  have Hxs := Lib.hid hxs; clear hxs
  obtain ⟨ao, cp, rfl, hrd, hcl, hcm, _⟩ := hb.form
  have Hre := Lib.hid hre
  clear hb hre h
  go_wp2_with fail
  go_loop [6, 7] (fun v i => ∃ k : Nat, i = .int .i64 k ∧ k ≤ xs.length ∧ v = .int .u64 (beN (xs.take k) : Nat)) (fun _ i => xs.length - (intOf i).toNat)
  case atStart => exact ⟨0, rfl, Nat.zero_le _, rfl⟩
  case round =>
    obtain ⟨k, rfl, hk, rfl⟩ := hrel
    by_cases hlt : k < xs.length
    · obtain ⟨b, off, rfl, _, hcell⟩ := Rd.at hrd (k := k) (by rw [u8s_len]; exact hlt)
      have hx := hcell k (.int .u8 (xs[k].toNat : Nat)) (by simp [u8s, hlt])
      have hst : beN (xs.take (k + 1)) = beN (xs.take k) * 256 + xs[k].toNat := by rw [List.take_succ_eq_append_getElem hlt, beN_snoc]
      have hyl := beN_lt (xs.take k)
      have hpw : 256 ^ (xs.take k).length ≤ 256 ^ 7 := Nat.pow_le_pow_right (by omega) (by rw [List.length_take]; omega)
      have hyl2 : beN (xs.take k) < 72057594037927936 := by omega
      generalize beN (xs.take k) = y at hst hyl2
      obtain ⟨x, hxx⟩ : ∃ x, x = xs[k] := ⟨_, rfl⟩
      rw [← hxx] at hx hst
      have hj : (y : Int) * 256 + (x.toNat : Nat) = ((beN (xs.take (k + 1)) : Nat) : Int) := by rw [hst, Int.natCast_add, Int.natCast_mul]; rfl
      have hxl := x.toNat_lt
      have Hj := Lib.hid hj
      clear hcell hyl hpw hst hxx hj
      go_wp2
      go_round
      case rel => exact ⟨k + 1, by go_num, by omega, by rw [Hj.out]⟩
      case measure => simp [intOf]; omega
    · obtain rfl : k = xs.length := by omega
      rw [List.take_length]
      go_wp2
      go_ret
      exact ⟨by rw [Hxs.out]; rfl, Hre.out, ch1⟩

theorem rU8 (br : Nat) (g : Option Nat) (bs : List UInt8) (lack : Bool) (w : World) (h : ReAt w br g bs lack) (hl : bs.length ≤ 140737488355328) :
    Calls Try.prog 59 #[.pointer (some ⟨br, 0, none⟩)] w fun e w' => e = .returned (.int .i64 (beN (rOut bs lack 1) : Nat)) ∧ ReAt w' br g (rLeft bs lack 1) (!rOk bs lack 1) ∧ Ch (fun k => k = br) w w' := by
  have hb := beN_lt (rOut bs lack 1)
  have hp : 256 ^ (rOut bs lack 1).length ≤ 256 ^ 1 := Nat.pow_le_pow_right (by omega) (rOut_len bs lack 1)
  have hy : beN (rOut bs lack 1) < 256 := by omega
  clear hb hp
  have hg := rGet br g bs lack 1 (by omega) w h hl
  have Hg := Lib.hid hg
  clear hg h
  go_enter Try.func59, Try.ntmps59
  go_wp2_with fail
  refine Hg.out.mono ?_; rintro e w1 ⟨rfl, hr, ch⟩
  have Hr := Lib.hid hr
  clear hr
  go_wp2_with fail
  go_ret
  exact ⟨rfl, Hr.out, ch⟩

theorem rU32 (br : Nat) (g : Option Nat) (bs : List UInt8) (lack : Bool) (w : World) (h : ReAt w br g bs lack) (hl : bs.length ≤ 140737488355328) :
    Calls Try.prog 60 #[.pointer (some ⟨br, 0, none⟩)] w fun e w' => e = .returned (.int .i64 (beN (rOut bs lack 4) : Nat)) ∧ ReAt w' br g (rLeft bs lack 4) (!rOk bs lack 4) ∧ Ch (fun k => k = br) w w' := by
  have hb := beN_lt (rOut bs lack 4)
  have hp : 256 ^ (rOut bs lack 4).length ≤ 256 ^ 4 := Nat.pow_le_pow_right (by omega) (rOut_len bs lack 4)
  have hy : beN (rOut bs lack 4) < 4294967296 := by omega
  clear hb hp
  have hg := rGet br g bs lack 4 (by omega) w h hl
  have Hg := Lib.hid hg
  clear hg h
  go_enter Try.func60, Try.ntmps60
  go_wp2_with fail
  refine Hg.out.mono ?_; rintro e w1 ⟨rfl, hr, ch⟩
  have Hr := Lib.hid hr
  clear hr
  go_wp2_with fail
  go_ret
  exact ⟨rfl, Hr.out, ch⟩

end Go.Proofs.Ytlphhadomhdacaa.R1
