/- The writer of bytes: each method's contract. -/
import Derived.Test.YtlphhadomhdacaaOctetMath
import Derived.Test.YtlphhadomhdacaaFew
import Derived.Deep.RegionHeld3
import Derived.Deep.DeepCutAuto
import Derived.Deep.AppendLies
import Derived.Outline
namespace Go.Proofs.Ytlphhadomhdacaa
open Go Go.RowKit

/-- A slice of bytes that is the call's own: its block, what it holds. -/
def BsAt (w : World) (g : Option Nat) (v : Value) (bs : List UInt8) : Prop := v.ownBlock = g ∧ w.ownsRow 0 5 1 v bs.length (u8s bs)

theorem BsAt.keep {S : Nat → Prop} {w w' : World} (h : Ch S w w') {g : Option Nat} {v : Value} {bs : List UInt8} (hb : BsAt w g v bs) (hs : ∀ k, g = some k → ¬ S k) : BsAt w' g v bs :=
  ⟨hb.1, h.own hb.2 (fun k hk => hs k (by rw [← hb.1]; exact hk))⟩
theorem BsAt.lt {w : World} {g : Option Nat} {v : Value} {bs : List UInt8} (h : BsAt w g v bs) {k : Nat} (hk : g = some k) : k < w.heap.size := (h.2.lt k (by rw [h.1]; exact hk)).2
theorem BsAt.form {w : World} {g : Option Nat} {v : Value} {bs : List UInt8} (h : BsAt w g v bs) : ∃ ao cap, v = .slice ao bs.length cap ∧ Rd w ao (u8s bs) ∧ bs.length ≤ cap ∧ cap ≤ maxLen ∧ (∀ ad, ao = some ad → g = some ad.block) := by
  obtain ⟨h1, h2⟩ := h
  rcases h2.2 with ⟨rfl, hn⟩ | ⟨k, cap, cur, rfl, _, _, hc, hm, _⟩
  · refine ⟨none, 0, by rw [hn], ?_, by omega, by unfold maxLen; omega, by simp⟩
    have : bs = [] := List.eq_nil_of_length_eq_zero hn
    subst this; exact Rd.nil _ _
  · exact ⟨_, cap, rfl, Rd.own h2, hc, hm, fun ad had => by cases had; exact h1.symm⟩

/-- A writer lies in block bw; its bytes' row lies in g. -/
def WrAt (w : World) (bw : Nat) (g : Option Nat) (bs : List UInt8) : Prop :=
  g ≠ some bw ∧ ∃ v, w.heap[bw]? = some (.cells #[v] 117 (0, 0)) ∧ BsAt w g v bs

theorem WrAt.keep {S : Nat → Prop} {w w' : World} (h : Ch S w w') {bw : Nat} {g : Option Nat} {bs : List UInt8} (hw : WrAt w bw g bs) (h1 : ¬ S bw) (h2 : ∀ k, g = some k → ¬ S k) : WrAt w' bw g bs := by
  obtain ⟨h0, v, h3, h4⟩ := hw
  exact ⟨h0, v, h.heap h3 h1, h4.keep h h2⟩

/-- What an append to a writer leaves. -/
theorem WrAt.app {w w1 w2 : World} {bw : Nat} {g : Option Nat} {bs : List UInt8} {v v' : Value} (hg : g ≠ some bw) (hw : w.heap[bw]? = some (.cells #[v] 117 (0, 0))) (hb : BsAt w g v bs) (e : Ch (fun _ => False) w w1) (hgr : w1.grownBy w2 v.ownBlock)
    {n : Nat} {news : List UInt8} (hn : n = (bs ++ news).length) (hown : w2.ownsRow 0 5 1 v' n (u8s bs ++ u8s news)) (hat : v'.ownBlock = v.ownBlock ∨ v'.ownBlock = some w1.heap.size) :
    ∃ g', WrAt (w2.setCell ⟨bw, 0, none⟩ v') bw g' (bs ++ news) ∧ (g' = g ∨ ∃ k, g' = some k ∧ w.heap.size ≤ k) ∧ Ch (fun k => k = bw ∨ g = some k) w (w2.setCell ⟨bw, 0, none⟩ v') := by
  subst hn
  have c2 : Ch (fun k => g = some k) w w2 := e.seq (Ch.ofGrown hgr) _ (fun _ _ h => h.elim) (fun i _ h => by rw [← hb.1]; exact h)
  have hbl := block_lt hw
  have hne : v'.ownBlock ≠ some bw := by
    rcases hat with h | h
    · rw [h, hb.1]; exact hg
    · rw [h]; intro hh; cases hh; have := e.size; omega
  have c3 : Ch (fun k => k = bw) w2 (w2.setCell ⟨bw, 0, none⟩ v') := Ch.setCell (S := fun k => k = bw) (Ch.refl _ _) (p := ⟨bw, 0, none⟩) (fun _ => rfl) _
  refine ⟨v'.ownBlock, ⟨hne, v', ?_, rfl, ?_⟩, ?_, c2.seq c3 _ (fun _ _ h => .inr h) (fun _ _ h => .inl h)⟩
  · rw [setH (c2.heap hw (fun h => hg h))]; rfl
  · rw [u8s_app]
    exact c3.own hown (fun k hk h => hne (by rw [hk, h]))
  · rcases hat with h | h
    · left; rw [h, hb.1]
    · right; exact ⟨_, h, e.size⟩

theorem shr_run (v i : Nat) (hi : i < 8) (w : World) : (Op.shift BinOp.shr IntKind.u64 (v : Int) IntKind.i64 (8 * (i : Int))).run Try.prog w = .ok (.int .u64 ((v / 256 ^ i : Nat) : Int)) w := by
  rw [shift_shr_any _ _ _ _ (by omega)]
  rw [show (8 * (i : Int)).toNat = 8 * i by omega, show min (8 * i) IntKind.u64.bits = 8 * i by simp [IntKind.bits]; omega]
  rw [show (256 : Nat) ^ i = 2 ^ (8 * i) by rw [Nat.pow_mul]]
  simp

theorem u8_q (q : Nat) : u8s [UInt8.ofNat q] = [.int .u8 (IntKind.u8.wrap (q : Int))] := by simp [u8s, IntKind.wrap_u8']

theorem wr_next {w wr w2 : World} {bw : Nat} {g g1 g2 : Option Nat} (hg : g1 = g ∨ ∃ k, g1 = some k ∧ w.heap.size ≤ k) (hg2 : g2 = g1 ∨ ∃ k, g2 = some k ∧ wr.heap.size ≤ k)
    (hch : Ch (fun k => k = bw ∨ g = some k) w wr) (ch2 : Ch (fun k => k = bw ∨ g1 = some k) wr w2) : (g2 = g ∨ ∃ k, g2 = some k ∧ w.heap.size ≤ k) ∧ Ch (fun k => k = bw ∨ g = some k) w w2 := by
  have hs := hch.size
  refine ⟨?_, hch.seq ch2 _ (fun _ _ h => h) (fun i hi h => ?_)⟩
  · rcases hg2 with h | ⟨k, h, h2⟩
    · rw [h]; exact hg
    · exact .inr ⟨k, h, by omega⟩
  · rcases h with h | h
    · exact .inl h
    · rcases hg with h2 | ⟨k, h2, h3⟩
      · right; rw [← h2]; exact h
      · rw [h2] at h; cases h; omega
theorem own_form {w : World} {base : Nat} {e : TypeId} {size : Nat} {v : Value} {n : Nat} {xs : List Value} (h : w.ownsRow base e size v n xs) : ∃ ao cap, v = .slice ao n cap := by
  rcases h.2 with ⟨rfl, rfl⟩ | ⟨g, cap, cur, rfl, _⟩
  · exact ⟨none, 0, rfl⟩
  · exact ⟨_, _, rfl⟩
theorem beB_get : ∀ (n v j : Nat) (h : j < (beB n v).length), (beB n v)[j] = UInt8.ofNat (v / 256 ^ (n - 1 - j))
  | 0, _, _, h => by simp [beB] at h
  | n + 1, v, 0, _ => by simp [beB]
  | n + 1, v, j + 1, h => by
    simp only [beB, List.getElem_cons_succ]
    have h' : j < (beB n v).length := by simpa [beB] using h
    rw [beB_get n v j h', show n + 1 - 1 - (j + 1) = n - 1 - j by omega]
theorem beB_take {n v j : Nat} (h : j < n) : (beB n v).take (j + 1) = (beB n v).take j ++ [UInt8.ofNat (v / 256 ^ (n - 1 - j))] := by
  have hl : j < (beB n v).length := by rw [beB_len]; exact h
  rw [List.take_succ_eq_append_getElem hl, beB_get]

theorem app_cell {wr wa w1 : World} {bw : Nat} {u : Value} (e : Ch (fun _ => False) wr wa) (hc : wr.cell? ⟨bw, 0, none⟩ = some u) (gr : wa.grownBy w1 u.ownBlock) (hne : u.ownBlock ≠ some bw) : w1.cell? ⟨bw, 0, none⟩ = some u :=
  (Ch.ofGrown gr).cell (e.cell hc (fun h => h)) (fun h => hne h)
theorem app_froz {wr wa w1 : World} {bw : Nat} {T : TypeId} {u : Value} (e : Ch (fun _ => False) wr wa) (hc : wr.heap[bw]? = some (.cells #[u] T (0, 0))) (gr : wa.grownBy w1 u.ownBlock) (hne : u.ownBlock ≠ some bw) : w1.frozen? ⟨bw, 0, none⟩ = false :=
  frozH ((Ch.ofGrown gr).heap (e.heap hc (fun h => h)) (fun h => hne h)) 0

set_option maxRecDepth 100000 in
set_option maxHeartbeats 1000000 in
theorem put_any (bw : Nat) (g : Option Nat) (bs : List UInt8) (v n : Nat) (w : World) (h : WrAt w bw g bs) (hv : v < 18446744073709551616) (hn : n ≤ 8) (hl : bs.length + n ≤ 140737488355328) :
    Calls Try.prog 68 #[.pointer (some ⟨bw, 0, none⟩), .int .u64 v, .int .i64 n] w fun e w' => e = .returned (.tuple #[]) ∧
      ∃ g', WrAt w' bw g' (bs ++ beB n v) ∧ (g' = g ∨ ∃ k, g' = some k ∧ w.heap.size ≤ k) ∧ Ch (fun k => k = bw ∨ g = some k) w w' := by
  have hmx : maxLen = 9223372036854775807 := rfl
  have Hmx := Lib.hid hmx; clear hmx
  go_enter Try.func68, Try.ntmps68
  go_wp2
  go_loopw [6] (fun i wr => ∃ (j : Nat) (g' : Option Nat), i = .int .i64 ((n : Int) - 1 - j) ∧ j ≤ n ∧ WrAt wr bw g' (bs ++ (beB n v).take j) ∧ (g' = g ∨ ∃ k, g' = some k ∧ w.heap.size ≤ k) ∧ Ch (fun k => k = bw ∨ g = some k) w wr) (fun i _ => (intOf i + 1).toNat)
  case atStart => exact ⟨0, g, by simp, Nat.zero_le _, by simpa using h, .inl rfl, Ch.refl _ _⟩
  case round =>
    obtain ⟨j, g1, rfl, hj, hw, hg, hch⟩ := hrel
    by_cases hlt : j < n
    · obtain ⟨i, hi⟩ : ∃ i : Nat, n - 1 - j = i := ⟨_, rfl⟩
      rw [show (n : Int) - 1 - j = (i : Int) by omega]
      obtain ⟨hg0, u, hu, hbs⟩ := hw
      have hc := (cellH hu 0).trans rfl
      have hz := frozH hu 0
      have hcA : ∀ o : Obj, (wr.alloc o).cell? ⟨bw, 0, none⟩ = some u := fun o => (ch_new wr o).cell hc (fun h => h)
      have hw8 : IntKind.i64.wrap (8 * (i : Int)) = 8 * (i : Int) := IntWalk.i64_in _ (by omega)
      have hsh := shr_run v i (by omega)
      have hbt := beB_take (v := v) hlt
      rw [hi] at hbt
      generalize v / 256 ^ i = q at hsh hbt
      have Hbt := Lib.hid hbt; clear hbt
      have hbl : (bs ++ (beB n v).take j).length = bs.length + j := by simp [beB_len]; omega
      obtain ⟨hb1, hb2⟩ := hbs
      rw [hbl] at hb2
      have Hbl := Lib.hid hbl
      have hne : u.ownBlock ≠ some bw := by rw [hb1]; exact hg0
      have Hb1 := Lib.hid hb1
      have Hu := Lib.hid hu
      have Hi8 := Lib.hid (show i < 8 by omega)
      have Hi := Lib.hid hi
      clear hbl hb1 hu hi
      go_wp2
      go_region_law (first
        | (refine step_append_rd rfl (.tmp 17) (.tmp 23) rfl ei_bytes 0 u _ _ rfl (World.ownsRow.drew (World.ownsRow.alloc hb2 _)) (some ⟨wr.heap.size, 0, none⟩) 1 1 [.int .u8 (IntKind.u8.wrap (q : Int))] rfl rfl (rd_new wr [_] _) (by simp [Value.oneCell']) (by rw [Hmx.out]; omega) (by omega) (by omega) ?_; intro v1 w1 own1 gr1 _ at1; obtain ⟨gn, cn, rfl, _, _⟩ := own1.form (by omega); have hc1 := app_cell (ch_new wr _).drew hc gr1 hne; have hz1 := app_froz (ch_new wr _).drew Hu.out gr1 hne))
      all_goals
        obtain ⟨g2, hw2, hg2, ch2⟩ := WrAt.app hg0 Hu.out (bs := bs ++ (beB n v).take j) ⟨Hb1.out, by rw [Hbl.out]; exact hb2⟩ (ch_new wr _).drew gr1 (news := [UInt8.ofNat q]) (by rw [List.length_append, Hbl.out]) (by rw [u8_q]; exact own1) at1
        rw [List.append_assoc, ← Hbt.out] at hw2
        have R := wr_next hg hg2 hch ch2
        have Hw2 := Lib.hid hw2
        clear hw2 hg2 ch2 own1 gr1 at1 hcA hsh hb2 hc1 hz1 hc hz hw8
        have hi8 := Hi8.out
        go_wp2_with fail
        go_roundw
        case rel => exact ⟨j + 1, g2, by have := Hi.out; congr 1; omega, by omega, Hw2.out, R.1, R.2⟩
        case measure => simp [intOf]
    · obtain rfl : j = n := by omega
      go_wp2_with fail
      go_end0
      refine ⟨rfl, g1, ?_, hg, hch⟩
      rw [List.take_of_length_le (by rw [beB_len]; exact Nat.le_refl _)] at hw
      exact hw

/-- What a writer's method leaves. -/
def WrPost (bw : Nat) (g : Option Nat) (w : World) (bs : List UInt8) (e : Ending) (w' : World) : Prop :=
  e = .returned (.tuple #[]) ∧ ∃ g', WrAt w' bw g' bs ∧ (g' = g ∨ ∃ k, g' = some k ∧ w.heap.size ≤ k) ∧ Ch (fun k => k = bw ∨ g = some k) w w'

/-- A number as it is laid: modulo 2^64. -/
def u64of (n : Int) : Nat := (n % 18446744073709551616).toNat
theorem u64of_cast (n : Int) : IntKind.u64.wrap n = ((u64of n : Nat) : Int) := by
  unfold u64of; rw [show IntKind.u64.wrap n = n % 18446744073709551616 by simp [IntKind.wrap, IntKind.bits, IntKind.signed]]; omega
theorem u64of_lt (n : Int) : u64of n < 18446744073709551616 := by unfold u64of; omega

theorem newWriter_any (w : World) : Calls Try.prog 47 #[] w fun e w' => e = .returned (.pointer (some ⟨w.heap.size, 0, none⟩)) ∧ WrAt w' w.heap.size none [] ∧ Ch (fun _ => False) w w' ∧ w'.heap.size = w.heap.size + 1 := by
  go_enter Try.func47, Try.ntmps47
  go_wp2
  go_ret
  exact ⟨rfl, ⟨by simp, .slice none 0 0, alloc_heap_new _ _, rfl, World.ownsRow_nil _ _ _ _⟩, (Ch.refl _ _).alloc _, by simp⟩

theorem wU8 (bw : Nat) (g : Option Nat) (bs : List UInt8) (n : Int) (w : World) (h : WrAt w bw g bs) (hl : bs.length + 1 ≤ 140737488355328) :
    Calls Try.prog 48 #[.pointer (some ⟨bw, 0, none⟩), .int .i64 n] w (WrPost bw g w (bs ++ beB 1 (u64of n))) := by
  have hp := put_any bw g bs (u64of n) 1 w h (u64of_lt n) (by omega) hl
  rw [← u64of_cast] at hp
  have Hp := Lib.hid hp
  clear hp h
  go_enter Try.func48, Try.ntmps48
  go_wp2_with fail
  refine Hp.out.mono ?_; rintro e w' ⟨rfl, hq⟩
  have Hq := Lib.hid hq; clear hq
  go_wp2_with fail
  go_end0
  exact ⟨rfl, Hq.out⟩

theorem wU16 (bw : Nat) (g : Option Nat) (bs : List UInt8) (n : Int) (w : World) (h : WrAt w bw g bs) (hl : bs.length + 2 ≤ 140737488355328) :
    Calls Try.prog 69 #[.pointer (some ⟨bw, 0, none⟩), .int .i64 n] w (WrPost bw g w (bs ++ beB 2 (u64of n))) := by
  have hp := put_any bw g bs (u64of n) 2 w h (u64of_lt n) (by omega) hl
  rw [← u64of_cast] at hp
  have Hp := Lib.hid hp
  clear hp h
  go_enter Try.func69, Try.ntmps69
  go_wp2_with fail
  refine Hp.out.mono ?_; rintro e w' ⟨rfl, hq⟩
  have Hq := Lib.hid hq; clear hq
  go_wp2_with fail
  go_end0
  exact ⟨rfl, Hq.out⟩

set_option maxRecDepth 100000 in
set_option maxHeartbeats 1000000 in
theorem wRaw (bw : Nat) (g : Option Nat) (bs : List UInt8) (a : Option Addr) (c : Nat) (l : List UInt8) (w : World) (h : WrAt w bw g bs) (hr : Rd w a (u8s l)) (hl : bs.length + l.length ≤ 140737488355328) :
    Calls Try.prog 52 #[.pointer (some ⟨bw, 0, none⟩), .slice a l.length c] w (WrPost bw g w (bs ++ l)) := by
  have hmx : maxLen = 9223372036854775807 := rfl
  have Hmx := Lib.hid hmx; clear hmx
  obtain ⟨hg0, u, hu, hb1, hb2⟩ := h
  have hc := (cellH hu 0).trans rfl
  have hz := frozH hu 0
  have hne : u.ownBlock ≠ some bw := by rw [hb1]; exact hg0
  have Hb1 := Lib.hid hb1
  have Hu := Lib.hid hu
  clear hu hb1
  go_enter Try.func52, Try.ntmps52
  go_wp2_with (at_builtin; refine wpList_append_rd rfl (.tmp 8) (.tmp 9) rfl ei_bytes 0 u _ _ rfl hb2 a l.length c (u8s l) rfl (by rw [u8s_len]; omega) hr (u8s_one _) (by rw [Hmx.out]; omega) (by omega) (by omega) ?_)
  intro v1 w1 own1 gr1 _ at1
  have hc1 := app_cell (Ch.refl (fun _ => False) w) hc gr1 hne
  have hz1 := app_froz (Ch.refl (fun _ => False) w) Hu.out gr1 hne
  obtain ⟨ao, cp, hv⟩ := own_form own1
  subst hv
  obtain ⟨g2, hw2, hg2, ch2⟩ := WrAt.app hg0 Hu.out (bs := bs) ⟨Hb1.out, hb2⟩ (Ch.refl _ w) gr1 (news := l) (by simp) own1 at1
  have Hw2 := Lib.hid hw2
  clear hw2 own1 gr1 at1 hb2 hc hz hr
  go_wp2_with fail
  go_end0
  exact ⟨rfl, g2, Hw2.out, hg2, ch2⟩

set_option maxHeartbeats 1000000 in
theorem wBytes (bw : Nat) (g : Option Nat) (bs : List UInt8) (w : World) (h : WrAt w bw g bs) (hl : bs.length ≤ 140737488355328) :
    Calls Try.prog 51 #[.pointer (some ⟨bw, 0, none⟩)] w fun e w' => ∃ g' v, e = .returned v ∧ BsAt w' g' v bs ∧ (∃ k, g' = some k ∧ w.heap.size ≤ k) ∧ Ch (fun _ => False) w w' := by
  have hmx : maxLen = 9223372036854775807 := rfl
  have Hmx := Lib.hid hmx; clear hmx
  obtain ⟨hg0, u, hu, hbs⟩ := h
  obtain ⟨ao, cp, rfl, hrd, hcl, hcm, _⟩ := hbs.form
  have hc := (cellH hu 0).trans rfl
  have hcA : ∀ o : Obj, (w.alloc o).cell? ⟨bw, 0, none⟩ = some (.slice ao bs.length cp) := fun o => (ch_new w o).cell hc (fun h => h)
  have o1 : (w.alloc (.cells #[] 5)).ownsRow 0 5 1 (.slice (some ⟨w.heap.size, 0, none⟩) 0 0) 0 [] := World.ownsRow_lit w #[] 0 (Nat.zero_le _) (Nat.zero_le _) rfl
  have rd1 : Rd (w.alloc (.cells #[] 5)) ao (u8s bs) := Rd.keep (ch_new _ _) hrd (fun _ _ h => h)
  clear hu hbs hrd
  go_enter Try.func51, Try.ntmps51
  go_wp2_with (at_builtin; refine wpList_append_rd rfl (.tmp 3) (.tmp 7) rfl ei_bytes 0 (.slice (some ⟨w.heap.size, 0, none⟩) 0 0) 0 [] rfl o1 ao bs.length cp (u8s bs) rfl (by rw [u8s_len]; omega) rd1 (u8s_one _) (by rw [Hmx.out]; omega) (by omega) (by simp) ?_)
  intro v1 w1 own1 gr1 _ at1
  have ch1 : Ch (fun _ => False) w w1 := (ch_new w _).seq (Ch.ofGrown gr1) _ (fun _ _ h => h) (fun i hi h => by simp [Value.ownBlock] at h; omega)
  have own2 : w1.ownsRow 0 5 1 v1 bs.length (u8s bs) := by simpa using own1
  have hat : ∃ k, v1.ownBlock = some k ∧ w.heap.size ≤ k := by
    rcases at1 with h | h
    · exact ⟨w.heap.size, h, Nat.le_refl _⟩
    · exact ⟨_, h, by simp⟩
  have Hown := Lib.hid own2
  clear own1 own2 gr1 at1
  go_wp2_with fail
  go_ret
  exact ⟨v1.ownBlock, v1, rfl, ⟨rfl, Hown.out⟩, hat, ch1⟩

end Go.Proofs.Ytlphhadomhdacaa
