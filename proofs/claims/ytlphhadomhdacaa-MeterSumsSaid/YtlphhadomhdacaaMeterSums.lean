/- MeterSums: the walk. -/
import Derived.Test.YtlphhadomhdacaaKit
import Derived.Test.YtlphhadomhdacaaMeterM
import Derived.Test.YtlphhadomhdacaaOpen
import Derived.Outline
import Derived.Deep.DeepCutAuto
import Derived.Deep.CutBlock
namespace Go.Proofs.Ytlphhadomhdacaa
open Go Go.RowKit

theorem ei_ints : EI Try.prog 22 3 (.int .i64 0) 1 8 := ⟨Try.underlying22, by kernel_rfl, rfl, by decide⟩

def wsum (l : List Int) : Int := l.foldl (fun s x => wrap64 (s + x)) 0
def maxl (l : List Int) : Int := l.foldl (fun s x => max s x) 0
theorem wsum_snoc (l : List Int) (x : Int) : wsum (l ++ [x]) = wrap64 (wsum l + x) := by simp [wsum]
theorem maxl_snoc (l : List Int) (x : Int) : maxl (l ++ [x]) = max (maxl l) x := by simp [maxl]

theorem zeros_set (q : Nat) : ([0, 0, 0, 0, 0] : List Int).set q 0 = [0, 0, 0, 0, 0] := by
  match q with
  | 0 => rfl
  | 1 => rfl
  | 2 => rfl
  | 3 => rfl
  | 4 => rfl
  | q + 5 => rfl

structure SRel1 (W : World) (l : List Int) (q : Nat) (k : Nat) (s m v : Value) (wr : World) : Prop where
  hk : k ≤ l.length
  hk30 : k ≤ 30
  hs : s = .int .i64 (wsum (l.take k))
  hm : m = .int .i64 (maxl (l.take k))
  hown : wr.ownsRow (W.heap.size + 2) 3 1 v k ((l.take k).map (Value.int .i64))
  ha : MAt wr W.heap.size ([0, 0, 0, 0, 0].set q (wsum (l.take k))) [.int .u32 0, .int .i32 0, .int .u32 0, .int .u32 0]
  hb : MAt wr (W.heap.size + 1) ([0, 0, 0, 0, 0].set ((q + 1) % 5) (maxl (l.take k))) [.int .u32 0, .int .i32 0, .int .u32 0, .int .u32 0]
  hch : Ch (fun _ => False) W wr
  hsz : W.heap.size + 2 ≤ wr.heap.size

theorem wsum_take {l : List Int} {k : Nat} (hk : k < l.length) : wsum (l.take (k + 1)) = wrap64 (wsum (l.take k) + l[k]) := by
  rw [List.take_succ_eq_append_getElem hk, wsum_snoc]
theorem maxl_take {l : List Int} {k : Nat} (hk : k < l.length) : maxl (l.take (k + 1)) = max (maxl (l.take k)) l[k] := by
  rw [List.take_succ_eq_append_getElem hk, maxl_snoc]
theorem del_rd {w4 wd x1 : World} {g : Nat} {c : Prop} [Decidable c] {o : Nat} {xs : List Value} (e1 : Ch (fun _ => False) w4 wd) (gr1 : wd.grownBy x1 (Value.ownBlock (.slice (some ⟨w4.heap.size, 0, none⟩) 0 0)))
    (rd2 : Rd w4 (if c then some ⟨g, 0, none⟩ else some ⟨g, o, none⟩) xs) (hg : g < w4.heap.size) : Rd x1 (if c then some ⟨g, 0, none⟩ else some ⟨g, o, none⟩) xs := by
  refine Rd.keep (S := fun b => w4.heap.size ≤ b) (e1.seq (Ch.ofGrown gr1) _ (fun _ _ h => h.elim) (fun b _ h => ?_)) rd2 (fun ad had => ?_)
  · simp [Value.ownBlock] at h; omega
  · split at had <;> (cases had; show ¬ w4.heap.size ≤ g; omega)
theorem set_zero2 {q : Nat} (m : Int) (hq : q < 5) : (([0, 0, 0, 0, 0] : List Int).set ((q + 1) % 5) m).set q 0 = ([0, 0, 0, 0, 0] : List Int).set ((q + 1) % 5) m := by
  match q, hq with
  | 0, _ => rfl
  | 1, _ => rfl
  | 2, _ => rfl
  | 3, _ => rfl
  | 4, _ => rfl
theorem getD_set2 {q : Nat} (hq : q < 5) (m x : Int) : ((([0, 0, 0, 0, 0] : List Int).set ((q + 1) % 5) m).set q x).getD q 0 = x := by
  simp [List.getD_eq_getElem?_getD, hq]
theorem del_len {ls : List Int} {j : Nat} (hj : j < ls.length) : (ls.take j ++ ls.drop (j + 1)).length = ls.length - 1 := by simp; omega
theorem del_sum {ls : List Int} {j : Nat} (hj : j < ls.length) : (ls.take j ++ ls.drop (j + 1)).sum + ls[j] = ls.sum := by
  have h : ls = ls.take j ++ ls[j] :: ls.drop (j + 1) := by simp
  have h2 := congrArg List.sum h
  rw [List.sum_append, List.sum_cons] at h2
  rw [List.sum_append]; omega
theorem getD_set_zeros {q : Nat} (hq : q < 5) (x : Int) : (([0, 0, 0, 0, 0] : List Int).set q x).getD q 0 = x := by
  simp [List.getD_eq_getElem?_getD, hq]

theorem srel_vals {W : World} {l : List Int} {q k : Nat} {s m v : Value} {s' m' : Int} {wr : World} (h : SRel1 W l q k s m v wr) (hs : wsum (l.take k) = s') (hm : maxl (l.take k) = m') :
    SRel1 W l q k (.int .i64 s') (.int .i64 m') v wr := by
  subst hs; subst hm
  exact { h with hs := rfl, hm := rfl }

theorem srel_step {W w5 w6 : World} {l : List Int} {q k : Nat} {u v' : Value} (hq5 : q < 5) (hk1 : k < l.length) (hk30 : k ≤ 30) (hk2 : k < 30)
    (hown5 : w5.ownsRow (W.heap.size + 2) 3 1 u k ((l.take k).map (Value.int .i64)))
    (ha5 : MAt w5 W.heap.size ((([0, 0, 0, 0, 0] : List Int).set q (wsum (l.take k))).set q (wrap64 ((([0, 0, 0, 0, 0] : List Int).set q (wsum (l.take k))).getD q 0 + l[k]))) [.int .u32 0, .int .i32 0, .int .u32 0, .int .u32 0])
    (hb5 : MAt w5 (W.heap.size + 1) ((([0, 0, 0, 0, 0] : List Int).set ((q + 1) % 5) (maxl (l.take k))).set ((q + 1) % 5) (max ((([0, 0, 0, 0, 0] : List Int).set ((q + 1) % 5) (maxl (l.take k))).getD ((q + 1) % 5) 0) l[k])) [.int .u32 0, .int .i32 0, .int .u32 0, .int .u32 0])
    (hch5 : Ch (fun b => W.heap.size ≤ b) W w5) (hsz : W.heap.size + 2 ≤ w5.heap.size)
    (hgrow : (w5.alloc (.cells #[.int .i64 l[k]] 3)).grownBy w6 u.ownBlock)
    (hown6 : w6.ownsRow (W.heap.size + 2) 3 1 v' (k + 1) ((l.map (Value.int .i64)).take k ++ [.int .i64 l[k]])) :
    SRel1 W l q (k + 1) (.int .i64 (wsum (l.take (k + 1)))) (.int .i64 (maxl (l.take (k + 1)))) v' w6 := by
  have ch6 : Ch (fun g => W.heap.size + 2 ≤ g) w5 w6 := (ch_new w5 _).seq (Ch.ofGrown hgrow) _ (fun _ _ h => h.elim) (fun g _ hg => (hown5.lt g hg).1)
  rw [getD_set_zeros hq5, List.set_set, ← wsum_take hk1] at ha5
  rw [getD_set_zeros (by omega), List.set_set, ← maxl_take hk1] at hb5
  refine ⟨by omega, by omega, rfl, rfl, ?_, MAt.keep ch6 ha5 (by omega), MAt.keep ch6 hb5 (by omega), hch5.seq ch6 _ (by omega) (by omega), by have := ch6.size; omega⟩
  rw [List.take_succ_eq_append_getElem hk1, List.map_append, List.map_take]
  exact hown6

def lenOf : Value → Nat | .slice _ n _ => n | _ => 0

theorem own_form {w : World} {base : Nat} {e : TypeId} {size : Nat} {v : Value} {n : Nat} {xs : List Value} (h : w.ownsRow base e size v n xs) : ∃ ao cap, v = .slice ao n cap := by
  rcases h.2 with ⟨rfl, rfl⟩ | ⟨g, cap, cur, rfl, _⟩
  · exact ⟨none, 0, rfl⟩
  · exact ⟨_, _, rfl⟩
theorem own_len {w : World} {base : Nat} {e : TypeId} {size : Nat} {v : Value} {n : Nat} {xs : List Value} (h : w.ownsRow base e size v n xs) : lenOf v = n := by
  rcases h.2 with ⟨rfl, rfl⟩ | ⟨g, cap, cur, rfl, _⟩ <;> rfl

theorem getD_set3 {q : Nat} (hq : q < 5) (m x : Int) : ((([0, 0, 0, 0, 0] : List Int).set ((q + 1) % 5) m).set q x).getD ((q + 1) % 5) 0 = m := by
  match q, hq with
  | 0, _ => rfl
  | 1, _ => rfl
  | 2, _ => rfl
  | 3, _ => rfl
  | 4, _ => rfl
theorem wsum_fold (l : List Int) (a : Int) : l.foldl (fun s x => wrap64 (s + x)) (wrap64 a) = wrap64 (a + l.sum) := by
  induction l generalizing a with
  | nil => simp
  | cons x l ih =>
    rw [List.foldl_cons, List.sum_cons, show wrap64 (wrap64 a + x) = wrap64 (a + x) by unfold wrap64; omega, ih]
    congr 1; omega
theorem wsum_eq (l : List Int) : wsum l = wrap64 l.sum := by
  have h := wsum_fold l 0
  rw [show wrap64 0 = 0 by simp [wrap64], Int.zero_add] at h
  exact h

structure SRel2 (W : World) (L : List Int) (q : Nat) (i : Nat) (ls : List Int) (v : Value) (wr : World) : Prop where
  hown : wr.ownsRow (W.heap.size + 2) 3 1 v ls.length (ls.map (Value.int .i64))
  hx : ∃ x : Int, x + ls.sum = L.sum ∧ MAt wr (W.heap.size + 1) ((([0, 0, 0, 0, 0] : List Int).set ((q + 1) % 5) (maxl L)).set q (wrap64 x)) [.int .u32 0, .int .i32 0, .int .u32 0, .int .u32 0]
  ha : MAt wr W.heap.size ([0, 0, 0, 0, 0].set q (wsum L)) [.int .u32 0, .int .i32 0, .int .u32 0, .int .u32 0]
  hch : Ch (fun b => W.heap.size ≤ b) W wr
  hsz : W.heap.size + 2 ≤ wr.heap.size
  hi : i + ls.length ≤ 30

theorem wrap64_add (a b : Int) : wrap64 (wrap64 a + b) = wrap64 (a + b) := by
  unfold wrap64; omega

theorem srel2_step {W w4 wd x1 x2 : World} {L ls : List Int} {q k j : Nat} {x : Int} {v1 v2 : Value} (hj : j < ls.length) (hi : k + ls.length ≤ 30) (hx : x + ls.sum = L.sum)
    (hb4 : MAt w4 (W.heap.size + 1) (((([0, 0, 0, 0, 0] : List Int).set ((q + 1) % 5) (maxl L)).set q (wrap64 x)).set q (wrap64 (((([0, 0, 0, 0, 0] : List Int).set ((q + 1) % 5) (maxl L)).set q (wrap64 x)).getD q 0 + ls[j]))) [.int .u32 0, .int .i32 0, .int .u32 0, .int .u32 0])
    (ha4 : MAt w4 W.heap.size ([0, 0, 0, 0, 0].set q (wsum L)) [.int .u32 0, .int .i32 0, .int .u32 0, .int .u32 0])
    (hch4 : Ch (fun b => W.heap.size ≤ b) W w4) (hsz : W.heap.size + 2 ≤ w4.heap.size) (e1 : Ch (fun _ => False) w4 wd) (gr1 : wd.grownBy x1 (Value.ownBlock (.slice (some ⟨w4.heap.size, 0, none⟩) 0 0)))
    (gr2 : x1.grownBy x2 v1.ownBlock)
    (own1 : x1.ownsRow (W.heap.size + 2) 3 1 v1 (0 + j) ([] ++ (ls.take j).map (Value.int .i64)))
    (own2 : x2.ownsRow (W.heap.size + 2) 3 1 v2 (0 + j + (ls.length - (j + 1))) ([] ++ (ls.take j).map (Value.int .i64) ++ (ls.drop (j + 1)).map (Value.int .i64))) (hq5 : q < 5) :
    SRel2 W L q (k + 1) (ls.take j ++ ls.drop (j + 1)) v2 x2 := by
  have f1 : Ch (fun b => W.heap.size + 2 ≤ b) w4 x1 := e1.seq (Ch.ofGrown gr1) _ (fun _ _ h => h.elim) (fun b _ h => by simp [Value.ownBlock] at h; omega)
  have f2 : Ch (fun b => W.heap.size + 2 ≤ b) w4 x2 := f1.then (Ch.ofGrown gr2) (fun b _ h => (own1.lt b h).1)
  refine ⟨?_, ⟨x + ls[j], by have := del_sum hj; omega, ?_⟩, MAt.keep f2 ha4 (by omega), hch4.seq f2 _ (by omega) (by omega), by have := f2.size; omega, by rw [del_len hj]; omega⟩
  · rw [del_len hj, List.map_append, show ls.length - 1 = 0 + j + (ls.length - (j + 1)) by omega]
    exact own2
  · rw [getD_set2 hq5, List.set_set, wrap64_add] at hb4
    exact MAt.keep f2 hb4 (by omega)

theorem SRel2.cons {W : World} {L : List Int} {q i : Nat} {ls : List Int} {v : Value} {wr : World} (h : SRel2 W L q i ls v wr) (hls : ls ≠ []) :
    ∃ (x : Int) (g cap : Nat), v = .slice (some ⟨g, 0, none⟩) ls.length cap ∧ x + ls.sum = L.sum ∧
      wr.ownsRow (W.heap.size + 2) 3 1 (.slice (some ⟨g, 0, none⟩) ls.length cap) ls.length (ls.map (Value.int .i64)) ∧
      MAt wr W.heap.size ([0, 0, 0, 0, 0].set q (wsum L)) [.int .u32 0, .int .i32 0, .int .u32 0, .int .u32 0] ∧
      MAt wr (W.heap.size + 1) ((([0, 0, 0, 0, 0] : List Int).set ((q + 1) % 5) (maxl L)).set q (wrap64 x)) [.int .u32 0, .int .i32 0, .int .u32 0, .int .u32 0] ∧
      Ch (fun b => W.heap.size ≤ b) W wr ∧ W.heap.size + 2 ≤ wr.heap.size ∧ i + ls.length ≤ 30 := by
  obtain ⟨hown, ⟨x, hx, hb⟩, ha, hch, hsz, hi⟩ := h
  have hpos : 0 < ls.length := by cases ls; simp at hls; simp
  rcases hown.2 with ⟨_, h0⟩ | ⟨g, cap, cur, rfl, _⟩
  · omega
  · exact ⟨x, g, cap, rfl, hx, hown, ha, hb, hch, hsz, hi⟩

set_option maxRecDepth 100000 in
set_option maxHeartbeats 1000000 in
theorem sums_walk (W : World) (a0 a1 : Option Addr) (c0 c1 : Nat) (l o : List Int) (kind : Int) (hl : l.length ≤ 9223372036854775807) (ho : o.length ≤ 9223372036854775807)
    (r0 : Rd W a0 (l.map (Value.int .i64))) (r1 : Rd W a1 (o.map (Value.int .i64))) :
    Calls Try.prog 3 #[.slice a0 l.length c0, .slice a1 o.length c1, .int .i64 kind] W fun e w' => e = .returned (.bool true) ∧ Below W.heap.size W w' := by
  have hq0 := Int.emod_nonneg kind (show (5 : Int) ≠ 0 by omega)
  have hq1 := Int.emod_lt_of_pos kind (show (0 : Int) < 5 by omega)
  obtain ⟨q, hq⟩ := Int.eq_ofNat_of_zero_le hq0
  have hq5 : q < 5 := by omega
  have Hq := Lib.hid hq; clear hq
  have HQ := Lib.hid (show ((q : Int) + 1) % 5 = (((q + 1) % 5 : Nat) : Int) by omega)
  have hQ5 : (q + 1) % 5 < 5 := by omega
  go_enter Try.func3, Try.ntmps3
  go_wp2_with fail
  refine (new_M _).mono ?_; rintro e w1 ⟨rfl, m1, ch1, z1⟩
  have Hz1 := Lib.hid z1; clear z1
  go_wp2_with fail
  refine (new_M _).mono ?_; rintro e w2 ⟨rfl, m2, ch2, z2⟩
  rw [Hz1.out] at m2 z2 ⊢
  have Hz2 := Lib.hid z2; clear z2
  go_wp2_with fail
  refine (mknown_M _).mono ?_; rintro e w3 ⟨rfl, ch3⟩
  go_wp2_with fail
  refine (pick_any kind 5 _ (by omega) (by omega)).mono ?_; rintro e w' ⟨rfl, rfl⟩
  rw [Hq.out]
  go_upto_block 0 with fail
  have m1' : MAt w' W.heap.size [0, 0, 0, 0, 0] [.int .u32 0, .int .i32 0, .int .u32 0, .int .u32 0] := MAt.keep ch3 (MAt.keep ch2 m1 (fun h => h)) (fun h => h)
  have m2' := MAt.keep ch3 m2 (fun h => h)
  have ch : Ch (fun _ => False) W w' := (ch1.trans ch2).trans ch3
  have hz : W.heap.size + 2 ≤ w'.heap.size := by have := ch3.size; have := Hz2.out; omega
  clear m1 m2 ch1 ch2 ch3 Hz1 Hz2
  go_cut [9, 10, 11, 12] (fun s m v i wr => ∃ k : Nat, SRel1 W l q k s m v wr)
  case first =>
    go_wp2_with fail
    go_loopw [9, 10, 11, 12] (fun s m v i wr => ∃ k : Nat, i = .int .i64 k ∧ SRel1 W l q k s m v wr) (fun _ _ _ i _ => l.length - (intOf i).toNat)
    case atStart =>
      refine ⟨0, rfl, Nat.zero_le _, by omega, rfl, rfl, by simpa using World.ownsRow_nil _ _ _ _, ?_, ?_, ch, hz⟩
      · simpa [wsum, zeros_set] using m1'
      · simpa [maxl, zeros_set] using m2'
    case round =>
      obtain ⟨k, rfl, hr⟩ := hrel
      by_cases hk : k < l.length ∧ k < 30
      · obtain ⟨hk1, hk2⟩ := hk
        obtain ⟨b, off, rfl, hbs, hcell⟩ := Rd.at r0 (k := k) (by simpa using hk1)
        have hc0 := hr.hch.cell (hcell k (.int .i64 l[k]) (by simp [hk1])) (fun h => h)
        obtain ⟨hk, hk30, rfl, rfl, hown, ha, hb, hch, hsz⟩ := hr
        go_wp2_with fail
        refine (madd_M ha _ q rfl hq5 _).mono ?_; rintro e w4 ⟨rfl, ha4, ch4⟩
        have hb4 := MAt.keep ch4 hb (by omega)
        have hown4 := ch4.own hown (fun g hg => by have := (hown.lt g hg).1; omega)
        have hc4 := ch4.cell hc0 (by show ¬ b = W.heap.size; omega)
        have hch4 : Ch (fun b => b = W.heap.size) W w4 := (hch.mono (fun _ _ h => h.elim)).trans ch4
        have hsz4 := ch4.size
        clear ha hb hown hc0 hch ch4
        go_wp2_with fail
        refine (mraise_M hb4 _ ((q + 1) % 5) HQ.out hQ5 _).mono ?_; rintro e w5 ⟨rfl, hb5, ch5⟩
        have ha5 := MAt.keep ch5 ha4 (by omega)
        have hown5 := ch5.own hown4 (fun g hg => by have := (hown4.lt g hg).1; omega)
        have hc5 := ch5.cell hc4 (by show ¬ b = W.heap.size + 1; omega)
        have hch5 : Ch (fun b => W.heap.size ≤ b) W w5 := hch4.seq ch5 _ (by omega) (by omega)
        have hsz5 := ch5.size
        clear ha4 hb4 hown4 hc4 hch4 ch5
        go_wp2_with (at_builtin; refine wpList_append_rd rfl (.tmp 67) (.tmp 72) rfl ei_ints (W.heap.size + 2) _ k _ rfl (hown5.alloc _) (some ⟨w5.heap.size, 0, none⟩) 1 1 [.int .i64 l[k]] rfl rfl (rd_new _ [_] _) (by simp [Value.oneCell']) (by unfold maxLen; omega) (by omega) (by simp; omega) ?_)
        all_goals
          intro v' w6 hown6 hgrow _ _
          have R := srel_step hq5 hk1 hk30 hk2 hown5 ha5 hb5 hch5 (by omega) hgrow hown6
          have hsz6 := R.hsz
          have HR := Lib.hid R
          clear hown6 hgrow hown5 ha5 hb5 hch5 R
          go_wp2_with fail
          go_roundw
          case rel => exact ⟨k + 1, by go_num, srel_vals HR.out (by rw [wsum_take hk1]) (by rw [maxl_take hk1]; first | (rw [Int.max_eq_left (by omega)]) | (rw [Int.max_eq_right (by omega)]))⟩
          case measure => simp [intOf]; omega
      · go_wp2_with fail
        all_goals
          go_meet
          exact ⟨k, hr⟩
  case rest =>
    obtain ⟨k, hr⟩ := hcut
    have hch := hr.hch.mono (T := fun b => W.heap.size ≤ b) (fun _ _ h => h.elim)
    obtain ⟨hkl, hk30, rfl, rfl, hown, ha, hb, _, hsz⟩ := hr
    go_wp2_with fail
    go_loopw [11, 13, 14] (fun v i kk wr => ∃ (i' : Nat) (ls : List Int), i = .int .i64 i' ∧ SRel2 W (l.take k) q i' ls v wr) (fun v _ _ _ => lenOf v)
    case atStart =>
      refine ⟨0, l.take k, rfl, ?_, ⟨0, by simp, ?_⟩, ha, hch, hsz, by simp; omega⟩
      · simpa [hkl] using hown
      · rw [show wrap64 0 = 0 by simp [wrap64], set_zero2 _ hq5]; exact hb
    case round =>
      obtain ⟨i, ls, rfl, hr⟩ := hrel
      by_cases hls : ls = []
      · subst hls
        obtain ⟨hown, ⟨x, hx, hb⟩, ha, hch, hsz, _⟩ := hr
        obtain ⟨ao, cap, rfl⟩ := own_form hown
        have Hv1 := Lib.hid (getD_set_zeros hq5 (wsum (l.take k)))
        have Hv2 := Lib.hid (getD_set2 hq5 (maxl (l.take k)) (wrap64 x))
        have Hv3 := Lib.hid (getD_set3 hq5 (maxl (l.take k)) (wrap64 x))
        have Hx := Lib.hid (show wrap64 x = wsum (l.take k) by rw [wsum_eq, ← hx]; simp)
        clear hx
        go_wp2_with fail
        refine (mval_M ha _ q rfl hq5).mono ?_; rintro e w' ⟨rfl, rfl⟩
        rw [Hv1.out]
        go_wp2_with fail
        refine (mval_M hb _ q rfl hq5).mono ?_; rintro e w' ⟨rfl, rfl⟩
        rw [Hv2.out, Hx.out]
        go_wp2_with fail
        refine (mval_M hb _ ((q + 1) % 5) HQ.out hQ5).mono ?_; rintro e w' ⟨rfl, rfl⟩
        rw [Hv3.out]
        go_wp2_with fail
        go_ret
        exact ⟨rfl, hch.below (Nat.le_refl _) (by omega)⟩
      · obtain ⟨x, g, cap, rfl, hx, hown, ha, hb, hch, hsz, hi⟩ := hr.cons hls
        have hpos : 0 < ls.length := by cases ls; simp at hls; simp
        clear hr
        go_upto_if 82 with fail
        go_cut [14] (fun s w => ∃ j : Nat, j < ls.length ∧ s = .int .i64 j ∧ w = wr)
        case first =>
          by_cases hio : i < o.length
          · obtain ⟨b, off, rfl, hbs, hcell⟩ := Rd.at r1 (k := i) (by simpa using hio)
            have hc0 := hch.cell (hcell i (.int .i64 o[i]) (by simp [hio])) (by show ¬ W.heap.size ≤ b; omega)
            have p0 := Int.emod_nonneg o[i] (show (ls.length : Int) ≠ 0 by omega)
            have p1 := Int.emod_lt_of_pos o[i] (show (0 : Int) < ls.length by omega)
            go_wp2_with fail
            refine (pick_any o[i] ls.length _ (by omega) (by omega)).mono ?_; rintro e w' ⟨rfl, rfl⟩
            go_wp2_with fail
            go_meet
            exact ⟨(o[i] % ls.length).toNat, by omega, by rw [Int.toNat_of_nonneg p0], rfl⟩
          · go_wp2_with fail
            go_meet
            exact ⟨0, hpos, rfl, rfl⟩
        case rest =>
          obtain ⟨j, hj, rfl, rfl⟩ := hcut
          have hcj : wc.cell? ⟨g, j, none⟩ = some (.int .i64 ls[j]) := by rw [hown.cellAt j (by omega)]; simp [hj]
          have hgB := (hown.lt g rfl).1
          have hcap := own_cap hown
          go_wp2_with fail
          refine (madd_M hb _ q rfl hq5 _).mono ?_; rintro e w4 ⟨rfl, hb4, ch4⟩
          have ha4 := MAt.keep ch4 ha (by omega)
          have hown4 := ch4.own hown (fun g hg => by have := (hown.lt g hg).1; omega)
          have hch4 : Ch (fun b => W.heap.size ≤ b) W w4 := hch.seq ch4 _ (by omega) (by omega)
          have hsz4 := ch4.size
          clear ha hb hown hcj hch ch4
          go_wp2_with fail
          have g1 : IntKind.i64.wrap ((j : Int) + 1) = (j : Int) + 1 := IntWalk.i64_in _ (by omega)
          have g2 : (0 : Int) ≤ (j : Int) + 1 := by omega
          have g3 : ((j : Int) + 1).toNat = j + 1 := by omega
          have g4 : (j : Int) + 1 ≤ ls.length := by omega
          have g5 : (j : Int) ≤ cap := by omega
          have hmx : maxLen = 9223372036854775807 := rfl
          have Hmx := Lib.hid hmx; clear hmx
          have e1 : Ch (fun _ => False) w4 (w4.alloc (.cells #[] 3)).drew := (ch_new _ _).drew
          have o1 : (w4.alloc (.cells #[] 3)).drew.ownsRow (W.heap.size + 2) 3 1 (.slice (some ⟨w4.heap.size, 0, none⟩) 0 0) 0 [] := (World.ownsRow_lit w4 #[] 0 (by omega) (Nat.zero_le _) rfl).drew
          have rd1 : Rd (w4.alloc (.cells #[] 3)).drew (some ⟨g, 0, none⟩) ((ls.take j).map (Value.int .i64)) := Rd.keep e1 (by rw [List.map_take]; exact (Rd.own hown4).take j) (fun _ _ h => h)
          have rd2 : Rd w4 (if cap = j + 1 then some ⟨g, 0, none⟩ else some ⟨g, j + 1, none⟩) ((ls.drop (j + 1)).map (Value.int .i64)) := by
            rw [List.map_drop]; exact (Rd.own hown4).drop (j + 1) _ (fun hlt => by simp at hlt; rw [if_neg (by omega)]; simp [Addr.add])
          have hgl := (hown4.lt g rfl).2
          go_region_law (first
            | (refine step_append_rd rfl (.tmp 97) (.tmp 100) rfl ei_ints (W.heap.size + 2) (.slice (some ⟨w4.heap.size, 0, none⟩) 0 0) 0 [] rfl o1 _ j _ ((ls.take j).map (Value.int .i64)) rfl (by simp; omega) rd1 (ints_one _ _) (by rw [Hmx.out]; omega) (by omega) (by simp; omega) ?_; intro v1 x1 own1 gr1 _ _)
            | (refine step_append_rd rfl (.tmp 101) (.tmp 105) rfl ei_ints (W.heap.size + 2) _ (0 + j) _ rfl own1 _ (ls.length - (j + 1)) _ ((ls.drop (j + 1)).map (Value.int .i64)) rfl (by simp) (del_rd e1 gr1 rd2 hgl) (ints_one _ _) (by rw [Hmx.out]; omega) (by omega) (by have := gr1.size; simp at this; omega) ?_; intro v2 x2 own2 gr2 _ _))
          have R := srel2_step (k := i) hj hi hx hb4 ha4 hch4 (by omega) e1 gr1 gr2 own1 own2 hq5
          have hlen := del_len hj
          have HR := Lib.hid R
          clear own1 own2 gr1 gr2 e1 o1 rd1 rd2 hb4 ha4 hch4 hown4 R
          go_wp2_with fail
          go_roundw
          case rel => exact ⟨i + 1, _, by go_num, HR.out⟩
          case measure => rw [own_len HR.out.hown, hlen]; show ls.length - 1 < ls.length; omega

theorem sums_final (W : World) (a0 : Option Addr) (c0 : Nat) (l : List Int) (a1 : Option Addr) (c1 : Nat) (o : List Int) (kind : Int) (h0 : InInts .i64 8 W a0 c0 l) (h1 : InInts .i64 8 W a1 c1 o) (_ : -9223372036854775808 ≤ kind ∧ kind ≤ 9223372036854775807) :
    Calls Try.prog 3 #[.slice a0 l.length c0, .slice a1 o.length c1, .int .i64 kind] W fun e w' => e = .returned (.bool true) ∧ Below W.heap.size W w' :=
  sums_walk W a0 a1 c0 c1 l o kind (by have := h0.lc; have := h0.sz; omega) (by have := h1.lc; have := h1.sz; omega) h0.rd h1.rd

end Go.Proofs.Ytlphhadomhdacaa
