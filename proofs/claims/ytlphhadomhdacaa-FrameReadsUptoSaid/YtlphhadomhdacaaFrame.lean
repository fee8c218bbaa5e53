/- Records: each function's contract. -/
import Derived.Test.YtlphhadomhdacaaOctetR
namespace Go.Proofs.Ytlphhadomhdacaa
open Go Go.RowKit

/-- A framer lies in block bf, its table in bt. -/
def FAt (w : World) (bf bt : Nat) (m : Bool) : Prop := bf ≠ bt ∧ w.heap[bf]? = some (.cells #[.pointer (some ⟨bt, 0, none⟩)] 89 (0, 0)) ∧ TS w bt m

theorem FAt.keep {S : Nat → Prop} {w w' : World} (h : Ch S w w') {bf bt : Nat} {m : Bool} (hf : FAt w bf bt m) (h1 : ¬ S bf) (h2 : ¬ S bt) : FAt w' bf bt m := ⟨hf.1, h.heap hf.2.1 h1, TS.keep h hf.2.2 h2⟩

def headB (kind len : Nat) : List UInt8 := beB 1 kind ++ beB 4 len
def frameB (kind : Nat) (body : List UInt8) : List UInt8 := headB kind body.length ++ beB 4 (crcN (headB kind body.length ++ body)) ++ body

/-- The record at the beginning: its kind, its body, its size, and the error's number. -/
def nextF (bs : List UInt8) : Nat × List UInt8 × Nat × Int :=
  if bs.length < 9 then (0, [], 0, 7)
  else if beN (bs.take 1) = 0 ∨ 1048576 < beN ((bs.drop 1).take 4) then (0, [], 0, 5)
  else if bs.length - 9 < beN ((bs.drop 1).take 4) then (0, [], 0, 7)
  else if crcN (bs.take 5 ++ (bs.drop 9).take (beN ((bs.drop 1).take 4))) ≠ beN ((bs.drop 5).take 4) then (0, [], 0, 8)
  else (beN (bs.take 1), (bs.drop 9).take (beN ((bs.drop 1).take 4)), 9 + beN ((bs.drop 1).take 4), 0)

theorem beB_4 (n : Nat) : beB 2 (n / 65536) ++ beB 2 n = beB 4 n := by
  simp only [beB, List.cons_append, List.nil_append, Nat.div_div_eq_div_mul]
theorem u64of_nat {n : Nat} (h : n < 18446744073709551616) : u64of (n : Int) = n := by unfold u64of; omega

theorem or_i64 (a b : Nat) (ha : a < 65536) (hb : b < 65536) : bits BinOp.or IntKind.i64 ((a : Int) * 65536) (b : Int) = ((a * 65536 + b : Nat) : Int) := by
  have h1 : (BitVec.ofInt 64 ((a : Int) * 65536)).toNat = a * 65536 := by rw [BitVec.toNat_ofInt]; omega
  have h2 : (BitVec.ofInt 64 (b : Int)).toNat = b := by rw [BitVec.toNat_ofInt]; omega
  show IntKind.i64.wrap (((BitVec.ofInt 64 ((a : Int) * 65536)) ||| (BitVec.ofInt 64 (b : Int))).toNat : Int) = _
  rw [BitVec.toNat_or, h1, h2, nat_join 16 (a * 65536) b (Nat.mul_mod_left a 65536) (by omega), IntKind.wrap_i64]
  omega

theorem fnew_any (w : World) : Calls Try.prog 31 #[] w fun e w' => ∃ bf bt, e = .returned (.pointer (some ⟨bf, 0, none⟩)) ∧ FAt w' bf bt false ∧ w.heap.size ≤ bf ∧ w.heap.size ≤ bt ∧ Ch (fun _ => False) w w' := by
  go_enter Try.func31, Try.ntmps31
  go_wp2_with fail
  refine (tnew_any _).mono ?_; rintro e w1 ⟨rfl, t1, ch1, z1⟩
  have Hz := Lib.hid z1
  clear z1
  go_wp2_with fail
  go_ret
  have := Hz.out
  exact ⟨w1.heap.size, w.heap.size, rfl, ⟨by omega, alloc_heap_new _ _, TS.keep (m := false) (ch_new _ _) t1 (fun h => h)⟩, by omega, Nat.le_refl _, ch1.alloc _⟩

theorem four_any (bw : Nat) (g : Option Nat) (bs : List UInt8) (n : Nat) (w : World) (h : WrAt w bw g bs) (hn : n < 9223372036854775808) (hl : bs.length + 4 ≤ 140737488355328) :
    Calls Try.prog 49 #[.pointer (some ⟨bw, 0, none⟩), .int .i64 n] w (WrPost bw g w (bs ++ beB 4 n)) := by
  have h1 := wU16 bw g bs ((n : Int) / 65536) w h (by omega)
  rw [show ((n : Int) / 65536) = ((n / 65536 : Nat) : Int) from rfl, u64of_nat (n := n / 65536) (by omega), show ((n / 65536 : Nat) : Int) = (n : Int) / 65536 from rfl] at h1
  have h2 := fun (g1 : Option Nat) (w1 : World) (hw : WrAt w1 bw g1 (bs ++ beB 2 (n / 65536))) => wU16 bw g1 _ (n : Int) w1 hw (by rw [List.length_append, beB_len]; omega)
  rw [u64of_nat (by omega)] at h2
  have H1 := Lib.hid h1; have H2 := Lib.hid h2
  clear h1 h2 h
  go_enter Try.func49, Try.ntmps49
  go_wp2_with fail
  refine H1.out.mono ?_; rintro e w1 ⟨rfl, g1, hw1, hg1, ch1⟩
  have Hw1 := Lib.hid hw1
  clear hw1
  go_wp2_with fail
  refine (H2.out g1 w1 Hw1.out).mono ?_; rintro e w2 ⟨rfl, g2, hw2, hg2, ch2⟩
  rw [List.append_assoc, beB_4] at hw2
  have R := wr_next hg1 hg2 ch1 ch2
  have Hw2 := Lib.hid hw2
  clear hw2
  go_wp2_with fail
  go_end0
  exact ⟨rfl, g2, Hw2.out, R.1, R.2⟩

set_option maxRecDepth 100000 in
set_option maxHeartbeats 1000000 in
theorem fsum_any (bf bt : Nat) (m : Bool) (a1 : Option Addr) (c1 : Nat) (hd : List UInt8) (a2 : Option Addr) (c2 : Nat) (bd : List UInt8) (w : World) (h : FAt w bf bt m) (r1 : Rd w a1 (u8s hd)) (r2 : Rd w a2 (u8s bd)) (hl : hd.length + bd.length ≤ 140737488355328) :
    Calls Try.prog 50 #[.pointer (some ⟨bf, 0, none⟩), .slice a1 hd.length c1, .slice a2 bd.length c2] w fun e w' => e = .returned (.int .i64 (crcN (hd ++ bd) : Nat)) ∧ FAt w' bf bt true ∧ Ch (fun k => k = bt) w w' := by
  have hmx : maxLen = 9223372036854775807 := rfl
  have Hmx := Lib.hid hmx; clear hmx
  have o1 : (w.alloc (.cells #[] 5)).ownsRow w.heap.size 5 1 (.slice (some ⟨w.heap.size, 0, none⟩) 0 0) 0 [] := World.ownsRow_lit w #[] 0 (Nat.le_refl _) (Nat.zero_le _) rfl
  have rd1 : Rd (w.alloc (.cells #[] 5)) a1 (u8s hd) := Rd.keep (ch_new _ _) r1 (fun _ _ h => h)
  have hcl := crcN_lt (hd ++ bd)
  have Hr2 := Lib.hid r2
  have Hh := Lib.hid h
  clear r1 r2 h
  go_enter Try.func50, Try.ntmps50
  go_wp2_with (at_builtin; refine wpList_append_rd rfl (.tmp 8) (.tmp 9) rfl ei_bytes w.heap.size (.slice (some ⟨w.heap.size, 0, none⟩) 0 0) 0 [] rfl o1 a1 hd.length c1 (u8s hd) rfl (by rw [u8s_len]; omega) rd1 (u8s_one _) (by rw [Hmx.out]; omega) (by omega) (by simp) ?_)
  intro v1 w1 own1 gr1 _ at1
  have ch1 : Ch (fun _ => False) w w1 := (ch_new w _).seq (Ch.ofGrown gr1) _ (fun _ _ h => h) (fun i hi h => by simp [Value.ownBlock] at h; omega)
  have own1' : w1.ownsRow w.heap.size 5 1 v1 hd.length (u8s hd) := by simpa using own1
  have rd2 : Rd w1 a2 (u8s bd) := Rd.keep ch1 Hr2.out (fun _ _ h => h)
  have hsz := ch1.size
  clear own1 gr1 at1 o1 rd1
  go_wp2_with (at_builtin; refine wpList_append_rd rfl (.tmp 10) (.tmp 11) rfl ei_bytes w.heap.size v1 _ _ rfl own1' a2 bd.length c2 (u8s bd) rfl (by rw [u8s_len]; omega) rd2 (u8s_one _) (by rw [Hmx.out]; omega) (by omega) (by omega) ?_)
  intro v2 w2 own2 gr2 _ at2
  have ch2 : Ch (fun _ => False) w w2 := ch1.seq (Ch.ofGrown gr2) _ (fun _ _ h => h) (fun i hi h => by have := (own1'.lt i h).1; omega)
  have hf2 := FAt.keep ch2 Hh.out (fun h => h) (fun h => h)
  obtain ⟨ao, cp, rfl⟩ := own_form own2
  have own2' : w2.ownsRow w.heap.size 5 1 (.slice ao (hd.length + bd.length) cp) (hd.length + bd.length) (u8s (hd ++ bd)) := by rw [u8s_app]; exact own2
  have hbt := block_lt (show w.heap[bf]? = _ from Hh.out.2.1)
  have hbtt : bt < w.heap.size := by have := Hh.out.2.2; cases m <;> exact block_lt this.2
  have hsum := sum_any bt m ao cp (hd ++ bd) w2 hf2.2.2 (Rd.own own2') (fun _ ad had hk => by
    subst had
    have := (own2'.lt ad.block rfl).1
    omega) (by rw [List.length_append]; omega)
  rw [List.length_append] at hsum
  have hc2 := (cellH hf2.2.1 0).trans rfl
  have Hsum := Lib.hid hsum
  have Hf2 := Lib.hid hf2
  clear own1' own2 own2' gr2 at2 rd2 hsum hf2 ch1
  go_wp2_with fail
  refine Hsum.out.mono ?_; rintro e w3 ⟨rfl, t3, ch3⟩
  have hf3 : FAt w3 bf bt true := ⟨Hf2.out.1, ch3.heap Hf2.out.2.1 Hf2.out.1, t3⟩
  have Hf3 := Lib.hid hf3
  clear hf3 t3 hc2
  go_wp2_with fail
  go_ret
  exact ⟨rfl, Hf3.out, ch2.seq ch3 _ (fun _ _ h => h.elim) (fun _ _ h => h)⟩

end Go.Proofs.Ytlphhadomhdacaa
