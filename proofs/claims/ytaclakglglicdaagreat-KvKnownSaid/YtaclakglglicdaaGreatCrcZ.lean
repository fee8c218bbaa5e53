/- The table of words: each function's contract, without Made (printed out of XCrc). -/
import Derived.Test.YtaclakglglicdaaGreatCrcMath
import Derived.Test.YtaclakglglicdaaGreatOnce
import Derived.Test.YtaclakglglicdaaGreatOpen
import Derived.Laws.BitsAll
import Derived.Outline
namespace Go.Proofs.YtaclakglglicdaaGreat
open Go Go.RowKit

/-- A table lies in block b: done, the lock's state, how often made, the words. -/
def TAt (w : World) (b : Nat) (d s m : Int) (ws : List Nat) : Prop :=
  ws.length = 256 ∧ w.heap[b]? = some (.cells ([Value.int .u32 d, .int .i32 s, .int .u32 0, .int .i64 m] ++ ws.map (fun n : Nat => Value.int .u32 n)).toArray 199 (0, 0))

theorem TAt.keep {S : Nat → Prop} {w w' : World} (h : Ch S w w') {b : Nat} {d s m : Int} {ws : List Nat} (ht : TAt w b d s m ws) (hs : ¬ S b) : TAt w' b d s m ws := ⟨ht.1, h.heap ht.2 hs⟩
theorem TAt.c0 {w : World} {b : Nat} {d s m : Int} {ws : List Nat} (h : TAt w b d s m ws) : w.cell? ⟨b, 0, none⟩ = some (.int .u32 d) := by rw [cellH h.2]; simp
theorem TAt.c1 {w : World} {b : Nat} {d s m : Int} {ws : List Nat} (h : TAt w b d s m ws) : w.cell? ⟨b, 1, none⟩ = some (.int .i32 s) := by rw [cellH h.2]; simp
theorem TAt.c3 {w : World} {b : Nat} {d s m : Int} {ws : List Nat} (h : TAt w b d s m ws) : w.cell? ⟨b, 3, none⟩ = some (.int .i64 m) := by rw [cellH h.2]; simp
theorem TAt.cw {w : World} {b : Nat} {d s m : Int} {ws : List Nat} (h : TAt w b d s m ws) {k : Nat} (hk : k < 256) : w.cell? ⟨b, 4 + k, none⟩ = some (.int .u32 (ws.getD k 0 : Nat)) := by
  have hk' : k < ws.length := by rw [h.1]; exact hk
  rw [cellH h.2, show 4 + k = k + 1 + 1 + 1 + 1 by omega]
  simp [hk']
theorem TAt.fz {w : World} {b : Nat} {d s m : Int} {ws : List Nat} (h : TAt w b d s m ws) (k : Nat) : w.frozen? ⟨b, k, none⟩ = false := frozH h.2 k
theorem TAt.set0 {w : World} {b : Nat} {d s m : Int} {ws : List Nat} (h : TAt w b d s m ws) (x : Int) : TAt (w.setCell ⟨b, 0, none⟩ (.int .u32 x)) b x s m ws := by
  refine ⟨h.1, ?_⟩; rw [setH h.2]; simp
theorem TAt.set1 {w : World} {b : Nat} {d s m : Int} {ws : List Nat} (h : TAt w b d s m ws) (x : Int) : TAt (w.setCell ⟨b, 1, none⟩ (.int .i32 x)) b d x m ws := by
  refine ⟨h.1, ?_⟩; rw [setH h.2]; simp
theorem TAt.set3 {w : World} {b : Nat} {d s m : Int} {ws : List Nat} (h : TAt w b d s m ws) (x : Int) : TAt (w.setCell ⟨b, 3, none⟩ (.int .i64 x)) b d s x ws := by
  refine ⟨h.1, ?_⟩; rw [setH h.2]; simp
theorem TAt.setw {w : World} {b : Nat} {d s m : Int} {ws : List Nat} (h : TAt w b d s m ws) (k : Nat) (x : Nat) : TAt (w.setCell ⟨b, 4 + k, none⟩ (.int .u32 x)) b d s m (ws.set k x) := by
  refine ⟨by simp [h.1], ?_⟩
  rw [setH h.2]
  congr 2
  apply Array.ext'
  simp [show 4 + k = k + 1 + 1 + 1 + 1 by omega, List.map_set]

def zeros256 : List Nat := List.replicate 256 0
def tab256 : List Nat := (List.range 256).map cstep8
def tabTo (k : Nat) : List Nat := (List.range k).map cstep8 ++ List.replicate (256 - k) 0

theorem tabTo_0 : tabTo 0 = zeros256 := by simp only [tabTo, zeros256, List.range_zero, List.map_nil, List.nil_append, Nat.sub_zero]
theorem tabTo_256 : tabTo 256 = tab256 := by simp only [tabTo, tab256, Nat.sub_self, List.replicate_zero, List.append_nil]
theorem tabTo_set {k : Nat} (hk : k < 256) : (tabTo k).set k (cstep8 k) = tabTo (k + 1) := by
  unfold tabTo
  rw [List.set_append_right _ _ (by simp), List.range_succ, List.map_append]
  simp
  rw [show 256 - k = 256 - (k + 1) + 1 by omega, List.replicate_succ]
  simp

def citer : Nat → Nat → Nat
  | 0, c => c
  | n + 1, c => cstep (citer n c)
theorem citer_8 (c : Nat) : citer 8 c = cstep8 c := rfl
theorem citer_lt {c : Nat} (h : c < 4294967296) (n : Nat) : citer n c < 4294967296 := by
  induction n with
  | zero => exact h
  | succ n ih => exact cstep_lt ih

theorem cstepZ {c : Nat} (h : c < 4294967296) : bits BinOp.xor IntKind.u32 ((c : Int) / 2) (3988292384 * bits BinOp.and IntKind.u32 (c : Int) 1 % 4294967296) = ((cstep c : Nat) : Int) := by
  have h1 := u32_and_nat c 1 h (by omega)
  rw [show ((1 : Nat) : Int) = 1 from rfl, Nat.and_one_is_mod] at h1
  rw [h1, show (3988292384 : Int) * ((c % 2 : Nat) : Int) % 4294967296 = ((cpoly * (c % 2) : Nat) : Int) by unfold cpoly; omega, show (c : Int) / 2 = ((c / 2 : Nat) : Int) by omega]
  have h2 : cpoly * (c % 2) < 4294967296 := by unfold cpoly; omega
  rw [u32_xor_nat _ _ (by omega) h2]
  unfold cstep
  rw [Nat.shiftRight_eq_div_pow]

set_option maxRecDepth 100000 in
theorem tnew_any (w : World) :
    Calls Tryz.prog 88 #[] w fun e w' => e = .returned (.pointer (some ⟨w.heap.size, 0, none⟩)) ∧ TAt w' w.heap.size 0 0 0 zeros256 ∧ Ch (fun _ => False) w w' ∧ w'.heap.size = w.heap.size + 1 := by
  go_enter Tryz.func88, Tryz.ntmps88
  go_wp2
  go_ret
  refine ⟨rfl, ⟨List.length_replicate, ?_⟩, (Ch.refl _ _).alloc _, by simp⟩
  rw [alloc_heap_new]
  exact congrArg some (by kernel_rfl)
set_option maxRecDepth 100000 in
set_option maxHeartbeats 1000000 in
theorem fill_any (b : Nat) (d s : Int) (w : World) (h : TAt w b d s 0 zeros256) :
    Calls Tryz.prog 183 #[.pointer (some ⟨b, 0, none⟩)] w fun e w' => e = .returned (.tuple #[]) ∧ TAt w' b d s 1 tab256 ∧ Ch (fun k => k = b) w w' := by
  go_enter Tryz.func183, Tryz.ntmps183
  go_wp2
  go_loopw [2, 3, 4, 5, 10] (fun _ _ _ i _ wr => ∃ k : Nat, i = .int .i64 k ∧ k ≤ 256 ∧ TAt wr b d s 0 (tabTo k) ∧ Ch (fun k => k = b) w wr) (fun _ _ _ i _ _ => 256 - (intOf i).toNat)
  case atStart => exact ⟨0, rfl, by omega, by rw [tabTo_0]; exact h, Ch.refl _ _⟩
  case round =>
    obtain ⟨k, rfl, hk, ht, hch⟩ := hrel
    by_cases hlt : k < 256
    · go_wp2
      go_loop [3, 4, 10] (fun c _ j => ∃ n : Nat, j = .int .i64 n ∧ n ≤ 8 ∧ c = .int .u32 (citer n k : Nat)) (fun _ _ j => 8 - (intOf j).toNat)
      case atStart => exact ⟨0, rfl, by omega, by simp [citer]⟩
      case round =>
        obtain ⟨n, rfl, hn, rfl⟩ := hrel
        by_cases hn8 : n < 8
        · go_wp2
          go_round
          case rel => exact ⟨n + 1, by go_num, by omega, by rw [cstepZ (citer_lt (by omega) n)]; rfl⟩
          case measure => simp [intOf]; omega
        · obtain rfl : n = 8 := by omega
          rw [citer_8]
          have hcw := ht.cw hlt
          have hfw := ht.fz (4 + k)
          have hfin := ht.setw k (cstep8 k)
          rw [tabTo_set hlt] at hfin
          have Hfin := Lib.hid hfin; clear hfin
          have Hch := Lib.hid hch; clear hch
          clear ht
          go_wp2
          go_roundw
          case rel => exact ⟨k + 1, by go_num, by omega, Hfin.out, Hch.out.setCell (p := ⟨b, 4 + k, none⟩) (fun _ => rfl) _⟩
          case measure => simp [intOf]; omega
    · obtain rfl : k = 256 := by omega
      rw [tabTo_256] at ht
      have h3 := ht.c3
      have f3 := ht.fz 3
      have hadd := run_call_add (P := Tryz.prog) Tryz.func219 (by kernel_rfl) (by kernel_rfl) (by kernel_rfl) .i64 (by kernel_rfl) (y := 1) (s := 1) h3 f3 (by simp [go_sem, IntKind.wrap_i64])
      have hfin := ht.set3 1
      have Hfin := Lib.hid hfin
      clear hfin ht h3 f3
      go_wp2
      go_end0
      exact ⟨rfl, Hfin.out, hch.setCell (p := ⟨b, 3, none⟩) (fun _ => rfl) _⟩

set_option maxRecDepth 100000 in
set_option maxHeartbeats 1600000 in
theorem slow_fill (b : Nat) (w : World) (h : TAt w b 0 0 0 zeros256) :
    Calls Tryz.prog 203 #[.pointer (some ⟨b, 0, none⟩), .func (.func 183) #[.pointer (some ⟨b, 0, none⟩)] #[]] w fun e w' => e = .returned (.tuple #[]) ∧ TAt w' b 1 0 1 tab256 ∧ Ch (fun k => k = b) w w' := by
  have hnot : ∀ (x : Bool) (w : World), (Op.unary .not (.bool x)).run Tryz.prog w = .ok (.bool (!x)) w := fun _ _ => rfl
  have h1 := h.set1 1
  have ch1 : Ch (fun k => k = b) w (w.setCell ⟨b, 1, none⟩ (.int .i32 1)) := Ch.setCell (S := fun k => k = b) (Ch.refl _ _) (p := ⟨b, 1, none⟩) (fun _ => rfl) _
  go_enter_defers Tryz.func203, Tryz.ntmps203
  go_wp2_with fail
  refine (lock_free ⟨b, 1, none⟩ _ h.c1 (h.fz 1)).mono ?_; rintro e w1 ⟨rfl, rfl⟩
  go_wp2_with fail
  refine (bool_load b 0 0 _ h1.c0).mono ?_; rintro e w1 ⟨rfl, rfl⟩
  go_wp2_with fail
  refine (fill_any b 0 1 _ h1).mono ?_; rintro e w2 ⟨rfl, h2, ch2⟩
  go_wp2_with fail
  refine leaves_cons (f := 218) (args := #[.pointer (some ⟨b, 0, none⟩), .bool true]) (by simp) (by simp [go_sem]) ?_
  refine (store_deferred ⟨b, 0, none⟩ (.int .u32 0) .returning _ h2.c0 (h2.fz 0)).mono ?_
  rintro e u' w'' ⟨rfl, rfl, rfl⟩
  have h3 : TAt (w2.drew.setCell ⟨b, 0, none⟩ (.int .u32 1)) b 1 1 1 tab256 := TAt.set0 (w := w2.drew) h2 1
  refine leaves_cons (f := 217) (args := #[.pointer (some ⟨b, 1, none⟩)]) (by simp [settle]) (by simp [go_sem]) ?_
  refine (unlock_deferred ⟨b, 1, none⟩ _ _ h3.c1 (h3.fz 1)).mono ?_
  rintro e u' w'' ⟨rfl, rfl, rfl⟩
  have h4 := h3.set1 0
  simp [Leaves, settle, results, Tryz.results203]
  refine ⟨h4, ?_⟩
  have c2 := ch1.trans ch2
  exact ((c2.drew.setCell (p := ⟨b, 0, none⟩) (fun _ => rfl) _).setCell (p := ⟨b, 1, none⟩) (fun _ => rfl) _)

theorem do_fill (b : Nat) (w : World) (h : TAt w b 0 0 0 zeros256) :
    Calls Tryz.prog 182 #[.pointer (some ⟨b, 0, none⟩), .func (.func 183) #[.pointer (some ⟨b, 0, none⟩)] #[]] w fun e w' => e = .returned (.tuple #[]) ∧ TAt w' b 1 0 1 tab256 ∧ Ch (fun k => k = b) w w' := by
  have hnot : ∀ (x : Bool) (w : World), (Op.unary .not (.bool x)).run Tryz.prog w = .ok (.bool (!x)) w := fun _ _ => rfl
  go_enter Tryz.func182, Tryz.ntmps182
  go_wp2_with fail
  refine (bool_load b 0 0 _ h.c0).mono ?_; rintro e w1 ⟨rfl, rfl⟩
  go_wp2_with fail
  refine (slow_fill b _ h).mono ?_; rintro e w1 ⟨rfl, h1, ch1⟩
  go_wp2_with fail
  go_end0
  exact ⟨rfl, h1, ch1⟩

/-- A table, made or not. -/
def TS (w : World) (b : Nat) (made : Bool) : Prop := match made with | true => TAt w b 1 0 1 tab256 | false => TAt w b 0 0 0 zeros256
theorem TS.keep {S : Nat → Prop} {w w' : World} (h : Ch S w w') {b : Nat} {m : Bool} (ht : TS w b m) (hs : ¬ S b) : TS w' b m := by
  cases m
  · exact TAt.keep h ht hs
  · exact TAt.keep h ht hs
def u8s (bs : List UInt8) : List Value := bs.map fun x => Value.int .u8 (x.toNat : Nat)

theorem once_fill (b : Nat) (m : Bool) (w : World) (h : TS w b m) :
    Calls Tryz.prog 182 #[.pointer (some ⟨b, 0, none⟩), .func (.func 183) #[.pointer (some ⟨b, 0, none⟩)] #[]] w fun e w' => e = .returned (.tuple #[]) ∧ TAt w' b 1 0 1 tab256 ∧ Ch (fun k => k = b) w w' := by
  cases m
  · exact do_fill b w h
  · exact (do_done b 0 _ w (TAt.c0 h)).mono fun e w' ⟨he, hw⟩ => by subst hw; exact ⟨he, h, Ch.refl _ _⟩

theorem tab256_get {k : Nat} (hk : k < 256) : tab256.getD k 0 = cstep8 k := by simp [tab256, hk]

set_option maxRecDepth 100000 in
set_option maxHeartbeats 1000000 in
theorem sum_any (b : Nat) (m : Bool) (a : Option Addr) (c : Nat) (bs : List UInt8) (w : World) (h : TS w b m) (hr : Rd w a (u8s bs)) (hb : bs ≠ [] → ∀ ad, a = some ad → ad.block ≠ b) (hl : bs.length ≤ 140737488355328) :
    Calls Tryz.prog 145 #[.pointer (some ⟨b, 0, none⟩), .slice a bs.length c] w fun e w' => e = .returned (.int .u32 (crcN bs : Nat)) ∧ TS w' b true ∧ Ch (fun k => k = b) w w' := by
  have hmf : ∀ (fn : Fn) (first cap : Array Value) (w : World), (Instr.makeFunc fn first cap).run Tryz.prog w = .ok (.func fn first cap) w := fun _ _ _ _ => rfl
  go_enter Tryz.func145, Tryz.ntmps145
  go_wp2_with fail
  refine (once_fill b m _ h).mono ?_; rintro e w1 ⟨rfl, h1, ch1⟩
  have hr1 : Rd w1 a (u8s bs) := by
    by_cases hne : bs = []
    · subst hne; exact Rd.nil _ _
    · exact Rd.keep ch1 hr (fun ad had hk => hb hne ad had hk)
  clear hb
  clear h hr
  go_wp2_with fail
  go_loop [5, 7, 16] (fun cc _ i => ∃ k : Nat, i = .int .i64 k ∧ k ≤ bs.length ∧ cc = .int .u32 ((bs.take k).foldl cupd 4294967295 : Nat)) (fun _ _ i => bs.length - (intOf i).toNat)
  case atStart => exact ⟨0, rfl, by omega, rfl⟩
  case round =>
    obtain ⟨k, rfl, hk, rfl⟩ := hrel
    by_cases hlt : k < bs.length
    · obtain ⟨g, off, rfl, _, hcell⟩ := Rd.at hr1 (k := k) (by simpa [u8s] using hlt)
      have hx := hcell k (.int .u8 (bs[k].toNat : Nat)) (by simp [u8s, hlt])
      have hcl := foldl_lt (bs.take k) (c := 4294967295) (by omega)
      have hstep : (bs.take (k + 1)).foldl cupd 4294967295 = cupd ((bs.take k).foldl cupd 4294967295) bs[k] := by
        rw [List.take_succ_eq_append_getElem hlt, List.foldl_append]; rfl
      generalize (bs.take k).foldl cupd 4294967295 = cc at hcl hstep
      have hxl := bs[k].toNat_lt
      have Hstep := Lib.hid hstep; clear hstep
      obtain ⟨x, hxx⟩ : ∃ x, x = bs[k] := ⟨_, rfl⟩
      rw [← hxx] at hx hxl Hstep
      have Hxx := Lib.hid hxx; clear hxx
      have ht256 : (cc % 256) ^^^ x.toNat < 256 := Nat.xor_lt_two_pow (n := 8) (by omega) (by omega)
      have hix := u8_xor_nat (cc % 256) x.toNat (by omega) (by omega)
      have hrow := h1.cw ht256
      rw [tab256_get ht256] at hrow
      have htl : cstep8 ((cc % 256) ^^^ x.toNat) < 4294967296 := cstep8_lt (by omega)
      have hfin := u32_xor_nat (cc / 256) (cstep8 ((cc % 256) ^^^ x.toNat)) (by omega) htl
      rw [table_step] at hfin
      generalize hg : (cc % 256) ^^^ x.toNat = t at hix hrow hfin ht256
      rw [show ((cc % 256 : Nat) : Int) = (cc : Int) % 256 from rfl] at hix
      rw [show ((cc / 256 : Nat) : Int) = (cc : Int) / 256 from rfl] at hfin
      clear hcell hg htl
      go_wp2
      go_round
      case rel => exact ⟨k + 1, by go_num, by omega, by rw [Hstep.out]; rfl⟩
      case measure => simp [intOf]; omega
    · obtain rfl : k = bs.length := by omega
      have hcl := foldl_lt bs (c := 4294967295) (by omega)
      rw [List.take_length]
      have hfin := u32_xor_nat 4294967295 _ (by omega) hcl
      have Hfin := Lib.hid hfin
      clear hfin
      go_wp2
      go_ret
      exact ⟨congrArg (fun n => Ending.returned (.int .u32 n)) Hfin.out, h1, ch1⟩

end Go.Proofs.YtaclakglglicdaaGreat
