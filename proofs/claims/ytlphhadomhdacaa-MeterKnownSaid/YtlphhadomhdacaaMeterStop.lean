/- Stop, and what it is handed: each function's contract. -/
import Derived.Test.YtlphhadomhdacaaMeterM
import Derived.Test.YtlphhadomhdacaaOnce
import Derived.Outline
namespace Go.Proofs.Ytlphhadomhdacaa
open Go Go.RowKit

theorem alloc3_heap (w : World) (x y z : Obj) : (((w.alloc x).alloc y).alloc z).heap[w.heap.size + 2]? = some z := by
  have h := alloc_heap_new ((w.alloc x).alloc y) z
  rw [heap_alloc_size, heap_alloc_size] at h
  exact h

def restOf (d s sp : Int) : List Value := [.int .u32 d, .int .i32 s, .int .u32 0, .int .u32 sp]

theorem MAt.r {w : World} {b : Nat} {ns : List Int} {rest : List Value} (h : MAt w b ns rest) (k : Nat) : w.cell? ⟨b, 5 + k, none⟩ = rest[k]? := by
  rw [cellH h.2]
  have := h.1
  simp [List.getElem?_append, this]
  omega
theorem MAt.d {w : World} {b : Nat} {ns : List Int} {d s sp : Int} (h : MAt w b ns (restOf d s sp)) : w.cell? ⟨b, 5, none⟩ = some (.int .u32 d) := by rw [h.r 0]; rfl
theorem MAt.s {w : World} {b : Nat} {ns : List Int} {d s sp : Int} (h : MAt w b ns (restOf d s sp)) : w.cell? ⟨b, 6, none⟩ = some (.int .i32 s) := by rw [h.r 1]; rfl
theorem MAt.sp {w : World} {b : Nat} {ns : List Int} {d s sp : Int} (h : MAt w b ns (restOf d s sp)) : w.cell? ⟨b, 8, none⟩ = some (.int .u32 sp) := by rw [h.r 3]; rfl
theorem MAt.setR {w : World} {b : Nat} {ns : List Int} {rest : List Value} (h : MAt w b ns rest) (k : Nat) (v : Value) : MAt (w.setCell ⟨b, 5 + k, none⟩ v) b ns (rest.set k v) := by
  refine ⟨h.1, ?_⟩
  rw [setH h.2]
  congr 2
  apply Array.ext'
  have := h.1
  simp [this]
theorem MAt.setD {w : World} {b : Nat} {ns : List Int} {d s sp : Int} (h : MAt w b ns (restOf d s sp)) (x : Int) : MAt (w.setCell ⟨b, 5, none⟩ (.int .u32 x)) b ns (restOf x s sp) := h.setR 0 _
theorem MAt.setS {w : World} {b : Nat} {ns : List Int} {d s sp : Int} (h : MAt w b ns (restOf d s sp)) (x : Int) : MAt (w.setCell ⟨b, 6, none⟩ (.int .i32 x)) b ns (restOf d x sp) := h.setR 1 _
theorem MAt.setSp {w : World} {b : Nat} {ns : List Int} {d s sp : Int} (h : MAt w b ns (restOf d s sp)) (x : Int) : MAt (w.setCell ⟨b, 8, none⟩ (.int .u32 x)) b ns (restOf d s x) := h.setR 3 _
theorem MAt.drew {w : World} {b : Nat} {ns : List Int} {rest : List Value} (h : MAt w b ns rest) : MAt w.drew b ns rest := h

theorem stopped_any (b : Nat) (ns : List Int) (d s sp : Int) (w : World) (h : MAt w b ns (restOf d s sp)) :
    Calls Try.prog 26 #[.pointer (some ⟨b, 0, none⟩)] w fun e w' => e = .returned (.bool (sp != 0)) ∧ w' = w := by
  go_enter Try.func26, Try.ntmps26
  go_wp2_with (go_at_call 43; refine (bool_load b 8 sp _ h.sp).mono ?_; rintro e w' ⟨rfl, rfl⟩)
  go_ret
  exact ⟨rfl, rfl⟩

set_option maxHeartbeats 1000000 in
theorem stop_again (b : Nat) (ns : List Int) (fn : Fn) (fa fc : Array Value) (sp : Int) (w : World) (h : MAt w b ns (restOf 1 0 sp)) :
    Calls Try.prog 27 #[.pointer (some ⟨b, 0, none⟩), .func fn fa fc] w fun e w' => e = .returned (.bool false) ∧ Ch (fun _ => False) w w' := by
  have hmf : ∀ (fn : Fn) (first cap : Array Value) (w : World), (Instr.makeFunc fn first cap).run Try.prog w = .ok (.func fn first cap) w := fun _ _ _ _ => rfl
  go_enter Try.func27, Try.ntmps27
  go_wp2_with fail
  refine (do_done b 5 _ _ (MAt.d (MAt.keep ((((Ch.refl (fun _ => False) w).alloc _).alloc _).alloc _) h (fun h => h)))).mono ?_; rintro e w' ⟨rfl, rfl⟩
  go_wp2_with fail
  go_ret
  exact ⟨rfl, (((Ch.refl _ _).alloc _).alloc _).alloc _⟩

theorem fn_k1 (bn : Nat) (x : Int) (w : World) (h : w.heap[bn]? = some (.cells #[.int .i64 x] 3 (0, 0))) :
    Calls Try.prog 28 #[.pointer (some ⟨bn, 0, none⟩)] w fun e w' => e = .returned (.tuple #[]) ∧ w' = w.setCell ⟨bn, 0, none⟩ (.int .i64 (wrap64 (x + 1))) := by
  have hc : w.cell? ⟨bn, 0, none⟩ = some (.int .i64 x) := by rw [cellH h]; rfl
  have hz := frozH h 0
  clear h
  go_enter Try.func28, Try.ntmps28
  go_wp2
  go_end0
  exact ⟨rfl, rfl⟩

set_option maxRecDepth 100000 in
set_option maxHeartbeats 1000000 in
/-- The function literal in Stop. -/
theorem lit_k1 (bn : Nat) (x : Int) (b bm bf bs : Nat) (ns : List Int) (w : World) (h : MAt w b ns (restOf 0 1 0)) (hm : w.cell? ⟨bm, 0, none⟩ = some (.pointer (some ⟨b, 0, none⟩))) (hf : w.cell? ⟨bf, 0, none⟩ = some (.func (.func 28) #[] #[.pointer (some ⟨bn, 0, none⟩)]))
    (hs : w.heap[bs]? = some (.cells #[.bool false] 4 (0, 0))) (hn : w.heap[bn]? = some (.cells #[.int .i64 x] 3 (0, 0))) (d1 : bm ≠ b) (d2 : bm ≠ bs) (d3 : bs ≠ b) (d4 : bn ≠ b) (d5 : bn ≠ bs) (d6 : bn ≠ bm) :
    Calls Try.prog 44 #[.pointer (some ⟨bf, 0, none⟩), .pointer (some ⟨bs, 0, none⟩), .pointer (some ⟨bm, 0, none⟩)] w fun e w' => e = .returned (.tuple #[]) ∧ MAt w' b ns (restOf 0 1 1) ∧
      w'.heap[bs]? = some (.cells #[.bool true] 4 (0, 0)) ∧ w'.heap[bn]? = some (.cells #[.int .i64 (wrap64 (x + 1))] 3 (0, 0)) ∧ Ch (fun k => k = b ∨ k = bs ∨ k = bn) w w' := by
  have hsc : w.cell? ⟨bs, 0, none⟩ = some (.bool false) := by rw [cellH hs]; rfl
  have hne : ∀ w, (binOp .neq 1 (.func (.func 28) #[] #[.pointer (some ⟨bn, 0, none⟩)]) .nilFunc).run Try.prog w = .ok (.bool true) w := fun _ => by kernel_rfl
  go_enter Try.func44, Try.ntmps44
  go_wp2_with fail
  refine (fn_k1 bn x _ hn).mono ?_; rintro e w1 ⟨rfl, rfl⟩
  have ch1 : Ch (fun k => k = b ∨ k = bs ∨ k = bn) w (w.setCell ⟨bn, 0, none⟩ (.int .i64 (wrap64 (x + 1)))) := Ch.setCell (S := fun k => k = b ∨ k = bs ∨ k = bn) (Ch.refl _ _) (p := ⟨bn, 0, none⟩) (fun _ => .inr (.inr rfl)) _
  have hn1 := setH hn 0 (.int .i64 (wrap64 (x + 1)))
  have h1 := MAt.keep (set_ch w bn 0 (.int .i64 (wrap64 (x + 1)))) h (by omega)
  have hm1 := (set_ch w bn 0 (.int .i64 (wrap64 (x + 1)))).cell hm (by show ¬ bm = bn; omega)
  have hs1 := (set_ch w bn 0 (.int .i64 (wrap64 (x + 1)))).heap hs (by omega)
  have hsc1 : World.cell? _ ⟨bs, 0, none⟩ = some (.bool false) := (cellH hs1 0).trans rfl
  have hsz1 := frozH hs1 0
  have hs2 := setH hs1 0 (.bool true)
  have h2 := MAt.keep (set_ch _ bs 0 (.bool true)) h1 (by omega)
  have hm2 := (set_ch _ bs 0 (.bool true)).cell hm1 (by show ¬ bm = bs; omega)
  have ch2 := ch1.setCell (p := ⟨bs, 0, none⟩) (fun _ => .inr (.inl rfl)) (.bool true)
  have hs3 := (((Ch.refl (fun k => k = b) _).drew.setCell (p := ⟨b, 8, none⟩) (fun _ => rfl) (.int .u32 1))).heap hs2 (by omega)
  have h3 := (MAt.drew h2).setSp 1
  have ch3 := ch2.drew.setCell (p := ⟨b, 8, none⟩) (fun _ => .inl rfl) (.int .u32 1)
  have hn2 := (set_ch _ bs 0 (.bool true)).heap hn1 (by omega)
  have hn3 := (((Ch.refl (fun k => k = b) _).drew.setCell (p := ⟨b, 8, none⟩) (fun _ => rfl) (.int .u32 1))).heap hn2 (by omega)
  have Hs3 := Lib.hid hs3; have H3 := Lib.hid h3; have Ch3 := Lib.hid ch3; have Hn3 := Lib.hid hn3
  clear hs3 h3 ch3 ch2 ch1 hs2 hn3 hn2 hn1 hn
  go_wp2_with fail
  refine (bool_store ⟨b, 8, none⟩ _ _ h2.sp (h2.frozen 8)).mono ?_; rintro e w2 ⟨rfl, rfl⟩
  go_wp2_with fail
  go_end0
  exact ⟨rfl, H3.out, Hs3.out, Hn3.out, Ch3.out⟩

set_option maxRecDepth 100000 in
set_option maxHeartbeats 1600000 in
theorem slow_k1 (bn : Nat) (x : Int) (b bm bf bs : Nat) (ns : List Int) (w : World) (h : MAt w b ns (restOf 0 0 0)) (hm : w.cell? ⟨bm, 0, none⟩ = some (.pointer (some ⟨b, 0, none⟩))) (hf : w.cell? ⟨bf, 0, none⟩ = some (.func (.func 28) #[] #[.pointer (some ⟨bn, 0, none⟩)]))
    (hs : w.heap[bs]? = some (.cells #[.bool false] 4 (0, 0))) (hn : w.heap[bn]? = some (.cells #[.int .i64 x] 3 (0, 0))) (d1 : bm ≠ b) (d2 : bm ≠ bs) (d3 : bs ≠ b) (d4 : bn ≠ b) (d5 : bn ≠ bs) (d6 : bn ≠ bm) (d7 : bf ≠ b) :
    Calls Try.prog 64 #[.pointer (some ⟨b, 5, none⟩), .func (.func 44) #[] #[.pointer (some ⟨bf, 0, none⟩), .pointer (some ⟨bs, 0, none⟩), .pointer (some ⟨bm, 0, none⟩)]] w fun e w' => e = .returned (.tuple #[]) ∧ MAt w' b ns (restOf 1 0 1) ∧
      w'.heap[bs]? = some (.cells #[.bool true] 4 (0, 0)) ∧ w'.heap[bn]? = some (.cells #[.int .i64 (wrap64 (x + 1))] 3 (0, 0)) ∧ Ch (fun k => k = b ∨ k = bs ∨ k = bn) w w' := by
  have hnot : ∀ (x : Bool) (w : World), (Op.unary .not (.bool x)).run Try.prog w = .ok (.bool (!x)) w := fun _ _ => rfl
  have h1 := h.setS 1
  have c1 := set_ch w b 6 (.int .i32 1)
  have ch1 : Ch (fun k => k = b ∨ k = bs ∨ k = bn) w (w.setCell ⟨b, 6, none⟩ (.int .i32 1)) := c1.mono (fun _ _ h => .inl h)
  have hm1 := c1.cell hm (by show ¬ bm = b; omega)
  have hf1 := c1.cell hf (by show ¬ bf = b; omega)
  have hs1 := c1.heap hs (by omega)
  have hn1 := c1.heap hn (by omega)
  clear c1
  go_enter_defers Try.func64, Try.ntmps64
  go_wp2_with fail
  refine (lock_free ⟨b, 6, none⟩ _ h.s (h.frozen 6)).mono ?_; rintro e w1 ⟨rfl, rfl⟩
  go_wp2_with fail
  refine (bool_load b 5 0 _ h1.d).mono ?_; rintro e w1 ⟨rfl, rfl⟩
  go_wp2_with fail
  refine (lit_k1 bn x b bm bf bs ns _ h1 hm1 hf1 hs1 hn1 d1 d2 d3 d4 d5 d6).mono ?_; rintro e w2 ⟨rfl, h2, hs2, hn2, ch2⟩
  have ch12 := ch1.trans ch2
  clear h1 hm1 hf1 hs1 ch1 ch2 hn1 hn
  go_wp2_with fail
  refine leaves_cons (f := 45) (args := #[.pointer (some ⟨b, 5, none⟩), .bool true]) (by simp) (by simp [go_sem]) ?_
  refine (store_deferred ⟨b, 5, none⟩ (.int .u32 0) .returning _ h2.d (h2.frozen 5)).mono ?_
  rintro e u' w'' ⟨rfl, rfl, rfl⟩
  have h3 := (MAt.drew h2).setD 1
  have c3 : Ch (fun k => k = b) w2 (w2.drew.setCell ⟨b, 5, none⟩ (.int .u32 1)) := Ch.setCell (S := fun k => k = b) (Ch.refl _ _).drew (p := ⟨b, 5, none⟩) (fun _ => rfl) _
  refine leaves_cons (f := 74) (args := #[.pointer (some ⟨b, 6, none⟩)]) (by simp [settle]) (by simp [go_sem]) ?_
  refine (unlock_deferred ⟨b, 6, none⟩ _ _ h3.s (h3.frozen 6)).mono ?_
  rintro e u' w'' ⟨rfl, rfl, rfl⟩
  have h4 := h3.setS 0
  have c4 := c3.setCell (p := ⟨b, 6, none⟩) (fun _ => rfl) (.int .i32 0)
  have hs4 := c4.heap hs2 (by omega)
  have hn4 := c4.heap hn2 (by omega)
  have ch4 := ch12.trans (c4.mono (T := fun k => k = b ∨ k = bs ∨ k = bn) (fun _ _ h => .inl h))
  simp [Leaves, settle, results, Try.results64]
  exact ⟨h4, hs4, hn4, ch4⟩

theorem do_k1 (bn : Nat) (x : Int) (b bm bf bs : Nat) (ns : List Int) (w : World) (h : MAt w b ns (restOf 0 0 0)) (hm : w.cell? ⟨bm, 0, none⟩ = some (.pointer (some ⟨b, 0, none⟩))) (hf : w.cell? ⟨bf, 0, none⟩ = some (.func (.func 28) #[] #[.pointer (some ⟨bn, 0, none⟩)]))
    (hs : w.heap[bs]? = some (.cells #[.bool false] 4 (0, 0))) (hn : w.heap[bn]? = some (.cells #[.int .i64 x] 3 (0, 0))) (d1 : bm ≠ b) (d2 : bm ≠ bs) (d3 : bs ≠ b) (d4 : bn ≠ b) (d5 : bn ≠ bs) (d6 : bn ≠ bm) (d7 : bf ≠ b) :
    Calls Try.prog 41 #[.pointer (some ⟨b, 5, none⟩), .func (.func 44) #[] #[.pointer (some ⟨bf, 0, none⟩), .pointer (some ⟨bs, 0, none⟩), .pointer (some ⟨bm, 0, none⟩)]] w fun e w' => e = .returned (.tuple #[]) ∧ MAt w' b ns (restOf 1 0 1) ∧
      w'.heap[bs]? = some (.cells #[.bool true] 4 (0, 0)) ∧ w'.heap[bn]? = some (.cells #[.int .i64 (wrap64 (x + 1))] 3 (0, 0)) ∧ Ch (fun k => k = b ∨ k = bs ∨ k = bn) w w' := by
  have hnot : ∀ (x : Bool) (w : World), (Op.unary .not (.bool x)).run Try.prog w = .ok (.bool (!x)) w := fun _ _ => rfl
  go_enter Try.func41, Try.ntmps41
  go_wp2_with fail
  refine (bool_load b 5 0 _ h.d).mono ?_; rintro e w1 ⟨rfl, rfl⟩
  go_wp2_with fail
  refine (slow_k1 bn x b bm bf bs ns _ h hm hf hs hn d1 d2 d3 d4 d5 d6 d7).mono ?_; rintro e w2 ⟨rfl, h2⟩
  have H2 := Lib.hid h2
  clear h2
  go_wp2_with fail
  go_end0
  exact ⟨rfl, H2.out⟩

set_option maxHeartbeats 1000000 in
theorem stop_k1 (bn : Nat) (x : Int) (b : Nat) (ns : List Int) (w : World) (h : MAt w b ns (restOf 0 0 0)) (hn : w.heap[bn]? = some (.cells #[.int .i64 x] 3 (0, 0))) (hbn : bn ≠ b) :
    Calls Try.prog 27 #[.pointer (some ⟨b, 0, none⟩), (.func (.func 28) #[] #[.pointer (some ⟨bn, 0, none⟩)])] w fun e w' => e = .returned (.bool true) ∧ MAt w' b ns (restOf 1 0 1) ∧ w'.heap[bn]? = some (.cells #[.int .i64 (wrap64 (x + 1))] 3 (0, 0)) ∧ Ch (fun k => k = b ∨ k = bn) w w' := by
  have hmf : ∀ (fn : Fn) (first cap : Array Value) (w : World), (Instr.makeFunc fn first cap).run Try.prog w = .ok (.func fn first cap) w := fun _ _ _ _ => rfl
  have hbl := block_lt h.2
  have hnl := block_lt hn
  have c3 : ∀ (x y z : Obj), Ch (fun _ => False) w (((w.alloc x).alloc y).alloc z) := fun x y z => (((Ch.refl _ _).alloc _).alloc _).alloc _
  go_enter Try.func27, Try.ntmps27
  go_wp2_with fail
  refine (do_k1 bn x b w.heap.size (w.heap.size + 1) (w.heap.size + 2) ns _ (MAt.keep (c3 _ _ _) h (fun h => h)) (by simp [go_sem]) (by simp [go_sem]) (alloc3_heap w _ _ _) ((c3 _ _ _).heap hn (fun h => h)) (by omega) (by omega) (by omega) (by omega) (by omega) (by omega) (by omega)).mono ?_
  rintro e w2 ⟨rfl, h2, hs2, hn2, ch2⟩
  have hsc : w2.cell? ⟨w.heap.size + 2, 0, none⟩ = some (.bool true) := by rw [cellH hs2]; rfl
  have chf := (c3 _ _ _).seq ch2 (fun k => k = b ∨ k = bn) (fun _ _ h => h.elim) (fun i hi h => by omega)
  have H2 := Lib.hid h2; have Chf := Lib.hid chf; have Hn2 := Lib.hid hn2
  clear h2 hs2 ch2 chf hn2 hn
  go_wp2_with fail
  go_ret
  exact ⟨rfl, H2.out, Hn2.out, Chf.out⟩

theorem fn_k2 (bn : Nat) (x : Int) (w : World) (h : w.heap[bn]? = some (.cells #[.int .i64 x] 3 (0, 0))) :
    Calls Try.prog 29 #[.pointer (some ⟨bn, 0, none⟩)] w fun e w' => e = .returned (.tuple #[]) ∧ w' = w.setCell ⟨bn, 0, none⟩ (.int .i64 (wrap64 (x + 1))) := by
  have hc : w.cell? ⟨bn, 0, none⟩ = some (.int .i64 x) := by rw [cellH h]; rfl
  have hz := frozH h 0
  clear h
  go_enter Try.func29, Try.ntmps29
  go_wp2
  go_end0
  exact ⟨rfl, rfl⟩

set_option maxRecDepth 100000 in
set_option maxHeartbeats 1000000 in
/-- The function literal in Stop. -/
theorem lit_k2 (bn : Nat) (x : Int) (b bm bf bs : Nat) (ns : List Int) (w : World) (h : MAt w b ns (restOf 0 1 0)) (hm : w.cell? ⟨bm, 0, none⟩ = some (.pointer (some ⟨b, 0, none⟩))) (hf : w.cell? ⟨bf, 0, none⟩ = some (.func (.func 29) #[] #[.pointer (some ⟨bn, 0, none⟩)]))
    (hs : w.heap[bs]? = some (.cells #[.bool false] 4 (0, 0))) (hn : w.heap[bn]? = some (.cells #[.int .i64 x] 3 (0, 0))) (d1 : bm ≠ b) (d2 : bm ≠ bs) (d3 : bs ≠ b) (d4 : bn ≠ b) (d5 : bn ≠ bs) (d6 : bn ≠ bm) :
    Calls Try.prog 44 #[.pointer (some ⟨bf, 0, none⟩), .pointer (some ⟨bs, 0, none⟩), .pointer (some ⟨bm, 0, none⟩)] w fun e w' => e = .returned (.tuple #[]) ∧ MAt w' b ns (restOf 0 1 1) ∧
      w'.heap[bs]? = some (.cells #[.bool true] 4 (0, 0)) ∧ w'.heap[bn]? = some (.cells #[.int .i64 (wrap64 (x + 1))] 3 (0, 0)) ∧ Ch (fun k => k = b ∨ k = bs ∨ k = bn) w w' := by
  have hsc : w.cell? ⟨bs, 0, none⟩ = some (.bool false) := by rw [cellH hs]; rfl
  have hne : ∀ w, (binOp .neq 1 (.func (.func 29) #[] #[.pointer (some ⟨bn, 0, none⟩)]) .nilFunc).run Try.prog w = .ok (.bool true) w := fun _ => by kernel_rfl
  go_enter Try.func44, Try.ntmps44
  go_wp2_with fail
  refine (fn_k2 bn x _ hn).mono ?_; rintro e w1 ⟨rfl, rfl⟩
  have ch1 : Ch (fun k => k = b ∨ k = bs ∨ k = bn) w (w.setCell ⟨bn, 0, none⟩ (.int .i64 (wrap64 (x + 1)))) := Ch.setCell (S := fun k => k = b ∨ k = bs ∨ k = bn) (Ch.refl _ _) (p := ⟨bn, 0, none⟩) (fun _ => .inr (.inr rfl)) _
  have hn1 := setH hn 0 (.int .i64 (wrap64 (x + 1)))
  have h1 := MAt.keep (set_ch w bn 0 (.int .i64 (wrap64 (x + 1)))) h (by omega)
  have hm1 := (set_ch w bn 0 (.int .i64 (wrap64 (x + 1)))).cell hm (by show ¬ bm = bn; omega)
  have hs1 := (set_ch w bn 0 (.int .i64 (wrap64 (x + 1)))).heap hs (by omega)
  have hsc1 : World.cell? _ ⟨bs, 0, none⟩ = some (.bool false) := (cellH hs1 0).trans rfl
  have hsz1 := frozH hs1 0
  have hs2 := setH hs1 0 (.bool true)
  have h2 := MAt.keep (set_ch _ bs 0 (.bool true)) h1 (by omega)
  have hm2 := (set_ch _ bs 0 (.bool true)).cell hm1 (by show ¬ bm = bs; omega)
  have ch2 := ch1.setCell (p := ⟨bs, 0, none⟩) (fun _ => .inr (.inl rfl)) (.bool true)
  have hs3 := (((Ch.refl (fun k => k = b) _).drew.setCell (p := ⟨b, 8, none⟩) (fun _ => rfl) (.int .u32 1))).heap hs2 (by omega)
  have h3 := (MAt.drew h2).setSp 1
  have ch3 := ch2.drew.setCell (p := ⟨b, 8, none⟩) (fun _ => .inl rfl) (.int .u32 1)
  have hn2 := (set_ch _ bs 0 (.bool true)).heap hn1 (by omega)
  have hn3 := (((Ch.refl (fun k => k = b) _).drew.setCell (p := ⟨b, 8, none⟩) (fun _ => rfl) (.int .u32 1))).heap hn2 (by omega)
  have Hs3 := Lib.hid hs3; have H3 := Lib.hid h3; have Ch3 := Lib.hid ch3; have Hn3 := Lib.hid hn3
  clear hs3 h3 ch3 ch2 ch1 hs2 hn3 hn2 hn1 hn
  go_wp2_with fail
  refine (bool_store ⟨b, 8, none⟩ _ _ h2.sp (h2.frozen 8)).mono ?_; rintro e w2 ⟨rfl, rfl⟩
  go_wp2_with fail
  go_end0
  exact ⟨rfl, H3.out, Hs3.out, Hn3.out, Ch3.out⟩

set_option maxRecDepth 100000 in
set_option maxHeartbeats 1600000 in
theorem slow_k2 (bn : Nat) (x : Int) (b bm bf bs : Nat) (ns : List Int) (w : World) (h : MAt w b ns (restOf 0 0 0)) (hm : w.cell? ⟨bm, 0, none⟩ = some (.pointer (some ⟨b, 0, none⟩))) (hf : w.cell? ⟨bf, 0, none⟩ = some (.func (.func 29) #[] #[.pointer (some ⟨bn, 0, none⟩)]))
    (hs : w.heap[bs]? = some (.cells #[.bool false] 4 (0, 0))) (hn : w.heap[bn]? = some (.cells #[.int .i64 x] 3 (0, 0))) (d1 : bm ≠ b) (d2 : bm ≠ bs) (d3 : bs ≠ b) (d4 : bn ≠ b) (d5 : bn ≠ bs) (d6 : bn ≠ bm) (d7 : bf ≠ b) :
    Calls Try.prog 64 #[.pointer (some ⟨b, 5, none⟩), .func (.func 44) #[] #[.pointer (some ⟨bf, 0, none⟩), .pointer (some ⟨bs, 0, none⟩), .pointer (some ⟨bm, 0, none⟩)]] w fun e w' => e = .returned (.tuple #[]) ∧ MAt w' b ns (restOf 1 0 1) ∧
      w'.heap[bs]? = some (.cells #[.bool true] 4 (0, 0)) ∧ w'.heap[bn]? = some (.cells #[.int .i64 (wrap64 (x + 1))] 3 (0, 0)) ∧ Ch (fun k => k = b ∨ k = bs ∨ k = bn) w w' := by
  have hnot : ∀ (x : Bool) (w : World), (Op.unary .not (.bool x)).run Try.prog w = .ok (.bool (!x)) w := fun _ _ => rfl
  have h1 := h.setS 1
  have c1 := set_ch w b 6 (.int .i32 1)
  have ch1 : Ch (fun k => k = b ∨ k = bs ∨ k = bn) w (w.setCell ⟨b, 6, none⟩ (.int .i32 1)) := c1.mono (fun _ _ h => .inl h)
  have hm1 := c1.cell hm (by show ¬ bm = b; omega)
  have hf1 := c1.cell hf (by show ¬ bf = b; omega)
  have hs1 := c1.heap hs (by omega)
  have hn1 := c1.heap hn (by omega)
  clear c1
  go_enter_defers Try.func64, Try.ntmps64
  go_wp2_with fail
  refine (lock_free ⟨b, 6, none⟩ _ h.s (h.frozen 6)).mono ?_; rintro e w1 ⟨rfl, rfl⟩
  go_wp2_with fail
  refine (bool_load b 5 0 _ h1.d).mono ?_; rintro e w1 ⟨rfl, rfl⟩
  go_wp2_with fail
  refine (lit_k2 bn x b bm bf bs ns _ h1 hm1 hf1 hs1 hn1 d1 d2 d3 d4 d5 d6).mono ?_; rintro e w2 ⟨rfl, h2, hs2, hn2, ch2⟩
  have ch12 := ch1.trans ch2
  clear h1 hm1 hf1 hs1 ch1 ch2 hn1 hn
  go_wp2_with fail
  refine leaves_cons (f := 45) (args := #[.pointer (some ⟨b, 5, none⟩), .bool true]) (by simp) (by simp [go_sem]) ?_
  refine (store_deferred ⟨b, 5, none⟩ (.int .u32 0) .returning _ h2.d (h2.frozen 5)).mono ?_
  rintro e u' w'' ⟨rfl, rfl, rfl⟩
  have h3 := (MAt.drew h2).setD 1
  have c3 : Ch (fun k => k = b) w2 (w2.drew.setCell ⟨b, 5, none⟩ (.int .u32 1)) := Ch.setCell (S := fun k => k = b) (Ch.refl _ _).drew (p := ⟨b, 5, none⟩) (fun _ => rfl) _
  refine leaves_cons (f := 74) (args := #[.pointer (some ⟨b, 6, none⟩)]) (by simp [settle]) (by simp [go_sem]) ?_
  refine (unlock_deferred ⟨b, 6, none⟩ _ _ h3.s (h3.frozen 6)).mono ?_
  rintro e u' w'' ⟨rfl, rfl, rfl⟩
  have h4 := h3.setS 0
  have c4 := c3.setCell (p := ⟨b, 6, none⟩) (fun _ => rfl) (.int .i32 0)
  have hs4 := c4.heap hs2 (by omega)
  have hn4 := c4.heap hn2 (by omega)
  have ch4 := ch12.trans (c4.mono (T := fun k => k = b ∨ k = bs ∨ k = bn) (fun _ _ h => .inl h))
  simp [Leaves, settle, results, Try.results64]
  exact ⟨h4, hs4, hn4, ch4⟩

theorem do_k2 (bn : Nat) (x : Int) (b bm bf bs : Nat) (ns : List Int) (w : World) (h : MAt w b ns (restOf 0 0 0)) (hm : w.cell? ⟨bm, 0, none⟩ = some (.pointer (some ⟨b, 0, none⟩))) (hf : w.cell? ⟨bf, 0, none⟩ = some (.func (.func 29) #[] #[.pointer (some ⟨bn, 0, none⟩)]))
    (hs : w.heap[bs]? = some (.cells #[.bool false] 4 (0, 0))) (hn : w.heap[bn]? = some (.cells #[.int .i64 x] 3 (0, 0))) (d1 : bm ≠ b) (d2 : bm ≠ bs) (d3 : bs ≠ b) (d4 : bn ≠ b) (d5 : bn ≠ bs) (d6 : bn ≠ bm) (d7 : bf ≠ b) :
    Calls Try.prog 41 #[.pointer (some ⟨b, 5, none⟩), .func (.func 44) #[] #[.pointer (some ⟨bf, 0, none⟩), .pointer (some ⟨bs, 0, none⟩), .pointer (some ⟨bm, 0, none⟩)]] w fun e w' => e = .returned (.tuple #[]) ∧ MAt w' b ns (restOf 1 0 1) ∧
      w'.heap[bs]? = some (.cells #[.bool true] 4 (0, 0)) ∧ w'.heap[bn]? = some (.cells #[.int .i64 (wrap64 (x + 1))] 3 (0, 0)) ∧ Ch (fun k => k = b ∨ k = bs ∨ k = bn) w w' := by
  have hnot : ∀ (x : Bool) (w : World), (Op.unary .not (.bool x)).run Try.prog w = .ok (.bool (!x)) w := fun _ _ => rfl
  go_enter Try.func41, Try.ntmps41
  go_wp2_with fail
  refine (bool_load b 5 0 _ h.d).mono ?_; rintro e w1 ⟨rfl, rfl⟩
  go_wp2_with fail
  refine (slow_k2 bn x b bm bf bs ns _ h hm hf hs hn d1 d2 d3 d4 d5 d6 d7).mono ?_; rintro e w2 ⟨rfl, h2⟩
  have H2 := Lib.hid h2
  clear h2
  go_wp2_with fail
  go_end0
  exact ⟨rfl, H2.out⟩

set_option maxHeartbeats 1000000 in
theorem stop_k2 (bn : Nat) (x : Int) (b : Nat) (ns : List Int) (w : World) (h : MAt w b ns (restOf 0 0 0)) (hn : w.heap[bn]? = some (.cells #[.int .i64 x] 3 (0, 0))) (hbn : bn ≠ b) :
    Calls Try.prog 27 #[.pointer (some ⟨b, 0, none⟩), (.func (.func 29) #[] #[.pointer (some ⟨bn, 0, none⟩)])] w fun e w' => e = .returned (.bool true) ∧ MAt w' b ns (restOf 1 0 1) ∧ w'.heap[bn]? = some (.cells #[.int .i64 (wrap64 (x + 1))] 3 (0, 0)) ∧ Ch (fun k => k = b ∨ k = bn) w w' := by
  have hmf : ∀ (fn : Fn) (first cap : Array Value) (w : World), (Instr.makeFunc fn first cap).run Try.prog w = .ok (.func fn first cap) w := fun _ _ _ _ => rfl
  have hbl := block_lt h.2
  have hnl := block_lt hn
  have c3 : ∀ (x y z : Obj), Ch (fun _ => False) w (((w.alloc x).alloc y).alloc z) := fun x y z => (((Ch.refl _ _).alloc _).alloc _).alloc _
  go_enter Try.func27, Try.ntmps27
  go_wp2_with fail
  refine (do_k2 bn x b w.heap.size (w.heap.size + 1) (w.heap.size + 2) ns _ (MAt.keep (c3 _ _ _) h (fun h => h)) (by simp [go_sem]) (by simp [go_sem]) (alloc3_heap w _ _ _) ((c3 _ _ _).heap hn (fun h => h)) (by omega) (by omega) (by omega) (by omega) (by omega) (by omega) (by omega)).mono ?_
  rintro e w2 ⟨rfl, h2, hs2, hn2, ch2⟩
  have hsc : w2.cell? ⟨w.heap.size + 2, 0, none⟩ = some (.bool true) := by rw [cellH hs2]; rfl
  have chf := (c3 _ _ _).seq ch2 (fun k => k = b ∨ k = bn) (fun _ _ h => h.elim) (fun i hi h => by omega)
  have H2 := Lib.hid h2; have Chf := Lib.hid chf; have Hn2 := Lib.hid hn2
  clear h2 hs2 ch2 chf hn2 hn
  go_wp2_with fail
  go_ret
  exact ⟨rfl, H2.out, Hn2.out, Chf.out⟩

theorem fn_o1 (bn : Nat) (x : Int) (w : World) (h : w.heap[bn]? = some (.cells #[.int .i64 x] 3 (0, 0))) :
    Calls Try.prog 30 #[.pointer (some ⟨bn, 0, none⟩)] w fun e w' => e = .returned (.tuple #[]) ∧ w' = w.setCell ⟨bn, 0, none⟩ (.int .i64 (wrap64 (x + 1))) := by
  have hc : w.cell? ⟨bn, 0, none⟩ = some (.int .i64 x) := by rw [cellH h]; rfl
  have hz := frozH h 0
  clear h
  go_enter Try.func30, Try.ntmps30
  go_wp2
  go_end0
  exact ⟨rfl, rfl⟩

set_option maxRecDepth 100000 in
set_option maxHeartbeats 1000000 in
/-- The function literal in Stop. -/
theorem lit_o1 (bn : Nat) (x : Int) (b bm bf bs : Nat) (ns : List Int) (w : World) (h : MAt w b ns (restOf 0 1 0)) (hm : w.cell? ⟨bm, 0, none⟩ = some (.pointer (some ⟨b, 0, none⟩))) (hf : w.cell? ⟨bf, 0, none⟩ = some (.func (.func 30) #[] #[.pointer (some ⟨bn, 0, none⟩)]))
    (hs : w.heap[bs]? = some (.cells #[.bool false] 4 (0, 0))) (hn : w.heap[bn]? = some (.cells #[.int .i64 x] 3 (0, 0))) (d1 : bm ≠ b) (d2 : bm ≠ bs) (d3 : bs ≠ b) (d4 : bn ≠ b) (d5 : bn ≠ bs) (d6 : bn ≠ bm) :
    Calls Try.prog 44 #[.pointer (some ⟨bf, 0, none⟩), .pointer (some ⟨bs, 0, none⟩), .pointer (some ⟨bm, 0, none⟩)] w fun e w' => e = .returned (.tuple #[]) ∧ MAt w' b ns (restOf 0 1 1) ∧
      w'.heap[bs]? = some (.cells #[.bool true] 4 (0, 0)) ∧ w'.heap[bn]? = some (.cells #[.int .i64 (wrap64 (x + 1))] 3 (0, 0)) ∧ Ch (fun k => k = b ∨ k = bs ∨ k = bn) w w' := by
  have hsc : w.cell? ⟨bs, 0, none⟩ = some (.bool false) := by rw [cellH hs]; rfl
  have hne : ∀ w, (binOp .neq 1 (.func (.func 30) #[] #[.pointer (some ⟨bn, 0, none⟩)]) .nilFunc).run Try.prog w = .ok (.bool true) w := fun _ => by kernel_rfl
  go_enter Try.func44, Try.ntmps44
  go_wp2_with fail
  refine (fn_o1 bn x _ hn).mono ?_; rintro e w1 ⟨rfl, rfl⟩
  have ch1 : Ch (fun k => k = b ∨ k = bs ∨ k = bn) w (w.setCell ⟨bn, 0, none⟩ (.int .i64 (wrap64 (x + 1)))) := Ch.setCell (S := fun k => k = b ∨ k = bs ∨ k = bn) (Ch.refl _ _) (p := ⟨bn, 0, none⟩) (fun _ => .inr (.inr rfl)) _
  have hn1 := setH hn 0 (.int .i64 (wrap64 (x + 1)))
  have h1 := MAt.keep (set_ch w bn 0 (.int .i64 (wrap64 (x + 1)))) h (by omega)
  have hm1 := (set_ch w bn 0 (.int .i64 (wrap64 (x + 1)))).cell hm (by show ¬ bm = bn; omega)
  have hs1 := (set_ch w bn 0 (.int .i64 (wrap64 (x + 1)))).heap hs (by omega)
  have hsc1 : World.cell? _ ⟨bs, 0, none⟩ = some (.bool false) := (cellH hs1 0).trans rfl
  have hsz1 := frozH hs1 0
  have hs2 := setH hs1 0 (.bool true)
  have h2 := MAt.keep (set_ch _ bs 0 (.bool true)) h1 (by omega)
  have hm2 := (set_ch _ bs 0 (.bool true)).cell hm1 (by show ¬ bm = bs; omega)
  have ch2 := ch1.setCell (p := ⟨bs, 0, none⟩) (fun _ => .inr (.inl rfl)) (.bool true)
  have hs3 := (((Ch.refl (fun k => k = b) _).drew.setCell (p := ⟨b, 8, none⟩) (fun _ => rfl) (.int .u32 1))).heap hs2 (by omega)
  have h3 := (MAt.drew h2).setSp 1
  have ch3 := ch2.drew.setCell (p := ⟨b, 8, none⟩) (fun _ => .inl rfl) (.int .u32 1)
  have hn2 := (set_ch _ bs 0 (.bool true)).heap hn1 (by omega)
  have hn3 := (((Ch.refl (fun k => k = b) _).drew.setCell (p := ⟨b, 8, none⟩) (fun _ => rfl) (.int .u32 1))).heap hn2 (by omega)
  have Hs3 := Lib.hid hs3; have H3 := Lib.hid h3; have Ch3 := Lib.hid ch3; have Hn3 := Lib.hid hn3
  clear hs3 h3 ch3 ch2 ch1 hs2 hn3 hn2 hn1 hn
  go_wp2_with fail
  refine (bool_store ⟨b, 8, none⟩ _ _ h2.sp (h2.frozen 8)).mono ?_; rintro e w2 ⟨rfl, rfl⟩
  go_wp2_with fail
  go_end0
  exact ⟨rfl, H3.out, Hs3.out, Hn3.out, Ch3.out⟩

set_option maxRecDepth 100000 in
set_option maxHeartbeats 1600000 in
theorem slow_o1 (bn : Nat) (x : Int) (b bm bf bs : Nat) (ns : List Int) (w : World) (h : MAt w b ns (restOf 0 0 0)) (hm : w.cell? ⟨bm, 0, none⟩ = some (.pointer (some ⟨b, 0, none⟩))) (hf : w.cell? ⟨bf, 0, none⟩ = some (.func (.func 30) #[] #[.pointer (some ⟨bn, 0, none⟩)]))
    (hs : w.heap[bs]? = some (.cells #[.bool false] 4 (0, 0))) (hn : w.heap[bn]? = some (.cells #[.int .i64 x] 3 (0, 0))) (d1 : bm ≠ b) (d2 : bm ≠ bs) (d3 : bs ≠ b) (d4 : bn ≠ b) (d5 : bn ≠ bs) (d6 : bn ≠ bm) (d7 : bf ≠ b) :
    Calls Try.prog 64 #[.pointer (some ⟨b, 5, none⟩), .func (.func 44) #[] #[.pointer (some ⟨bf, 0, none⟩), .pointer (some ⟨bs, 0, none⟩), .pointer (some ⟨bm, 0, none⟩)]] w fun e w' => e = .returned (.tuple #[]) ∧ MAt w' b ns (restOf 1 0 1) ∧
      w'.heap[bs]? = some (.cells #[.bool true] 4 (0, 0)) ∧ w'.heap[bn]? = some (.cells #[.int .i64 (wrap64 (x + 1))] 3 (0, 0)) ∧ Ch (fun k => k = b ∨ k = bs ∨ k = bn) w w' := by
  have hnot : ∀ (x : Bool) (w : World), (Op.unary .not (.bool x)).run Try.prog w = .ok (.bool (!x)) w := fun _ _ => rfl
  have h1 := h.setS 1
  have c1 := set_ch w b 6 (.int .i32 1)
  have ch1 : Ch (fun k => k = b ∨ k = bs ∨ k = bn) w (w.setCell ⟨b, 6, none⟩ (.int .i32 1)) := c1.mono (fun _ _ h => .inl h)
  have hm1 := c1.cell hm (by show ¬ bm = b; omega)
  have hf1 := c1.cell hf (by show ¬ bf = b; omega)
  have hs1 := c1.heap hs (by omega)
  have hn1 := c1.heap hn (by omega)
  clear c1
  go_enter_defers Try.func64, Try.ntmps64
  go_wp2_with fail
  refine (lock_free ⟨b, 6, none⟩ _ h.s (h.frozen 6)).mono ?_; rintro e w1 ⟨rfl, rfl⟩
  go_wp2_with fail
  refine (bool_load b 5 0 _ h1.d).mono ?_; rintro e w1 ⟨rfl, rfl⟩
  go_wp2_with fail
  refine (lit_o1 bn x b bm bf bs ns _ h1 hm1 hf1 hs1 hn1 d1 d2 d3 d4 d5 d6).mono ?_; rintro e w2 ⟨rfl, h2, hs2, hn2, ch2⟩
  have ch12 := ch1.trans ch2
  clear h1 hm1 hf1 hs1 ch1 ch2 hn1 hn
  go_wp2_with fail
  refine leaves_cons (f := 45) (args := #[.pointer (some ⟨b, 5, none⟩), .bool true]) (by simp) (by simp [go_sem]) ?_
  refine (store_deferred ⟨b, 5, none⟩ (.int .u32 0) .returning _ h2.d (h2.frozen 5)).mono ?_
  rintro e u' w'' ⟨rfl, rfl, rfl⟩
  have h3 := (MAt.drew h2).setD 1
  have c3 : Ch (fun k => k = b) w2 (w2.drew.setCell ⟨b, 5, none⟩ (.int .u32 1)) := Ch.setCell (S := fun k => k = b) (Ch.refl _ _).drew (p := ⟨b, 5, none⟩) (fun _ => rfl) _
  refine leaves_cons (f := 74) (args := #[.pointer (some ⟨b, 6, none⟩)]) (by simp [settle]) (by simp [go_sem]) ?_
  refine (unlock_deferred ⟨b, 6, none⟩ _ _ h3.s (h3.frozen 6)).mono ?_
  rintro e u' w'' ⟨rfl, rfl, rfl⟩
  have h4 := h3.setS 0
  have c4 := c3.setCell (p := ⟨b, 6, none⟩) (fun _ => rfl) (.int .i32 0)
  have hs4 := c4.heap hs2 (by omega)
  have hn4 := c4.heap hn2 (by omega)
  have ch4 := ch12.trans (c4.mono (T := fun k => k = b ∨ k = bs ∨ k = bn) (fun _ _ h => .inl h))
  simp [Leaves, settle, results, Try.results64]
  exact ⟨h4, hs4, hn4, ch4⟩

theorem do_o1 (bn : Nat) (x : Int) (b bm bf bs : Nat) (ns : List Int) (w : World) (h : MAt w b ns (restOf 0 0 0)) (hm : w.cell? ⟨bm, 0, none⟩ = some (.pointer (some ⟨b, 0, none⟩))) (hf : w.cell? ⟨bf, 0, none⟩ = some (.func (.func 30) #[] #[.pointer (some ⟨bn, 0, none⟩)]))
    (hs : w.heap[bs]? = some (.cells #[.bool false] 4 (0, 0))) (hn : w.heap[bn]? = some (.cells #[.int .i64 x] 3 (0, 0))) (d1 : bm ≠ b) (d2 : bm ≠ bs) (d3 : bs ≠ b) (d4 : bn ≠ b) (d5 : bn ≠ bs) (d6 : bn ≠ bm) (d7 : bf ≠ b) :
    Calls Try.prog 41 #[.pointer (some ⟨b, 5, none⟩), .func (.func 44) #[] #[.pointer (some ⟨bf, 0, none⟩), .pointer (some ⟨bs, 0, none⟩), .pointer (some ⟨bm, 0, none⟩)]] w fun e w' => e = .returned (.tuple #[]) ∧ MAt w' b ns (restOf 1 0 1) ∧
      w'.heap[bs]? = some (.cells #[.bool true] 4 (0, 0)) ∧ w'.heap[bn]? = some (.cells #[.int .i64 (wrap64 (x + 1))] 3 (0, 0)) ∧ Ch (fun k => k = b ∨ k = bs ∨ k = bn) w w' := by
  have hnot : ∀ (x : Bool) (w : World), (Op.unary .not (.bool x)).run Try.prog w = .ok (.bool (!x)) w := fun _ _ => rfl
  go_enter Try.func41, Try.ntmps41
  go_wp2_with fail
  refine (bool_load b 5 0 _ h.d).mono ?_; rintro e w1 ⟨rfl, rfl⟩
  go_wp2_with fail
  refine (slow_o1 bn x b bm bf bs ns _ h hm hf hs hn d1 d2 d3 d4 d5 d6 d7).mono ?_; rintro e w2 ⟨rfl, h2⟩
  have H2 := Lib.hid h2
  clear h2
  go_wp2_with fail
  go_end0
  exact ⟨rfl, H2.out⟩

set_option maxHeartbeats 1000000 in
theorem stop_o1 (bn : Nat) (x : Int) (b : Nat) (ns : List Int) (w : World) (h : MAt w b ns (restOf 0 0 0)) (hn : w.heap[bn]? = some (.cells #[.int .i64 x] 3 (0, 0))) (hbn : bn ≠ b) :
    Calls Try.prog 27 #[.pointer (some ⟨b, 0, none⟩), (.func (.func 30) #[] #[.pointer (some ⟨bn, 0, none⟩)])] w fun e w' => e = .returned (.bool true) ∧ MAt w' b ns (restOf 1 0 1) ∧ w'.heap[bn]? = some (.cells #[.int .i64 (wrap64 (x + 1))] 3 (0, 0)) ∧ Ch (fun k => k = b ∨ k = bn) w w' := by
  have hmf : ∀ (fn : Fn) (first cap : Array Value) (w : World), (Instr.makeFunc fn first cap).run Try.prog w = .ok (.func fn first cap) w := fun _ _ _ _ => rfl
  have hbl := block_lt h.2
  have hnl := block_lt hn
  have c3 : ∀ (x y z : Obj), Ch (fun _ => False) w (((w.alloc x).alloc y).alloc z) := fun x y z => (((Ch.refl _ _).alloc _).alloc _).alloc _
  go_enter Try.func27, Try.ntmps27
  go_wp2_with fail
  refine (do_o1 bn x b w.heap.size (w.heap.size + 1) (w.heap.size + 2) ns _ (MAt.keep (c3 _ _ _) h (fun h => h)) (by simp [go_sem]) (by simp [go_sem]) (alloc3_heap w _ _ _) ((c3 _ _ _).heap hn (fun h => h)) (by omega) (by omega) (by omega) (by omega) (by omega) (by omega) (by omega)).mono ?_
  rintro e w2 ⟨rfl, h2, hs2, hn2, ch2⟩
  have hsc : w2.cell? ⟨w.heap.size + 2, 0, none⟩ = some (.bool true) := by rw [cellH hs2]; rfl
  have chf := (c3 _ _ _).seq ch2 (fun k => k = b ∨ k = bn) (fun _ _ h => h.elim) (fun i hi h => by omega)
  have H2 := Lib.hid h2; have Chf := Lib.hid chf; have Hn2 := Lib.hid hn2
  clear h2 hs2 ch2 chf hn2 hn
  go_wp2_with fail
  go_ret
  exact ⟨rfl, H2.out, Hn2.out, Chf.out⟩

set_option maxRecDepth 100000 in
set_option maxHeartbeats 1000000 in
/-- The function literal in Stop. -/
theorem lit_nil (b bm bf bs : Nat) (ns : List Int) (w : World) (h : MAt w b ns (restOf 0 1 0)) (hm : w.cell? ⟨bm, 0, none⟩ = some (.pointer (some ⟨b, 0, none⟩))) (hf : w.cell? ⟨bf, 0, none⟩ = some .nilFunc)
    (hs : w.heap[bs]? = some (.cells #[.bool false] 4 (0, 0))) (d1 : bm ≠ b) (d2 : bm ≠ bs) (d3 : bs ≠ b) :
    Calls Try.prog 44 #[.pointer (some ⟨bf, 0, none⟩), .pointer (some ⟨bs, 0, none⟩), .pointer (some ⟨bm, 0, none⟩)] w fun e w' => e = .returned (.tuple #[]) ∧ MAt w' b ns (restOf 0 1 1) ∧
      w'.heap[bs]? = some (.cells #[.bool true] 4 (0, 0)) ∧ Ch (fun k => k = b ∨ k = bs) w w' := by
  have hsc : w.cell? ⟨bs, 0, none⟩ = some (.bool false) := by rw [cellH hs]; rfl
  have hne : ∀ w, (binOp .neq 1 .nilFunc .nilFunc).run Try.prog w = .ok (.bool false) w := fun _ => by kernel_rfl
  go_enter Try.func44, Try.ntmps44
  skip
  have ch1 : Ch (fun k => k = b ∨ k = bs) w w := Ch.refl _ _
  have h1 := h
  have hm1 := hm
  have hs1 := hs
  have hsc1 : World.cell? _ ⟨bs, 0, none⟩ = some (.bool false) := (cellH hs1 0).trans rfl
  have hsz1 := frozH hs1 0
  have hs2 := setH hs1 0 (.bool true)
  have h2 := MAt.keep (set_ch _ bs 0 (.bool true)) h1 (by omega)
  have hm2 := (set_ch _ bs 0 (.bool true)).cell hm1 (by show ¬ bm = bs; omega)
  have ch2 := ch1.setCell (p := ⟨bs, 0, none⟩) (fun _ => .inr (rfl)) (.bool true)
  have hs3 := (((Ch.refl (fun k => k = b) _).drew.setCell (p := ⟨b, 8, none⟩) (fun _ => rfl) (.int .u32 1))).heap hs2 (by omega)
  have h3 := (MAt.drew h2).setSp 1
  have ch3 := ch2.drew.setCell (p := ⟨b, 8, none⟩) (fun _ => .inl rfl) (.int .u32 1)
  have Hs3 := Lib.hid hs3; have H3 := Lib.hid h3; have Ch3 := Lib.hid ch3
  clear hs3 h3 ch3 ch2 ch1 hs2
  go_wp2_with fail
  refine (bool_store ⟨b, 8, none⟩ _ _ h2.sp (h2.frozen 8)).mono ?_; rintro e w2 ⟨rfl, rfl⟩
  go_wp2_with fail
  go_end0
  exact ⟨rfl, H3.out, Hs3.out, Ch3.out⟩

set_option maxRecDepth 100000 in
set_option maxHeartbeats 1600000 in
theorem slow_nil (b bm bf bs : Nat) (ns : List Int) (w : World) (h : MAt w b ns (restOf 0 0 0)) (hm : w.cell? ⟨bm, 0, none⟩ = some (.pointer (some ⟨b, 0, none⟩))) (hf : w.cell? ⟨bf, 0, none⟩ = some .nilFunc)
    (hs : w.heap[bs]? = some (.cells #[.bool false] 4 (0, 0))) (d1 : bm ≠ b) (d2 : bm ≠ bs) (d3 : bs ≠ b) (d7 : bf ≠ b) :
    Calls Try.prog 64 #[.pointer (some ⟨b, 5, none⟩), .func (.func 44) #[] #[.pointer (some ⟨bf, 0, none⟩), .pointer (some ⟨bs, 0, none⟩), .pointer (some ⟨bm, 0, none⟩)]] w fun e w' => e = .returned (.tuple #[]) ∧ MAt w' b ns (restOf 1 0 1) ∧
      w'.heap[bs]? = some (.cells #[.bool true] 4 (0, 0)) ∧ Ch (fun k => k = b ∨ k = bs) w w' := by
  have hnot : ∀ (x : Bool) (w : World), (Op.unary .not (.bool x)).run Try.prog w = .ok (.bool (!x)) w := fun _ _ => rfl
  have h1 := h.setS 1
  have c1 := set_ch w b 6 (.int .i32 1)
  have ch1 : Ch (fun k => k = b ∨ k = bs) w (w.setCell ⟨b, 6, none⟩ (.int .i32 1)) := c1.mono (fun _ _ h => .inl h)
  have hm1 := c1.cell hm (by show ¬ bm = b; omega)
  have hf1 := c1.cell hf (by show ¬ bf = b; omega)
  have hs1 := c1.heap hs (by omega)
  clear c1
  go_enter_defers Try.func64, Try.ntmps64
  go_wp2_with fail
  refine (lock_free ⟨b, 6, none⟩ _ h.s (h.frozen 6)).mono ?_; rintro e w1 ⟨rfl, rfl⟩
  go_wp2_with fail
  refine (bool_load b 5 0 _ h1.d).mono ?_; rintro e w1 ⟨rfl, rfl⟩
  go_wp2_with fail
  refine (lit_nil b bm bf bs ns _ h1 hm1 hf1 hs1 d1 d2 d3).mono ?_; rintro e w2 ⟨rfl, h2, hs2, ch2⟩
  have ch12 := ch1.trans ch2
  clear h1 hm1 hf1 hs1 ch1 ch2
  go_wp2_with fail
  refine leaves_cons (f := 45) (args := #[.pointer (some ⟨b, 5, none⟩), .bool true]) (by simp) (by simp [go_sem]) ?_
  refine (store_deferred ⟨b, 5, none⟩ (.int .u32 0) .returning _ h2.d (h2.frozen 5)).mono ?_
  rintro e u' w'' ⟨rfl, rfl, rfl⟩
  have h3 := (MAt.drew h2).setD 1
  have c3 : Ch (fun k => k = b) w2 (w2.drew.setCell ⟨b, 5, none⟩ (.int .u32 1)) := Ch.setCell (S := fun k => k = b) (Ch.refl _ _).drew (p := ⟨b, 5, none⟩) (fun _ => rfl) _
  refine leaves_cons (f := 74) (args := #[.pointer (some ⟨b, 6, none⟩)]) (by simp [settle]) (by simp [go_sem]) ?_
  refine (unlock_deferred ⟨b, 6, none⟩ _ _ h3.s (h3.frozen 6)).mono ?_
  rintro e u' w'' ⟨rfl, rfl, rfl⟩
  have h4 := h3.setS 0
  have c4 := c3.setCell (p := ⟨b, 6, none⟩) (fun _ => rfl) (.int .i32 0)
  have hs4 := c4.heap hs2 (by omega)
  have ch4 := ch12.trans (c4.mono (T := fun k => k = b ∨ k = bs) (fun _ _ h => .inl h))
  simp [Leaves, settle, results, Try.results64]
  exact ⟨h4, hs4, ch4⟩

theorem do_nil (b bm bf bs : Nat) (ns : List Int) (w : World) (h : MAt w b ns (restOf 0 0 0)) (hm : w.cell? ⟨bm, 0, none⟩ = some (.pointer (some ⟨b, 0, none⟩))) (hf : w.cell? ⟨bf, 0, none⟩ = some .nilFunc)
    (hs : w.heap[bs]? = some (.cells #[.bool false] 4 (0, 0))) (d1 : bm ≠ b) (d2 : bm ≠ bs) (d3 : bs ≠ b) (d7 : bf ≠ b) :
    Calls Try.prog 41 #[.pointer (some ⟨b, 5, none⟩), .func (.func 44) #[] #[.pointer (some ⟨bf, 0, none⟩), .pointer (some ⟨bs, 0, none⟩), .pointer (some ⟨bm, 0, none⟩)]] w fun e w' => e = .returned (.tuple #[]) ∧ MAt w' b ns (restOf 1 0 1) ∧
      w'.heap[bs]? = some (.cells #[.bool true] 4 (0, 0)) ∧ Ch (fun k => k = b ∨ k = bs) w w' := by
  have hnot : ∀ (x : Bool) (w : World), (Op.unary .not (.bool x)).run Try.prog w = .ok (.bool (!x)) w := fun _ _ => rfl
  go_enter Try.func41, Try.ntmps41
  go_wp2_with fail
  refine (bool_load b 5 0 _ h.d).mono ?_; rintro e w1 ⟨rfl, rfl⟩
  go_wp2_with fail
  refine (slow_nil b bm bf bs ns _ h hm hf hs d1 d2 d3 d7).mono ?_; rintro e w2 ⟨rfl, h2⟩
  have H2 := Lib.hid h2
  clear h2
  go_wp2_with fail
  go_end0
  exact ⟨rfl, H2.out⟩

set_option maxHeartbeats 1000000 in
theorem stop_nil (b : Nat) (ns : List Int) (w : World) (h : MAt w b ns (restOf 0 0 0)) :
    Calls Try.prog 27 #[.pointer (some ⟨b, 0, none⟩), .nilFunc] w fun e w' => e = .returned (.bool true) ∧ MAt w' b ns (restOf 1 0 1) ∧ Ch (fun k => k = b) w w' := by
  have hmf : ∀ (fn : Fn) (first cap : Array Value) (w : World), (Instr.makeFunc fn first cap).run Try.prog w = .ok (.func fn first cap) w := fun _ _ _ _ => rfl
  have hbl := block_lt h.2
  have c3 : ∀ (x y z : Obj), Ch (fun _ => False) w (((w.alloc x).alloc y).alloc z) := fun x y z => (((Ch.refl _ _).alloc _).alloc _).alloc _
  go_enter Try.func27, Try.ntmps27
  go_wp2_with fail
  refine (do_nil b w.heap.size (w.heap.size + 1) (w.heap.size + 2) ns _ (MAt.keep (c3 _ _ _) h (fun h => h)) (by simp [go_sem]) (by simp [go_sem]) (alloc3_heap w _ _ _) (by omega) (by omega) (by omega) (by omega)).mono ?_
  rintro e w2 ⟨rfl, h2, hs2, ch2⟩
  have hsc : w2.cell? ⟨w.heap.size + 2, 0, none⟩ = some (.bool true) := by rw [cellH hs2]; rfl
  have chf := (c3 _ _ _).seq ch2 (fun k => k = b) (fun _ _ h => h.elim) (fun i hi h => by omega)
  have H2 := Lib.hid h2; have Chf := Lib.hid chf
  clear h2 hs2 ch2 chf
  go_wp2_with fail
  go_ret
  exact ⟨rfl, H2.out, Chf.out⟩

end Go.Proofs.Ytlphhadomhdacaa
