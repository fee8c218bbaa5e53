/- Texts laid into one file: DiskA, Stp, StpIn, CRefDisk, Rd5A, DiskB, CLawDag, Hand, Rd5B, Rd5C. -/
import Derived.Test.YtjbkckhpoicaeaaDp06

set_option linter.unusedVariables false
set_option linter.unusedSimpArgs false
/- The program's disk: its rows, and its files: slices.Clone of bytes, do. -/
namespace Go.Proofs.Ytjbkckhpoicaeaa.Mir
open Go Go.RowKit
set_option linter.unusedVariables false
set_option linter.unusedSimpArgs false
set_option maxHeartbeats 2000000

abbrev uF (b : UInt8) : F := .v (.int .u8 (b.toNat : Nat))
def fY (l : List UInt8) : F := .s (l.map uF) l.length
/-- Files, as the map holds them. -/
abbrev Fs := List (Int × List UInt8)
def mF (l : Fs) : List (Value × D) := l.map fun p => (.int .i64 p.1, .f (fY p.2))
def fGet (l : Fs) (k : Int) : Option (List UInt8) := match l with
  | [] => none
  | p :: l => if k = p.1 then some p.2 else fGet l k
def fPut (k : Int) (b : List UInt8) : Fs → Fs
  | [] => [(k, b)]
  | p :: l => if k = p.1 then (k, b) :: l else p :: fPut k b l
def fDel (k : Int) : Fs → Fs
  | [] => []
  | p :: l => if k = p.1 then l else p :: fDel k l
def fDo (l : Fs) (k : Int) (b : List UInt8) : Fs := if b = [] then fDel k l else fPut k ((fGet l k).getD [] ++ b) l

theorem keyOk_int (k : Int) : keyOk Try.prog 3 (.int .i64 k) = true := by
  unfold keyOk
  rw [show Try.prog.underlying 3 = some (.int .i64) by kernel_rfl]
  rfl
theorem keyEq_int (a b : Int) : keyEq (.int .i64 a) (.int .i64 b) = some (decide (a = b)) := by
  show (if IntKind.i64 = IntKind.i64 then some (a == b) else none) = _
  rw [if_pos rfl]
  by_cases h : a = b <;> simp [h]
theorem findD_mF (k : Int) : ∀ l : Fs, findD (.int .i64 k) (mF l) = some ((fGet l k).map fun b => .f (fY b))
  | [] => rfl
  | p :: l => by
    have ih := findD_mF k l
    unfold mF at ih ⊢
    rw [List.map_cons, findD, keyEq_int, fGet]
    by_cases h : k = p.1
    · simp [h]
    · simp [h, ih]
theorem putD_mF (k : Int) (b : List UInt8) : ∀ l : Fs, putD (.int .i64 k) (.f (fY b)) (mF l) = mF (fPut k b l)
  | [] => rfl
  | p :: l => by
    have ih := putD_mF k b l
    unfold mF at ih ⊢
    rw [List.map_cons, putD, keyEq_int, fPut]
    by_cases h : k = p.1
    · simp [h]
    · simp [h, ih]
theorem dropD_mF (k : Int) : ∀ l : Fs, dropD (.int .i64 k) (mF l) = mF (fDel k l)
  | [] => rfl
  | p :: l => by
    have ih := dropD_mF k l
    unfold mF at ih ⊢
    rw [List.map_cons, dropD, keyEq_int, fDel]
    by_cases h : k = p.1
    · simp [h]
    · simp [h, ih]
/-- What a look-up answers. -/
def orN (o : Option (List UInt8)) : D := match o with
  | some b => .f (fY b)
  | none => .f (.v (.slice none 0 0))
theorem look_mF {H : List Row} {r : Nat} {k : Int} {l : Fs} (h : H[r]? = some (.map (mF l))) : lookS Try.prog H false 3 (.f (.v (.slice none 0 0))) (.mp r) (.f (.v (.int .i64 k))) = some (orN (fGet l k)) := by
  have hm : mapEs H (.mp r) = some (mF l) := by simp only [mapEs, h]
  unfold lookS
  simp only [hm, if_pos (keyOk_int k), findD_mF]
  cases fGet l k <;> rfl
theorem mdel_mF {H : List Row} {r : Nat} {k : Int} {l : Fs} (h : H[r]? = some (.map (mF l))) : mdelS Try.prog H 3 (.mp r) (.f (.v (.int .i64 k))) = some (H.set r (.map (mF (fDel k l)))) := by
  unfold mdelS
  simp only [if_pos (keyOk_int k), h, findD_mF, dropD_mF]
theorem mput_mF {H : List Row} {r q : Nat} {k : Int} {l : Fs} {b : List UInt8} {n : Nat} (h : H[r]? = some (.map (mF l))) (hq : H[q]? = some (.data 5 (b.map uF))) (hb : b.length = n + 1) :
    mputS Try.prog H 3 (.mp r) (.f (.v (.int .i64 k))) (.sl q 0 (n + 1)) = some ((H.set q (.froz 5 (b.map uF))).set r (.map (mF (fPut k b l)))) := by
  have hne : q ≠ r := by rintro rfl; rw [h] at hq; cases hq
  have hi : inf Try.prog 5 = some (1, 1, [.int .u8 0]) := by kernel_rfl
  have h1 : ¬ (n + 1 = 0) := by omega
  have h2 : 0 + (n + 1) * 1 ≤ (b.map uF).length := by rw [List.length_map]; omega
  have h3 : ((b.map uF).drop 0).take ((n + 1) * 1) = b.map uF := by rw [List.drop_zero, Nat.mul_one, ← hb, ← List.length_map (f := uF), List.take_length]
  have hf : freezeV Try.prog H (.sl q 0 (n + 1)) = some (.f (fY b), [(q, .froz 5 (b.map uF))]) := by
    simp only [freezeV, freeze1, hq, hi, if_neg h1, if_pos h2, h3, fY, hb]
  have hr : (applyUpd H [(q, .froz 5 (b.map uF))])[r]? = some (.map (mF l)) := by
    simp only [applyUpd]
    rw [List.getElem?_set_ne hne]; exact h
  unfold mputS
  simp only [if_pos (keyOk_int k), hf, hr, findD_mF, putD_mF]
  simp only [applyUpd]

theorem app_bytes {l m : List UInt8} {x : UInt8} : l.map uF ++ uF x :: m.map uF = (l ++ x :: m).map uF := by simp
theorem plain_bytes (l : List UInt8) : ∀ x ∈ l.map uF, PlainF x := fun x hx => by
  obtain ⟨n, _, rfl⟩ := List.mem_map.1 hx
  exact .v
theorem c_byte_Clone0 : Con Try.prog 50 [.f (.v (.slice none 0 0))] [] fun r H' => r = .f (.v (.slice none 0 0)) ∧ H' = [] := by
  refine Con.walk good fn_byte_Clone (by simp) ?_
  unfold s_byte_Clone
  simp only [argsE, List.length_cons, List.length_nil, Nat.reduceAdd]
  repeat' (first | (with_reducible first | refine Wa.h ?_ | refine Ws.h ?_ | refine Wb.h fun K hK => ?_ | (refine hK _ ?_; clear hK K)) | ((with_reducible refine kQ ?_ ?_); kernel_rfl) | ((with_reducible refine k1 ?_ ?_); rfl) | ((with_reducible refine k0 ?_ ?_); rfl) | ((with_reducible apply kB) <;> first | rfl | intro h) | ((with_reducible refine kM ?_ ?_); rfl) | (with_reducible refine Wt.h (fun h => ?_) (fun h => ?_)) <;> try (exfalso; omega) | (with_reducible refine Wu.h (fun h => ?_) (fun h => ?_)) <;> try simp only [h] | ((fail_if_success with_reducible refine Wz.h ?_); simp (disch := omega) only [↓LD, LU, LS, LT, loadA_rf, seval]) | ((with_reducible refine And.intro ?_ ?_); omega) | ((fail_if_success with_reducible refine Wz.h ?_); simp only [D.int, D.bool]))
  exact end1 rfl rfl (by kernel_rfl) .f ⟨rfl, rfl⟩
theorem c_byte_Clone (b : List UInt8) (n : Nat) (hb : b.length = n + 1) (hn : n + 1 ≤ 140737488355328) : Con Try.prog 50 [.f (fY b)] [] fun r H' => r = .sl 0 0 (n + 1) ∧ H' = [.data 5 (b.map uF)] := by
  refine Con.walk good fn_byte_Clone (by simp) ?_
  unfold s_byte_Clone fY
  simp only [argsE, List.length_cons, List.length_nil, Nat.reduceAdd, hb]
  repeat' (first | (with_reducible first | refine Wa.h ?_ | refine Ws.h ?_ | refine Wb.h fun K hK => ?_ | (refine hK _ ?_; clear hK K)) | ((with_reducible refine kQ ?_ ?_); kernel_rfl) | ((with_reducible refine k1 ?_ ?_); rfl) | ((with_reducible refine k0 ?_ ?_); rfl) | ((with_reducible apply kB) <;> first | rfl | intro h) | ((with_reducible refine kM ?_ ?_); rfl) | (with_reducible refine Wt.h (fun h => ?_) (fun h => ?_)) <;> try (exfalso; omega) | (with_reducible refine Wu.h (fun h => ?_) (fun h => ?_)) <;> try simp only [h] | ((fail_if_success with_reducible refine Wz.h ?_); simp (disch := omega) only [↓LD, LU, LS, LT, loadA_rf, seval]) | ((with_reducible refine And.intro ?_ ?_); omega) | ((fail_if_success with_reducible refine Wz.h ?_); simp only [D.int, D.bool]))
  exact endG rfl rfl (ef := ⟨.sl 0 0 (n + 1), [], [.data 5 (b.map uF)]⟩) (by kernel_rfl) ⟨rfl, rfl⟩

theorem end0t {n0 : Nat} {Q : D → List Row → Prop} {e : List (Nat × D)} {n : Nat} {H : List Row} {dr : List Nat} (hl : lowB n0 (H.take n0) = true) (q : Q (.tp []) (H.take n0)) : RetS n0 [] Q ⟨frm n e, H, dr⟩ :=
  .still (ds := []) rfl hl (Vw.tps .nil) q
/-- Files without bytes are none. -/
def FsOk (l : Fs) (B : Nat) : Prop := ∀ p ∈ l, p.2 ≠ [] ∧ p.2.length ≤ B
theorem FsOk.get {l : Fs} {B : Nat} (h : FsOk l B) {k : Int} {b : List UInt8} (hg : fGet l k = some b) : b ≠ [] ∧ b.length ≤ B := by
  induction l with
  | nil => cases hg
  | cons p l ih =>
    unfold fGet at hg
    split at hg
    · cases hg; exact h p (by simp)
    · exact ih (fun q hq => h q (by simp [hq])) hg
def wkD (k : Int) (b : List UInt8) : D := .ag [D.int k, .f (fY b)]
set_option maxRecDepth 100000 in
theorem c_disk_doG (l : Fs) (B : Nat) (hl : FsOk l B) (k : Int) (b : List UInt8) (hb : ((fGet l k).getD []).length + b.length ≤ 140737488355328) :
    Con Try.prog 57 [.mp 0, wkD k b] [.map (mF l)] fun r H' => r = .tp [] ∧ H' = [.map (mF (fDo l k b))] := by
  refine Con.walk good fn_disk_do (by simp) ?_
  unfold s_disk_do wkD
  simp only [argsE, List.length_cons, List.length_nil, Nat.reduceAdd]
  rcases b with _ | ⟨x, b⟩
  · repeat' (first | (with_reducible first | refine Wa.h ?_ | refine Ws.h ?_ | refine Wb.h fun K hK => ?_ | (refine hK _ ?_; clear hK K)) | ((with_reducible refine kQ ?_ ?_); kernel_rfl) | ((with_reducible refine k1 ?_ ?_); rfl) | ((with_reducible refine k0 ?_ ?_); rfl) | ((with_reducible apply kB) <;> first | rfl | intro h) | ((with_reducible refine kM ?_ ?_); rfl) | (with_reducible refine Wt.h (fun h => ?_) (fun h => ?_)) <;> try (exfalso; omega) | (with_reducible refine Wu.h (fun h => ?_) (fun h => ?_)) <;> try simp only [h] | ((fail_if_success with_reducible refine Wz.h ?_); simp (disch := omega) only [↓LD, LU, LS, LT, loadA_rf, seval, fY]) | ((with_reducible refine And.intro ?_ ?_); omega) | ((fail_if_success with_reducible refine Wz.h ?_); simp only [D.int, D.bool]))
    refine bind'_of (mdel_mF rfl) ?_
    repeat' (first | (with_reducible first | refine Wa.h ?_ | refine Ws.h ?_ | refine Wb.h fun K hK => ?_ | (refine hK _ ?_; clear hK K)) | ((with_reducible refine kQ ?_ ?_); kernel_rfl) | ((with_reducible refine k1 ?_ ?_); rfl) | ((with_reducible refine k0 ?_ ?_); rfl) | ((with_reducible apply kB) <;> first | rfl | intro h) | ((with_reducible refine kM ?_ ?_); rfl) | (with_reducible refine Wt.h (fun h => ?_) (fun h => ?_)) <;> try (exfalso; omega) | (with_reducible refine Wu.h (fun h => ?_) (fun h => ?_)) <;> try simp only [h] | ((fail_if_success with_reducible refine Wz.h ?_); simp (disch := omega) only [↓LD, LU, LS, LT, loadA_rf, seval]) | ((with_reducible refine And.intro ?_ ?_); omega) | ((fail_if_success with_reducible refine Wz.h ?_); simp only [D.int, D.bool]))
    exact end0t (by kernel_rfl) ⟨rfl, rfl⟩
  · simp only [List.length_cons] at hb
    cases hg : fGet l k with
    | none =>
      rw [hg] at hb
      simp only [Option.getD_none, List.length_nil, Nat.zero_add] at hb
      repeat' (first | (with_reducible first | refine Wa.h ?_ | refine Ws.h ?_ | refine Wb.h fun K hK => ?_ | (refine hK _ ?_; clear hK K)) | ((with_reducible refine kQ ?_ ?_); kernel_rfl) | ((with_reducible refine k1 ?_ ?_); rfl) | ((with_reducible refine k0 ?_ ?_); rfl) | ((with_reducible apply kB) <;> first | rfl | intro h) | ((with_reducible refine kM ?_ ?_); rfl) | (with_reducible refine Wt.h (fun h => ?_) (fun h => ?_)) <;> try (exfalso; omega) | (with_reducible refine Wu.h (fun h => ?_) (fun h => ?_)) <;> try simp only [h] | ((fail_if_success with_reducible refine Wz.h ?_); simp (disch := omega) only [↓LD, LU, LS, LT, loadA_rf, seval, fY]) | ((with_reducible refine And.intro ?_ ?_); omega) | ((fail_if_success with_reducible refine Wz.h ?_); simp only [D.int, D.bool]))
      refine bind'_of (look_mF rfl) ?_
      rw [hg]
      repeat' (first | (with_reducible first | refine Wa.h ?_ | refine Ws.h ?_ | refine Wb.h fun K hK => ?_ | (refine hK _ ?_; clear hK K)) | ((with_reducible refine kQ ?_ ?_); kernel_rfl) | ((with_reducible refine k1 ?_ ?_); rfl) | ((with_reducible refine k0 ?_ ?_); rfl) | ((with_reducible apply kB) <;> first | rfl | intro h) | ((with_reducible refine kM ?_ ?_); rfl) | (with_reducible refine Wt.h (fun h => ?_) (fun h => ?_)) <;> try (exfalso; omega) | (with_reducible refine Wu.h (fun h => ?_) (fun h => ?_)) <;> try simp only [h] | ((fail_if_success with_reducible refine Wz.h ?_); simp (disch := omega) only [↓LD, LU, LS, LT, loadA_rf, seval, orN]) | ((with_reducible refine And.intro ?_ ?_); omega) | ((fail_if_success with_reducible refine Wz.h ?_); simp only [D.int, D.bool]))
      refine callDr_peek c_byte_Clone0 (.cons .f .nil) ⟨.f .v, by simp⟩ ?_
      repeat' (first | (with_reducible first | refine Wa.h ?_ | refine Ws.h ?_ | refine Wb.h fun K hK => ?_ | (refine hK _ ?_; clear hK K)) | ((with_reducible refine kQ ?_ ?_); kernel_rfl) | ((with_reducible refine k1 ?_ ?_); rfl) | ((with_reducible refine k0 ?_ ?_); rfl) | ((with_reducible apply kB) <;> first | rfl | intro h) | ((with_reducible refine kM ?_ ?_); rfl) | (with_reducible refine Wt.h (fun h => ?_) (fun h => ?_)) <;> try (exfalso; omega) | (with_reducible refine Wu.h (fun h => ?_) (fun h => ?_)) <;> try simp only [h] | ((fail_if_success with_reducible refine Wz.h ?_); simp (disch := omega) only [↓LD, LU, LS, LT, loadA_rf, seval, List.append_nil, List.map_nil]) | ((with_reducible refine And.intro ?_ ?_); omega) | ((fail_if_success with_reducible refine Wz.h ?_); simp only [D.int, D.bool]))
      refine bind'_of (mput_mF (b := x :: b) rfl rfl rfl) ?_
      repeat' (first | (with_reducible first | refine Wa.h ?_ | refine Ws.h ?_ | refine Wb.h fun K hK => ?_ | (refine hK _ ?_; clear hK K)) | ((with_reducible refine kQ ?_ ?_); kernel_rfl) | ((with_reducible refine k1 ?_ ?_); rfl) | ((with_reducible refine k0 ?_ ?_); rfl) | ((with_reducible apply kB) <;> first | rfl | intro h) | ((with_reducible refine kM ?_ ?_); rfl) | (with_reducible refine Wt.h (fun h => ?_) (fun h => ?_)) <;> try (exfalso; omega) | (with_reducible refine Wu.h (fun h => ?_) (fun h => ?_)) <;> try simp only [h] | ((fail_if_success with_reducible refine Wz.h ?_); simp (disch := omega) only [↓LD, LU, LS, LT, loadA_rf, seval]) | ((with_reducible refine And.intro ?_ ?_); omega) | ((fail_if_success with_reducible refine Wz.h ?_); simp only [D.int, D.bool]))
      exact end0t (by kernel_rfl) ⟨rfl, by simp [fDo, hg]⟩
    | some y =>
      rw [hg] at hb
      simp only [Option.getD_some] at hb
      obtain ⟨h1, h2⟩ := hl.get hg
      obtain ⟨n, hn⟩ : ∃ n, y.length = n + 1 := by
        cases y with
        | nil => exact absurd rfl h1
        | cons z y => exact ⟨y.length, rfl⟩
      repeat' (first | (with_reducible first | refine Wa.h ?_ | refine Ws.h ?_ | refine Wb.h fun K hK => ?_ | (refine hK _ ?_; clear hK K)) | ((with_reducible refine kQ ?_ ?_); kernel_rfl) | ((with_reducible refine k1 ?_ ?_); rfl) | ((with_reducible refine k0 ?_ ?_); rfl) | ((with_reducible apply kB) <;> first | rfl | intro h) | ((with_reducible refine kM ?_ ?_); rfl) | (with_reducible refine Wt.h (fun h => ?_) (fun h => ?_)) <;> try (exfalso; omega) | (with_reducible refine Wu.h (fun h => ?_) (fun h => ?_)) <;> try simp only [h] | ((fail_if_success with_reducible refine Wz.h ?_); simp (disch := omega) only [↓LD, LU, LS, LT, loadA_rf, seval, fY]) | ((with_reducible refine And.intro ?_ ?_); omega) | ((fail_if_success with_reducible refine Wz.h ?_); simp only [D.int, D.bool]))
      refine bind'_of (look_mF rfl) ?_
      rw [hg]
      repeat' (first | (with_reducible first | refine Wa.h ?_ | refine Ws.h ?_ | refine Wb.h fun K hK => ?_ | (refine hK _ ?_; clear hK K)) | ((with_reducible refine kQ ?_ ?_); kernel_rfl) | ((with_reducible refine k1 ?_ ?_); rfl) | ((with_reducible refine k0 ?_ ?_); rfl) | ((with_reducible apply kB) <;> first | rfl | intro h) | ((with_reducible refine kM ?_ ?_); rfl) | (with_reducible refine Wt.h (fun h => ?_) (fun h => ?_)) <;> try (exfalso; omega) | (with_reducible refine Wu.h (fun h => ?_) (fun h => ?_)) <;> try simp only [h] | ((fail_if_success with_reducible refine Wz.h ?_); simp (disch := omega) only [↓LD, LU, LS, LT, loadA_rf, seval, orN]) | ((with_reducible refine And.intro ?_ ?_); omega) | ((fail_if_success with_reducible refine Wz.h ?_); simp only [D.int, D.bool]))
      refine callDr_peek (c_byte_Clone y n hn (by omega)) (.cons .f .nil) ⟨.sl, by intro r hr; rw [List.mem_singleton.1 hr]; exact plain_bytes y⟩ ?_
      repeat' (first | (with_reducible first | refine Wa.h ?_ | refine Ws.h ?_ | refine Wb.h fun K hK => ?_ | (refine hK _ ?_; clear hK K)) | ((with_reducible refine kQ ?_ ?_); kernel_rfl) | ((with_reducible refine k1 ?_ ?_); rfl) | ((with_reducible refine k0 ?_ ?_); rfl) | ((with_reducible apply kB) <;> first | rfl | intro h) | ((with_reducible refine kM ?_ ?_); rfl) | (with_reducible refine Wt.h (fun h => ?_) (fun h => ?_)) <;> try (exfalso; omega) | (with_reducible refine Wu.h (fun h => ?_) (fun h => ?_)) <;> try simp only [h] | ((fail_if_success with_reducible refine Wz.h ?_); simp (disch := omega) only [↓LD, LU, LS, LT, loadA_rf, seval, List.append_nil, app_bytes]) | ((with_reducible refine And.intro ?_ ?_); omega) | ((fail_if_success with_reducible refine Wz.h ?_); simp only [D.int, D.bool]))
      refine bind'_of (mput_mF (b := y ++ x :: b) (n := n + 1 + b.length) rfl rfl (by simp [hn]; omega)) ?_
      repeat' (first | (with_reducible first | refine Wa.h ?_ | refine Ws.h ?_ | refine Wb.h fun K hK => ?_ | (refine hK _ ?_; clear hK K)) | ((with_reducible refine kQ ?_ ?_); kernel_rfl) | ((with_reducible refine k1 ?_ ?_); rfl) | ((with_reducible refine k0 ?_ ?_); rfl) | ((with_reducible apply kB) <;> first | rfl | intro h) | ((with_reducible refine kM ?_ ?_); rfl) | (with_reducible refine Wt.h (fun h => ?_) (fun h => ?_)) <;> try (exfalso; omega) | (with_reducible refine Wu.h (fun h => ?_) (fun h => ?_)) <;> try simp only [h] | ((fail_if_success with_reducible refine Wz.h ?_); simp (disch := omega) only [↓LD, LU, LS, LT, loadA_rf, seval]) | ((with_reducible refine And.intro ?_ ?_); omega) | ((fail_if_success with_reducible refine Wz.h ?_); simp only [D.int, D.bool]))
      exact end0t (by kernel_rfl) ⟨rfl, by simp [fDo, hg]⟩
theorem FsOk.room {l : Fs} {B : Nat} (h : FsOk l B) (hB : B ≤ 1000000000) {k : Int} {b : List UInt8} (hb : b.length ≤ 1000000000) : ((fGet l k).getD []).length + b.length ≤ 140737488355328 := by
  cases hg : fGet l k with
  | none => simp; omega
  | some y => have := (h.get hg).2; simp; omega
theorem c_disk_do (l : Fs) (B : Nat) (hl : FsOk l B) (hB : B ≤ 1000000000) (k : Int) (b : List UInt8) (hb : b.length ≤ 1000000000) :
    Con Try.prog 57 [.mp 0, wkD k b] [.map (mF l)] fun r H' => r = .tp [] ∧ H' = [.map (mF (fDo l k b))] := c_disk_doG l B hl k b (hl.room hB hb)
end Go.Proofs.Ytjbkckhpoicaeaa.Mir

/- Steps (chapter 5's laws), as the machine holds them. -/
namespace Go.Proofs.Ytjbkckhpoicaeaa.Mir
open Go Go.RowKit

/-- A step, raw. -/
structure Stp where
  what : Int
  file : Int
  n : Int
  cut : Int
  b : List UInt8
  deriving Inhabited
def Stp.cs (x : Stp) : List F := [iF x.what, iF x.file, iF x.n, iF x.cut, fY x.b]
theorem Stp.cs_len (x : Stp) : x.cs.length = 5 := rfl
def fSt (l : List Stp) : F := .s (l.flatMap Stp.cs) l.length
theorem st_at0 {l : List Stp} {k : Nat} (hk : k < l.length) : (l.flatMap Stp.cs)[k * 5]? = some (iF (gt l k).what) := flat_at (j := 0) Stp.cs_len hk (by omega)
theorem st_at1 {l : List Stp} {k : Nat} (hk : k < l.length) : (l.flatMap Stp.cs)[k * 5 + 1]? = some (iF (gt l k).file) := flat_at (j := 1) Stp.cs_len hk (by omega)
theorem st_at2 {l : List Stp} {k : Nat} (hk : k < l.length) : (l.flatMap Stp.cs)[k * 5 + 2]? = some (iF (gt l k).n) := flat_at (j := 2) Stp.cs_len hk (by omega)
theorem st_at3 {l : List Stp} {k : Nat} (hk : k < l.length) : (l.flatMap Stp.cs)[k * 5 + 3]? = some (iF (gt l k).cut) := flat_at (j := 3) Stp.cs_len hk (by omega)
theorem st_at4 {l : List Stp} {k : Nat} (hk : k < l.length) : (l.flatMap Stp.cs)[k * 5 + 4]? = some (fY (gt l k).b) := flat_at (j := 4) Stp.cs_len hk (by omega)
end Go.Proofs.Ytjbkckhpoicaeaa.Mir

/- Steps (chapter 5's laws) that came in, opened. -/
namespace Go.Proofs.Ytjbkckhpoicaeaa
open Go Go.RowKit

abbrev StpIn := Int × Int × Int × Int × Option Addr × Nat × List UInt8
def stpV (x : StpIn) : List Value := [.int .i64 x.1, .int .i64 x.2.1, .int .i64 x.2.2.1, .int .i64 x.2.2.2.1, .slice x.2.2.2.2.1 x.2.2.2.2.2.2.length x.2.2.2.2.2.1]
def stpOk (W : World) (x : StpIn) : Prop := InS byteCell (fun _ => True) 1 W x.2.2.2.2.1 x.2.2.2.2.2.1 x.2.2.2.2.2.2 ∧ x.2.2.2.2.2.2.length ≤ 1048576
theorem reader_stp (W : World) : ReaderU Try.prog W 43 stpV (stpOk W) :=
  ReaderU.map (reader_structU Try.underlying43 (by kernel_rfl) (freaderU_cons (m := 1) rfl (by kernel_rfl) (reader_int Try.underlying3).up
    (freaderU_cons (m := 1) rfl (by kernel_rfl) (reader_int Try.underlying3).up (freaderU_cons (m := 1) rfl (by kernel_rfl) (reader_int Try.underlying3).up (freaderU_cons (m := 1) rfl (by kernel_rfl) (reader_int Try.underlying3).up
    (freaderU_cons (m := 1) rfl (by kernel_rfl) (reader_sliceU (n := 1) (B := 1) Try.underlying41 (by kernel_rfl) (by kernel_rfl) (fun _ => rfl) (reader_byte Try.underlying5).up) (freaderU_nil _)))))))
    (fun x => (x.1, x.2.1, x.2.2.1, x.2.2.2.1, x.2.2.2.2.1)) (fun _ _ => rfl) (fun _ h => h.2.2.2.2.1)
theorem open_stps {H : Type} {enc : TypeId × Value → H} {W : World} {ts : List TypeId} {ds : List (DataW H)} (hsz : (DataW.weightsEach Try.prog ts ds).all (· ≤ reachBytes) = true) {d : DataW H} {ps : List MemPlace} (j : Nat) (htj : ts[j]? = some 37) (hdj : ds[j]? = some d) (hu : Rows.uptoBulk d ≤ 1048576)
    {a : Option Addr} {len cap : Nat} (h : DataW.Trod enc Try.prog W 0 (fun _ => true) true 37 (.slice a len cap) d ps) : ∃ xs : List StpIn, xs.length = len ∧ InS stpV (stpOk W) 56 W a cap xs := by
  obtain ⟨xs, h1, h2, _⟩ := open_slice_argU (n := 5) (B := 56) (f := stpV) hsz j htj hdj hu Try.underlying37 (by kernel_rfl) (by kernel_rfl) (fun _ => rfl) (reader_stp W) h
  exact ⟨xs, h1, h2⟩
def stpD (x : StpIn) : Mir.Stp := ⟨x.1, x.2.1, x.2.2.1, x.2.2.2.1, x.2.2.2.2.2.2⟩
theorem Mir.rf_bs {W : World} {A : Nat → Prop} (hA : ∀ b, ¬ A b) {a : Option Addr} {c : Nat} {xs : List UInt8} (h : InS byteCell (fun _ => True) 1 W a c xs) : Mir.RF W A (Mir.fY xs) (.slice a xs.length c) := by
  have h1 := Mir.rf_in (A := A) (g := fun b => [Mir.uF b]) h hA fun x _ => .cons (.v rfl) .nil
  have e : ∀ l : List UInt8, l.flatMap (fun b => [Mir.uF b]) = l.map Mir.uF := fun l => by
    induction l with
    | nil => rfl
    | cons x l ih => rw [List.flatMap_cons, ih]; rfl
  rw [e] at h1
  exact h1
theorem rf_stps {W : World} {A : Nat → Prop} (hA : ∀ b, ¬ A b) {a : Option Addr} {c : Nat} {xs : List StpIn} (h : InS stpV (stpOk W) 56 W a c xs) : Mir.RF W A (Mir.fSt (xs.map stpD)) (.slice a xs.length c) := by
  have h1 := Mir.rf_in (A := A) (g := fun x => Mir.Stp.cs (stpD x)) h hA fun x hx => .cons (.v rfl) (.cons (.v rfl) (.cons (.v rfl) (.cons (.v rfl) (.cons (Mir.rf_bs hA hx.1) .nil))))
  have e : Mir.fSt (xs.map stpD) = .s (xs.flatMap fun x => Mir.Stp.cs (stpD x)) xs.length := by rw [Mir.fSt, List.flatMap_map, List.length_map]
  rw [e]; exact h1
theorem stp_len {W : World} {a : Option Addr} {c : Nat} {xs : List StpIn} (h : InS stpV (stpOk W) 56 W a c xs) : ∀ x ∈ xs.map stpD, x.b.length ≤ 1048576 := by
  intro y hy
  obtain ⟨x, hx, rfl⟩ := List.mem_map.1 hy
  exact (h.ok x hx).2
end Go.Proofs.Ytjbkckhpoicaeaa

/- Functions of the program, told without it. -/
namespace Go.Proofs.Ytjbkckhpoicaeaa.Mir
open Go Go.RowKit

/-- cutover.cutoverref5.NewDisk -/
def s_rd_New : SCode :=
  (.seq (.ops [.a 0 (.mv (.c (.f (.v (.pointer none)))))]) (.seq (.ops [.a 1 (.bld [jN, jN, jI, jF, jI] [(2, 1, (kI (-1)))]), .a 2 (.box 57 (.t 1)), .a 0
 (.mv (.t 2))]) .ret))
theorem fn_rd_New : Fn Try.prog 21 3 [.t 0] s_rd_New := .of Try.func21 (by kernel_rfl)

/-- cutover.cutoverref5.turn -/
def s_rd_turn : SCode :=
  (.seq (.ops [.a 3 (.box 87 (.t 1)), .a 4 (.mv kN)]) (.seq (.ops (ap [.a 6 (.bsl 41 1 0 [] []), .a 7 (.mv (.t 0)), .a 8 (.app 41 1 24 (.t 6) (.t 7))]
 [.a 5 (.mv (.t 8))])) (.seq (.block 0 (.loop (.seq (.seq (.ops [.a 9 (.mv (.t 5)), .a 10 (.slen (.t 9)), .a 11 (.off 0 (.t 3)), .a 12 (.load1 (.t 11)),
 .a 13 (.bin .leq (.t 10) (.t 12))]) (.cond (.t 13) .skip (.exit 0))) (.block 1 (.ops (ap [.a 14 (.mv (.t 5)), .a 15 (.bsl 41 1 1 [jN] [(0, kN)]), .a 16
 (.app 41 1 24 (.t 14) (.t 15))] [.a 5 (.mv (.t 16))])))))) (.seq (.seq (.ops [.a 17 (.off 1 (.t 3)), .a 18 (.load1 (.t 17))]) (.cond (.t 18) (.ops [.a
 19 (.mv (.t 5)), .a 20 (.off 0 (.t 3)), .a 21 (.load1 (.t 20)), .a 22 (.idx 1 (.t 19) (.t 21)), .n (.store 1 (.t 22) kN)]) (.drw [.a 23 (.mv (.t 5)),
 .a 24 (.off 0 (.t 3)), .a 25 (.load1 (.t 24)), .a 26 (.bsl 5 1 0 [] []), .a 27 (.mv (.t 5)), .a 28 (.off 0 (.t 3)), .a 29 (.load1 (.t 28)), .a 30 (.idx
 1 (.t 27) (.t 29)), .a 31 (.load1 (.t 30)), .a 32 (.app 5 1 1 (.t 26) (.t 31)), .a 33 (.off 2 (.t 3)), .a 34 (.load1 (.t 33)), .a 35 (.app 5 1 1 (.t
 32) (.t 34)), .a 36 (.idx 1 (.t 23) (.t 25)), .n (.store 1 (.t 36) (.t 35))] [0, 0, 2, 0, 0, 0, 32, 112, 240, 504, 0, 1024, 4088, 8191, 16383]))) (.seq
 (.ops [.a 37 (.mv (.t 5)), .a 4 (.mv (.t 37))]) .ret)))))
theorem fn_rd_turn : Fn Try.prog 59 38 [.t 4] s_rd_turn := .of Try.func59 (by kernel_rfl)

/-- (*cutover.cutoverref5.Disk).Now -/
def s_rd_Now : SCode :=
  (.seq (.ops [.a 2 (.mv kN)]) (.seq (.ops [.a 5 (.mv (.t 0)), .a 6 (.nilc (.t 5)), .a 7 (.off 0 (.t 6)), .a 8 (.load1 (.t 7)), .a 3 (.mv (.t 8))]) (.seq
 (.seq (.ops [.a 4 (.mv (kI 0))]) (.block 0 (.loop (.seq (.seq (.ops [.a 9 (.mv (.t 4)), .a 10 (.mv (.t 0)), .a 11 (.nilc (.t 10)), .a 12 (.off 1 (.t
 11)), .a 13 (.load1 (.t 12)), .a 14 (.slen (.t 13)), .a 15 (.bin .lss (.t 9) (.t 14))]) (.cond (.t 15) .skip (.exit 0))) (.seq (.block 1 (.ops (ap [.a
 18 (.mv (.t 3)), .a 19 (.mv (.t 0)), .a 20 (.nilc (.t 19)), .a 21 (.off 1 (.t 20)), .a 22 (.load1 (.t 21)), .a 23 (.mv (.t 4)), .a 24 (.idx 3 (.t 22)
 (.t 23)), .a 25 (.loadA 3 (.t 24)), .a 26 (.call (kC 59) [(.t 18), (.t 25)])] [.a 3 (.mv (.t 26))]))) (.ops [.a 16 (.mv (.t 4)), .a 17 (.bin .add (.t
 16) (kI 1)), .a 4 (.mv (.t 17))])))))) (.seq (.ops [.a 27 (.mv (.t 3)), .a 2 (.mv (.t 27))]) .ret))))
theorem fn_rd_Now : Fn Try.prog 55 28 [.t 2] s_rd_Now := .of Try.func55 (by kernel_rfl)

/-- (*cutover.cutoverref5.Disk).works -/
def s_rd_works : SCode :=
  (.seq (.ops [.a 2 (.mv kF)]) (.seq (.seq (.ops [.a 3 (.mv (.t 0)), .a 4 (.nilc (.t 3)), .a 5 (.off 3 (.t 4)), .a 6 (.load1 (.t 5))]) (.cond (.t 6)
 (.seq (.ops [.a 2 (.mv kF)]) .ret) .skip)) (.seq (.seq (.ops [.a 7 (.mv (.t 0)), .a 8 (.nilc (.t 7)), .a 9 (.off 2 (.t 8)), .a 10 (.load1 (.t 9)), .a
 11 (.bin .eql (.t 10) (kI 0))]) (.cond (.t 11) (.seq (.ops [.a 12 (.mv (.t 0)), .a 13 (.nilc (.t 12)), .a 14 (.off 3 (.t 13)), .n (.store 1 (.t 14)
 kT)]) (.seq (.ops [.a 2 (.mv kF)]) .ret)) .skip)) (.seq (.seq (.ops [.a 15 (.mv (.t 0)), .a 16 (.nilc (.t 15)), .a 17 (.off 2 (.t 16)), .a 18 (.load1
 (.t 17)), .a 19 (.bin .gtr (.t 18) (kI 0))]) (.cond (.t 19) (.ops [.a 20 (.mv (.t 0)), .a 21 (.nilc (.t 20)), .a 22 (.off 2 (.t 21)), .a 23 (.load1 (.t
 22)), .a 24 (.bin .sub (.t 23) (kI 1)), .a 25 (.nilc (.t 20)), .a 26 (.off 2 (.t 25)), .n (.store 1 (.t 26) (.t 24))]) .skip)) (.seq (.ops [.a 27 (.mv
 (.t 0)), .a 28 (.nilc (.t 27)), .a 29 (.off 4 (.t 28)), .a 30 (.load1 (.t 29)), .a 31 (.bin .add (.t 30) (kI 1)), .a 32 (.nilc (.t 27)), .a 33 (.off 4
 (.t 32)), .n (.store 1 (.t 33) (.t 31))]) (.seq (.ops [.a 2 (.mv kT)]) .ret))))))
theorem fn_rd_works : Fn Try.prog 54 34 [.t 2] s_rd_works := .of Try.func54 (by kernel_rfl)

/-- (*cutover.cutoverref5.Disk).Append -/
def s_rd_Append : SCode :=
  (.seq (.ops [.a 6 (.mv (kI 0))]) (.seq (.seq (.ops [.a 7 (.mv (.t 1)), .a 8 (.bin .lss (.t 7) (kI 0))]) (.cond (.t 8) (.seq (.ops [.a 6 (.mv (kI 1))])
 .ret) .skip)) (.seq (.seq (.ops (ap [.a 9 (.mv (.t 0)), .a 10 (.call (kC 54) [(.t 9)])] [.a 11 (.unot (.t 10))])) (.cond (.t 11) (.seq (.ops [.a 6 (.mv
 (kI 14))]) .ret) .skip)) (.seq (.seq (.ops [.a 12 (.mv (.t 2)), .a 13 (.slen (.t 12)), .a 14 (.bin .gtr (.t 13) (kI 0))]) (.cond (.t 14) (.ops (ap [.a
 15 (.mv (.t 0)), .a 16 (.bsl 87 3 0 [] []), .a 17 (.mv (.t 0)), .a 18 (.nilc (.t 17)), .a 19 (.off 1 (.t 18)), .a 20 (.load1 (.t 19)), .a 21 (.app 87 3
 40 (.t 16) (.t 20))] (ap [.a 22 (.mv (.t 1)), .a 23 (.bsl 5 1 0 [] []), .a 24 (.mv (.t 2)), .a 25 (.app 5 1 1 (.t 23) (.t 24))] (ap [.a 26 (.bld [jI,
 jF, jN] [(0, 1, (.t 22)), (2, 1, (.t 25))]), .a 27 (.bsl 87 3 1 [jI, jF, jN] [(0, (.t 26))]), .a 28 (.app 87 3 40 (.t 21) (.t 27))] [.a 29 (.nilc (.t
 15)), .a 30 (.off 1 (.t 29)), .n (.store 1 (.t 30) (.t 28))])))) .skip)) (.seq (.ops [.a 6 (.mv (kI 0))]) .ret)))))
theorem fn_rd_Append : Fn Try.prog 28 31 [.t 6] s_rd_Append := .of Try.func28 (by kernel_rfl)

/-- (*cutover.cutoverref5.Disk).Remove -/
def s_rd_Remove : SCode :=
  (.seq (.ops [.a 4 (.mv (kI 0))]) (.seq (.seq (.ops [.a 5 (.mv (.t 1)), .a 6 (.bin .lss (.t 5) (kI 0))]) (.cond (.t 6) (.seq (.ops [.a 4 (.mv (kI 1))])
 .ret) .skip)) (.seq (.seq (.ops (ap [.a 7 (.mv (.t 0)), .a 8 (.call (kC 54) [(.t 7)])] [.a 9 (.unot (.t 8))])) (.cond (.t 9) (.seq (.ops [.a 4 (.mv (kI
 14))]) .ret) .skip)) (.seq (.seq (.ops (ap [.a 10 (.mv (.t 0)), .a 11 (.mv (.t 1)), .a 12 (.call (kC 33) [(.t 10), (.t 11)])] [.a 13 (.slen (.t 12)),
 .a 14 (.bin .gtr (.t 13) (kI 0))])) (.cond (.t 14) (.ops (ap [.a 15 (.mv (.t 0)), .a 16 (.bsl 87 3 0 [] []), .a 17 (.mv (.t 0)), .a 18 (.nilc (.t 17)),
 .a 19 (.off 1 (.t 18)), .a 20 (.load1 (.t 19)), .a 21 (.app 87 3 40 (.t 16) (.t 20))] (ap [.a 22 (.mv (.t 1)), .a 23 (.bld [jI, jF, jN] [(0, 1, (.t
 22)), (1, 1, kT)]), .a 24 (.bsl 87 3 1 [jI, jF, jN] [(0, (.t 23))]), .a 25 (.app 87 3 40 (.t 21) (.t 24))] [.a 26 (.nilc (.t 15)), .a 27 (.off 1 (.t
 26)), .n (.store 1 (.t 27) (.t 25))]))) .skip)) (.seq (.ops [.a 4 (.mv (kI 0))]) .ret)))))
theorem fn_rd_Remove : Fn Try.prog 22 28 [.t 4] s_rd_Remove := .of Try.func22 (by kernel_rfl)

/-- (*cutover.cutoverref5.Disk).Sync -/
def s_rd_Sync : SCode :=
  (.seq (.ops [.a 2 (.mv (kI 0))]) (.seq (.seq (.ops (ap [.a 3 (.mv (.t 0)), .a 4 (.call (kC 54) [(.t 3)])] [.a 5 (.unot (.t 4))])) (.cond (.t 5) (.seq
 (.ops [.a 2 (.mv (kI 14))]) .ret) .skip)) (.seq (.ops (ap [.a 6 (.mv (.t 0)), .a 7 (.mv (.t 0)), .a 8 (.call (kC 55) [(.t 7)])] [.a 9 (.nilc (.t 6)),
 .a 10 (.off 0 (.t 9)), .n (.store 1 (.t 10) (.t 8))])) (.seq (.ops [.a 11 (.mv (.t 0)), .a 12 (.nilc (.t 11)), .a 13 (.off 1 (.t 12)), .n (.store 1 (.t
 13) kN)]) (.seq (.ops [.a 2 (.mv (kI 0))]) .ret)))))
theorem fn_rd_Sync : Fn Try.prog 23 14 [.t 2] s_rd_Sync := .of Try.func23 (by kernel_rfl)

/-- (*cutover.cutoverref5.Disk).Read -/
def s_rd_Read : SCode :=
  (.seq (.ops [.a 4 (.mv kN)]) (.seq (.ops (ap [.a 6 (.mv (.t 0)), .a 7 (.call (kC 55) [(.t 6)])] [.a 5 (.mv (.t 7))])) (.seq (.seq (.ops (ap [.a 8 (.mv
 (.t 0)), .a 9 (.nilc (.t 8)), .a 10 (.off 3 (.t 9)), .a 11 (.load1 (.t 10)), .a 12 (.mv (.t 11)), .g (some 13) (.mv (.t 1)) 12 false] (ap [.g (some 14)
 (.bin .lss (.t 13) (kI 0)) 12 false] (ap [.a 15 (.pick (.t 12) kT (.t 14)), .a 16 (.mv (.t 15)), .g (some 17) (.mv (.t 1)) 16 false] (ap [.g (some 18)
 (.mv (.t 5)) 16 false, .g (some 19) (.slen (.t 18)) 16 false, .g (some 20) (.bin .geq (.t 17) (.t 19)) 16 false] [.a 21 (.pick (.t 16) kT (.t
 20))]))))) (.cond (.t 21) (.seq (.ops [.a 4 (.mv kN)]) .ret) .skip)) (.seq (.ops [.a 22 (.mv (.t 5)), .a 23 (.mv (.t 1)), .a 24 (.idx 1 (.t 22) (.t
 23)), .a 25 (.load1 (.t 24)), .a 4 (.mv (.t 25))]) .ret))))
theorem fn_rd_Read : Fn Try.prog 33 26 [.t 4] s_rd_Read := .of Try.func33 (by kernel_rfl)

/-- (*cutover.cutoverref5.Disk).Files -/
def s_rd_Files : SCode :=
  (.seq (.ops [.a 2 (.mv kN)]) (.seq (.ops [.a 3 (.mv kN)]) (.seq (.ops (ap [.a 6 (.mv (.t 0)), .a 7 (.call (kC 55) [(.t 6)])] [.a 4 (.mv (.t 7))]))
 (.seq (.seq (.ops [.a 5 (.mv (kI 0))]) (.block 0 (.loop (.seq (.seq (.ops (ap [.a 8 (.mv (.t 5)), .a 9 (.mv (.t 4)), .a 10 (.slen (.t 9)), .a 11 (.bin
 .lss (.t 8) (.t 10))] (ap [.a 12 (.mv (.t 11)), .g (some 13) (.mv (.t 0)) 12 true] [.g (some 14) (.nilc (.t 13)) 12 true, .g (some 15) (.off 3 (.t 14))
 12 true, .g (some 16) (.load1 (.t 15)) 12 true, .g (some 17) (.unot (.t 16)) 12 true, .a 18 (.pick (.t 12) (.t 17) kF)]))) (.cond (.t 18) .skip (.exit
 0))) (.seq (.block 1 (.seq (.ops [.a 21 (.mv (.t 4)), .a 22 (.mv (.t 5)), .a 23 (.idx 1 (.t 21) (.t 22)), .a 24 (.load1 (.t 23)), .a 25 (.slen (.t
 24)), .a 26 (.bin .gtr (.t 25) (kI 0))]) (.cond (.t 26) (.ops (ap [.a 27 (.mv (.t 3)), .a 28 (.mv (.t 5)), .a 29 (.bsl 3 1 1 [jI] [(0, (.t 28))]), .a
 30 (.app 3 1 8 (.t 27) (.t 29))] [.a 3 (.mv (.t 30))])) .skip))) (.ops [.a 19 (.mv (.t 5)), .a 20 (.bin .add (.t 19) (kI 1)), .a 5 (.mv (.t 20))]))))))
 (.seq (.ops [.a 31 (.mv (.t 3)), .a 2 (.mv (.t 31))]) .ret)))))
theorem fn_rd_Files : Fn Try.prog 32 32 [.t 2] s_rd_Files := .of Try.func32 (by kernel_rfl)

/-- cutover.cutoverref5.pick -/
def s_rd_pick : SCode :=
  (.seq (.ops [.a 4 (.mv (kI 0))]) (.seq (.ops [.a 5 (.mv (.t 0)), .a 6 (.mv (.t 1)), .a 7 (.bin .rem (.t 5) (.t 6)), .a 0 (.mv (.t 7))]) (.seq (.seq
 (.ops [.a 8 (.mv (.t 0)), .a 9 (.bin .lss (.t 8) (kI 0))]) (.cond (.t 9) (.ops [.a 10 (.mv (.t 0)), .a 11 (.mv (.t 1)), .a 12 (.bin .add (.t 10) (.t
 11)), .a 0 (.mv (.t 12))]) .skip)) (.seq (.ops [.a 13 (.mv (.t 0)), .a 4 (.mv (.t 13))]) .ret))))
theorem fn_rd_pick : Fn Try.prog 58 14 [.t 4] s_rd_pick := .of Try.func58 (by kernel_rfl)

/-- (*cutover.cutoverref5.Disk).Crash -/
def s_rd_Crash : SCode :=
  (.seq (.ops (ap [.a 9 (.mv (.t 1)), .a 10 (.mv (.t 0)), .a 11 (.nilc (.t 10)), .a 12 (.off 1 (.t 11)), .a 13 (.load1 (.t 12)), .a 14 (.slen (.t 13)),
 .a 15 (.bin .add (.t 14) (kI 1)), .a 16 (.call (kC 58) [(.t 9), (.t 15)])] [.a 1 (.mv (.t 16))])) (.seq (.ops [.a 17 (.mv (.t 0)), .a 18 (.nilc (.t
 17)), .a 19 (.off 0 (.t 18)), .a 20 (.load1 (.t 19)), .a 6 (.mv (.t 20))]) (.seq (.seq (.ops [.a 7 (.mv (kI 0))]) (.block 0 (.loop (.seq (.seq (.ops
 [.a 21 (.mv (.t 7)), .a 22 (.mv (.t 1)), .a 23 (.bin .lss (.t 21) (.t 22))]) (.cond (.t 23) .skip (.exit 0))) (.seq (.block 1 (.ops (ap [.a 26 (.mv (.t
 6)), .a 27 (.mv (.t 0)), .a 28 (.nilc (.t 27)), .a 29 (.off 1 (.t 28)), .a 30 (.load1 (.t 29)), .a 31 (.mv (.t 7)), .a 32 (.idx 3 (.t 30) (.t 31)), .a
 33 (.loadA 3 (.t 32)), .a 34 (.call (kC 59) [(.t 26), (.t 33)])] [.a 6 (.mv (.t 34))]))) (.ops [.a 24 (.mv (.t 7)), .a 25 (.bin .add (.t 24) (kI 1)),
 .a 7 (.mv (.t 25))])))))) (.seq (.seq (.ops (ap [.a 35 (.mv (.t 1)), .a 36 (.mv (.t 0)), .a 37 (.nilc (.t 36)), .a 38 (.off 1 (.t 37)), .a 39 (.load1
 (.t 38)), .a 40 (.slen (.t 39)), .a 41 (.bin .lss (.t 35) (.t 40))] (ap [.a 42 (.mv (.t 41)), .g (some 43) (.mv (.t 0)) 42 true] [.g (some 44) (.nilc
 (.t 43)) 42 true, .g (some 45) (.off 1 (.t 44)) 42 true, .g (some 46) (.load1 (.t 45)) 42 true, .g (some 47) (.mv (.t 1)) 42 true, .g (some 48) (.idx 3
 (.t 46) (.t 47)) 42 true, .g (some 49) (.off 1 (.t 48)) 42 true, .g (some 50) (.load1 (.t 49)) 42 true, .g (some 51) (.unot (.t 50)) 42 true, .a 52
 (.pick (.t 42) (.t 51) kF)]))) (.cond (.t 52) (.seq (.ops [.a 53 (.mv (.t 0)), .a 54 (.nilc (.t 53)), .a 55 (.off 1 (.t 54)), .a 56 (.load1 (.t 55)),
 .a 57 (.mv (.t 1)), .a 58 (.idx 3 (.t 56) (.t 57)), .a 59 (.loadA 3 (.t 58)), .a 8 (.alloc 87 [jI, jF, jN]), .n (.store 3 (.t 8) (.t 59))]) (.drw [.a
 60 (.mv (.t 6)), .a 61 (.off 0 (.t 8)), .a 62 (.load1 (.t 61)), .a 63 (.off 2 (.t 8)), .a 64 (.load1 (.t 63)), .a 65 (.mv (.t 2)), .a 66 (.off 2 (.t
 8)), .a 67 (.load1 (.t 66)), .a 68 (.slen (.t 67)), .a 69 (.bin .add (.t 68) (kI 1)), .a 70 (.call (kC 58) [(.t 65), (.t 69)]), .a 71 (.sub 1 5 (.t 64)
 none (some (.t 70)) none), .a 72 (.bld [jI, jF, jN] [(0, 1, (.t 62)), (2, 1, (.t 71))]), .a 73 (.call (kC 59) [(.t 60), (.t 72)]), .a 6 (.mv (.t 73))]
 [0, 0, 2, 0, 8, 0, 0, 64, 192, 448, 992, 2040, 4094, 8191, 16383])) .skip)) (.seq (.ops [.a 74 (.mv (.t 0)), .a 75 (.mv (.t 6)), .a 76 (.nilc (.t 74)),
 .a 77 (.off 0 (.t 76)), .n (.store 1 (.t 77) (.t 75))]) (.seq (.ops [.a 78 (.mv (.t 0)), .a 79 (.nilc (.t 78)), .a 80 (.off 1 (.t 79)), .n (.store 1
 (.t 80) kN)]) (.seq (.ops [.a 81 (.mv (.t 0)), .a 82 (.nilc (.t 81)), .a 83 (.off 3 (.t 82)), .n (.store 1 (.t 83) kF)]) (.ops [.a 84 (.mv (.t 0)), .a
 85 (.nilc (.t 84)), .a 86 (.off 2 (.t 85)), .n (.store 1 (.t 86) (kI (-1)))]))))))))
theorem fn_rd_Crash : Fn Try.prog 25 87 [] s_rd_Crash := .of Try.func25 (by kernel_rfl)

/-- (*cutover.cutoverref5.Disk).SetFuse -/
def s_rd_SetFuse : SCode :=
  (.ops [.a 4 (.mv (.t 0)), .a 5 (.mv (.t 1)), .a 6 (.mm true (kI (-1)) (.t 5)), .a 7 (.nilc (.t 4)), .a 8 (.off 2 (.t 7)), .n (.store 1 (.t 8) (.t 6))])
theorem fn_rd_SetFuse : Fn Try.prog 27 9 [] s_rd_SetFuse := .of Try.func27 (by kernel_rfl)

end Go.Proofs.Ytjbkckhpoicaeaa.Mir

/- The document's disk: turn, Now, works. -/
namespace Go.Proofs.Ytjbkckhpoicaeaa.Mir
open Go Go.RowKit
set_option linter.unusedVariables false
set_option linter.unusedSimpArgs false
set_option maxHeartbeats 2000000

abbrev Bs := List UInt8
abbrev nilF : F := .v (.slice none 0 0)
/-- Files, as the document holds them. -/
def fK (w : List Bs) : F := .s (w.map fY) w.length
/-- What pends, as the document holds it. -/
structure Op where
  k : Int
  rm : Bool
  b : Bs
  deriving Inhabited
def Op.cs (o : Op) : List F := [iF o.k, bF o.rm, fY o.b]
theorem Op.cs_len (o : Op) : o.cs.length = 3 := rfl
theorem op_cs {o : Op} : o.cs = [iF o.k, bF o.rm, fY o.b] := id rfl
def fP (l : List Op) : F := .s (l.flatMap Op.cs) l.length
def opD (o : Op) : D := .ag [D.int o.k, D.bool o.rm, .f (fY o.b)]
theorem op_load {H : List Row} {g : List Op} {k : Nat} (hk : k < g.length) : loadA H 3 (.rf ((g.flatMap Op.cs).drop (k * 3))) = some (.ag ((Op.cs (gt g k)).map .f)) := flat_loadA Op.cs_len hk
theorem op_at0 {g : List Op} {k : Nat} (hk : k < g.length) : (g.flatMap Op.cs)[k * 3]? = some (iF (gt g k).k) := flat_at (j := 0) Op.cs_len hk (by omega)
theorem op_at1 {g : List Op} {k : Nat} (hk : k < g.length) : (g.flatMap Op.cs)[k * 3 + 1]? = some (bF (gt g k).rm) := flat_at (j := 1) Op.cs_len hk (by omega)
theorem op_at2 {g : List Op} {k : Nat} (hk : k < g.length) : (g.flatMap Op.cs)[k * 3 + 2]? = some (fY (gt g k).b) := flat_at (j := 2) Op.cs_len hk (by omega)
def padL (w : List Bs) (n : Nat) : List Bs := w ++ List.replicate (n - w.length) []
def turnL (w : List Bs) (o : Op) : List Bs := if o.rm then (padL w (o.k.toNat + 1)).set o.k.toNat [] else (padL w (o.k.toNat + 1)).set o.k.toNat (gt (padL w (o.k.toNat + 1)) o.k.toNat ++ o.b)
def nowL (w : List Bs) (l : List Op) : List Bs := l.foldl turnL w
theorem padL_len {w : List Bs} {n : Nat} : (padL w n).length = max w.length n := by simp [padL]; omega
theorem turnL_len {w : List Bs} {o : Op} : (turnL w o).length = max w.length (o.k.toNat + 1) := by unfold turnL; split <;> rw [List.length_set, padL_len]
/-- Nil cells of a data row are looked at as lists without elements. -/
theorem View.nils {P : Program} {n0 : Nat} {ts : List D} {r : Nat} {T : TypeId} : ∀ (m : Nat) (H : List Row) (dr : List Nat) (pre : List F), H[r]? = some (.data T (pre ++ List.replicate m nilF)) → View P n0 ⟨ts, H, dr⟩ ⟨ts, H.set r (.data T (pre ++ List.replicate m (.s [] 0))), []⟩
  | 0, H, dr, pre, hr => by
    have e : H.set r (.data T (pre ++ List.replicate 0 (.s [] 0))) = H := by
      have hlt := (List.getElem?_eq_some_iff.1 hr)
      obtain ⟨hlt, he⟩ := hlt
      rw [List.replicate_zero] at he ⊢
      rw [← he, List.set_getElem_self]
    rw [e]
    intro X w0 φ0 H0 w φ a hn hs
    exact ⟨φ, ⟨⟨hs.sim.heap, hs.sim.tmps, hs.sim.defers⟩, hs.ons⟩⟩
  | m + 1, H, dr, pre, hr => by
    have h1 := View.nild (P := P) (n0 := n0) (ts := ts) (dr := dr) (i := pre.length) hr (by rw [List.getElem?_append_right (Nat.le_refl _), Nat.sub_self]; rfl)
    have e : (pre ++ List.replicate (m + 1) nilF).set pre.length (.s [] 0) = (pre ++ [.s [] 0]) ++ List.replicate m nilF := by
      rw [List.set_append_right _ _ (Nat.le_refl _), Nat.sub_self, List.replicate_succ, List.set_cons_zero, List.append_assoc]; rfl
    rw [e] at h1
    have hlt : r < H.length := (List.getElem?_eq_some_iff.1 hr).1
    have h2 := View.nils (P := P) (n0 := n0) (ts := ts) m (H.set r (.data T ((pre ++ [.s [] 0]) ++ List.replicate m nilF))) [] (pre ++ [.s [] 0]) (by rw [List.getElem?_set_self hlt])
    rw [List.set_set] at h2
    have e2 : (pre ++ [F.s [] 0]) ++ List.replicate m (.s [] 0) = pre ++ List.replicate (m + 1) (.s [] 0) := by rw [List.replicate_succ, List.append_assoc]; rfl
    rw [e2] at h2
    exact h1.trans h2
theorem store_fz {P : Program} {H : List Row} {r off : Nat} {x : D} {y : F} {us : List (Nat × Row)} {U : TypeId} {xs : List F} (hc : okCell x = true ∧ x.cells = [x]) (hf : freeze1 P H x = some (y, us)) (hr : (applyUpd H us)[r]? = some (.data U xs)) (ho : off + 1 ≤ xs.length) :
    storeR P H 1 r off x (some (.data U xs)) = some ((applyUpd H us).set r (.data U (xs.set off y))) := by
  unfold storeR
  have h1 : okCell x = true ∧ x.cells.length = 1 ∧ off + 1 ≤ xs.length := ⟨hc.1, by rw [hc.2]; rfl, ho⟩
  have h2 : freezeAll P H [x] = some ([y], us) := by simp only [freezeAll, hf, List.append_nil]
  dsimp only
  rw [if_pos h1, hc.2, h2]
  simp only [hr, splice_one (show off < xs.length by omega)]
theorem fix_none {P : Program} {H : List Row} {r off : Nat} : freeze1 P H (.sl r off 0) = some (.s [] 0, []) := by simp only [freeze1, ↓reduceIte]
theorem set_y0 {p : List Bs} {k : Nat} : (p.map fY).set k (.s [] 0) = (p.set k []).map fY := by rw [List.map_set]; rfl
theorem set_y1 {p : List Bs} {k : Nat} {b : Bs} : (p.map fY).set k (.s (List.map uF b) (List.length b)) = (p.set k b).map fY := by rw [List.map_set]; rfl
theorem set_y2 {p : List Bs} {k : Nat} {a b : Bs} : (p.map fY).set k (.s (List.map uF a ++ List.map uF b) (List.length a + List.length b)) = (p.set k (a ++ b)).map fY := by rw [List.map_set, fY, List.map_append, List.length_append]
theorem gt_memR {α : Type} [Inhabited α] {l : List α} {k : Nat} (h : k < l.length) : gt l k ∈ l := by rw [gt_eq h]; exact List.getElem_mem h
theorem rep_app {α : Type} {l : List α} {m : Nat} {x : α} : l ++ List.replicate m x ++ [x] = l ++ List.replicate (m + 1) x := by rw [List.append_assoc, ← List.replicate_succ']
set_option maxRecDepth 100000 in
theorem c_rd_turn (w : List Bs) (o : Op) (hk : 0 ≤ o.k ∧ o.k < 1000) (hw : w.length < 1000) (hb : ∀ x ∈ w, x.length + o.b.length ≤ 140737488355328) (hbb : o.b.length ≤ 140737488355328) : Con Try.prog 59 [.f (fK w), opD o] [] fun r H' => r = .f (fK (turnL w o)) ∧ H' = [] := by
  refine Con.walk good fn_rd_turn (by simp) ?_
  unfold s_rd_turn
  simp only [argsE, List.length_cons, List.length_nil, Nat.reduceAdd]
  refine HS.seq ?_
  repeat' (first | (with_reducible first | refine Wa.h ?_ | refine Wb.h fun K hK => ?_ | (refine hK _ ?_; clear hK K)) | ((with_reducible refine kQ ?_ ?_); kernel_rfl) | ((with_reducible refine k1 ?_ ?_); rfl) | ((with_reducible refine k0 ?_ ?_); rfl) | ((with_reducible apply kB) <;> first | rfl | intro h) | ((with_reducible refine kM ?_ ?_); rfl) | (with_reducible refine Wt.h (fun h => ?_) (fun h => ?_)) <;> try (exfalso; omega) | (with_reducible refine Wu.h (fun h => ?_) (fun h => ?_)) <;> try simp only [h] | ((fail_if_success with_reducible refine Wz.h ?_); simp (disch := omega) only [↓LD, LU, LS, LT, loadA_rf, seval, fK, opD]) | ((with_reducible refine And.intro ?_ ?_); omega) | ((fail_if_success with_reducible refine Wz.h ?_); simp only [D.int, D.bool]))
  refine HS.seq ?_
  refine HS.cutn (fun _ : Unit => ⟨frm 38 [(3, .pt 0 0), (5, .sl 1 0 w.length)], [.box 87 [D.int o.k, D.bool o.rm, .f (fY o.b)], .data 41 (w.map fY)], []⟩) (fun _ => True) ?_ ?_
  · repeat' (first | (with_reducible first | refine Wa.h ?_ | refine Ws.h ?_ | refine Wb.h fun K hK => ?_ | (refine hK _ ?_; clear hK K)) | ((with_reducible refine kQ ?_ ?_); kernel_rfl) | ((with_reducible refine k1 ?_ ?_); rfl) | ((with_reducible refine k0 ?_ ?_); rfl) | ((with_reducible apply kB) <;> first | rfl | intro h) | ((with_reducible refine kM ?_ ?_); rfl) | (with_reducible refine Wt.h (fun h => ?_) (fun h => ?_)) <;> try (exfalso; omega) | (with_reducible refine Wu.h (fun h => ?_) (fun h => ?_)) <;> try simp only [h] | ((fail_if_success with_reducible refine Wz.h ?_); simp (disch := omega) only [↓LD, LU, LS, LT, loadA_rf, seval, fK, opD, List.append_nil]) | ((with_reducible refine And.intro ?_ ?_); omega) | ((fail_if_success with_reducible refine Wz.h ?_); simp only [D.int, D.bool]))
    · obtain rfl : w = [] := List.eq_nil_of_length_eq_zero (by assumption)
      exact OutN.mk [3, 5] () (by kernel_rfl) trivial
    · exact OutN.mk [3, 5] () (by kernel_rfl) trivial
  rintro _ - s' hv
  refine thenQ_n ?_
  refine HS.view hv ?_
  clear hv
  refine HS.seq ?_
  refine HS.block ?_
  refine HS.cut [3, 5] 0 (fun _ : Unit => ⟨frm 38 [(3, .pt 0 0), (5, .sl 1 0 (w.length + (o.k.toNat + 1 - w.length)))], [.box 87 [D.int o.k, D.bool o.rm, .f (fY o.b)], .data 41 (w.map fY ++ List.replicate (o.k.toNat + 1 - w.length) nilF)], []⟩) (fun _ => True) ?_ ?_
  · refine HS.loopG [3, 5] (fun m : Nat => ⟨frm 38 [(3, .pt 0 0), (5, .sl 1 0 (w.length + m))], [.box 87 [D.int o.k, D.bool o.rm, .f (fY o.b)], .data 41 (w.map fY ++ List.replicate m nilF)], []⟩)
      (fun m => m ≤ o.k.toNat + 1 - w.length) (fun m => o.k.toNat + 1 - w.length - m) 0 (by rw [List.replicate_zero, List.append_nil]; kernel_rfl) (Nat.zero_le _) ?_
    rintro m hm
    repeat' (first | (with_reducible first | refine Wa.h ?_ | refine Ws.h ?_ | refine Wb.h fun K hK => ?_ | (refine hK _ ?_; clear hK K)) | ((with_reducible refine kQ ?_ ?_); kernel_rfl) | ((with_reducible refine k1 ?_ ?_); rfl) | ((with_reducible refine k0 ?_ ?_); rfl) | ((with_reducible apply kB) <;> first | rfl | intro h) | ((with_reducible refine kM ?_ ?_); rfl) | (with_reducible refine Wt.h (fun h => ?_) (fun h => ?_)) <;> try (exfalso; omega) | (with_reducible refine Wu.h (fun h => ?_) (fun h => ?_)) <;> try simp only [h] | ((fail_if_success with_reducible refine Wz.h ?_); simp (disch := omega) only [↓LD, LU, LS, LT, loadA_rf, seval, List.append_nil]) | ((with_reducible refine And.intro ?_ ?_); omega) | ((fail_if_success with_reducible refine Wz.h ?_); simp only [D.int, D.bool]))
    · refine And.intro (by simp) ?_
      repeat' (first | (with_reducible first | refine Wa.h ?_ | refine Ws.h ?_ | refine Wb.h fun K hK => ?_ | (refine hK _ ?_; clear hK K)) | ((with_reducible refine kQ ?_ ?_); kernel_rfl) | ((with_reducible refine k1 ?_ ?_); rfl) | ((with_reducible refine k0 ?_ ?_); rfl) | ((with_reducible apply kB) <;> first | rfl | intro h) | ((with_reducible refine kM ?_ ?_); rfl) | (with_reducible refine Wt.h (fun h => ?_) (fun h => ?_)) <;> try (exfalso; omega) | (with_reducible refine Wu.h (fun h => ?_) (fun h => ?_)) <;> try simp only [h] | ((fail_if_success with_reducible refine Wz.h ?_); simp (disch := omega) only [↓LD, LU, LS, LT, loadA_rf, seval, rep_app]) | ((with_reducible refine And.intro ?_ ?_); omega) | ((fail_if_success with_reducible refine Wz.h ?_); simp only [D.int, D.bool]))
      exact Next.mk (m + 1) (by kernel_rfl) (by omega) (by omega)
    · obtain rfl : m = o.k.toNat + 1 - w.length := by omega
      exact OutS.mk () (by kernel_rfl) trivial
  rintro _ - s' hv
  refine blockQ_hit ?_
  refine thenQ_n ?_
  refine HS.view hv ?_
  clear hv
  refine HS.view (View.nils (r := 1) (T := 41) (o.k.toNat + 1 - w.length) _ _ (w.map fY) rfl) ?_
  have hpl : (padL w (o.k.toNat + 1)).length = w.length + (o.k.toNat + 1 - w.length) := by rw [padL_len]; omega
  have hpk : o.k.toNat < (padL w (o.k.toNat + 1)).length := by omega
  have hpe : w.map fY ++ List.replicate (o.k.toNat + 1 - w.length) (.s [] 0) = (padL w (o.k.toNat + 1)).map fY := by rw [padL, List.map_append, List.map_replicate]; rfl
  have hpb : ∀ x ∈ padL w (o.k.toNat + 1), x.length + o.b.length ≤ 140737488355328 := fun x hx => by
    rcases List.mem_append.1 hx with hx | hx
    · exact hb x hx
    · rw [List.eq_of_mem_replicate hx]; simpa using hbb
  have htl : turnL w o = (padL w (o.k.toNat + 1)).set o.k.toNat (if o.rm then [] else gt (padL w (o.k.toNat + 1)) o.k.toNat ++ o.b) := by unfold turnL; split <;> rfl
  rw [hpe, ← hpl]
  rw [htl]
  generalize padL w (o.k.toNat + 1) = p at hpl hpk hpb ⊢
  have hpb := hpb _ (gt_memR hpk)
  refine HS.seq ?_
  refine HS.cutn (fun _ : Unit => ⟨frm 38 [(5, .sl 0 0 p.length)], [.data 41 ((p.set o.k.toNat (if o.rm then [] else gt p o.k.toNat ++ o.b)).map fY)], []⟩) (fun _ => True) ?_ ?_
  · obtain ⟨k, rm, b⟩ := o
    dsimp only at hk hpk hpb hbb ⊢
    clear htl hpe hb hpl
    cases rm with
    | true =>
      repeat' (first | (with_reducible first | refine Wa.h ?_ | refine Ws.h ?_ | refine Wb.h fun K hK => ?_ | (refine hK _ ?_; clear hK K)) | ((with_reducible refine kQ ?_ ?_); kernel_rfl) | ((with_reducible refine k1 ?_ ?_); rfl) | ((with_reducible refine k0 ?_ ?_); rfl) | ((with_reducible apply kB) <;> first | rfl | intro h) | ((with_reducible refine kM ?_ ?_); rfl) | (with_reducible refine Wt.h (fun h => ?_) (fun h => ?_)) <;> try (exfalso; omega) | (with_reducible refine Wu.h (fun h => ?_) (fun h => ?_)) <;> try simp only [h] | ((fail_if_success with_reducible refine Wz.h ?_); simp (disch := omega) only [↓LD, LU, LS, LT, loadA_rf, seval]) | ((with_reducible refine And.intro ?_ ?_); omega) | ((fail_if_success with_reducible refine Wz.h ?_); simp only [D.int, D.bool]))
      refine OutN.via [5] (s1 := ⟨frm 38 [(5, .sl 0 0 p.length)], [.data 41 ((p.map fY).set k.toNat nilF)], []⟩) () (by kernel_rfl) ?_ trivial
      have h1 := View.nild (P := Try.prog) (n0 := 0) (ts := frm 38 [(5, .sl 0 0 p.length)]) (H := [.data 41 ((p.map fY).set k.toNat nilF)]) (dr := []) (r := 0) (i := k.toNat) (T := 41) rfl (by rw [List.getElem?_set_self (by rw [List.length_map]; exact hpk)])
      rw [List.set_set, set_y0] at h1
      exact h1
    | false =>
      repeat' (first | (with_reducible first | refine Wa.h ?_ | refine We.h fun K hK => ?_ | refine Wd.h fun K M hK hM => ?_ | (refine hK _ _ _ _ ?_; clear hK K; try clear hM M) | (refine hM ?_; clear hM M; try clear hK K) | refine Ws.h ?_ | refine Wb.h fun K hK => ?_ | (refine hK _ ?_; clear hK K)) | ((with_reducible refine kQ ?_ ?_); kernel_rfl) | ((with_reducible refine k1 ?_ ?_); rfl) | ((with_reducible refine k0 ?_ ?_); rfl) | ((with_reducible apply kB) <;> first | rfl | intro h) | ((with_reducible refine kM ?_ ?_); rfl) | (with_reducible refine Wt.h (fun h => ?_) (fun h => ?_)) <;> try (exfalso; omega) | (with_reducible refine Wu.h (fun h => ?_) (fun h => ?_)) <;> try simp only [h] | ((fail_if_success with_reducible refine Wz.h ?_); simp (disch := omega) only [↓LD, LU, LS, LT, loadA_rf, seval, fY]) | ((with_reducible refine And.intro ?_ ?_); omega) | ((fail_if_success with_reducible refine Wz.h ?_); simp only [D.int, D.bool]))
      · have e1 : gt p k.toNat = [] := List.eq_nil_of_length_eq_zero (by assumption)
        obtain rfl : b = [] := List.eq_nil_of_length_eq_zero (by assumption)
        refine bind'_of (store_fz ⟨rfl, rfl⟩ fix_none rfl (by rw [List.length_map]; exact hpk)) ?_
        repeat' (first | (with_reducible first | refine Wa.h ?_ | refine We.h fun K hK => ?_ | refine Wd.h fun K M hK hM => ?_ | (refine hK _ _ _ _ ?_; clear hK K; try clear hM M) | (refine hM ?_; clear hM M; try clear hK K) | refine Ws.h ?_ | refine Wb.h fun K hK => ?_ | (refine hK _ ?_; clear hK K)) | ((with_reducible refine kQ ?_ ?_); kernel_rfl) | ((with_reducible refine k1 ?_ ?_); rfl) | ((with_reducible refine k0 ?_ ?_); rfl) | ((with_reducible apply kB) <;> first | rfl | intro h) | ((with_reducible refine kM ?_ ?_); rfl) | (with_reducible refine Wt.h (fun h => ?_) (fun h => ?_)) <;> try (exfalso; omega) | (with_reducible refine Wu.h (fun h => ?_) (fun h => ?_)) <;> try simp only [h] | ((fail_if_success with_reducible refine Wz.h ?_); simp (disch := omega) only [↓LD, LU, LS, LT, loadA_rf, seval, applyUpd, List.getD_cons_succ, List.getD_cons_zero, set_y0]) | ((with_reducible refine And.intro ?_ ?_); omega) | ((fail_if_success with_reducible refine Wz.h ?_); simp only [D.int, D.bool]))
        refine OutN.mk [5] () ?_ trivial
        rw [e1]
        kernel_rfl
      · have e1 : gt p k.toNat = [] := List.eq_nil_of_length_eq_zero (by assumption)
        refine bind'_of (store_fz ⟨rfl, rfl⟩ (fix_data (b := 1) (z := [.int .u8 0]) rfl (by kernel_rfl) (by assumption) (by rw [List.length_map, Nat.mul_one])) rfl (by rw [List.length_map]; exact hpk)) ?_
        repeat' (first | (with_reducible first | refine Wa.h ?_ | refine We.h fun K hK => ?_ | refine Wd.h fun K M hK hM => ?_ | (refine hK _ _ _ _ ?_; clear hK K; try clear hM M) | (refine hM ?_; clear hM M; try clear hK K) | refine Ws.h ?_ | refine Wb.h fun K hK => ?_ | (refine hK _ ?_; clear hK K)) | ((with_reducible refine kQ ?_ ?_); kernel_rfl) | ((with_reducible refine k1 ?_ ?_); rfl) | ((with_reducible refine k0 ?_ ?_); rfl) | ((with_reducible apply kB) <;> first | rfl | intro h) | ((with_reducible refine kM ?_ ?_); rfl) | (with_reducible refine Wt.h (fun h => ?_) (fun h => ?_)) <;> try (exfalso; omega) | (with_reducible refine Wu.h (fun h => ?_) (fun h => ?_)) <;> try simp only [h] | ((fail_if_success with_reducible refine Wz.h ?_); simp (disch := omega) only [↓LD, LU, LS, LT, loadA_rf, seval, applyUpd, List.getD_cons_succ, List.getD_cons_zero, set_y1]) | ((with_reducible refine And.intro ?_ ?_); omega) | ((fail_if_success with_reducible refine Wz.h ?_); simp only [D.int, D.bool]))
        refine OutN.mk [5] () ?_ trivial
        rw [e1]
        kernel_rfl
      · obtain rfl : b = [] := List.eq_nil_of_length_eq_zero (by assumption)
        refine bind'_of (store_fz ⟨rfl, rfl⟩ (fix_data (b := 1) (z := [.int .u8 0]) rfl (by kernel_rfl) (by assumption) (by rw [List.length_map, Nat.mul_one])) rfl (by rw [List.length_map]; exact hpk)) ?_
        repeat' (first | (with_reducible first | refine Wa.h ?_ | refine We.h fun K hK => ?_ | refine Wd.h fun K M hK hM => ?_ | (refine hK _ _ _ _ ?_; clear hK K; try clear hM M) | (refine hM ?_; clear hM M; try clear hK K) | refine Ws.h ?_ | refine Wb.h fun K hK => ?_ | (refine hK _ ?_; clear hK K)) | ((with_reducible refine kQ ?_ ?_); kernel_rfl) | ((with_reducible refine k1 ?_ ?_); rfl) | ((with_reducible refine k0 ?_ ?_); rfl) | ((with_reducible apply kB) <;> first | rfl | intro h) | ((with_reducible refine kM ?_ ?_); rfl) | (with_reducible refine Wt.h (fun h => ?_) (fun h => ?_)) <;> try (exfalso; omega) | (with_reducible refine Wu.h (fun h => ?_) (fun h => ?_)) <;> try simp only [h] | ((fail_if_success with_reducible refine Wz.h ?_); simp (disch := omega) only [↓LD, LU, LS, LT, loadA_rf, seval, applyUpd, List.getD_cons_succ, List.getD_cons_zero, set_y1]) | ((with_reducible refine And.intro ?_ ?_); omega) | ((fail_if_success with_reducible refine Wz.h ?_); simp only [D.int, D.bool]))
        refine OutN.mk [5] () ?_ trivial
        rw [List.append_nil]
        kernel_rfl
      · refine bind'_of (store_fz ⟨rfl, rfl⟩ (fix_data (b := 1) (z := [.int .u8 0]) rfl (by kernel_rfl) (by omega) (by rw [List.length_append, List.length_map, List.length_map, Nat.mul_one])) rfl (by rw [List.length_map]; exact hpk)) ?_
        repeat' (first | (with_reducible first | refine Wa.h ?_ | refine We.h fun K hK => ?_ | refine Wd.h fun K M hK hM => ?_ | (refine hK _ _ _ _ ?_; clear hK K; try clear hM M) | (refine hM ?_; clear hM M; try clear hK K) | refine Ws.h ?_ | refine Wb.h fun K hK => ?_ | (refine hK _ ?_; clear hK K)) | ((with_reducible refine kQ ?_ ?_); kernel_rfl) | ((with_reducible refine k1 ?_ ?_); rfl) | ((with_reducible refine k0 ?_ ?_); rfl) | ((with_reducible apply kB) <;> first | rfl | intro h) | ((with_reducible refine kM ?_ ?_); rfl) | (with_reducible refine Wt.h (fun h => ?_) (fun h => ?_)) <;> try (exfalso; omega) | (with_reducible refine Wu.h (fun h => ?_) (fun h => ?_)) <;> try simp only [h] | ((fail_if_success with_reducible refine Wz.h ?_); simp (disch := omega) only [↓LD, LU, LS, LT, loadA_rf, seval, applyUpd, List.getD_cons_succ, List.getD_cons_zero, set_y2]) | ((with_reducible refine And.intro ?_ ?_); omega) | ((fail_if_success with_reducible refine Wz.h ?_); simp only [D.int, D.bool]))
        exact OutN.mk [5] () (by kernel_rfl) trivial
  rintro _ - s' hv
  refine thenQ_n ?_
  refine HS.view hv ?_
  repeat' (first | (with_reducible first | refine Wa.h ?_ | refine Ws.h ?_ | refine Wb.h fun K hK => ?_ | (refine hK _ ?_; clear hK K)) | ((with_reducible refine kQ ?_ ?_); kernel_rfl) | ((with_reducible refine k1 ?_ ?_); rfl) | ((with_reducible refine k0 ?_ ?_); rfl) | ((with_reducible apply kB) <;> first | rfl | intro h) | ((with_reducible refine kM ?_ ?_); rfl) | (with_reducible refine Wt.h (fun h => ?_) (fun h => ?_)) <;> try (exfalso; omega) | (with_reducible refine Wu.h (fun h => ?_) (fun h => ?_)) <;> try simp only [h] | ((fail_if_success with_reducible refine Wz.h ?_); simp (disch := omega) only [↓LD, LU, LS, LT, loadA_rf, seval]) | ((with_reducible refine And.intro ?_ ?_); omega) | ((fail_if_success with_reducible refine Wz.h ?_); simp only [D.int, D.bool]))
  refine end1 rfl rfl (by kernel_rfl) (.sl rfl (fun e => by omega)) ⟨?_, rfl⟩
  rw [List.drop_zero, fK, List.length_set]
end Go.Proofs.Ytjbkckhpoicaeaa.Mir

/- The program's disk: its rows; work, put, Append. -/
namespace Go.Proofs.Ytjbkckhpoicaeaa.Mir
open Go Go.RowKit
set_option linter.unusedVariables false
set_option linter.unusedSimpArgs false
set_option maxHeartbeats 2000000

theorem end0G {n0 : Nat} {Q : D → List Row → Prop} {e : List (Nat × D)} {n : Nat} {H : List Row} {dr : List Nat} {ef : Eff} (hg : gather n0 (.tp []) (List.range n0) H = some ef) (q : Q ef.res (applyUpd (H.take n0) ef.upd ++ ef.news)) : RetS n0 [] Q ⟨frm n e, H, dr⟩ :=
  .gather (ds := []) rfl hg q

/-- A work that pends. -/
structure Wk where
  k : Int
  b : List UInt8
  deriving Inhabited
def Wk.cs (w : Wk) : List F := [iF w.k, fY w.b]
theorem Wk.cs_len (w : Wk) : w.cs.length = 2 := rfl
def dkP (pr n : Nat) : D := match n with
  | 0 => .f (.v (.slice none 0 0))
  | m + 1 => .sl pr 0 (m + 1)
def dkB (pr n : Nat) (fuse : Int) (dead : Bool) (works : Int) : Row := .box 76 [.mp 1, .mp 2, dkP pr n, D.int fuse, D.bool dead, D.int works]
/-- A disk's rows: n works pend. -/
def dkR (e1 e2 : Fs) (n : Nat) (ws : List Wk) (fuse : Int) (dead : Bool) (works : Int) : List Row := match n with
  | 0 => [dkB 3 0 fuse dead works, .map (mF e1), .map (mF e2)]
  | m + 1 => [dkB 3 (m + 1) fuse dead works, .map (mF e1), .map (mF e2), .data 79 (ws.flatMap Wk.cs)]
def deadN' (fuse : Int) (dead : Bool) : Bool := dead || decide (fuse = 0)
def fuseN (fuse : Int) (dead : Bool) : Int := if 0 < fuse ∧ dead = false then fuse - 1 else fuse
def worksN (fuse : Int) (dead : Bool) (works : Int) : Int := if deadN' fuse dead = true then works else works + 1
set_option maxRecDepth 100000 in
theorem c_disk_work (e1 e2 : Fs) (n : Nat) (ws : List Wk) (fuse : Int) (dead : Bool) (works : Int) (hf : -1 ≤ fuse ∧ fuse ≤ 1000000) (hw : 0 ≤ works ∧ works ≤ 1000000) :
    Con Try.prog 48 [.pt 0 0] (dkR e1 e2 n ws fuse dead works) fun r H' => r = D.int (if deadN' fuse dead = true then 14 else 0) ∧ H' = dkR e1 e2 n ws (fuseN fuse dead) (deadN' fuse dead) (worksN fuse dead works) := by
  refine Con.walk good fn_disk_work (by simp) ?_
  unfold s_disk_work
  simp only [argsE, List.length_cons, List.length_nil, Nat.reduceAdd]
  rcases n with _ | n <;> cases dead
  all_goals
    repeat' (first | (with_reducible first | refine Wa.h ?_ | refine Ws.h ?_ | refine Wb.h fun K hK => ?_ | (refine hK _ ?_; clear hK K)) | ((with_reducible refine kQ ?_ ?_); kernel_rfl) | ((with_reducible refine k1 ?_ ?_); rfl) | ((with_reducible refine k0 ?_ ?_); rfl) | ((with_reducible apply kB) <;> first | rfl | intro h) | ((with_reducible refine kM ?_ ?_); rfl) | (with_reducible refine Wt.h (fun h => ?_) (fun h => ?_)) <;> try (exfalso; omega) | (with_reducible refine Wu.h (fun h => ?_) (fun h => ?_)) <;> try simp only [h] | ((fail_if_success with_reducible refine Wz.h ?_); simp (disch := omega) only [↓LD, LU, LS, LT, loadA_rf, seval, dkR, dkB, dkP]) | ((with_reducible refine And.intro ?_ ?_); omega) | ((fail_if_success with_reducible refine Wz.h ?_); simp only [D.int, D.bool]))
    all_goals
      refine endA rfl rfl ⟨?_, ?_⟩
      · simp_all [deadN', look_cons, D.int]
      · simp_all [deadN', fuseN, worksN, dkR, dkB, dkP, D.int, D.bool] <;> omega

theorem fit_wk {ws : List Wk} {k : Int} {b : List UInt8} : ws.flatMap Wk.cs ++ [.v (.int .i64 k), fY b] = (ws ++ [(⟨k, b⟩ : Wk)]).flatMap Wk.cs := by
  rw [List.flatMap_append]; rfl
set_option maxRecDepth 100000 in
theorem c_disk_put (e1 e2 : Fs) (n : Nat) (ws : List Wk) (fuse : Int) (dead : Bool) (works : Int) (B : Nat) (he : FsOk e2 B) (k : Int) (b : List UInt8) (hb : ((fGet e2 k).getD []).length + b.length ≤ 140737488355328) (hn : ws.length = n) (hn2 : n ≤ 1000000) :
    Con Try.prog 49 [.pt 0 0, wkD k b] (dkR e1 e2 n ws fuse dead works) fun r H' => r = .tp [] ∧ H' = match n with
      | 0 => [dkB 3 1 fuse dead works, .map (mF e1), .map (mF (fDo e2 k b)), .data 79 ((ws ++ [(⟨k, b⟩ : Wk)]).flatMap Wk.cs)]
      | m + 1 => [dkB 4 (m + 2) fuse dead works, .map (mF e1), .map (mF (fDo e2 k b)), .dead, .data 79 ((ws ++ [(⟨k, b⟩ : Wk)]).flatMap Wk.cs)] := by
  refine Con.walk good fn_disk_put (by simp) ?_
  unfold s_disk_put wkD
  simp only [argsE, List.length_cons, List.length_nil, Nat.reduceAdd]
  rcases n with _ | n
  · obtain rfl := List.eq_nil_of_length_eq_zero hn
    repeat' (first | (with_reducible first | refine Wa.h ?_ | refine Ws.h ?_ | refine Wb.h fun K hK => ?_ | (refine hK _ ?_; clear hK K)) | ((with_reducible refine kQ ?_ ?_); kernel_rfl) | ((with_reducible refine k1 ?_ ?_); rfl) | ((with_reducible refine k0 ?_ ?_); rfl) | ((with_reducible apply kB) <;> first | rfl | intro h) | ((with_reducible refine kM ?_ ?_); rfl) | (with_reducible refine Wt.h (fun h => ?_) (fun h => ?_)) <;> try (exfalso; omega) | (with_reducible refine Wu.h (fun h => ?_) (fun h => ?_)) <;> try simp only [h] | ((fail_if_success with_reducible refine Wz.h ?_); simp (disch := omega) only [↓LD, LU, LS, LT, loadA_rf, seval, dkR, dkB, dkP]) | ((with_reducible refine And.intro ?_ ?_); omega) | ((fail_if_success with_reducible refine Wz.h ?_); simp only [D.int, D.bool]))
    refine callDr_emb (c_disk_doG e2 B he k b hb) [2] (by kernel_rfl) rfl rfl ?_
    repeat' (first | (with_reducible first | refine Wa.h ?_ | refine Ws.h ?_ | refine Wb.h fun K hK => ?_ | (refine hK _ ?_; clear hK K)) | ((with_reducible refine kQ ?_ ?_); kernel_rfl) | ((with_reducible refine k1 ?_ ?_); rfl) | ((with_reducible refine k0 ?_ ?_); rfl) | ((with_reducible apply kB) <;> first | rfl | intro h) | ((with_reducible refine kM ?_ ?_); rfl) | (with_reducible refine Wt.h (fun h => ?_) (fun h => ?_)) <;> try (exfalso; omega) | (with_reducible refine Wu.h (fun h => ?_) (fun h => ?_)) <;> try simp only [h] | ((fail_if_success with_reducible refine Wz.h ?_); simp (disch := omega) only [↓LD, LU, LS, LT, loadA_rf, seval]) | ((with_reducible refine And.intro ?_ ?_); omega) | ((fail_if_success with_reducible refine Wz.h ?_); simp only [D.int, D.bool]))
    exact end0G (ef := ⟨.tp [], [(0, dkB 3 1 fuse dead works), (1, .map (mF e1)), (2, .map (mF (fDo e2 k b)))], [.data 79 ([(⟨k, b⟩ : Wk)].flatMap Wk.cs)]⟩) (by kernel_rfl) ⟨rfl, rfl⟩
  · repeat' (first | (with_reducible first | refine Wa.h ?_ | refine Ws.h ?_ | refine Wb.h fun K hK => ?_ | (refine hK _ ?_; clear hK K)) | ((with_reducible refine kQ ?_ ?_); kernel_rfl) | ((with_reducible refine k1 ?_ ?_); rfl) | ((with_reducible refine k0 ?_ ?_); rfl) | ((with_reducible apply kB) <;> first | rfl | intro h) | ((with_reducible refine kM ?_ ?_); rfl) | (with_reducible refine Wt.h (fun h => ?_) (fun h => ?_)) <;> try (exfalso; omega) | (with_reducible refine Wu.h (fun h => ?_) (fun h => ?_)) <;> try simp only [h] | ((fail_if_success with_reducible refine Wz.h ?_); simp (disch := omega) only [↓LD, LU, LS, LT, loadA_rf, seval, dkR, dkB, dkP]) | ((with_reducible refine And.intro ?_ ?_); omega) | ((fail_if_success with_reducible refine Wz.h ?_); simp only [D.int, D.bool]))
    refine And.intro (by rw [flat_len' Wk.cs_len, hn]) ?_
    repeat' (first | (with_reducible first | refine Wa.h ?_ | refine Ws.h ?_ | refine Wb.h fun K hK => ?_ | (refine hK _ ?_; clear hK K)) | ((with_reducible refine kQ ?_ ?_); kernel_rfl) | ((with_reducible refine k1 ?_ ?_); rfl) | ((with_reducible refine k0 ?_ ?_); rfl) | ((with_reducible apply kB) <;> first | rfl | intro h) | ((with_reducible refine kM ?_ ?_); rfl) | (with_reducible refine Wt.h (fun h => ?_) (fun h => ?_)) <;> try (exfalso; omega) | (with_reducible refine Wu.h (fun h => ?_) (fun h => ?_)) <;> try simp only [h] | ((fail_if_success with_reducible refine Wz.h ?_); simp (disch := omega) only [↓LD, LU, LS, LT, loadA_rf, seval, fit_wk]) | ((with_reducible refine And.intro ?_ ?_); omega) | ((fail_if_success with_reducible refine Wz.h ?_); simp only [D.int, D.bool]))
    refine callDr_emb (c_disk_doG e2 B he k b hb) [2] (by kernel_rfl) rfl rfl ?_
    repeat' (first | (with_reducible first | refine Wa.h ?_ | refine Ws.h ?_ | refine Wb.h fun K hK => ?_ | (refine hK _ ?_; clear hK K)) | ((with_reducible refine kQ ?_ ?_); kernel_rfl) | ((with_reducible refine k1 ?_ ?_); rfl) | ((with_reducible refine k0 ?_ ?_); rfl) | ((with_reducible apply kB) <;> first | rfl | intro h) | ((with_reducible refine kM ?_ ?_); rfl) | (with_reducible refine Wt.h (fun h => ?_) (fun h => ?_)) <;> try (exfalso; omega) | (with_reducible refine Wu.h (fun h => ?_) (fun h => ?_)) <;> try simp only [h] | ((fail_if_success with_reducible refine Wz.h ?_); simp (disch := omega) only [↓LD, LU, LS, LT, loadA_rf, seval]) | ((with_reducible refine And.intro ?_ ?_); omega) | ((fail_if_success with_reducible refine Wz.h ?_); simp only [D.int, D.bool]))
    exact end0G (ef := ⟨.tp [], [(0, dkB 4 (n + 2) fuse dead works), (1, .map (mF e1)), (2, .map (mF (fDo e2 k b))), (3, .dead)], [.data 79 ((ws ++ [(⟨k, b⟩ : Wk)]).flatMap Wk.cs)]⟩) (by kernel_rfl) ⟨rfl, rfl⟩
end Go.Proofs.Ytjbkckhpoicaeaa.Mir

/- Functions of the program, told without it. -/
namespace Go.Proofs.Ytjbkckhpoicaeaa.Mir
open Go Go.RowKit

/-- cutover.cutoverhand.Pick -/
def s_hand_Pick : SCode :=
  (.seq (.ops [.a 4 (.mv (kI 0))]) (.seq (.ops [.a 5 (.mv (.t 0)), .a 6 (.mv (.t 1)), .a 7 (.bin .rem (.t 5) (.t 6)), .a 0 (.mv (.t 7))]) (.seq (.seq
 (.ops [.a 8 (.mv (.t 0)), .a 9 (.bin .lss (.t 8) (kI 0))]) (.cond (.t 9) (.ops [.a 10 (.mv (.t 0)), .a 11 (.mv (.t 1)), .a 12 (.bin .add (.t 10) (.t
 11)), .a 0 (.mv (.t 12))]) .skip)) (.seq (.ops [.a 13 (.mv (.t 0)), .a 4 (.mv (.t 13))]) .ret))))
theorem fn_hand_Pick : Fn Try.prog 10 14 [.t 4] s_hand_Pick := .of Try.func10 (by kernel_rfl)

/-- cutover.cutoverhand.Defs -/
def s_hand_Defs : SCode :=
  (.seq (.ops [.a 4 (.mv kN)]) (.seq (.ops [.a 5 (.mv kN)]) (.seq (.seq (.ops [.a 6 (.mv (kI 0))]) (.block 0 (.loop (.seq (.seq (.ops (ap [.a 11 (.mv (.t
 6)), .a 12 (.mv (.t 0)), .a 13 (.slen (.t 12)), .a 14 (.bin .lss (.t 11) (.t 13))] (ap [.a 15 (.mv (.t 14)), .g (some 16) (.mv (.t 6)) 15 true] (ap [.g
 (some 17) (.bin .lss (.t 16) (kI 6)) 15 true] [.a 18 (.pick (.t 15) (.t 17) kF)])))) (.cond (.t 18) .skip (.exit 0))) (.seq (.block 1 (.seq (.drw [.a
 21 (.mv (.t 0)), .a 22 (.mv (.t 6)), .a 23 (.idx 3 (.t 21) (.t 22)), .a 24 (.off 0 (.t 23)), .a 25 (.load1 (.t 24)), .a 26 (.call (kC 10) [(.t 25), (kI
 3)]), .a 27 (.bin .add (kI 1) (.t 26)), .a 28 (.mv (.t 0)), .a 29 (.mv (.t 6)), .a 30 (.idx 3 (.t 28) (.t 29)), .a 31 (.off 1 (.t 30)), .a 32 (.load1
 (.t 31)), .a 33 (.call (kC 10) [(.t 32), (kI 9)]), .a 34 (.bin .add (kI 1) (.t 33)), .a 35 (.bld [jN, jI, jI] [(1, 1, (.t 27)), (2, 1, (.t 34))]), .a 7
 (.alloc 30 [jN, jI, jI]), .n (.store 3 (.t 7) (.t 35))] [0, 0, 3, 7, 15, 31, 63, 0, 0, 384, 896, 1920, 4031, 8127, 16383, 0, 65535]) (.seq (.seq (.ops
 [.a 8 (.mv (kI 0))]) (.block 2 (.loop (.seq (.seq (.ops [.a 36 (.mv (.t 8)), .a 37 (.mv (.t 6)), .a 38 (.bin .lss (.t 36) (.t 37))]) (.cond (.t 38)
 .skip (.exit 2))) (.seq (.block 3 (.seq (.ops [.a 9 (.mv (kI 0))]) (.block 4 (.loop (.seq (.seq (.ops (ap [.a 41 (.mv (.t 9)), .a 42 (.mv (.t 0)), .a
 43 (.mv (.t 6)), .a 44 (.idx 3 (.t 42) (.t 43)), .a 45 (.off 2 (.t 44)), .a 46 (.load1 (.t 45)), .a 47 (.slen (.t 46)), .a 48 (.bin .lss (.t 41) (.t
 47))] (ap [.a 49 (.mv (.t 48)), .g (some 50) (.mv (.t 9)) 49 true] (ap [.g (some 51) (.bin .lss (.t 50) (kI 3)) 49 true] [.a 52 (.pick (.t 49) (.t 51)
 kF)])))) (.cond (.t 52) .skip (.exit 4))) (.seq (.block 5 (.seq (.ops (ap [.a 55 (.mv (.t 0)), .a 56 (.mv (.t 6)), .a 57 (.idx 3 (.t 55) (.t 56)), .a
 58 (.off 2 (.t 57)), .a 59 (.load1 (.t 58)), .a 60 (.mv (.t 9)), .a 61 (.idx 1 (.t 59) (.t 60)), .a 62 (.load1 (.t 61)), .a 63 (.mv (.t 6)), .a 64
 (.call (kC 10) [(.t 62), (.t 63)])] (ap [.a 65 (.mv (.t 8)), .a 66 (.bin .eql (.t 64) (.t 65))] (ap [.a 67 (.mv (.t 66)), .g (some 68) (.off 0 (.t 7))
 67 true] (ap [.g (some 69) (.load1 (.t 68)) 67 true, .g (some 70) (.slen (.t 69)) 67 true, .g (some 71) (.bin .eql (.t 70) (kI 0)) 67 true] (ap [.g
 (some 72) (.mv (.t 71)) 67 true, .g (some 73) (.off 0 (.t 7)) 72 false] (ap [.g (some 74) (.load1 (.t 73)) 72 false, .g (some 75) (.off 0 (.t 7)) 72
 false, .g (some 76) (.load1 (.t 75)) 72 false, .g (some 77) (.slen (.t 76)) 72 false, .g (some 78) (.bin .sub (.t 77) (kI 1)) 72 false, .g (some 79)
 (.idx 1 (.t 74) (.t 78)) 72 false, .g (some 80) (.load1 (.t 79)) 72 false, .g (some 81) (.mv (.t 8)) 72 false, .g (some 82) (.bin .lss (.t 80) (.t 81))
 72 false] (ap [.g (some 83) (.pick (.t 72) kT (.t 82)) 67 true] [.a 84 (.pick (.t 67) (.t 83) kF)])))))))) (.cond (.t 84) (.ops (ap [.a 85 (.off 0 (.t
 7)), .a 86 (.load1 (.t 85)), .a 87 (.mv (.t 8)), .a 88 (.bsl 3 1 1 [jI] [(0, (.t 87))]), .a 89 (.app 3 1 8 (.t 86) (.t 88))] [.a 90 (.off 0 (.t 7)), .n
 (.store 1 (.t 90) (.t 89))])) .skip))) (.ops [.a 53 (.mv (.t 9)), .a 54 (.bin .add (.t 53) (kI 1)), .a 9 (.mv (.t 54))]))))))) (.ops [.a 39 (.mv (.t
 8)), .a 40 (.bin .add (.t 39) (kI 1)), .a 8 (.mv (.t 40))])))))) (.ops (ap [.a 91 (.mv (.t 5)), .a 92 (.loadA 3 (.t 7)), .a 93 (.bsl 30 3 1 [jN, jI,
 jI] [(0, (.t 92))]), .a 94 (.app 30 3 40 (.t 91) (.t 93))] [.a 5 (.mv (.t 94))]))))) (.ops [.a 19 (.mv (.t 6)), .a 20 (.bin .add (.t 19) (kI 1)), .a 6
 (.mv (.t 20))])))))) (.seq (.seq (.ops [.a 95 (.mv (.t 5)), .a 96 (.slen (.t 95)), .a 97 (.bin .eql (.t 96) (kI 0))]) (.cond (.t 97) (.ops [.a 98 (.bld
 [jN, jI, jI] [(1, 1, (kI 1)), (2, 1, (kI 5))]), .a 99 (.bsl 30 3 1 [jN, jI, jI] [(0, (.t 98))]), .a 5 (.mv (.t 99))]) .skip)) (.seq (.ops (ap [.a 100
 (.mv (.t 1)), .a 101 (.bin .quo (.t 100) (kI 20)), .a 102 (.mv (.t 5)), .a 103 (.slen (.t 102)), .a 104 (.call (kC 10) [(.t 101), (.t 103)])] [.a 10
 (.mv (.t 104))])) (.seq (.seq (.ops [.a 105 (.mv (.t 1)), .a 106 (.call (kC 10) [(.t 105), (kI 20)])]) (.block 6 (.seq (.ops (ap [.a 108 (.bin .eql (.t
 106) (kI 0))] [.a 107 (.mv (.t 108))])) (.cond (.t 107) (.ops [.a 109 (.mv (.t 5)), .a 110 (.mv (.t 10)), .a 111 (.mv (.t 10)), .a 112 (.bsl 3 1 1 [jI]
 [(0, (.t 111))]), .a 113 (.idx 3 (.t 109) (.t 110)), .a 114 (.off 0 (.t 113)), .n (.store 1 (.t 114) (.t 112))]) (.seq (.ops (ap [.a 116 (.bin .eql (.t
 106) (kI 1))] [.a 115 (.mv (.t 116))])) (.cond (.t 115) (.ops [.a 117 (.mv (.t 5)), .a 118 (.mv (.t 5)), .a 119 (.slen (.t 118)), .a 120 (.bin .sub (.t
 119) (kI 1)), .a 121 (.bsl 3 1 1 [jI] [(0, (.t 120))]), .a 122 (.idx 3 (.t 117) (kI 0)), .a 123 (.off 0 (.t 122)), .n (.store 1 (.t 123) (.t 121))])
 (.seq (.ops (ap [.a 125 (.bin .eql (.t 106) (kI 2))] [.a 124 (.mv (.t 125))])) (.cond (.t 124) (.ops (ap [.a 126 (.mv (.t 5)), .a 127 (.mv (.t 10)), .a
 128 (.mv (.t 1)), .a 129 (.bin .quo (.t 128) (kI 60)), .a 130 (.call (kC 10) [(.t 129), (kI 9)])] [.a 131 (.bin .sub (.t 130) (kI 1)), .a 132 (.idx 3
 (.t 126) (.t 127)), .a 133 (.off 1 (.t 132)), .n (.store 1 (.t 133) (.t 131))])) (.seq (.ops (ap [.a 135 (.bin .eql (.t 106) (kI 3))] [.a 134 (.mv (.t
 135))])) (.cond (.t 134) (.ops (ap [.a 136 (.mv (.t 5)), .a 137 (.mv (.t 10)), .a 138 (.mv (.t 1)), .a 139 (.bin .quo (.t 138) (kI 60)), .a 140 (.call
 (kC 10) [(.t 139), (kI 9)])] [.a 141 (.bsl 3 1 1 [jI] [(0, (.t 140))]), .a 142 (.idx 3 (.t 136) (.t 137)), .a 143 (.off 0 (.t 142)), .n (.store 1 (.t
 143) (.t 141))])) (.seq (.ops (ap [.a 145 (.bin .eql (.t 106) (kI 4))] [.a 144 (.mv (.t 145))])) (.cond (.t 144) (.ops [.a 146 (.mv (.t 5)), .a 147
 (.mv (.t 10)), .a 148 (.idx 3 (.t 146) (.t 147)), .a 149 (.off 2 (.t 148)), .n (.store 1 (.t 149) (kI 0))]) (.seq (.ops (ap [.a 151 (.bin .eql (.t 106)
 (kI 5))] [.a 150 (.mv (.t 151))])) (.cond (.t 150) (.ops [.a 152 (.mv (.t 5)), .a 153 (.mv (.t 10)), .a 154 (.bsl 3 1 2 [jI, jI] [(0, (kI 1)), (1, (kI
 0))]), .a 155 (.idx 3 (.t 152) (.t 153)), .a 156 (.off 0 (.t 155)), .n (.store 1 (.t 156) (.t 154))]) .skip)))))))))))))) (.seq (.ops [.a 157 (.mv (.t
 5)), .a 4 (.mv (.t 157))]) .ret)))))))
theorem fn_hand_Defs : Fn Try.prog 7 158 [.t 4] s_hand_Defs := .of Try.func7 (by kernel_rfl)

/-- cutover.cutoverlaw11.raw -/
def s_law_raw : SCode :=
  (.seq (.ops [.a 6 (.mv kN)]) (.seq (.seq (.ops [.a 12 (.mv (.t 2)), .a 13 (.unot (.t 12))]) (.cond (.t 13) (.seq (.ops (ap [.a 14 (.mv (.t 0)), .a 15
 (.mv (.t 1)), .a 16 (.call (kC 7) [(.t 14), (.t 15)])] [.a 6 (.mv (.t 16))])) .ret) .skip)) (.seq (.ops [.a 7 (.mv kN)]) (.seq (.seq (.ops [.a 8 (.mv
 (kI 0))]) (.block 0 (.loop (.seq (.seq (.ops (ap [.a 17 (.mv (.t 8)), .a 18 (.mv (.t 0)), .a 19 (.slen (.t 18)), .a 20 (.bin .lss (.t 17) (.t 19))] (ap
 [.a 21 (.mv (.t 20)), .g (some 22) (.mv (.t 8)) 21 true] (ap [.g (some 23) (.bin .lss (.t 22) (kI 9)) 21 true] [.a 24 (.pick (.t 21) (.t 23) kF)]))))
 (.cond (.t 24) .skip (.exit 0))) (.seq (.block 1 (.seq (.drw [.a 27 (.mv (.t 0)), .a 28 (.mv (.t 8)), .a 29 (.idx 3 (.t 27) (.t 28)), .a 30 (.off 0 (.t
 29)), .a 31 (.load1 (.t 30)), .a 32 (.call (kC 10) [(.t 31), (kI 5)]), .a 33 (.bin .add (kI 1) (.t 32)), .a 34 (.mv (.t 0)), .a 35 (.mv (.t 8)), .a 36
 (.idx 3 (.t 34) (.t 35)), .a 37 (.off 1 (.t 36)), .a 38 (.load1 (.t 37)), .a 39 (.call (kC 10) [(.t 38), (kI 9)]), .a 40 (.bin .add (kI 1) (.t 39)), .a
 41 (.bld [jN, jI, jI] [(1, 1, (.t 33)), (2, 1, (.t 40))]), .a 9 (.alloc 30 [jN, jI, jI]), .n (.store 3 (.t 9) (.t 41))] [0, 0, 3, 7, 15, 31, 63, 0, 0,
 384, 896, 1920, 4031, 8127, 16383, 0, 65535]) (.seq (.seq (.ops [.a 10 (.mv (kI 0))]) (.block 2 (.loop (.seq (.seq (.ops [.a 42 (.mv (.t 10)), .a 43
 (.mv (.t 0)), .a 44 (.slen (.t 43)), .a 45 (.mm false (.t 44) (kI 9)), .a 46 (.bin .lss (.t 42) (.t 45))]) (.cond (.t 46) .skip (.exit 2))) (.seq
 (.block 3 (.seq (.ops [.a 11 (.mv (kI 0))]) (.block 4 (.loop (.seq (.seq (.ops (ap [.a 49 (.mv (.t 11)), .a 50 (.mv (.t 0)), .a 51 (.mv (.t 8)), .a 52
 (.idx 3 (.t 50) (.t 51)), .a 53 (.off 2 (.t 52)), .a 54 (.load1 (.t 53)), .a 55 (.slen (.t 54)), .a 56 (.bin .lss (.t 49) (.t 55))] (ap [.a 57 (.mv (.t
 56)), .g (some 58) (.mv (.t 11)) 57 true] (ap [.g (some 59) (.bin .lss (.t 58) (kI 2)) 57 true] [.a 60 (.pick (.t 57) (.t 59) kF)])))) (.cond (.t 60)
 .skip (.exit 4))) (.seq (.block 5 (.seq (.ops (ap [.a 63 (.mv (.t 0)), .a 64 (.mv (.t 8)), .a 65 (.idx 3 (.t 63) (.t 64)), .a 66 (.off 2 (.t 65)), .a
 67 (.load1 (.t 66)), .a 68 (.mv (.t 11)), .a 69 (.idx 1 (.t 67) (.t 68)), .a 70 (.load1 (.t 69)), .a 71 (.call (kC 10) [(.t 70), (kI 9)])] (ap [.a 72
 (.mv (.t 10)), .a 73 (.bin .eql (.t 71) (.t 72))] (ap [.a 74 (.mv (.t 73)), .g (some 75) (.off 0 (.t 9)) 74 true] (ap [.g (some 76) (.load1 (.t 75)) 74
 true, .g (some 77) (.slen (.t 76)) 74 true, .g (some 78) (.bin .eql (.t 77) (kI 0)) 74 true] (ap [.g (some 79) (.mv (.t 78)) 74 true, .g (some 80)
 (.off 0 (.t 9)) 79 false] (ap [.g (some 81) (.load1 (.t 80)) 79 false, .g (some 82) (.off 0 (.t 9)) 79 false, .g (some 83) (.load1 (.t 82)) 79 false,
 .g (some 84) (.slen (.t 83)) 79 false, .g (some 85) (.bin .sub (.t 84) (kI 1)) 79 false, .g (some 86) (.idx 1 (.t 81) (.t 85)) 79 false, .g (some 87)
 (.load1 (.t 86)) 79 false, .g (some 88) (.mv (.t 10)) 79 false, .g (some 89) (.bin .lss (.t 87) (.t 88)) 79 false] (ap [.g (some 90) (.pick (.t 79) kT
 (.t 89)) 74 true] [.a 91 (.pick (.t 74) (.t 90) kF)])))))))) (.cond (.t 91) (.ops (ap [.a 92 (.off 0 (.t 9)), .a 93 (.load1 (.t 92)), .a 94 (.mv (.t
 10)), .a 95 (.bsl 3 1 1 [jI] [(0, (.t 94))]), .a 96 (.app 3 1 8 (.t 93) (.t 95))] [.a 97 (.off 0 (.t 9)), .n (.store 1 (.t 97) (.t 96))])) .skip)))
 (.ops [.a 61 (.mv (.t 11)), .a 62 (.bin .add (.t 61) (kI 1)), .a 11 (.mv (.t 62))]))))))) (.ops [.a 47 (.mv (.t 10)), .a 48 (.bin .add (.t 47) (kI 1)),
 .a 10 (.mv (.t 48))])))))) (.ops (ap [.a 98 (.mv (.t 7)), .a 99 (.loadA 3 (.t 9)), .a 100 (.bsl 30 3 1 [jN, jI, jI] [(0, (.t 99))]), .a 101 (.app 30 3
 40 (.t 98) (.t 100))] [.a 7 (.mv (.t 101))]))))) (.ops [.a 25 (.mv (.t 8)), .a 26 (.bin .add (.t 25) (kI 1)), .a 8 (.mv (.t 26))])))))) (.seq (.ops [.a
 102 (.mv (.t 7)), .a 6 (.mv (.t 102))]) .ret)))))
theorem fn_law_raw : Fn Try.prog 34 103 [.t 6] s_law_raw := .of Try.func34 (by kernel_rfl)

/-- cutover.cutoverlaw11.known -/
def s_law_known : SCode :=
  (.seq (.ops [.a 0 (.mv kF)]) (.seq (.ops (ap [.a 4 (.bsl 3 1 1 [jI] [(0, (kI 1))]), .a 5 (.bld [jN, jI, jI] [(1, 1, (kI 1)), (2, 1, (kI 1)), (0, 1, (.t
 4))]), .a 6 (.bld [jN, jI, jI] [(1, 1, (kI 1)), (2, 1, (kI 1))]), .a 7 (.bsl 30 3 2 [jN, jI, jI, jN, jI, jI] [(0, (.t 5)), (3, (.t 6))]), .a 8 (.call
 (kC 11) [(.t 7)])] [.a 3 (.mv (.t 8)), .a 9 (.ext 0 (.t 3)), .a 10 (.ext 1 (.t 3)), .a 1 (.mv (.t 9)), .a 2 (.mv (.t 10))])) (.seq (.ops (ap [.a 11
 (.mv (.t 2)), .a 12 (.mv (.t 11)), .g (some 13) (.mv (.t 1)) 12 true] (ap [.g (some 14) (.bsl 3 1 2 [jI, jI] [(0, (kI 1)), (1, (kI 0))]) 12 true, .g
 (some 15) (.call (kC 37) [(.t 13), (.t 14)]) 12 true] [.a 16 (.pick (.t 12) (.t 15) kF), .a 0 (.mv (.t 16))]))) .ret)))
theorem fn_law_known : Fn Try.prog 8 17 [.t 0] s_law_known := .of Try.func8 (by kernel_rfl)

/-- cutover.cutoverref8.SameInts -/
def s_ref_SameInts : SCode :=
  (.seq (.ops [.a 4 (.mv kF)]) (.seq (.seq (.ops [.a 6 (.mv (.t 0)), .a 7 (.slen (.t 6)), .a 8 (.mv (.t 1)), .a 9 (.slen (.t 8)), .a 10 (.bin .neq (.t 7)
 (.t 9))]) (.cond (.t 10) (.seq (.ops [.a 4 (.mv kF)]) .ret) .skip)) (.seq (.seq (.ops [.a 5 (.mv (kI 0))]) (.block 0 (.loop (.seq (.seq (.ops [.a 11
 (.mv (.t 5)), .a 12 (.mv (.t 0)), .a 13 (.slen (.t 12)), .a 14 (.bin .lss (.t 11) (.t 13))]) (.cond (.t 14) .skip (.exit 0))) (.seq (.block 1 (.seq
 (.drw [.a 17 (.mv (.t 0)), .a 18 (.mv (.t 5)), .a 19 (.idx 1 (.t 17) (.t 18)), .a 20 (.load1 (.t 19)), .a 21 (.mv (.t 1)), .a 22 (.mv (.t 5)), .a 23
 (.idx 1 (.t 21) (.t 22)), .a 24 (.load1 (.t 23)), .a 25 (.bin .neq (.t 20) (.t 24))] [0, 0, 3, 7, 0, 0, 48, 112, 255]) (.cond (.t 25) (.seq (.ops [.a 4
 (.mv kF)]) .ret) .skip))) (.ops [.a 15 (.mv (.t 5)), .a 16 (.bin .add (.t 15) (kI 1)), .a 5 (.mv (.t 16))])))))) (.seq (.ops [.a 4 (.mv kT)]) .ret))))
theorem fn_ref_SameInts : Fn Try.prog 37 26 [.t 4] s_ref_SameInts := .of Try.func37 (by kernel_rfl)

end Go.Proofs.Ytjbkckhpoicaeaa.Mir

/- The hand's Pick; contracts out of runs. -/
namespace Go.Proofs.Ytjbkckhpoicaeaa.Mir
open Go Go.RowKit
set_option linter.unusedVariables false
set_option linter.unusedSimpArgs false
set_option maxHeartbeats 2000000

def pick (x n : Int) : Int := if x.tmod n < 0 then x.tmod n + n else x.tmod n
theorem tmod_lt {x n : Int} (hn : 0 < n) : x.tmod n < n := Int.tmod_lt_of_pos x hn
theorem tmod_gt {x n : Int} (hn : 0 < n) : -n < x.tmod n := by
  have := Int.tmod_lt_of_pos (-x) hn
  rw [Int.neg_tmod] at this; omega
theorem pick_in {x n : Int} (hn : 0 < n) : 0 ≤ pick x n ∧ pick x n < n := by
  have h1 := tmod_lt (x := x) hn
  have h2 := tmod_gt (x := x) hn
  unfold pick; split <;> omega
theorem c_hand_Pick (x n : Int) (hn : 0 < n) (hn2 : n ≤ 1000000) : Con Try.prog 10 [D.int x, D.int n] [] fun r H' => r = D.int (pick x n) ∧ H' = [] := by
  have h1 := tmod_lt (x := x) hn
  have h2 := tmod_gt (x := x) hn
  refine Con.walk good fn_hand_Pick (by simp) ?_
  unfold s_hand_Pick
  simp only [argsE, List.length_cons, List.length_nil, Nat.reduceAdd]
  repeat' (first | (with_reducible first | refine Wa.h ?_ | refine Ws.h ?_ | refine Wb.h fun K hK => ?_ | (refine hK _ ?_; clear hK K)) | ((with_reducible refine kQ ?_ ?_); kernel_rfl) | ((with_reducible refine k1 ?_ ?_); rfl) | ((with_reducible refine k0 ?_ ?_); rfl) | ((with_reducible apply kB) <;> first | rfl | intro h) | ((with_reducible refine kM ?_ ?_); rfl) | (with_reducible refine Wt.h (fun h => ?_) (fun h => ?_)) <;> try (exfalso; omega) | (with_reducible refine Wu.h (fun h => ?_) (fun h => ?_)) <;> try simp only [h] | ((fail_if_success with_reducible refine Wz.h ?_); simp (disch := omega) only [↓LD, LU, LS, LT, loadA_rf, seval]) | ((with_reducible refine And.intro ?_ ?_); omega) | ((fail_if_success with_reducible refine Wz.h ?_); simp only [D.int, D.bool]))
  · refine end1 rfl rfl (by kernel_rfl) .f ⟨congrArg D.int ?_, rfl⟩
    rw [pick, if_pos h]
  · refine end1 rfl rfl (by kernel_rfl) .f ⟨congrArg D.int ?_, rfl⟩
    rw [pick, if_neg h]

/-- A run tells a contract. -/
theorem Con.run {P : Program} (hP : Good P) {ext : Ext} (hext : ∀ f g, ext f = some g → Sound P f g) {n : Nat} {f : FuncId} {args : List D} {H : List Row} {e : Eff} (hf : ∃ fn, P.funcs[f]? = some fn ∧ fn.body.isSome = true)
    (h : Mir.run P ext n f args H = some e) : Con P f args H fun r H' => r = e.res ∧ H' = e.heap H :=
  ⟨hf, fun w φ X vs hH ha => (run_ok hP hext n f args H e h w φ X vs hH ha).mono fun _ _ ⟨v, h1, h2⟩ => ⟨v, e.res, e.heap H, h1, ⟨rfl, rfl⟩, LeavesW.of h2⟩⟩
theorem Fn.has {P : Program} {f : FuncId} {n : Nat} {rs : List SR} {c : SCode} (h : Fn P f n rs c) : ∃ fn, P.funcs[f]? = some fn ∧ fn.body.isSome = true := by
  obtain ⟨fn, k, h1, h2, _⟩ := h
  exact ⟨fn, h1, by rw [h2]; rfl⟩
end Go.Proofs.Ytjbkckhpoicaeaa.Mir

/- The document's disk: Now, works, Read, Sync, pick. -/
namespace Go.Proofs.Ytjbkckhpoicaeaa.Mir
open Go Go.RowKit
set_option linter.unusedVariables false
set_option linter.unusedSimpArgs false
set_option maxHeartbeats 2000000

/-- The document's disk, in memory. -/
def rkB (w : List Bs) (ps : List Op) (fuse : Int) (dead : Bool) (works : Int) : Row := .box 57 [.f (fK w), .f (fP ps), D.int fuse, D.bool dead, D.int works]
def totW (w : List Bs) : Nat := (w.map List.length).sum
def totP (l : List Op) : Nat := (l.map fun o => o.b.length).sum
theorem mem_sum : ∀ {l : List Nat} {x : Nat}, x ∈ l → x ≤ l.sum
  | y :: l, x, h => by
    rcases List.mem_cons.1 h with rfl | h
    · simp
    · have := mem_sum h
      simp only [List.sum_cons]; omega
theorem totW_mem {w : List Bs} {x : Bs} (h : x ∈ w) : x.length ≤ totW w := mem_sum (List.mem_map.2 ⟨x, h, rfl⟩)
theorem totW_set : ∀ {w : List Bs} {k : Nat} {x : Bs}, k < w.length → totW (w.set k x) + (gt w k).length = totW w + x.length
  | y :: w, 0, x, _ => by simp [totW, gt]; omega
  | y :: w, k + 1, x, h => by
    have := totW_set (w := w) (k := k) (x := x) (by simpa using h)
    simp only [totW, List.set_cons_succ, List.map_cons, List.sum_cons] at this ⊢
    have e : gt (y :: w) (k + 1) = gt w k := rfl
    rw [e]; omega
theorem totW_pad {w : List Bs} {n : Nat} : totW (padL w n) = totW w := by simp [totW, padL]
theorem totW_turn {w : List Bs} {o : Op} : totW (turnL w o) ≤ totW w + o.b.length := by
  have hk : o.k.toNat < (padL w (o.k.toNat + 1)).length := by rw [padL_len]; omega
  have h1 := totW_pad (w := w) (n := o.k.toNat + 1)
  unfold turnL
  split
  · have := totW_set (x := []) hk
    simp at this; omega
  · have := totW_set (x := gt (padL w (o.k.toNat + 1)) o.k.toNat ++ o.b) hk
    simp at this; omega
structure RdOk (w : List Bs) (ps : List Op) : Prop where
  len : w.length < 1000
  ks : ∀ o ∈ ps, 0 ≤ o.k ∧ o.k < 999
  tot : totW w + totP ps ≤ 140737488355328
  num : ps.length ≤ 1000000
theorem RdOk.now {w : List Bs} : ∀ {ps : List Op}, RdOk w ps → (nowL w ps).length < 1000 ∧ totW (nowL w ps) ≤ totW w + totP ps
  | [], h => ⟨h.len, by simp [nowL, totP]⟩
  | o :: ps, h => by
    have hk := h.ks o (by simp)
    have ht := h.tot
    have hn := h.num
    have ht1 := totW_turn (w := w) (o := o)
    simp only [totP, List.map_cons, List.sum_cons, List.length_cons] at ht hn
    have := RdOk.now (w := turnL w o) (ps := ps) ⟨by rw [turnL_len]; have := h.len; omega, fun x hx => h.ks x (by simp [hx]), by simp only [totP]; omega, by omega⟩
    simp only [nowL, List.foldl_cons, totP, List.map_cons, List.sum_cons] at this ⊢
    exact ⟨this.1, by omega⟩
theorem totP_take (ps : List Op) (i : Nat) : totP (ps.take i) ≤ totP ps := by
  have : totP ps = totP (ps.take i) + totP (ps.drop i) := by
    simp only [totP]
    rw [← List.sum_append, ← List.map_append, List.take_append_drop]
  omega
theorem totP_mem {ps : List Op} {o : Op} (h : o ∈ ps) : o.b.length ≤ totP ps := mem_sum (List.mem_map.2 ⟨o, h, rfl⟩)
theorem RdOk.take {w : List Bs} {ps : List Op} (h : RdOk w ps) (i : Nat) : RdOk w (ps.take i) :=
  ⟨h.len, fun o ho => h.ks o (List.mem_of_mem_take ho), by have := totP_take ps i; have := h.tot; omega, by have := h.num; rw [List.length_take]; omega⟩
theorem nowL_take {w : List Bs} {ps : List Op} {i : Nat} (h : i < ps.length) : nowL w (ps.take (i + 1)) = turnL (nowL w (ps.take i)) (gt ps i) := by
  rw [nowL, List.take_add_one, List.getElem?_eq_getElem h, gt_eq h, List.foldl_append]; rfl
/-- One turn more may be done. -/
theorem RdOk.turn {w : List Bs} {ps : List Op} (h : RdOk w ps) {i : Nat} (hi : i < ps.length) :
    (0 ≤ (gt ps i).k ∧ (gt ps i).k < 1000) ∧ (nowL w (ps.take i)).length < 1000 ∧ (∀ x ∈ nowL w (ps.take i), x.length + (gt ps i).b.length ≤ 140737488355328) ∧ (gt ps i).b.length ≤ 140737488355328 := by
  have h1 := (h.take i).now
  have h2 := h.ks _ (gt_memR hi)
  have h3 := totP_take ps (i + 1)
  have h4 : totP (ps.take (i + 1)) = totP (ps.take i) + (gt ps i).b.length := by
    rw [List.take_add_one, List.getElem?_eq_getElem hi, gt_eq hi]; simp only [totP, List.map_append, List.sum_append, Option.toList_some, List.map_cons, List.map_nil, List.sum_cons, List.sum_nil, Nat.add_zero]
  have h5 := h.tot
  exact ⟨⟨h2.1, by omega⟩, h1.1, fun x hx => by have := totW_mem hx; omega, by omega⟩
theorem c_rd_Now (w : List Bs) (ps : List Op) (fuse : Int) (dead : Bool) (works : Int) (h : RdOk w ps) :
    Con Try.prog 55 [.pt 0 0] [rkB w ps fuse dead works] fun r H' => r = .f (fK (nowL w ps)) ∧ H' = [rkB w ps fuse dead works] := by
  refine Con.walk good fn_rd_Now (by simp) ?_
  unfold s_rd_Now
  simp only [argsE, List.length_cons, List.length_nil, Nat.reduceAdd]
  repeat' (first | (with_reducible first | refine Wa.h ?_ | refine Ws.h ?_ | refine Wb.h fun K hK => ?_ | (refine hK _ ?_; clear hK K)) | ((with_reducible refine kQ ?_ ?_); kernel_rfl) | ((with_reducible refine k1 ?_ ?_); rfl) | ((with_reducible refine k0 ?_ ?_); rfl) | ((with_reducible apply kB) <;> first | rfl | intro h) | ((with_reducible refine kM ?_ ?_); rfl) | (with_reducible refine Wt.h (fun h => ?_) (fun h => ?_)) <;> try (exfalso; omega) | (with_reducible refine Wu.h (fun h => ?_) (fun h => ?_)) <;> try simp only [h] | ((fail_if_success with_reducible refine Wz.h ?_); simp (disch := omega) only [↓LD, LU, LS, LT, loadA_rf, ↓reduceIte, reduceCtorEq, Nat.reduceAdd, Nat.reduceMul, Nat.reduceSub, Nat.reduceLeDiff, Nat.reduceLT, Nat.reduceEqDiff, Int.reduceNeg, Int.reduceLT, Int.reduceLE, Int.reduceEq, Int.reduceToNat, rkB]) | ((with_reducible refine And.intro ?_ ?_); omega) | ((fail_if_success with_reducible refine Wz.h ?_); simp only [D.int, D.bool]))
  refine HS.loopG [0, 3, 4] (fun i : Nat => ⟨frm 28 [(0, .pt 0 0), (3, .f (fK (nowL w (ps.take i)))), (4, D.int i)], [rkB w ps fuse dead works], []⟩)
    (fun i => i ≤ ps.length) (fun i => ps.length - i) 0 (by kernel_rfl) (Nat.zero_le _) ?_
  rintro i hi
  have hnum := h.num
  by_cases hil : i < ps.length
  · obtain ⟨h1, h2, h3, h4⟩ := h.turn hil
    repeat' (first | (with_reducible first | refine Wa.h ?_ | refine Ws.h ?_ | refine Wb.h fun K hK => ?_ | (refine hK _ ?_; clear hK K)) | ((with_reducible refine kQ ?_ ?_); kernel_rfl) | ((with_reducible refine k1 ?_ ?_); rfl) | ((with_reducible refine k0 ?_ ?_); rfl) | ((with_reducible apply kB) <;> first | rfl | intro h) | ((with_reducible refine kM ?_ ?_); rfl) | (with_reducible refine Wt.h (fun h => ?_) (fun h => ?_)) <;> try (exfalso; omega) | (with_reducible refine Wu.h (fun h => ?_) (fun h => ?_)) <;> try simp only [h] | ((fail_if_success with_reducible refine Wz.h ?_); simp (disch := omega) only [↓LD, LU, LS, LT, loadA_rf, ↓reduceIte, reduceCtorEq, Nat.reduceAdd, Nat.reduceMul, Nat.reduceSub, Nat.reduceLeDiff, Nat.reduceLT, Nat.reduceEqDiff, Int.reduceNeg, Int.reduceLT, Int.reduceLE, Int.reduceEq, Int.reduceToNat, rkB, fP, op_load, op_cs, -loadA_rf]) | ((with_reducible refine And.intro ?_ ?_); omega) | ((fail_if_success with_reducible refine Wz.h ?_); simp only [D.int, D.bool]))
    refine callW_emb (c_rd_turn _ (gt ps i) h1 h2 h3 h4) [] (by kernel_rfl) rfl rfl ?_
    rintro _ _ ⟨rfl, rfl⟩
    rw [← nowL_take hil]
    repeat' (first | (with_reducible first | refine Wa.h ?_ | refine Ws.h ?_ | refine Wb.h fun K hK => ?_ | (refine hK _ ?_; clear hK K)) | ((with_reducible refine kQ ?_ ?_); kernel_rfl) | ((with_reducible refine k1 ?_ ?_); rfl) | ((with_reducible refine k0 ?_ ?_); rfl) | ((with_reducible apply kB) <;> first | rfl | intro h) | ((with_reducible refine kM ?_ ?_); rfl) | (with_reducible refine Wt.h (fun h => ?_) (fun h => ?_)) <;> try (exfalso; omega) | (with_reducible refine Wu.h (fun h => ?_) (fun h => ?_)) <;> try simp only [h] | ((fail_if_success with_reducible refine Wz.h ?_); simp (disch := omega) only [↓LD, LU, LS, LT, loadA_rf, ↓reduceIte, reduceCtorEq, Nat.reduceAdd, Nat.reduceMul, Nat.reduceSub, Nat.reduceLeDiff, Nat.reduceLT, Nat.reduceEqDiff, Int.reduceNeg, Int.reduceLT, Int.reduceLE, Int.reduceEq, Int.reduceToNat, rkB]) | ((with_reducible refine And.intro ?_ ?_); omega) | ((fail_if_success with_reducible refine Wz.h ?_); simp only [D.int, D.bool]))
    exact Next.mk (i + 1) (by kernel_rfl) (by omega) (by omega)
  · rw [List.take_of_length_le (by omega)]
    repeat' (first | (with_reducible first | refine Wa.h ?_ | refine Ws.h ?_ | refine Wb.h fun K hK => ?_ | (refine hK _ ?_; clear hK K)) | ((with_reducible refine kQ ?_ ?_); kernel_rfl) | ((with_reducible refine k1 ?_ ?_); rfl) | ((with_reducible refine k0 ?_ ?_); rfl) | ((with_reducible apply kB) <;> first | rfl | intro h) | ((with_reducible refine kM ?_ ?_); rfl) | (with_reducible refine Wt.h (fun h => ?_) (fun h => ?_)) <;> try (exfalso; omega) | (with_reducible refine Wu.h (fun h => ?_) (fun h => ?_)) <;> try simp only [h] | ((fail_if_success with_reducible refine Wz.h ?_); simp (disch := omega) only [↓LD, LU, LS, LT, loadA_rf, ↓reduceIte, reduceCtorEq, Nat.reduceAdd, Nat.reduceMul, Nat.reduceSub, Nat.reduceLeDiff, Nat.reduceLT, Nat.reduceEqDiff, Int.reduceNeg, Int.reduceLT, Int.reduceLE, Int.reduceEq, Int.reduceToNat, rkB, fP]) | ((with_reducible refine And.intro ?_ ?_); omega) | ((fail_if_success with_reducible refine Wz.h ?_); simp only [D.int, D.bool]))
    exact endA rfl rfl ⟨rfl, rfl⟩
theorem c_rd_works (w : List Bs) (ps : List Op) (fuse : Int) (dead : Bool) (works : Int) (hf : -1 ≤ fuse ∧ fuse ≤ 1000000) (hw : 0 ≤ works ∧ works ≤ 1000000) :
    Con Try.prog 54 [.pt 0 0] [rkB w ps fuse dead works] fun r H' => r = D.bool (!deadN' fuse dead) ∧ H' = [rkB w ps (fuseN fuse dead) (deadN' fuse dead) (worksN fuse dead works)] := by
  refine Con.walk good fn_rd_works (by simp) ?_
  unfold s_rd_works
  simp only [argsE, List.length_cons, List.length_nil, Nat.reduceAdd]
  cases dead with
  | true =>
    repeat' (first | (with_reducible first | refine Wa.h ?_ | refine Ws.h ?_ | refine Wb.h fun K hK => ?_ | (refine hK _ ?_; clear hK K)) | ((with_reducible refine kQ ?_ ?_); kernel_rfl) | ((with_reducible refine k1 ?_ ?_); rfl) | ((with_reducible refine k0 ?_ ?_); rfl) | ((with_reducible apply kB) <;> first | rfl | intro h) | ((with_reducible refine kM ?_ ?_); rfl) | (with_reducible refine Wt.h (fun h => ?_) (fun h => ?_)) <;> try (exfalso; omega) | (with_reducible refine Wu.h (fun h => ?_) (fun h => ?_)) <;> try simp only [h] | ((fail_if_success with_reducible refine Wz.h ?_); simp (disch := omega) only [↓LD, LU, LS, LT, loadA_rf, ↓reduceIte, reduceCtorEq, Nat.reduceAdd, Nat.reduceMul, Nat.reduceSub, Nat.reduceLeDiff, Nat.reduceLT, Nat.reduceEqDiff, Int.reduceNeg, Int.reduceLT, Int.reduceLE, Int.reduceEq, Int.reduceToNat, rkB]) | ((with_reducible refine And.intro ?_ ?_); omega) | ((fail_if_success with_reducible refine Wz.h ?_); simp only [D.int, D.bool]))
    all_goals
      refine endA rfl rfl ⟨?_, ?_⟩
      · simp_all [deadN', look_cons, D.bool]
      · simp_all [deadN', fuseN, worksN, rkB, D.int, D.bool] <;> omega
  | false =>
    repeat' (first | (with_reducible first | refine Wa.h ?_ | refine Ws.h ?_ | refine Wb.h fun K hK => ?_ | (refine hK _ ?_; clear hK K)) | ((with_reducible refine kQ ?_ ?_); kernel_rfl) | ((with_reducible refine k1 ?_ ?_); rfl) | ((with_reducible refine k0 ?_ ?_); rfl) | ((with_reducible apply kB) <;> first | rfl | intro h) | ((with_reducible refine kM ?_ ?_); rfl) | (with_reducible refine Wt.h (fun h => ?_) (fun h => ?_)) <;> try (exfalso; omega) | (with_reducible refine Wu.h (fun h => ?_) (fun h => ?_)) <;> try simp only [h] | ((fail_if_success with_reducible refine Wz.h ?_); simp (disch := omega) only [↓LD, LU, LS, LT, loadA_rf, ↓reduceIte, reduceCtorEq, Nat.reduceAdd, Nat.reduceMul, Nat.reduceSub, Nat.reduceLeDiff, Nat.reduceLT, Nat.reduceEqDiff, Int.reduceNeg, Int.reduceLT, Int.reduceLE, Int.reduceEq, Int.reduceToNat, rkB]) | ((with_reducible refine And.intro ?_ ?_); omega) | ((fail_if_success with_reducible refine Wz.h ?_); simp only [D.int, D.bool]))
    all_goals
      refine endA rfl rfl ⟨?_, ?_⟩
      · simp_all [deadN', look_cons, D.bool]
      · simp_all [deadN', fuseN, worksN, rkB, D.int, D.bool] <;> omega
theorem c_rd_pick (x n : Int) (hn : 0 < n) (hn2 : n ≤ 281474976710656) : Con Try.prog 58 [D.int x, D.int n] [] fun r H' => r = D.int (pick x n) ∧ H' = [] := by
  have h1 := tmod_lt (x := x) hn
  have h2 := tmod_gt (x := x) hn
  refine Con.walk good fn_rd_pick (by simp) ?_
  unfold s_rd_pick
  simp only [argsE, List.length_cons, List.length_nil, Nat.reduceAdd]
  repeat' (first | (with_reducible first | refine Wa.h ?_ | refine Ws.h ?_ | refine Wb.h fun K hK => ?_ | (refine hK _ ?_; clear hK K)) | ((with_reducible refine kQ ?_ ?_); kernel_rfl) | ((with_reducible refine k1 ?_ ?_); rfl) | ((with_reducible refine k0 ?_ ?_); rfl) | ((with_reducible apply kB) <;> first | rfl | intro h) | ((with_reducible refine kM ?_ ?_); rfl) | (with_reducible refine Wt.h (fun h => ?_) (fun h => ?_)) <;> try (exfalso; omega) | (with_reducible refine Wu.h (fun h => ?_) (fun h => ?_)) <;> try simp only [h] | ((fail_if_success with_reducible refine Wz.h ?_); simp (disch := omega) only [↓LD, LU, LS, LT, loadA_rf, ↓reduceIte, reduceCtorEq, Nat.reduceAdd, Nat.reduceMul, Nat.reduceSub, Nat.reduceLeDiff, Nat.reduceLT, Nat.reduceEqDiff, Int.reduceNeg, Int.reduceLT, Int.reduceLE, Int.reduceEq, Int.reduceToNat]) | ((with_reducible refine And.intro ?_ ?_); omega) | ((fail_if_success with_reducible refine Wz.h ?_); simp only [D.int, D.bool]))
  · refine end1 rfl rfl (by kernel_rfl) .f ⟨congrArg D.int ?_, rfl⟩
    rw [pick, if_pos h]
  · refine end1 rfl rfl (by kernel_rfl) .f ⟨congrArg D.int ?_, rfl⟩
    rw [pick, if_neg h]
theorem c_rd_SetFuse (w : List Bs) (ps : List Op) (fuse : Int) (dead : Bool) (works x : Int) :
    Con Try.prog 27 [.pt 0 0, D.int x] [rkB w ps fuse dead works] fun r H' => r = .tp [] ∧ H' = [rkB w ps (max (-1) x) dead works] := by
  refine Con.walk good fn_rd_SetFuse (by simp) ?_
  unfold s_rd_SetFuse
  simp only [argsE, List.length_cons, List.length_nil, Nat.reduceAdd]
  repeat' (first | (with_reducible first | refine Wa.h ?_ | refine Ws.h ?_ | refine Wb.h fun K hK => ?_ | (refine hK _ ?_; clear hK K)) | ((with_reducible refine kQ ?_ ?_); kernel_rfl) | ((with_reducible refine k1 ?_ ?_); rfl) | ((with_reducible refine k0 ?_ ?_); rfl) | ((with_reducible apply kB) <;> first | rfl | intro h) | ((with_reducible refine kM ?_ ?_); rfl) | (with_reducible refine Wt.h (fun h => ?_) (fun h => ?_)) <;> try (exfalso; omega) | (with_reducible refine Wu.h (fun h => ?_) (fun h => ?_)) <;> try simp only [h] | ((fail_if_success with_reducible refine Wz.h ?_); simp (disch := omega) only [↓LD, LU, LS, LT, loadA_rf, ↓reduceIte, reduceCtorEq, Nat.reduceAdd, Nat.reduceMul, Nat.reduceSub, Nat.reduceLeDiff, Nat.reduceLT, Nat.reduceEqDiff, Int.reduceNeg, Int.reduceLT, Int.reduceLE, Int.reduceEq, Int.reduceToNat, rkB]) | ((with_reducible refine And.intro ?_ ?_); omega) | ((fail_if_success with_reducible refine Wz.h ?_); simp only [D.int, D.bool]))
  exact end0 ⟨rfl, rfl⟩
def rdL (w : List Bs) (ps : List Op) (dead : Bool) (k : Int) : Bs := if dead = false ∧ 0 ≤ k then (nowL w ps).getD k.toNat [] else []
theorem c_rd_Read (w : List Bs) (ps : List Op) (fuse : Int) (dead : Bool) (works k : Int) (h : RdOk w ps) :
    Con Try.prog 33 [.pt 0 0, D.int k] [rkB w ps fuse dead works] fun r H' => (r = .f (fY (rdL w ps dead k)) ∨ (rdL w ps dead k = [] ∧ r = .f nilF)) ∧ H' = [rkB w ps fuse dead works] := by
  have hnl := h.now.1
  cases dead with
  | true =>
    refine Con.walk good fn_rd_Read (by simp) ?_
    unfold s_rd_Read
    simp only [argsE, List.length_cons, List.length_nil, Nat.reduceAdd]
    repeat' (first | (with_reducible first | refine Wa.h ?_ | refine Ws.h ?_ | refine Wb.h fun K hK => ?_ | (refine hK _ ?_; clear hK K)) | ((with_reducible refine kQ ?_ ?_); kernel_rfl) | ((with_reducible refine k1 ?_ ?_); rfl) | ((with_reducible refine k0 ?_ ?_); rfl) | ((with_reducible apply kB) <;> first | rfl | intro h) | ((with_reducible refine kM ?_ ?_); rfl) | (with_reducible refine Wt.h (fun h => ?_) (fun h => ?_)) <;> try (exfalso; omega) | (with_reducible refine Wu.h (fun h => ?_) (fun h => ?_)) <;> try simp only [h] | ((fail_if_success with_reducible refine Wz.h ?_); simp (disch := omega) only [↓LD, LU, LS, LT, loadA_rf, ↓reduceIte, reduceCtorEq, Nat.reduceAdd, Nat.reduceMul, Nat.reduceSub, Nat.reduceLeDiff, Nat.reduceLT, Nat.reduceEqDiff, Int.reduceNeg, Int.reduceLT, Int.reduceLE, Int.reduceEq, Int.reduceToNat]) | ((with_reducible refine And.intro ?_ ?_); omega) | ((fail_if_success with_reducible refine Wz.h ?_); simp only [D.int, D.bool]))
    refine callW_emb (c_rd_Now w ps fuse true works h) [0] (by kernel_rfl) rfl rfl ?_
    rintro _ _ ⟨rfl, rfl⟩
    repeat' (first | (with_reducible first | refine Wa.h ?_ | refine Ws.h ?_ | refine Wb.h fun K hK => ?_ | (refine hK _ ?_; clear hK K)) | ((with_reducible refine kQ ?_ ?_); kernel_rfl) | ((with_reducible refine k1 ?_ ?_); rfl) | ((with_reducible refine k0 ?_ ?_); rfl) | ((with_reducible apply kB) <;> first | rfl | intro h) | ((with_reducible refine kM ?_ ?_); rfl) | (with_reducible refine Wt.h (fun h => ?_) (fun h => ?_)) <;> try (exfalso; omega) | (with_reducible refine Wu.h (fun h => ?_) (fun h => ?_)) <;> try simp only [h] | ((fail_if_success with_reducible refine Wz.h ?_); simp (disch := omega) only [↓LD, LU, LS, LT, loadA_rf, ↓reduceIte, reduceCtorEq, Nat.reduceAdd, Nat.reduceMul, Nat.reduceSub, Nat.reduceLeDiff, Nat.reduceLT, Nat.reduceEqDiff, Int.reduceNeg, Int.reduceLT, Int.reduceLE, Int.reduceEq, Int.reduceToNat, rkB, fK]) | ((with_reducible refine And.intro ?_ ?_); omega) | ((fail_if_success with_reducible refine Wz.h ?_); simp only [D.int, D.bool]))
    exact endA rfl rfl ⟨.inr ⟨by simp [rdL], rfl⟩, rfl⟩
  | false =>
    refine Con.walk good fn_rd_Read (by simp) ?_
    unfold s_rd_Read
    simp only [argsE, List.length_cons, List.length_nil, Nat.reduceAdd]
    repeat' (first | (with_reducible first | refine Wa.h ?_ | refine Ws.h ?_ | refine Wb.h fun K hK => ?_ | (refine hK _ ?_; clear hK K)) | ((with_reducible refine kQ ?_ ?_); kernel_rfl) | ((with_reducible refine k1 ?_ ?_); rfl) | ((with_reducible refine k0 ?_ ?_); rfl) | ((with_reducible apply kB) <;> first | rfl | intro h) | ((with_reducible refine kM ?_ ?_); rfl) | (with_reducible refine Wt.h (fun h => ?_) (fun h => ?_)) <;> try (exfalso; omega) | (with_reducible refine Wu.h (fun h => ?_) (fun h => ?_)) <;> try simp only [h] | ((fail_if_success with_reducible refine Wz.h ?_); simp (disch := omega) only [↓LD, LU, LS, LT, loadA_rf, ↓reduceIte, reduceCtorEq, Nat.reduceAdd, Nat.reduceMul, Nat.reduceSub, Nat.reduceLeDiff, Nat.reduceLT, Nat.reduceEqDiff, Int.reduceNeg, Int.reduceLT, Int.reduceLE, Int.reduceEq, Int.reduceToNat]) | ((with_reducible refine And.intro ?_ ?_); omega) | ((fail_if_success with_reducible refine Wz.h ?_); simp only [D.int, D.bool]))
    refine callW_emb (c_rd_Now w ps fuse false works h) [0] (by kernel_rfl) rfl rfl ?_
    rintro _ _ ⟨rfl, rfl⟩
    repeat' (first | (with_reducible first | refine Wa.h ?_ | refine Ws.h ?_ | refine Wb.h fun K hK => ?_ | (refine hK _ ?_; clear hK K)) | ((with_reducible refine kQ ?_ ?_); kernel_rfl) | ((with_reducible refine k1 ?_ ?_); rfl) | ((with_reducible refine k0 ?_ ?_); rfl) | ((with_reducible apply kB) <;> first | rfl | intro h) | ((with_reducible refine kM ?_ ?_); rfl) | (with_reducible refine Wt.h (fun h => ?_) (fun h => ?_)) <;> try (exfalso; omega) | (with_reducible refine Wu.h (fun h => ?_) (fun h => ?_)) <;> try simp only [h] | ((fail_if_success with_reducible refine Wz.h ?_); simp (disch := omega) only [↓LD, LU, LS, LT, loadA_rf, ↓reduceIte, reduceCtorEq, Nat.reduceAdd, Nat.reduceMul, Nat.reduceSub, Nat.reduceLeDiff, Nat.reduceLT, Nat.reduceEqDiff, Int.reduceNeg, Int.reduceLT, Int.reduceLE, Int.reduceEq, Int.reduceToNat, rkB, fK]) | ((with_reducible refine And.intro ?_ ?_); omega) | ((fail_if_success with_reducible refine Wz.h ?_); simp only [D.int, D.bool]))
    · exact endA rfl rfl ⟨.inr ⟨by rw [rdL, if_neg (by omega)], rfl⟩, rfl⟩
    · exact endA rfl rfl ⟨.inr ⟨by rw [rdL, if_pos ⟨rfl, by omega⟩, List.getD, List.getElem?_eq_none (by omega)]; rfl, rfl⟩, rfl⟩
    · exact endA rfl rfl ⟨.inl (by rw [rdL, if_pos ⟨rfl, by omega⟩, List.getD, List.getElem?_eq_getElem (show k.toNat < (nowL w ps).length by omega), ← gt_eq]; rfl), rfl⟩
theorem ren_rk {ρ : Nat → Nat} {w : List Bs} {ps : List Op} {fuse : Int} {dead : Bool} {works : Int} : renR ρ (rkB w ps fuse dead works) = rkB w ps fuse dead works := rfl
theorem c_rd_Sync (w : List Bs) (ps : List Op) (fuse : Int) (dead : Bool) (works : Int) (h : RdOk w ps) (hf : -1 ≤ fuse ∧ fuse ≤ 1000000) (hw : 0 ≤ works ∧ works ≤ 1000000) :
    Con Try.prog 23 [.pt 0 0] [rkB w ps fuse dead works] fun r H' => r = D.int (if deadN' fuse dead = true then 14 else 0) ∧ H' = if deadN' fuse dead = true then [rkB w ps (fuseN fuse dead) true works] else [rkB (nowL w ps) [] (fuseN fuse dead) false (works + 1)] := by
  refine Con.walk good fn_rd_Sync (by simp) ?_
  unfold s_rd_Sync
  simp only [argsE, List.length_cons, List.length_nil, Nat.reduceAdd]
  repeat' (first | (with_reducible first | refine Wa.h ?_ | refine Ws.h ?_ | refine Wb.h fun K hK => ?_ | (refine hK _ ?_; clear hK K)) | ((with_reducible refine kQ ?_ ?_); kernel_rfl) | ((with_reducible refine k1 ?_ ?_); rfl) | ((with_reducible refine k0 ?_ ?_); rfl) | ((with_reducible apply kB) <;> first | rfl | intro h) | ((with_reducible refine kM ?_ ?_); rfl) | (with_reducible refine Wt.h (fun h => ?_) (fun h => ?_)) <;> try (exfalso; omega) | (with_reducible refine Wu.h (fun h => ?_) (fun h => ?_)) <;> try simp only [h] | ((fail_if_success with_reducible refine Wz.h ?_); simp (disch := omega) only [↓LD, LU, LS, LT, loadA_rf, ↓reduceIte, reduceCtorEq, Nat.reduceAdd, Nat.reduceMul, Nat.reduceSub, Nat.reduceLeDiff, Nat.reduceLT, Nat.reduceEqDiff, Int.reduceNeg, Int.reduceLT, Int.reduceLE, Int.reduceEq, Int.reduceToNat]) | ((with_reducible refine And.intro ?_ ?_); omega) | ((fail_if_success with_reducible refine Wz.h ?_); simp only [D.int, D.bool]))
  refine callW_emb (c_rd_works w ps fuse dead works hf hw) [0] (by kernel_rfl) rfl rfl ?_
  rintro _ _ ⟨rfl, rfl⟩
  cases hd : deadN' fuse dead with
  | true =>
    have hwk : worksN fuse dead works = works := by rw [worksN, hd]; rfl
    rw [hwk]
    repeat' (first | (with_reducible first | refine Wa.h ?_ | refine Ws.h ?_ | refine Wb.h fun K hK => ?_ | (refine hK _ ?_; clear hK K)) | ((with_reducible refine kQ ?_ ?_); kernel_rfl) | ((with_reducible refine k1 ?_ ?_); rfl) | ((with_reducible refine k0 ?_ ?_); rfl) | ((with_reducible apply kB) <;> first | rfl | intro h) | ((with_reducible refine kM ?_ ?_); rfl) | (with_reducible refine Wt.h (fun h => ?_) (fun h => ?_)) <;> try (exfalso; omega) | (with_reducible refine Wu.h (fun h => ?_) (fun h => ?_)) <;> try simp only [h] | ((fail_if_success with_reducible refine Wz.h ?_); simp (disch := omega) only [↓LD, LU, LS, LT, loadA_rf, ↓reduceIte, reduceCtorEq, Nat.reduceAdd, Nat.reduceMul, Nat.reduceSub, Nat.reduceLeDiff, Nat.reduceLT, Nat.reduceEqDiff, Int.reduceNeg, Int.reduceLT, Int.reduceLE, Int.reduceEq, Int.reduceToNat, ren_rk]) | ((with_reducible refine And.intro ?_ ?_); omega) | ((fail_if_success with_reducible refine Wz.h ?_); simp only [D.int, D.bool]))
    exact endA rfl rfl ⟨by rw [hd]; rfl, by rw [hd]; rfl⟩
  | false =>
    have hwk : worksN fuse dead works = works + 1 := by rw [worksN, hd]; rfl
    rw [hwk]
    repeat' (first | (with_reducible first | refine Wa.h ?_ | refine Ws.h ?_ | refine Wb.h fun K hK => ?_ | (refine hK _ ?_; clear hK K)) | ((with_reducible refine kQ ?_ ?_); kernel_rfl) | ((with_reducible refine k1 ?_ ?_); rfl) | ((with_reducible refine k0 ?_ ?_); rfl) | ((with_reducible apply kB) <;> first | rfl | intro h) | ((with_reducible refine kM ?_ ?_); rfl) | (with_reducible refine Wt.h (fun h => ?_) (fun h => ?_)) <;> try (exfalso; omega) | (with_reducible refine Wu.h (fun h => ?_) (fun h => ?_)) <;> try simp only [h] | ((fail_if_success with_reducible refine Wz.h ?_); simp (disch := omega) only [↓LD, LU, LS, LT, loadA_rf, ↓reduceIte, reduceCtorEq, Nat.reduceAdd, Nat.reduceMul, Nat.reduceSub, Nat.reduceLeDiff, Nat.reduceLT, Nat.reduceEqDiff, Int.reduceNeg, Int.reduceLT, Int.reduceLE, Int.reduceEq, Int.reduceToNat, ren_rk]) | ((with_reducible refine And.intro ?_ ?_); omega) | ((fail_if_success with_reducible refine Wz.h ?_); simp only [D.int, D.bool]))
    refine callW_emb (c_rd_Now w ps (fuseN fuse dead) false (works + 1) h) [0] (by kernel_rfl) rfl rfl ?_
    rintro _ _ ⟨rfl, rfl⟩
    repeat' (first | (with_reducible first | refine Wa.h ?_ | refine Wb.h fun K hK => ?_ | (refine hK _ ?_; clear hK K)) | ((with_reducible refine kQ ?_ ?_); kernel_rfl) | ((with_reducible refine k1 ?_ ?_); rfl) | ((with_reducible refine k0 ?_ ?_); rfl) | ((with_reducible apply kB) <;> first | rfl | intro h) | ((with_reducible refine kM ?_ ?_); rfl) | (with_reducible refine Wt.h (fun h => ?_) (fun h => ?_)) <;> try (exfalso; omega) | (with_reducible refine Wu.h (fun h => ?_) (fun h => ?_)) <;> try simp only [h] | ((fail_if_success with_reducible refine Wz.h ?_); simp (disch := omega) only [↓LD, LU, LS, LT, loadA_rf, ↓reduceIte, reduceCtorEq, Nat.reduceAdd, Nat.reduceMul, Nat.reduceSub, Nat.reduceLeDiff, Nat.reduceLT, Nat.reduceEqDiff, Int.reduceNeg, Int.reduceLT, Int.reduceLE, Int.reduceEq, Int.reduceToNat, rkB]) | ((with_reducible refine And.intro ?_ ?_); omega) | ((fail_if_success with_reducible refine Wz.h ?_); simp only [D.int, D.bool]))
    refine HS.seq ?_
    repeat' (first | (with_reducible first | refine Wa.h ?_ | refine Wb.h fun K hK => ?_ | (refine hK _ ?_; clear hK K)) | ((with_reducible refine kQ ?_ ?_); kernel_rfl) | ((with_reducible refine k1 ?_ ?_); rfl) | ((with_reducible refine k0 ?_ ?_); rfl) | ((with_reducible apply kB) <;> first | rfl | intro h) | ((with_reducible refine kM ?_ ?_); rfl) | (with_reducible refine Wt.h (fun h => ?_) (fun h => ?_)) <;> try (exfalso; omega) | (with_reducible refine Wu.h (fun h => ?_) (fun h => ?_)) <;> try simp only [h] | ((fail_if_success with_reducible refine Wz.h ?_); simp (disch := omega) only [↓LD, LU, LS, LT, loadA_rf, ↓reduceIte, reduceCtorEq, Nat.reduceAdd, Nat.reduceMul, Nat.reduceSub, Nat.reduceLeDiff, Nat.reduceLT, Nat.reduceEqDiff, Int.reduceNeg, Int.reduceLT, Int.reduceLE, Int.reduceEq, Int.reduceToNat]) | ((with_reducible refine And.intro ?_ ?_); omega) | ((fail_if_success with_reducible refine Wz.h ?_); simp only [D.int, D.bool]))
    refine HS.view (View.nil0 (r := 0) (i := 1) rfl rfl) ?_
    repeat' (first | (with_reducible first | refine Wa.h ?_ | refine Ws.h ?_ | refine Wb.h fun K hK => ?_ | (refine hK _ ?_; clear hK K)) | ((with_reducible refine kQ ?_ ?_); kernel_rfl) | ((with_reducible refine k1 ?_ ?_); rfl) | ((with_reducible refine k0 ?_ ?_); rfl) | ((with_reducible apply kB) <;> first | rfl | intro h) | ((with_reducible refine kM ?_ ?_); rfl) | (with_reducible refine Wt.h (fun h => ?_) (fun h => ?_)) <;> try (exfalso; omega) | (with_reducible refine Wu.h (fun h => ?_) (fun h => ?_)) <;> try simp only [h] | ((fail_if_success with_reducible refine Wz.h ?_); simp (disch := omega) only [↓LD, LU, LS, LT, loadA_rf, ↓reduceIte, reduceCtorEq, Nat.reduceAdd, Nat.reduceMul, Nat.reduceSub, Nat.reduceLeDiff, Nat.reduceLT, Nat.reduceEqDiff, Int.reduceNeg, Int.reduceLT, Int.reduceLE, Int.reduceEq, Int.reduceToNat]) | ((with_reducible refine And.intro ?_ ?_); omega) | ((fail_if_success with_reducible refine Wz.h ?_); simp only [D.int, D.bool]))
    exact endA rfl rfl ⟨by rw [hd]; rfl, by rw [hd]; rfl⟩
end Go.Proofs.Ytjbkckhpoicaeaa.Mir

/- The document's disk: New, Append, Remove, Files. -/
namespace Go.Proofs.Ytjbkckhpoicaeaa.Mir
open Go Go.RowKit
set_option linter.unusedVariables false
set_option linter.unusedSimpArgs false
set_option maxHeartbeats 2000000

/-- A box's cell is looked at as what it holds, laid down for good. -/
theorem View.cell {P : Program} {n0 : Nat} {ts : List D} {H : List Row} {dr : List Nat} {r i : Nat} {T : TypeId} {xs : List D} {c : D} {x : F} (hH : H[r]? = some (.box T xs)) (hx : xs[i]? = some c) (hf : freeze1 P H c = some (x, [])) :
    View P n0 ⟨ts, H, dr⟩ ⟨ts, H.set r (.box T (xs.set i (.f x))), []⟩ := by
  intro X w0 φ0 H0 w φ a _ hr
  have hlt : r < H.length := (List.getElem?_eq_some_iff.1 hH).1
  have hget : ∀ (q : Nat) (row : Row), (H.set r (.box T (xs.set i (.f x))))[q]? = some row → (q = r ∧ row = .box T (xs.set i (.f x))) ∨ H[q]? = some row := by
    intro q row h
    rw [List.getElem?_set] at h
    split at h
    · rename_i e; subst e
      try rw [if_pos hlt] at h
      exact .inl ⟨rfl, (Option.some.inj h).symm⟩
    · exact .inr h
  have hback : ∀ (q : Nat) (row : Row), H[q]? = some row → ∃ row' : Row, (H.set r (.box T (xs.set i (.f x))))[q]? = some row' ∧ row'.live = row.live := by
    intro q row h
    rw [List.getElem?_set]
    split
    · rename_i e; subst e
      try rw [if_pos hlt]
      rw [hH] at h
      cases h
      exact ⟨_, rfl, rfl⟩
    · exact ⟨row, h, rfl⟩
  have hlive : ∀ b, Live φ (H.set r (.box T (xs.set i (.f x)))) b ↔ Live φ H b := by
    intro b
    constructor
    · rintro ⟨q, row, h1, h2, h3⟩
      rcases hget q row h1 with ⟨rfl, rfl⟩ | h
      · exact ⟨q, _, hH, rfl, h3⟩
      · exact ⟨q, row, h, h2, h3⟩
    · rintro ⟨q, row, h1, h2, h3⟩
      obtain ⟨row', h4, h5⟩ := hback q row h1
      exact ⟨q, row', h4, by rw [h5]; exact h2, h3⟩
  have hav : Av X φ (H.set r (.box T (xs.set i (.f x)))) = Av X φ H := funext fun b => propext (or_congr Iff.rfl (hlive b))
  have hlen : (H.set r (.box T (xs.set i (.f x)))).length = H.length := List.length_set
  refine ⟨φ, ⟨⟨?_, ?_, ?_, hr.sim.heap.old⟩, ?_, hr.sim.defers⟩, ⟨?_, hr.ons.same, hr.ons.keep, fun b h => hr.ons.fresh b ((hlive b).1 h)⟩⟩
  · intro q row h
    dsimp only at h ⊢
    rw [hav, hlen]
    rcases hget q row h with ⟨rfl, rfl⟩ | h
    · obtain ⟨h0, cs, hc, ⟨hl, hg⟩, hone⟩ := hr.sim.heap.rows q _ hH
      refine ⟨h0, cs, hc, ⟨by rw [List.length_set]; exact hl, fun j d u hd hu => ?_⟩, hone⟩
      rw [List.getElem?_set] at hd
      split at hd
      · rename_i e; subst e
        have hd : some (D.f x) = some d := by first | exact hd | (split at hd <;> first | exact hd | cases hd)
        cases hd
        have := hg i _ u hx hu
        exact .f (freeze1_ok hr.sim.heap this hf).2
      · exact hg j d u hd hu
    · exact hr.sim.heap.rows q row h
  · intro q s row row' h1 h2 h3 h4 h5
    have k : ∀ (q : Nat) (row : Row), (H.set r (.box T (xs.set i (.f x))))[q]? = some row → row.live = true → ∃ row0, H[q]? = some row0 ∧ row0.live = true := by
      intro q row h hl
      rcases hget q row h with ⟨rfl, rfl⟩ | h
      · exact ⟨_, hH, rfl⟩
      · exact ⟨row, h, hl⟩
    obtain ⟨a1, b1, c1⟩ := k q row h1 h3
    obtain ⟨a2, b2, c2⟩ := k s row' h2 h4
    exact hr.sim.heap.apart q s a1 a2 b1 b2 c1 c2 h5
  · intro q row h1 h3
    rcases hget q row h1 with ⟨rfl, rfl⟩ | h
    · exact hr.sim.heap.off q _ hH rfl
    · exact hr.sim.heap.off q row h h3
  · dsimp only
    rw [hav, hlen]
    exact hr.sim.tmps
  · dsimp only
    rw [hlen]
    exact hr.ons.len
/-- A row is laid down for good. -/
theorem View.lay {P : Program} {n0 : Nat} {ts : List D} {H : List Row} {dr : List Nat} (q : Nat) {T : TypeId} {ys : List F} (hq : H[q]? = some (.data T ys)) : View P n0 ⟨ts, H, dr⟩ ⟨ts, H.set q (.froz T ys), []⟩ := by
  intro X w0 φ0 H0 w φ a _ hr
  obtain ⟨g1, g2, g3, g4⟩ := hr.sim.heap.freeze hq
  have hlen : (H.set q (.froz T ys)).length = H.length := List.length_set
  refine ⟨φ, ⟨⟨g1, ⟨hr.sim.tmps.1, fun j d u hd hu => ?_⟩, hr.sim.defers⟩, ⟨?_, hr.ons.same, hr.ons.keep, fun b hb => hr.ons.fresh b (g4 b hb)⟩⟩⟩
  · dsimp only at hd ⊢
    rw [hlen]
    exact (hr.sim.tmps.2 j d u hd hu).keep (L := fun _ => False) (Keep.refl _ _) (fun _ h => h.elim) g2 (fun _ _ => rfl) (Nat.le_refl _)
  · dsimp only; rw [hlen]; exact hr.ons.len
/-- A box's cell, and the row that it shows, laid down for good. -/
theorem View.fixb {P : Program} {n0 : Nat} {ts : List D} {H : List Row} {dr : List Nat} (r i q : Nat) {m k b : Nat} {T U : TypeId} {xs : List D} {ys : List F} {z : List Value} (hH : H[r]? = some (.box T xs)) (hx : xs[i]? = some (.sl q 0 m)) (hq : H[q]? = some (.data U ys)) (hi : inf P U = some (k, b, z)) (hm : m ≠ 0) (hn : ys.length = m * k) :
    View P n0 ⟨ts, H, dr⟩ ⟨ts, (H.set q (.froz U ys)).set r (.box T (xs.set i (.f (.s ys m)))), []⟩ := by
  have hne : q ≠ r := fun e => by subst e; rw [hH] at hq; cases hq
  have hlt : q < H.length := (List.getElem?_eq_some_iff.1 hq).1
  refine (View.lay q hq).trans (View.cell (c := .sl q 0 m) (by rw [List.getElem?_set_ne hne]; exact hH) hx (fix_froz (by rw [List.getElem?_set_self hlt]) hi hm hn))
theorem c_rd_New : Con Try.prog 21 [] [] fun r H' => r = .pt 0 0 ∧ H' = [rkB [] [] (-1) false 0] := by
  refine Con.walk good fn_rd_New (by simp) ?_
  unfold s_rd_New
  simp only [argsE, List.length_cons, List.length_nil, Nat.reduceAdd]
  refine HS.seq ?_
  repeat' (first | refine Wa.h ?_ | refine Wb.h fun K hK => ?_ | ((with_reducible refine hK _ ?_); clear hK K) | ((with_reducible refine kQ ?_ ?_); kernel_rfl) | ((with_reducible refine k1 ?_ ?_); rfl) | ((with_reducible refine k0 ?_ ?_); rfl) | ((with_reducible apply kB) <;> first | rfl | intro h) | ((with_reducible refine kM ?_ ?_); rfl) | refine Wt.h (fun h => ?_) (fun h => ?_) <;> try (exfalso; omega) | refine Wu.h (fun h => ?_) (fun h => ?_) <;> try simp only [h] | ((fail_if_success refine Wz.h ?_); simp (disch := omega) only [↓LD, LU, LS, LT, loadA_rf, ↓reduceIte, reduceCtorEq, Nat.reduceAdd, Nat.reduceMul, Nat.reduceSub, Nat.reduceLeDiff, Nat.reduceLT, Nat.reduceEqDiff, Int.reduceNeg, Int.reduceLT, Int.reduceLE, Int.reduceEq, Int.reduceToNat]) | ((with_reducible refine And.intro ?_ ?_); omega) | ((fail_if_success refine Wz.h ?_); simp only [D.int, D.bool]))
  refine HS.seq ?_
  refine HS.cutn (fun _ : Unit => ⟨frm 3 [(0, .pt 0 0)], [rkB [] [] (-1) false 0], []⟩) (fun _ => True) ?_ ?_
  · repeat' (first | refine Wa.h ?_ | refine Ws.h ?_ | refine Wb.h fun K hK => ?_ | ((with_reducible refine hK _ ?_); clear hK K) | ((with_reducible refine kQ ?_ ?_); kernel_rfl) | ((with_reducible refine k1 ?_ ?_); rfl) | ((with_reducible refine k0 ?_ ?_); rfl) | ((with_reducible apply kB) <;> first | rfl | intro h) | ((with_reducible refine kM ?_ ?_); rfl) | refine Wt.h (fun h => ?_) (fun h => ?_) <;> try (exfalso; omega) | refine Wu.h (fun h => ?_) (fun h => ?_) <;> try simp only [h] | ((fail_if_success refine Wz.h ?_); simp (disch := omega) only [↓LD, LU, LS, LT, loadA_rf, ↓reduceIte, reduceCtorEq, Nat.reduceAdd, Nat.reduceMul, Nat.reduceSub, Nat.reduceLeDiff, Nat.reduceLT, Nat.reduceEqDiff, Int.reduceNeg, Int.reduceLT, Int.reduceLE, Int.reduceEq, Int.reduceToNat]) | ((with_reducible refine And.intro ?_ ?_); omega) | ((fail_if_success refine Wz.h ?_); simp only [D.int, D.bool]))
    have h1 := View.nil0 (P := Try.prog) (n0 := 0) (ts := frm 3 [(0, .pt 0 0)]) (H := [.box 57 [.f nilF, .f nilF, D.int (-1), D.bool false, D.int 0]]) (dr := []) (r := 0) (i := 0) rfl rfl
    have h2 := View.nil0 (P := Try.prog) (n0 := 0) (ts := frm 3 [(0, .pt 0 0)]) (H := [.box 57 [.f (.s [] 0), .f nilF, D.int (-1), D.bool false, D.int 0]]) (dr := []) (r := 0) (i := 1) rfl rfl
    exact OutN.via [0] () (by kernel_rfl) (h1.trans h2) trivial
  rintro _ - s' hv
  refine thenQ_n ?_
  refine HS.view hv ?_
  repeat' (first | refine Wa.h ?_ | refine Ws.h ?_ | refine Wb.h fun K hK => ?_ | ((with_reducible refine hK _ ?_); clear hK K) | ((with_reducible refine kQ ?_ ?_); kernel_rfl) | ((with_reducible refine k1 ?_ ?_); rfl) | ((with_reducible refine k0 ?_ ?_); rfl) | ((with_reducible apply kB) <;> first | rfl | intro h) | ((with_reducible refine kM ?_ ?_); rfl) | refine Wt.h (fun h => ?_) (fun h => ?_) <;> try (exfalso; omega) | refine Wu.h (fun h => ?_) (fun h => ?_) <;> try simp only [h] | ((fail_if_success refine Wz.h ?_); simp (disch := omega) only [↓LD, LU, LS, LT, loadA_rf, ↓reduceIte, reduceCtorEq, Nat.reduceAdd, Nat.reduceMul, Nat.reduceSub, Nat.reduceLeDiff, Nat.reduceLT, Nat.reduceEqDiff, Int.reduceNeg, Int.reduceLT, Int.reduceLE, Int.reduceEq, Int.reduceToNat]) | ((with_reducible refine And.intro ?_ ?_); omega) | ((fail_if_success refine Wz.h ?_); simp only [D.int, D.bool]))
  exact endG rfl rfl (ef := ⟨.pt 0 0, [], [rkB [] [] (-1) false 0]⟩) (by kernel_rfl) ⟨rfl, rfl⟩
theorem op_app {ps : List Op} {k : Int} {r : Bool} {b : Bs} : ps.flatMap Op.cs ++ [.v (.int .i64 k), .v (.bool r), .s (List.map uF b) (List.length b)] = (ps ++ [(⟨k, r, b⟩ : Op)]).flatMap Op.cs := by rw [List.flatMap_append]; rfl
theorem frz1 {P : Program} {H : List Row} {x : D} {y : F} {us : List (Nat × Row)} (hf : freeze1 P H x = some (y, us)) : freezeAll P H [x] = some ([y], us) := by simp only [freezeAll, hf, List.append_nil]
def psN (ps : List Op) (d : Bool) (o : Op) : List Op := if d = true ∨ o.b = [] then ps else ps ++ [o]
set_option maxRecDepth 100000 in
theorem c_rd_Append (w : List Bs) (ps : List Op) (fuse : Int) (dead : Bool) (works k : Int) (b : Bs) (hk : 0 ≤ k) (hf : -1 ≤ fuse ∧ fuse ≤ 1000000) (hw : 0 ≤ works ∧ works ≤ 1000000) (hn : ps.length ≤ 1000000) (hb : b.length ≤ 140737488355328) :
    Con Try.prog 28 [.pt 0 0, D.int k, .f (fY b)] [rkB w ps fuse dead works] fun r H' => r = D.int (if deadN' fuse dead = true then 14 else 0) ∧ H' = [rkB w (psN ps (deadN' fuse dead) ⟨k, false, b⟩) (fuseN fuse dead) (deadN' fuse dead) (worksN fuse dead works)] := by
  by_cases hb0 : b = []
  · subst hb0
    refine Con.walk good fn_rd_Append (by simp) ?_
    unfold s_rd_Append
    simp only [argsE, List.length_cons, List.length_nil, Nat.reduceAdd]
    repeat' (first | refine Wa.h ?_ | refine Ws.h ?_ | refine Wb.h fun K hK => ?_ | ((with_reducible refine hK _ ?_); clear hK K) | ((with_reducible refine kQ ?_ ?_); kernel_rfl) | ((with_reducible refine k1 ?_ ?_); rfl) | ((with_reducible refine k0 ?_ ?_); rfl) | ((with_reducible apply kB) <;> first | rfl | intro h) | ((with_reducible refine kM ?_ ?_); rfl) | refine Wt.h (fun h => ?_) (fun h => ?_) <;> try (exfalso; omega) | refine Wu.h (fun h => ?_) (fun h => ?_) <;> try simp only [h] | ((fail_if_success refine Wz.h ?_); simp (disch := omega) only [↓LD, LU, LS, LT, loadA_rf, ↓reduceIte, reduceCtorEq, Nat.reduceAdd, Nat.reduceMul, Nat.reduceSub, Nat.reduceLeDiff, Nat.reduceLT, Nat.reduceEqDiff, Int.reduceNeg, Int.reduceLT, Int.reduceLE, Int.reduceEq, Int.reduceToNat]) | ((with_reducible refine And.intro ?_ ?_); omega) | ((fail_if_success refine Wz.h ?_); simp only [D.int, D.bool]))
    refine callW_emb (c_rd_works w ps fuse dead works hf hw) [0] (by kernel_rfl) rfl rfl ?_
    rintro _ _ ⟨rfl, rfl⟩
    cases hd : deadN' fuse dead with
    | true =>
      repeat' (first | refine Wa.h ?_ | refine Ws.h ?_ | refine Wb.h fun K hK => ?_ | ((with_reducible refine hK _ ?_); clear hK K) | ((with_reducible refine kQ ?_ ?_); kernel_rfl) | ((with_reducible refine k1 ?_ ?_); rfl) | ((with_reducible refine k0 ?_ ?_); rfl) | ((with_reducible apply kB) <;> first | rfl | intro h) | ((with_reducible refine kM ?_ ?_); rfl) | refine Wt.h (fun h => ?_) (fun h => ?_) <;> try (exfalso; omega) | refine Wu.h (fun h => ?_) (fun h => ?_) <;> try simp only [h] | ((fail_if_success refine Wz.h ?_); simp (disch := omega) only [↓LD, LU, LS, LT, loadA_rf, ↓reduceIte, reduceCtorEq, Nat.reduceAdd, Nat.reduceMul, Nat.reduceSub, Nat.reduceLeDiff, Nat.reduceLT, Nat.reduceEqDiff, Int.reduceNeg, Int.reduceLT, Int.reduceLE, Int.reduceEq, Int.reduceToNat, ren_rk]) | ((with_reducible refine And.intro ?_ ?_); omega) | ((fail_if_success refine Wz.h ?_); simp only [D.int, D.bool]))
      exact endA rfl rfl ⟨by rw [hd]; rfl, by rw [psN, if_pos (.inl hd), hd]⟩
    | false =>
      repeat' (first | refine Wa.h ?_ | refine Ws.h ?_ | refine Wb.h fun K hK => ?_ | ((with_reducible refine hK _ ?_); clear hK K) | ((with_reducible refine kQ ?_ ?_); kernel_rfl) | ((with_reducible refine k1 ?_ ?_); rfl) | ((with_reducible refine k0 ?_ ?_); rfl) | ((with_reducible apply kB) <;> first | rfl | intro h) | ((with_reducible refine kM ?_ ?_); rfl) | refine Wt.h (fun h => ?_) (fun h => ?_) <;> try (exfalso; omega) | refine Wu.h (fun h => ?_) (fun h => ?_) <;> try simp only [h] | ((fail_if_success refine Wz.h ?_); simp (disch := omega) only [↓LD, LU, LS, LT, loadA_rf, ↓reduceIte, reduceCtorEq, Nat.reduceAdd, Nat.reduceMul, Nat.reduceSub, Nat.reduceLeDiff, Nat.reduceLT, Nat.reduceEqDiff, Int.reduceNeg, Int.reduceLT, Int.reduceLE, Int.reduceEq, Int.reduceToNat, ren_rk, fY]) | ((with_reducible refine And.intro ?_ ?_); omega) | ((fail_if_success refine Wz.h ?_); simp only [D.int, D.bool]))
      exact endA rfl rfl ⟨by rw [hd]; rfl, by rw [psN, if_pos (.inr rfl), hd]⟩
  have hbl : b.length ≠ 0 := fun e => hb0 (List.eq_nil_of_length_eq_zero e)
  refine Con.walk good fn_rd_Append (by simp) ?_
  unfold s_rd_Append
  simp only [argsE, List.length_cons, List.length_nil, Nat.reduceAdd]
  repeat' (first | refine Wa.h ?_ | refine Ws.h ?_ | refine Wb.h fun K hK => ?_ | ((with_reducible refine hK _ ?_); clear hK K) | ((with_reducible refine kQ ?_ ?_); kernel_rfl) | ((with_reducible refine k1 ?_ ?_); rfl) | ((with_reducible refine k0 ?_ ?_); rfl) | ((with_reducible apply kB) <;> first | rfl | intro h) | ((with_reducible refine kM ?_ ?_); rfl) | refine Wt.h (fun h => ?_) (fun h => ?_) <;> try (exfalso; omega) | refine Wu.h (fun h => ?_) (fun h => ?_) <;> try simp only [h] | ((fail_if_success refine Wz.h ?_); simp (disch := omega) only [↓LD, LU, LS, LT, loadA_rf, ↓reduceIte, reduceCtorEq, Nat.reduceAdd, Nat.reduceMul, Nat.reduceSub, Nat.reduceLeDiff, Nat.reduceLT, Nat.reduceEqDiff, Int.reduceNeg, Int.reduceLT, Int.reduceLE, Int.reduceEq, Int.reduceToNat]) | ((with_reducible refine And.intro ?_ ?_); omega) | ((fail_if_success refine Wz.h ?_); simp only [D.int, D.bool]))
  refine callW_emb (c_rd_works w ps fuse dead works hf hw) [0] (by kernel_rfl) rfl rfl ?_
  rintro _ _ ⟨rfl, rfl⟩
  cases hd : deadN' fuse dead with
  | true =>
    repeat' (first | refine Wa.h ?_ | refine Ws.h ?_ | refine Wb.h fun K hK => ?_ | ((with_reducible refine hK _ ?_); clear hK K) | ((with_reducible refine kQ ?_ ?_); kernel_rfl) | ((with_reducible refine k1 ?_ ?_); rfl) | ((with_reducible refine k0 ?_ ?_); rfl) | ((with_reducible apply kB) <;> first | rfl | intro h) | ((with_reducible refine kM ?_ ?_); rfl) | refine Wt.h (fun h => ?_) (fun h => ?_) <;> try (exfalso; omega) | refine Wu.h (fun h => ?_) (fun h => ?_) <;> try simp only [h] | ((fail_if_success refine Wz.h ?_); simp (disch := omega) only [↓LD, LU, LS, LT, loadA_rf, ↓reduceIte, reduceCtorEq, Nat.reduceAdd, Nat.reduceMul, Nat.reduceSub, Nat.reduceLeDiff, Nat.reduceLT, Nat.reduceEqDiff, Int.reduceNeg, Int.reduceLT, Int.reduceLE, Int.reduceEq, Int.reduceToNat, ren_rk]) | ((with_reducible refine And.intro ?_ ?_); omega) | ((fail_if_success refine Wz.h ?_); simp only [D.int, D.bool]))
    exact endA rfl rfl ⟨by rw [hd]; rfl, by rw [psN, if_pos (.inl hd), hd]⟩
  | false =>
    repeat' (first | refine Wa.h ?_ | refine Wb.h fun K hK => ?_ | ((with_reducible refine hK _ ?_); clear hK K) | ((with_reducible refine kQ ?_ ?_); kernel_rfl) | ((with_reducible refine k1 ?_ ?_); rfl) | ((with_reducible refine k0 ?_ ?_); rfl) | ((with_reducible apply kB) <;> first | rfl | intro h) | ((with_reducible refine kM ?_ ?_); rfl) | refine Wt.h (fun h => ?_) (fun h => ?_) <;> try (exfalso; omega) | refine Wu.h (fun h => ?_) (fun h => ?_) <;> try simp only [h] | ((fail_if_success refine Wz.h ?_); simp (disch := omega) only [↓LD, LU, LS, LT, loadA_rf, ↓reduceIte, reduceCtorEq, Nat.reduceAdd, Nat.reduceMul, Nat.reduceSub, Nat.reduceLeDiff, Nat.reduceLT, Nat.reduceEqDiff, Int.reduceNeg, Int.reduceLT, Int.reduceLE, Int.reduceEq, Int.reduceToNat, ren_rk, fY]) | ((with_reducible refine And.intro ?_ ?_); omega) | ((fail_if_success refine Wz.h ?_); simp only [D.int, D.bool]))
    refine HS.seq ?_
    refine HS.cutn (fun _ : Unit => ⟨frm 31 [(0, .pt 0 0)], [rkB w (ps ++ [(⟨k, false, b⟩ : Op)]) (fuseN fuse dead) false (worksN fuse dead works)], []⟩) (fun _ => True) ?_ ?_
    · have hl' : ps.length + 1 = (ps ++ [(⟨k, false, b⟩ : Op)]).length := by simp
      have h1 := View.fixb (P := Try.prog) (n0 := 1) (ts := frm 31 [(0, .pt 0 0)]) (H := [.box 57 [.f (fK w), .sl 1 0 (ps ++ [(⟨k, false, b⟩ : Op)]).length, D.int (fuseN fuse dead), D.bool false, D.int (worksN fuse dead works)], .data 87 ((ps ++ [(⟨k, false, b⟩ : Op)]).flatMap Op.cs)]) (dr := []) 0 1 1 (b := 40) (z := [.int .i64 0, .bool false, .slice none 0 0]) rfl rfl rfl (by kernel_rfl) (by simp) (by rw [flat_len' Op.cs_len])
      have h2 := h1.trans (View.sweep (keep := [0]) (s' := ⟨frm 31 [(0, .pt 0 0)], [rkB w (ps ++ [(⟨k, false, b⟩ : Op)]) (fuseN fuse dead) false (worksN fuse dead works)], []⟩) (by kernel_rfl))
      repeat' (first | refine Wa.h ?_ | refine Ws.h ?_ | refine Wb.h fun K hK => ?_ | ((with_reducible refine hK _ ?_); clear hK K) | ((with_reducible refine kQ ?_ ?_); kernel_rfl) | ((with_reducible refine k1 ?_ ?_); rfl) | ((with_reducible refine k0 ?_ ?_); rfl) | ((with_reducible apply kB) <;> first | rfl | intro h) | ((with_reducible refine kM ?_ ?_); rfl) | refine Wt.h (fun h => ?_) (fun h => ?_) <;> try (exfalso; omega) | refine Wu.h (fun h => ?_) (fun h => ?_) <;> try simp only [h] | ((fail_if_success refine Wz.h ?_); simp (disch := omega) only [↓LD, LU, LS, LT, loadA_rf, ↓reduceIte, reduceCtorEq, Nat.reduceAdd, Nat.reduceMul, Nat.reduceSub, Nat.reduceLeDiff, Nat.reduceLT, Nat.reduceEqDiff, Int.reduceNeg, Int.reduceLT, Int.reduceLE, Int.reduceEq, Int.reduceToNat, rkB, fP, fY, List.append_nil, flat_len' Op.cs_len]) | ((with_reducible refine And.intro ?_ ?_); omega) | ((fail_if_success refine Wz.h ?_); simp only [D.int, D.bool]))
      · have e : ps = [] := List.eq_nil_of_length_eq_zero (by assumption)
        rw [frz1 (fix_data (b := 1) (z := [.int .u8 0]) rfl (by kernel_rfl) hbl (by rw [List.length_map, Nat.mul_one]))]
        repeat' (first | refine Wa.h ?_ | refine Ws.h ?_ | refine Wb.h fun K hK => ?_ | ((with_reducible refine hK _ ?_); clear hK K) | ((with_reducible refine kQ ?_ ?_); kernel_rfl) | ((with_reducible refine k1 ?_ ?_); rfl) | ((with_reducible refine k0 ?_ ?_); rfl) | ((with_reducible apply kB) <;> first | rfl | intro h) | ((with_reducible refine kM ?_ ?_); rfl) | refine Wt.h (fun h => ?_) (fun h => ?_) <;> try (exfalso; omega) | refine Wu.h (fun h => ?_) (fun h => ?_) <;> try simp only [h] | ((fail_if_success refine Wz.h ?_); simp (disch := omega) only [↓LD, LU, LS, LT, loadA_rf, ↓reduceIte, reduceCtorEq, Nat.reduceAdd, Nat.reduceMul, Nat.reduceSub, Nat.reduceLeDiff, Nat.reduceLT, Nat.reduceEqDiff, Int.reduceNeg, Int.reduceLT, Int.reduceLE, Int.reduceEq, Int.reduceToNat, applyUpd, List.append_nil]) | ((with_reducible refine And.intro ?_ ?_); omega) | ((fail_if_success refine Wz.h ?_); simp only [D.int, D.bool]))
        subst e
        exact OutN.via [0] () (by kernel_rfl) h2 trivial
      · rw [frz1 (fix_data (b := 1) (z := [.int .u8 0]) rfl (by kernel_rfl) hbl (by rw [List.length_map, Nat.mul_one]))]
        repeat' (first | refine Wa.h ?_ | refine Ws.h ?_ | refine Wb.h fun K hK => ?_ | ((with_reducible refine hK _ ?_); clear hK K) | ((with_reducible refine kQ ?_ ?_); kernel_rfl) | ((with_reducible refine k1 ?_ ?_); rfl) | ((with_reducible refine k0 ?_ ?_); rfl) | ((with_reducible apply kB) <;> first | rfl | intro h) | ((with_reducible refine kM ?_ ?_); rfl) | refine Wt.h (fun h => ?_) (fun h => ?_) <;> try (exfalso; omega) | refine Wu.h (fun h => ?_) (fun h => ?_) <;> try simp only [h] | ((fail_if_success refine Wz.h ?_); simp (disch := omega) only [↓LD, LU, LS, LT, loadA_rf, ↓reduceIte, reduceCtorEq, Nat.reduceAdd, Nat.reduceMul, Nat.reduceSub, Nat.reduceLeDiff, Nat.reduceLT, Nat.reduceEqDiff, Int.reduceNeg, Int.reduceLT, Int.reduceLE, Int.reduceEq, Int.reduceToNat, applyUpd, List.append_nil, flat_len' Op.cs_len, op_app]) | ((with_reducible refine And.intro ?_ ?_); omega) | ((fail_if_success refine Wz.h ?_); simp only [D.int, D.bool]))
        rw [hl']
        exact OutN.via [0] () (by kernel_rfl) h2 trivial
    rintro _ - s' hv
    refine thenQ_n ?_
    refine HS.view hv ?_
    repeat' (first | refine Wa.h ?_ | refine Ws.h ?_ | refine Wb.h fun K hK => ?_ | ((with_reducible refine hK _ ?_); clear hK K) | ((with_reducible refine kQ ?_ ?_); kernel_rfl) | ((with_reducible refine k1 ?_ ?_); rfl) | ((with_reducible refine k0 ?_ ?_); rfl) | ((with_reducible apply kB) <;> first | rfl | intro h) | ((with_reducible refine kM ?_ ?_); rfl) | refine Wt.h (fun h => ?_) (fun h => ?_) <;> try (exfalso; omega) | refine Wu.h (fun h => ?_) (fun h => ?_) <;> try simp only [h] | ((fail_if_success refine Wz.h ?_); simp (disch := omega) only [↓LD, LU, LS, LT, loadA_rf, ↓reduceIte, reduceCtorEq, Nat.reduceAdd, Nat.reduceMul, Nat.reduceSub, Nat.reduceLeDiff, Nat.reduceLT, Nat.reduceEqDiff, Int.reduceNeg, Int.reduceLT, Int.reduceLE, Int.reduceEq, Int.reduceToNat]) | ((with_reducible refine And.intro ?_ ?_); omega) | ((fail_if_success refine Wz.h ?_); simp only [D.int, D.bool]))
    exact endA rfl rfl ⟨by rw [hd]; rfl, by rw [psN, if_neg (by rw [hd]; simp [hb0]), hd]⟩
end Go.Proofs.Ytjbkckhpoicaeaa.Mir
