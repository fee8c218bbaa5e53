/- Texts laid into one file: DplL. -/
import Derived.Test.YtjbkckhpoicaeaaDp10

set_option linter.unusedVariables false
set_option linter.unusedSimpArgs false
/- DiskPlays: its walk. -/
namespace Go.Proofs.Ytjbkckhpoicaeaa.Mir
open Go Go.RowKit
set_option linter.unusedVariables false
set_option linter.unusedSimpArgs false
set_option maxHeartbeats 20000000

/-- A slot's nil is looked at as a list without elements. -/
theorem View.nil1 {P : Program} {n0 n : Nat} {e : List (Nat × D)} {H : List Row} {dr : List Nat} (i : Nat) (ht : look i e = .f nilF) (hin : i < n) : View P n0 ⟨Mir.frm n e, H, dr⟩ ⟨Mir.frm n ((i, .f (.s [] 0)) :: e), H, []⟩ := by
  intro X w0 φ0 H0 w φ a _ hr
  refine ⟨φ, ⟨⟨hr.sim.heap, ⟨?_, fun j d' u' hd hu' => ?_⟩, hr.sim.defers⟩, hr.ons⟩⟩
  · have := hr.sim.tmps.1
    rw [← frm_set]; dsimp only at this ⊢; rw [List.length_set]; exact this
  · dsimp only at hd ⊢
    rw [← frm_set, List.getElem?_set] at hd
    split at hd
    · rename_i e'; subst e'
      have hx : D.f (.s [] 0) = d' := by split at hd <;> first | exact Option.some.inj hd | cases hd
      subst hx
      have := hr.sim.tmps.2 i (.f nilF) u' (by dsimp only; rw [frm_get hin, ht]) hu'
      cases this with | f h => cases h with | v _ => exact .f .s0
    · exact hr.sim.tmps.2 j d' u' hd hu'
/-- The rows: the program's disk, and the document's. -/
def dpH (e1 e2 : Fs) (n : Nat) (ws : List Wk) (w : List Bs) (ps : List Op) (fuse : Int) (dead : Bool) (works : Int) : List Row := match n with
  | 0 => [dkB 3 0 fuse dead works, .map (mF e1), .map (mF e2), rkB w ps fuse dead works]
  | m + 1 => [dkB 3 (m + 1) fuse dead works, .map (mF e1), .map (mF e2), .data 79 (ws.flatMap Wk.cs), rkB w ps fuse dead works]
def dpP (n : Nat) : D := match n with
  | 0 => .pt 3 0
  | _ + 1 => .pt 4 0
def dpQ (n : Nat) : D := match n with
  | 0 => .pt 4 0
  | _ + 1 => .pt 5 0
def stB (x : Stp) : Row := .box 43 [D.int x.what, D.int x.file, D.int x.n, D.int x.cut, .f (fY x.b)]
theorem st_load {H : List Row} {g : List Stp} {k : Nat} (hk : k < g.length) : loadA H 5 (.rf ((g.flatMap Stp.cs).drop (k * 5))) = some (.ag ((Stp.cs (gt g k)).map .f)) := flat_loadA Stp.cs_len hk
theorem st_cs {x : Stp} : x.cs = [iF x.what, iF x.file, iF x.n, iF x.cut, fY x.b] := id rfl
theorem set_inc {z : Bs} {m : Nat} {x : UInt8} : (z.map uF).set m (.v (.int .u8 (IntKind.u8.wrap ((x.toNat : Int) + 1)))) = (z.set m (x + 1)).map uF := by
  have h : IntKind.u8.wrap ((x.toNat : Int) + 1) = ((x + 1).toNat : Int) := by
    rw [UInt8.toNat_add]
    have := x.toNat_lt
    simp [IntKind.wrap, IntKind.bits, IntKind.signed]
  rw [h, ← List.map_set]
structure DpX where
  e1 : Fs
  e2 : Fs
  n : Nat
  ws : List Wk
  w : List Bs
  ps : List Op
  fuse : Int
  dead : Bool
  works : Int
structure DpI (i : Nat) (x : DpX) : Prop where
  rl : Rl (i * 1048576) x.e1 x.e2 x.ws x.w x.ps
  nl : x.ws.length = x.n
  ni : x.n ≤ i
  fu : -1 ≤ x.fuse ∧ x.fuse ≤ 1000
  wo : 0 ≤ x.works ∧ x.works ≤ i
theorem DpI.pl {i : Nat} {x : DpX} (h : DpI i x) : x.ps.length = x.n := by have := h.nl; rw [h.rl.wsE, List.length_map] at this; exact this
theorem DpI.rd {i : Nat} {x : DpX} (h : DpI i x) (hi : i ≤ 60) : RdOk x.w x.ps := h.rl.rd (by omega) (by have := h.pl; have := h.ni; omega)
theorem bytes_nil0 : bytesOf? [] = some [] := rfl
theorem bb_fold0 {l : List UInt8} : (⟨l.toArray⟩ : ByteArray) = BB l := id rfl
theorem DpI.go {i n : Nat} {e1 e2 : Fs} {ws : List Wk} {w : List Bs} {ps : List Op} {fuse works : Int} {dead : Bool} (h : DpI i ⟨e1, e2, n, ws, w, ps, fuse, dead, works⟩) : DpI (i + 1) ⟨e1, e2, n, ws, w, ps, fuseN fuse dead, deadN' fuse dead, worksN fuse dead works⟩ := by
  have h1 := h.fu; have h2 := h.wo; have h3 := h.ni
  dsimp only at h1 h2 h3
  refine ⟨h.rl.mono (by omega), h.nl, by dsimp only; omega, ?_, ?_⟩
  · dsimp only; unfold fuseN; split <;> omega
  · dsimp only; unfold worksN; split <;> omega
theorem DpI.same {i : Nat} {x : DpX} (h : DpI i x) : DpI (i + 1) x :=
  ⟨h.rl.mono (by omega), h.nl, by have := h.ni; omega, h.fu, by have := h.wo; omega⟩
theorem DpI.put {i n : Nat} {e1 e2 : Fs} {ws : List Wk} {w : List Bs} {ps : List Op} {fuse works : Int} {dead : Bool} (h : DpI i ⟨e1, e2, n, ws, w, ps, fuse, dead, works⟩) {o : Op} (ho : OpIn o) (hb : o.b.length ≤ 1048576) :
    DpI (i + 1) ⟨e1, fDo e2 o.k o.b, n + 1, ws ++ [(⟨o.k, o.b⟩ : Wk)], w, ps ++ [o], fuseN fuse dead, deadN' fuse dead, worksN fuse dead works⟩ := by
  have hg := h.go
  have h3 := h.ni; have h4 := h.nl
  dsimp only at h3 h4
  exact ⟨h.rl.put ho (by omega), by simp [h4], by dsimp only; omega, hg.fu, hg.wo⟩
theorem DpI.sync {i n : Nat} {e1 e2 : Fs} {ws : List Wk} {w : List Bs} {ps : List Op} {fuse works : Int} {dead : Bool} (h : DpI i ⟨e1, e2, n, ws, w, ps, fuse, dead, works⟩) :
    DpI (i + 1) ⟨e2, e2, 0, [], nowL w ps, [], fuseN fuse dead, deadN' fuse dead, worksN fuse dead works⟩ :=
  ⟨(h.rl.sync).mono (by omega), rfl, Nat.zero_le _, h.go.fu, h.go.wo⟩
theorem DpI.crash {i n : Nat} {e1 e2 : Fs} {ws : List Wk} {w : List Bs} {ps : List Op} {fuse works : Int} {dead : Bool} (h : DpI i ⟨e1, e2, n, ws, w, ps, fuse, dead, works⟩) (done cut : Int) :
    DpI (i + 1) ⟨crF e1 ws (restN done (n + 1 : Nat)) cut n, crF e1 ws (restN done (n + 1 : Nat)) cut n, 0, [], crL w ps done cut, [], -1, false, works⟩ := by
  have h1 := h.pl
  dsimp only at h1
  have h2 := h.rl.crash done cut
  dsimp only at h2
  rw [h1] at h2
  exact ⟨h2.1.mono (by omega), rfl, Nat.zero_le _, by dsimp only; omega, by have := h.wo; dsimp only at this ⊢; omega⟩
theorem DpI.setF {i n : Nat} {e1 e2 : Fs} {ws : List Wk} {w : List Bs} {ps : List Op} {fuse works : Int} {dead : Bool} (h : DpI i ⟨e1, e2, n, ws, w, ps, fuse, dead, works⟩) {x : Int} (hx : x ≤ 1000) :
    DpI (i + 1) ⟨e1, e2, n, ws, w, ps, max x (-1), dead, works⟩ :=
  ⟨h.rl.mono (by omega), h.nl, by have := h.ni; dsimp only at this ⊢; omega, by dsimp only; omega, by have := h.wo; dsimp only at this ⊢; omega⟩
theorem Rl.gone {B : Nat} {e1 e2 : Fs} {ws : List Wk} {w : List Bs} {ps : List Op} (h : Rl B e1 e2 ws w ps) {k : Int} : rdL w ps false k = [] ↔ fGet e2 k = none := by
  rw [← h.read k]
  constructor
  · intro e
    cases hg : fGet e2 k with
    | none => rfl
    | some b =>
      rw [hg] at e
      exact absurd e (h.f2.ok.get hg).1
  · intro e; rw [e]; rfl
set_option maxRecDepth 100000 in
theorem c_law_DiskPlays (l : List Stp) (hl : ∀ x ∈ l, x.b.length ≤ 1048576) :
    Con Try.prog 5 [.f (fSt l)] [] fun r H' => r = D.bool true ∧ H' = [] := by
  refine Con.walk good fn_law_DiskPlays (by simp) ?_
  unfold s_law_DiskPlays
  simp only [argsE, List.length_cons, List.length_nil, Nat.reduceAdd]
  repeat' (first | (with_reducible first | refine Wa.h ?_ | refine Ws.h ?_ | refine Wb.h fun K hK => ?_ | (refine hK _ ?_; clear hK K)) | ((with_reducible refine kQ ?_ ?_); kernel_rfl) | ((with_reducible refine k1 ?_ ?_); rfl) | ((with_reducible refine k0 ?_ ?_); rfl) | ((with_reducible apply kB) <;> first | rfl | intro h) | ((with_reducible refine kM ?_ ?_); rfl) | (with_reducible refine Wt.h (fun h => ?_) (fun h => ?_)) <;> try (exfalso; omega) | (with_reducible refine Wu.h (fun h => ?_) (fun h => ?_)) <;> try simp only [h] | ((fail_if_success with_reducible refine Wz.h ?_); simp (disch := omega) only [↓LD, LU, LS, LT, loadA_rf, seval]) | ((with_reducible refine And.intro ?_ ?_); omega) | ((fail_if_success with_reducible refine Wz.h ?_); simp only [D.int, D.bool]))
  refine callW_self c_disk_New ?_
  rintro _ _ ⟨rfl, rfl⟩
  repeat' (first | (with_reducible first | refine Wa.h ?_ | refine Ws.h ?_ | refine Wb.h fun K hK => ?_ | (refine hK _ ?_; clear hK K)) | ((with_reducible refine kQ ?_ ?_); kernel_rfl) | ((with_reducible refine k1 ?_ ?_); rfl) | ((with_reducible refine k0 ?_ ?_); rfl) | ((with_reducible apply kB) <;> first | rfl | intro h) | ((with_reducible refine kM ?_ ?_); rfl) | (with_reducible refine Wt.h (fun h => ?_) (fun h => ?_)) <;> try (exfalso; omega) | (with_reducible refine Wu.h (fun h => ?_) (fun h => ?_)) <;> try simp only [h] | ((fail_if_success with_reducible refine Wz.h ?_); simp (disch := omega) only [↓LD, LU, LS, LT, loadA_rf, seval, List.append_nil]) | ((with_reducible refine And.intro ?_ ?_); omega) | ((fail_if_success with_reducible refine Wz.h ?_); simp only [D.int, D.bool]))
  refine callW_emb c_disk_known [] (by kernel_rfl) rfl rfl ?_
  rintro _ _ ⟨rfl, rfl⟩
  repeat' (first | (with_reducible first | refine Wa.h ?_ | refine Ws.h ?_ | refine Wb.h fun K hK => ?_ | (refine hK _ ?_; clear hK K)) | ((with_reducible refine kQ ?_ ?_); kernel_rfl) | ((with_reducible refine k1 ?_ ?_); rfl) | ((with_reducible refine k0 ?_ ?_); rfl) | ((with_reducible apply kB) <;> first | rfl | intro h) | ((with_reducible refine kM ?_ ?_); rfl) | (with_reducible refine Wt.h (fun h => ?_) (fun h => ?_)) <;> try (exfalso; omega) | (with_reducible refine Wu.h (fun h => ?_) (fun h => ?_)) <;> try simp only [h] | ((fail_if_success with_reducible refine Wz.h ?_); simp (disch := omega) only [↓LD, LU, LS, LT, loadA_rf, seval, List.append_nil]) | ((with_reducible refine And.intro ?_ ?_); omega) | ((fail_if_success with_reducible refine Wz.h ?_); simp only [D.int, D.bool]))
  refine callW_emb c_rd_New [] (by kernel_rfl) rfl rfl ?_
  rintro _ _ ⟨rfl, rfl⟩
  repeat' (first | (with_reducible first | refine Wa.h ?_ | refine Ws.h ?_ | refine Wb.h fun K hK => ?_ | (refine hK _ ?_; clear hK K)) | ((with_reducible refine kQ ?_ ?_); kernel_rfl) | ((with_reducible refine k1 ?_ ?_); rfl) | ((with_reducible refine k0 ?_ ?_); rfl) | ((with_reducible apply kB) <;> first | rfl | intro h) | ((with_reducible refine kM ?_ ?_); rfl) | (with_reducible refine Wt.h (fun h => ?_) (fun h => ?_)) <;> try (exfalso; omega) | (with_reducible refine Wu.h (fun h => ?_) (fun h => ?_)) <;> try simp only [h] | ((fail_if_success with_reducible refine Wz.h ?_); simp (disch := omega) only [↓LD, LU, LS, LT, loadA_rf, seval, List.append_nil]) | ((with_reducible refine And.intro ?_ ?_); omega) | ((fail_if_success with_reducible refine Wz.h ?_); simp only [D.int, D.bool]))
  refine HS.loopG [0, 3, 4, 5] (fun y : Nat × DpX => ⟨frm 179 [(0, .f (fSt l)), (3, .pt 0 0), (4, dpP y.2.n), (5, D.int y.1)], dpH y.2.e1 y.2.e2 y.2.n y.2.ws y.2.w y.2.ps y.2.fuse y.2.dead y.2.works, []⟩)
    (fun y => y.1 ≤ 60 ∧ DpI y.1 y.2) (fun y => 60 - y.1) (0, ⟨[], [], 0, [], [], [], -1, false, 0⟩) (by kernel_rfl) ⟨by dsimp only; omega, Rl.start.mono (by omega), rfl, Nat.le_refl _, by dsimp only; omega, by dsimp only; omega⟩ ?_
  rintro ⟨i, x⟩ ⟨hi, hI⟩
  dsimp only at hi hI
  by_cases hil : i < l.length
  rotate_left
  · repeat' (first | (with_reducible first | refine Wa.h ?_ | refine Ws.h ?_ | refine Wb.h fun K hK => ?_ | (refine hK _ ?_; clear hK K)) | ((with_reducible refine kQ ?_ ?_); kernel_rfl) | ((with_reducible refine k1 ?_ ?_); rfl) | ((with_reducible refine k0 ?_ ?_); rfl) | ((with_reducible apply kB) <;> first | rfl | intro h) | ((with_reducible refine kM ?_ ?_); rfl) | (with_reducible refine Wt.h (fun h => ?_) (fun h => ?_)) <;> try (exfalso; omega) | (with_reducible refine Wu.h (fun h => ?_) (fun h => ?_)) <;> try simp only [h] | ((fail_if_success with_reducible refine Wz.h ?_); simp (disch := omega) only [↓LD, LU, LS, LT, loadA_rf, seval, fSt]) | ((with_reducible refine And.intro ?_ ?_); omega) | ((fail_if_success with_reducible refine Wz.h ?_); simp only [D.int, D.bool]))
    exact end1 rfl rfl (by kernel_rfl) .f ⟨rfl, rfl⟩
  by_cases hi60 : i < 60
  rotate_left
  · repeat' (first | (with_reducible first | refine Wa.h ?_ | refine Ws.h ?_ | refine Wb.h fun K hK => ?_ | (refine hK _ ?_; clear hK K)) | ((with_reducible refine kQ ?_ ?_); kernel_rfl) | ((with_reducible refine k1 ?_ ?_); rfl) | ((with_reducible refine k0 ?_ ?_); rfl) | ((with_reducible apply kB) <;> first | rfl | intro h) | ((with_reducible refine kM ?_ ?_); rfl) | (with_reducible refine Wt.h (fun h => ?_) (fun h => ?_)) <;> try (exfalso; omega) | (with_reducible refine Wu.h (fun h => ?_) (fun h => ?_)) <;> try simp only [h] | ((fail_if_success with_reducible refine Wz.h ?_); simp (disch := omega) only [↓LD, LU, LS, LT, loadA_rf, seval, fSt]) | ((with_reducible refine And.intro ?_ ?_); omega) | ((fail_if_success with_reducible refine Wz.h ?_); simp only [D.int, D.bool]))
    exact end1 rfl rfl (by kernel_rfl) .f ⟨rfl, rfl⟩
  have hbl := hl _ (show gt l i ∈ l by rw [gt_eq hil]; exact List.getElem_mem hil)
  generalize hx : gt l i = a at hbl
  refine HS.seq ?_
  refine HS.seq ?_
  repeat' (first | (with_reducible first | refine Wa.h ?_ | refine Wb.h fun K hK => ?_ | (refine hK _ ?_; clear hK K)) | ((with_reducible refine kQ ?_ ?_); kernel_rfl) | ((with_reducible refine k1 ?_ ?_); rfl) | ((with_reducible refine k0 ?_ ?_); rfl) | ((with_reducible apply kB) <;> first | rfl | intro h) | ((with_reducible refine kM ?_ ?_); rfl) | (with_reducible refine Wt.h (fun h => ?_) (fun h => ?_)) <;> try (exfalso; omega) | (with_reducible refine Wu.h (fun h => ?_) (fun h => ?_)) <;> try simp only [h] | ((fail_if_success with_reducible refine Wz.h ?_); simp (disch := omega) only [↓LD, LU, LS, LT, loadA_rf, seval, fSt]) | ((with_reducible refine And.intro ?_ ?_); omega) | ((fail_if_success with_reducible refine Wz.h ?_); simp only [D.int, D.bool]))
  refine HS.seq ?_
  refine HS.block ?_
  refine HS.seq ?_
  refine HS.cutn (fun _ : Unit => ⟨frm 179 [(0, .f (fSt l)), (3, .pt 0 0), (4, dpP x.n), (5, D.int i), (6, dpQ x.n)], dpH x.e1 x.e2 x.n x.ws x.w x.ps x.fuse x.dead x.works ++ [stB a], []⟩) (fun _ => True) ?_ ?_
  · obtain ⟨e1, e2, n, ws, w, ps, fuse, dead, works⟩ := x
    dsimp only
    rcases n with _ | n
    all_goals
      repeat' (first | (with_reducible first | refine Wa.h ?_ | refine Ws.h ?_ | refine Wb.h fun K hK => ?_ | (refine hK _ ?_; clear hK K)) | ((with_reducible refine kQ ?_ ?_); kernel_rfl) | ((with_reducible refine k1 ?_ ?_); rfl) | ((with_reducible refine k0 ?_ ?_); rfl) | ((with_reducible apply kB) <;> first | rfl | intro h) | ((with_reducible refine kM ?_ ?_); rfl) | (with_reducible refine Wt.h (fun h => ?_) (fun h => ?_)) <;> try (exfalso; omega) | (with_reducible refine Wu.h (fun h => ?_) (fun h => ?_)) <;> try simp only [h] | ((fail_if_success with_reducible refine Wz.h ?_); simp (disch := omega) only [↓LD, LU, LS, LT, loadA_rf, seval, dpH, dpP, dkB, dkP, fSt, st_load, st_cs, -loadA_rf, hx]) | ((with_reducible refine And.intro ?_ ?_); omega) | ((fail_if_success with_reducible refine Wz.h ?_); simp only [D.int, D.bool]))
      exact OutN.mk [0, 3, 4, 5, 6] () (by kernel_rfl) trivial
  rintro _ - s' hv
  refine thenQ_n ?_
  refine HS.view hv ?_
  clear hv s'
  have hpf := pick_in (x := a.file) (n := 6) (by omega)
  refine HS.seq ?_
  refine HS.cutn (fun _ : Unit => ⟨frm 179 [(0, .f (fSt l)), (3, .pt 0 0), (4, dpP x.n), (5, D.int i), (6, dpQ x.n), (7, D.int (pick a.file 6 - 1))], dpH x.e1 x.e2 x.n x.ws x.w x.ps x.fuse x.dead x.works ++ [stB a], []⟩) (fun _ => True) ?_ ?_
  · obtain ⟨e1, e2, n, ws, w, ps, fuse, dead, works⟩ := x
    dsimp only
    rcases n with _ | n
    all_goals
      repeat' (first | (with_reducible first | refine Wa.h ?_ | refine Ws.h ?_ | refine Wb.h fun K hK => ?_ | (refine hK _ ?_; clear hK K)) | ((with_reducible refine kQ ?_ ?_); kernel_rfl) | ((with_reducible refine k1 ?_ ?_); rfl) | ((with_reducible refine k0 ?_ ?_); rfl) | ((with_reducible apply kB) <;> first | rfl | intro h) | ((with_reducible refine kM ?_ ?_); rfl) | (with_reducible refine Wt.h (fun h => ?_) (fun h => ?_)) <;> try (exfalso; omega) | (with_reducible refine Wu.h (fun h => ?_) (fun h => ?_)) <;> try simp only [h] | ((fail_if_success with_reducible refine Wz.h ?_); simp (disch := omega) only [↓LD, LU, LS, LT, loadA_rf, seval, dpH, dpP, dpQ, stB, dkB, dkP, List.cons_append, List.nil_append]) | ((with_reducible refine And.intro ?_ ?_); omega) | ((fail_if_success with_reducible refine Wz.h ?_); simp only [D.int, D.bool]))
      refine callW_emb (c_hand_Pick a.file 6 (by omega) (by omega)) [] (by kernel_rfl) rfl rfl ?_
      rintro _ _ ⟨rfl, rfl⟩
      repeat' (first | (with_reducible first | refine Wa.h ?_ | refine Ws.h ?_ | refine Wb.h fun K hK => ?_ | (refine hK _ ?_; clear hK K)) | ((with_reducible refine kQ ?_ ?_); kernel_rfl) | ((with_reducible refine k1 ?_ ?_); rfl) | ((with_reducible refine k0 ?_ ?_); rfl) | ((with_reducible apply kB) <;> first | rfl | intro h) | ((with_reducible refine kM ?_ ?_); rfl) | (with_reducible refine Wt.h (fun h => ?_) (fun h => ?_)) <;> try (exfalso; omega) | (with_reducible refine Wu.h (fun h => ?_) (fun h => ?_)) <;> try simp only [h] | ((fail_if_success with_reducible refine Wz.h ?_); simp (disch := omega) only [↓LD, LU, LS, LT, loadA_rf, seval, dkB, List.append_nil]) | ((with_reducible refine And.intro ?_ ?_); omega) | ((fail_if_success with_reducible refine Wz.h ?_); simp only [D.int, D.bool]))
      exact OutN.mk [0, 3, 4, 5, 6, 7] () (by kernel_rfl) trivial
  rintro _ - s' hv
  refine thenQ_n ?_
  refine HS.view hv ?_
  clear hv s'
  generalize hkf : pick a.file 6 - 1 = k
  have hk : -1 ≤ k ∧ k < 5 := by omega
  refine HS.seq ?_
  repeat' (first | (with_reducible first | refine Wa.h ?_ | refine Wb.h fun K hK => ?_ | (refine hK _ ?_; clear hK K)) | ((with_reducible refine kQ ?_ ?_); kernel_rfl) | ((with_reducible refine k1 ?_ ?_); rfl) | ((with_reducible refine k0 ?_ ?_); rfl) | ((with_reducible apply kB) <;> first | rfl | intro h) | ((with_reducible refine kM ?_ ?_); rfl) | (with_reducible refine Wt.h (fun h => ?_) (fun h => ?_)) <;> try (exfalso; omega) | (with_reducible refine Wu.h (fun h => ?_) (fun h => ?_)) <;> try simp only [h] | ((fail_if_success with_reducible refine Wz.h ?_); simp (disch := omega) only [↓LD, LU, LS, LT, loadA_rf, seval]) | ((with_reducible refine And.intro ?_ ?_); omega) | ((fail_if_success with_reducible refine Wz.h ?_); simp only [D.int, D.bool]))
  refine HS.seq ?_
  refine HS.cutn (fun y : DpX => ⟨frm 179 [(0, .f (fSt l)), (3, .pt 0 0), (4, dpP y.n), (5, D.int i), (8, D.bool true)], dpH y.e1 y.e2 y.n y.ws y.w y.ps y.fuse y.dead y.works, []⟩) (fun y => DpI (i + 1) y) ?_ ?_
  · have hpl := hI.pl
    have hrd := hI.rd (by omega)
    have hrl := hI.rl
    have hnl := hI.nl
    have hni := hI.ni
    have hfu := hI.fu
    have hwo := hI.wo
    obtain ⟨e1, e2, n, ws, w, ps, fuse, dead, works⟩ := x
    dsimp only at hpl hrd hrl hnl hni hfu hwo ⊢
    have hpw := pick_in (x := a.what) (n := 11) (by omega)
    rcases n with _ | n
    · repeat' (first | (with_reducible first | refine Wa.h ?_ | refine Ws.h ?_ | refine Wb.h fun K hK => ?_ | (refine hK _ ?_; clear hK K)) | ((with_reducible refine kQ ?_ ?_); kernel_rfl) | ((with_reducible refine k1 ?_ ?_); rfl) | ((with_reducible refine k0 ?_ ?_); rfl) | ((with_reducible apply kB) <;> first | rfl | intro h) | ((with_reducible refine kM ?_ ?_); rfl) | (with_reducible refine Wt.h (fun h => ?_) (fun h => ?_)) <;> try (exfalso; omega) | (with_reducible refine Wu.h (fun h => ?_) (fun h => ?_)) <;> try simp only [h] | ((fail_if_success with_reducible refine Wz.h ?_); simp (disch := omega) only [↓LD, LU, LS, LT, loadA_rf, seval, dpH, dpP, dpQ, stB, dkB, dkP, List.cons_append, List.nil_append]) | ((with_reducible refine And.intro ?_ ?_); omega) | ((fail_if_success with_reducible refine Wz.h ?_); simp only [D.int, D.bool]))
      refine callW_emb (c_hand_Pick a.what 11 (by omega) (by omega)) [] (by kernel_rfl) rfl rfl ?_
      rintro _ _ ⟨rfl, rfl⟩
      generalize pick a.what 11 = q at hpw
      repeat' (first | (with_reducible first | refine Wa.h ?_ | refine Ws.h ?_ | refine Wb.h fun K hK => ?_ | (refine hK _ ?_; clear hK K)) | ((with_reducible refine kQ ?_ ?_); kernel_rfl) | ((with_reducible refine k1 ?_ ?_); rfl) | ((with_reducible refine k0 ?_ ?_); rfl) | ((with_reducible apply kB) <;> first | rfl | intro h) | ((with_reducible refine kM ?_ ?_); rfl) | (with_reducible refine Wt.h (fun h => ?_) (fun h => ?_)) <;> try (exfalso; omega) | (with_reducible refine Wu.h (fun h => ?_) (fun h => ?_)) <;> try simp only [h] | ((fail_if_success with_reducible refine Wz.h ?_); simp (disch := omega) only [↓LD, LU, LS, LT, loadA_rf, seval, List.append_nil]) | ((with_reducible refine And.intro ?_ ?_); omega) | ((fail_if_success with_reducible refine Wz.h ?_); simp only [D.int, D.bool]))
      · -- Remove
        by_cases hk0 : k < 0
        · refine callW_emb (c_disk_RemoveN (dkR e1 e2 0 ws fuse dead works) k hk0) [0, 1, 2] (by kernel_rfl) rfl rfl ?_
          rintro _ _ ⟨rfl, rfl⟩
          simp (disch := omega) only [↓LD, LU, LS, LT, loadA_rf, seval, ren, List.getElem?_nil, List.append_nil, dkR, dkB, dkP]
          repeat' (first | (with_reducible first | refine Wa.h ?_ | refine Ws.h ?_ | refine Wb.h fun K hK => ?_ | (refine hK _ ?_; clear hK K)) | ((with_reducible refine kQ ?_ ?_); kernel_rfl) | ((with_reducible refine k1 ?_ ?_); rfl) | ((with_reducible refine k0 ?_ ?_); rfl) | ((with_reducible apply kB) <;> first | rfl | intro h) | ((with_reducible refine kM ?_ ?_); rfl) | (with_reducible refine Wt.h (fun h => ?_) (fun h => ?_)) <;> try (exfalso; omega) | (with_reducible refine Wu.h (fun h => ?_) (fun h => ?_)) <;> try simp only [h] | ((fail_if_success with_reducible refine Wz.h ?_); simp (disch := omega) only [↓LD, LU, LS, LT, loadA_rf, seval, ren, List.getElem?_nil, List.append_nil, dkR, dkB, dkP]) | ((with_reducible refine And.intro ?_ ?_); omega) | ((fail_if_success with_reducible refine Wz.h ?_); simp only [D.int, D.bool]))
          refine callW_emb (c_rd_RemoveN [rkB w ps fuse dead works] k hk0) [3] (by kernel_rfl) rfl rfl ?_
          rintro _ _ ⟨rfl, rfl⟩
          simp (disch := omega) only [↓LD, LU, LS, LT, loadA_rf, seval, ren, List.getElem?_nil, List.append_nil, ren_rk]
          repeat' (first | (with_reducible first | refine Wa.h ?_ | refine Ws.h ?_ | refine Wb.h fun K hK => ?_ | (refine hK _ ?_; clear hK K)) | ((with_reducible refine kQ ?_ ?_); kernel_rfl) | ((with_reducible refine k1 ?_ ?_); rfl) | ((with_reducible refine k0 ?_ ?_); rfl) | ((with_reducible apply kB) <;> first | rfl | intro h) | ((with_reducible refine kM ?_ ?_); rfl) | (with_reducible refine Wt.h (fun h => ?_) (fun h => ?_)) <;> try (exfalso; omega) | (with_reducible refine Wu.h (fun h => ?_) (fun h => ?_)) <;> try simp only [h] | ((fail_if_success with_reducible refine Wz.h ?_); simp (disch := omega) only [↓LD, LU, LS, LT, loadA_rf, seval, ren, List.getElem?_nil, List.append_nil, ren_rk]) | ((with_reducible refine And.intro ?_ ?_); omega) | ((fail_if_success with_reducible refine Wz.h ?_); simp only [D.int, D.bool]))
          exact OutN.mk [0, 3, 4, 5, 8] ⟨e1, e2, 0, ws, w, ps, fuse, dead, works⟩ (by kernel_rfl) hI.same
        · have k0 : 0 ≤ k := by omega
          have c1 := c_disk_Remove e1 e2 0 ws fuse dead works (i * 1048576) hrl.f2.ok (by omega) k k0 hnl (by omega) (by omega) (by omega)
          have c2 := c_rd_Remove w ps fuse dead works k hrd k0 (by omega) (by omega)
          have hgo := hI.go
          cases hd : deadN' fuse dead with
          | true =>
            rw [hd] at c1 c2 hgo
            rw [show psR w ps true k = ps from if_pos (.inl rfl)] at c2
            simp only [true_or, ↓reduceIte] at c1 c2
            refine callW_emb c1 [0, 1, 2] (by kernel_rfl) rfl rfl ?_
            rintro _ _ ⟨rfl, rfl⟩
            simp (disch := omega) only [↓LD, LU, LS, LT, loadA_rf, seval, ren, List.getElem?_nil, List.append_nil, dkR, dkB, dkP, dkA, dkS, dkC, ren_rk]
            repeat' (first | (with_reducible first | refine Wa.h ?_ | refine Ws.h ?_ | refine Wb.h fun K hK => ?_ | (refine hK _ ?_; clear hK K)) | ((with_reducible refine kQ ?_ ?_); kernel_rfl) | ((with_reducible refine k1 ?_ ?_); rfl) | ((with_reducible refine k0 ?_ ?_); rfl) | ((with_reducible apply kB) <;> first | rfl | intro h) | ((with_reducible refine kM ?_ ?_); rfl) | (with_reducible refine Wt.h (fun h => ?_) (fun h => ?_)) <;> try (exfalso; omega) | (with_reducible refine Wu.h (fun h => ?_) (fun h => ?_)) <;> try simp only [h] | ((fail_if_success with_reducible refine Wz.h ?_); simp (disch := omega) only [↓LD, LU, LS, LT, loadA_rf, seval, ren, List.getElem?_nil, List.append_nil, dkR, dkB, dkP, dkA, dkS, dkC, ren_rk]) | ((with_reducible refine And.intro ?_ ?_); omega) | ((fail_if_success with_reducible refine Wz.h ?_); simp only [D.int, D.bool]))
            refine callW_emb c2 [3] (by kernel_rfl) rfl rfl ?_
            rintro _ _ ⟨rfl, rfl⟩
            simp (disch := omega) only [↓LD, LU, LS, LT, loadA_rf, seval, ren, List.getElem?_nil, List.append_nil, dkR, dkB, dkP, dkA, dkS, dkC, ren_rk]
            repeat' (first | (with_reducible first | refine Wa.h ?_ | refine Ws.h ?_ | refine Wb.h fun K hK => ?_ | (refine hK _ ?_; clear hK K)) | ((with_reducible refine kQ ?_ ?_); kernel_rfl) | ((with_reducible refine k1 ?_ ?_); rfl) | ((with_reducible refine k0 ?_ ?_); rfl) | ((with_reducible apply kB) <;> first | rfl | intro h) | ((with_reducible refine kM ?_ ?_); rfl) | (with_reducible refine Wt.h (fun h => ?_) (fun h => ?_)) <;> try (exfalso; omega) | (with_reducible refine Wu.h (fun h => ?_) (fun h => ?_)) <;> try simp only [h] | ((fail_if_success with_reducible refine Wz.h ?_); simp (disch := omega) only [↓LD, LU, LS, LT, loadA_rf, seval, ren, List.getElem?_nil, List.append_nil, dkR, dkB, dkP, dkA, dkS, dkC, ren_rk]) | ((with_reducible refine And.intro ?_ ?_); omega) | ((fail_if_success with_reducible refine Wz.h ?_); simp only [D.int, D.bool]))
            exact OutN.mk [0, 3, 4, 5, 8] ⟨e1, e2, 0, ws, w, ps, fuseN fuse dead, true, worksN fuse dead works⟩ (by kernel_rfl) hgo
          | false =>
            rw [hd] at c1 c2 hgo
            cases hg : fGet e2 k with
            | none =>
              rw [hg] at c1
              rw [show psR w ps false k = ps from if_pos (.inr (hrl.gone.2 hg))] at c2
              simp only [or_true, Bool.false_eq_true, ↓reduceIte] at c1 c2
              refine callW_emb c1 [0, 1, 2] (by kernel_rfl) rfl rfl ?_
              rintro _ _ ⟨rfl, rfl⟩
              simp (disch := omega) only [↓LD, LU, LS, LT, loadA_rf, seval, ren, List.getElem?_nil, List.append_nil, dkR, dkB, dkP, dkA, dkS, dkC, ren_rk]
              repeat' (first | (with_reducible first | refine Wa.h ?_ | refine Ws.h ?_ | refine Wb.h fun K hK => ?_ | (refine hK _ ?_; clear hK K)) | ((with_reducible refine kQ ?_ ?_); kernel_rfl) | ((with_reducible refine k1 ?_ ?_); rfl) | ((with_reducible refine k0 ?_ ?_); rfl) | ((with_reducible apply kB) <;> first | rfl | intro h) | ((with_reducible refine kM ?_ ?_); rfl) | (with_reducible refine Wt.h (fun h => ?_) (fun h => ?_)) <;> try (exfalso; omega) | (with_reducible refine Wu.h (fun h => ?_) (fun h => ?_)) <;> try simp only [h] | ((fail_if_success with_reducible refine Wz.h ?_); simp (disch := omega) only [↓LD, LU, LS, LT, loadA_rf, seval, ren, List.getElem?_nil, List.append_nil, dkR, dkB, dkP, dkA, dkS, dkC, ren_rk]) | ((with_reducible refine And.intro ?_ ?_); omega) | ((fail_if_success with_reducible refine Wz.h ?_); simp only [D.int, D.bool]))
              refine callW_emb c2 [3] (by kernel_rfl) rfl rfl ?_
              rintro _ _ ⟨rfl, rfl⟩
              simp (disch := omega) only [↓LD, LU, LS, LT, loadA_rf, seval, ren, List.getElem?_nil, List.append_nil, dkR, dkB, dkP, dkA, dkS, dkC, ren_rk]
              repeat' (first | (with_reducible first | refine Wa.h ?_ | refine Ws.h ?_ | refine Wb.h fun K hK => ?_ | (refine hK _ ?_; clear hK K)) | ((with_reducible refine kQ ?_ ?_); kernel_rfl) | ((with_reducible refine k1 ?_ ?_); rfl) | ((with_reducible refine k0 ?_ ?_); rfl) | ((with_reducible apply kB) <;> first | rfl | intro h) | ((with_reducible refine kM ?_ ?_); rfl) | (with_reducible refine Wt.h (fun h => ?_) (fun h => ?_)) <;> try (exfalso; omega) | (with_reducible refine Wu.h (fun h => ?_) (fun h => ?_)) <;> try simp only [h] | ((fail_if_success with_reducible refine Wz.h ?_); simp (disch := omega) only [↓LD, LU, LS, LT, loadA_rf, seval, ren, List.getElem?_nil, List.append_nil, dkR, dkB, dkP, dkA, dkS, dkC, ren_rk]) | ((with_reducible refine And.intro ?_ ?_); omega) | ((fail_if_success with_reducible refine Wz.h ?_); simp only [D.int, D.bool]))
              exact OutN.mk [0, 3, 4, 5, 8] ⟨e1, e2, 0, ws, w, ps, fuseN fuse dead, false, worksN fuse dead works⟩ (by kernel_rfl) hgo
            | some y =>
              rw [hg] at c1
              rw [show psR w ps false k = ps ++ [⟨k, true, []⟩] from if_neg (by rw [hrl.gone, hg]; simp)] at c2
              simp only [reduceCtorEq, or_self, Bool.false_eq_true, ↓reduceIte] at c1 c2
              have hpt := hI.put (o := ⟨k, true, []⟩) ⟨k0, hk.2, by simp⟩ (by simp)
              rw [hd] at hpt
              refine callW_emb c1 [0, 1, 2] (by kernel_rfl) rfl rfl ?_
              rintro _ _ ⟨rfl, rfl⟩
              simp (disch := omega) only [↓LD, LU, LS, LT, loadA_rf, seval, ren, List.getElem?_nil, List.append_nil, dkR, dkB, dkP, dkA, dkS, dkC, ren_rk]
              repeat' (first | (with_reducible first | refine Wa.h ?_ | refine Ws.h ?_ | refine Wb.h fun K hK => ?_ | (refine hK _ ?_; clear hK K)) | ((with_reducible refine kQ ?_ ?_); kernel_rfl) | ((with_reducible refine k1 ?_ ?_); rfl) | ((with_reducible refine k0 ?_ ?_); rfl) | ((with_reducible apply kB) <;> first | rfl | intro h) | ((with_reducible refine kM ?_ ?_); rfl) | (with_reducible refine Wt.h (fun h => ?_) (fun h => ?_)) <;> try (exfalso; omega) | (with_reducible refine Wu.h (fun h => ?_) (fun h => ?_)) <;> try simp only [h] | ((fail_if_success with_reducible refine Wz.h ?_); simp (disch := omega) only [↓LD, LU, LS, LT, loadA_rf, seval, ren, List.getElem?_nil, List.append_nil, dkR, dkB, dkP, dkA, dkS, dkC, ren_rk]) | ((with_reducible refine And.intro ?_ ?_); omega) | ((fail_if_success with_reducible refine Wz.h ?_); simp only [D.int, D.bool]))
              refine callW_emb c2 [3] (by kernel_rfl) rfl rfl ?_
              rintro _ _ ⟨rfl, rfl⟩
              simp (disch := omega) only [↓LD, LU, LS, LT, loadA_rf, seval, ren, List.getElem?_nil, List.append_nil, dkR, dkB, dkP, dkA, dkS, dkC, ren_rk]
              repeat' (first | (with_reducible first | refine Wa.h ?_ | refine Ws.h ?_ | refine Wb.h fun K hK => ?_ | (refine hK _ ?_; clear hK K)) | ((with_reducible refine kQ ?_ ?_); kernel_rfl) | ((with_reducible refine k1 ?_ ?_); rfl) | ((with_reducible refine k0 ?_ ?_); rfl) | ((with_reducible apply kB) <;> first | rfl | intro h) | ((with_reducible refine kM ?_ ?_); rfl) | (with_reducible refine Wt.h (fun h => ?_) (fun h => ?_)) <;> try (exfalso; omega) | (with_reducible refine Wu.h (fun h => ?_) (fun h => ?_)) <;> try simp only [h] | ((fail_if_success with_reducible refine Wz.h ?_); simp (disch := omega) only [↓LD, LU, LS, LT, loadA_rf, seval, ren, List.getElem?_nil, List.append_nil, dkR, dkB, dkP, dkA, dkS, dkC, ren_rk]) | ((with_reducible refine And.intro ?_ ?_); omega) | ((fail_if_success with_reducible refine Wz.h ?_); simp only [D.int, D.bool]))
              exact OutN.mk [0, 3, 4, 5, 8] ⟨e1, fDo e2 k [], 0 + 1, ws ++ [(⟨k, []⟩ : Wk)], w, ps ++ [⟨k, true, []⟩], fuseN fuse dead, false, worksN fuse dead works⟩ (by kernel_rfl) hpt
      · have c1 := c_disk_Sync e1 e2 0 ws fuse dead works (by omega) (by omega)
        have c2 := c_rd_Sync w ps fuse dead works hrd (by omega) (by omega)
        have hgo := hI.go
        have hsy := hI.sync
        cases hd : deadN' fuse dead with
        | true =>
          have hwk : worksN fuse dead works = works := by rw [worksN, hd]; rfl
          rw [hd, hwk] at c1 hgo
          rw [hd] at c2
          simp only [↓reduceIte] at c1 c2
          refine callW_emb c1 [0, 1, 2] (by kernel_rfl) rfl rfl ?_
          rintro _ _ ⟨rfl, rfl⟩
          simp (disch := omega) only [↓LD, LU, LS, LT, loadA_rf, seval, ren, List.getElem?_nil, List.append_nil, dkR, dkB, dkP, dkA, dkS, dkC, ren_rk]
          repeat' (first | (with_reducible first | refine Wa.h ?_ | refine Ws.h ?_ | refine Wb.h fun K hK => ?_ | (refine hK _ ?_; clear hK K)) | ((with_reducible refine kQ ?_ ?_); kernel_rfl) | ((with_reducible refine k1 ?_ ?_); rfl) | ((with_reducible refine k0 ?_ ?_); rfl) | ((with_reducible apply kB) <;> first | rfl | intro h) | ((with_reducible refine kM ?_ ?_); rfl) | (with_reducible refine Wt.h (fun h => ?_) (fun h => ?_)) <;> try (exfalso; omega) | (with_reducible refine Wu.h (fun h => ?_) (fun h => ?_)) <;> try simp only [h] | ((fail_if_success with_reducible refine Wz.h ?_); simp (disch := omega) only [↓LD, LU, LS, LT, loadA_rf, seval, ren, List.getElem?_nil, List.append_nil, dkR, dkB, dkP, dkA, dkS, dkC, ren_rk]) | ((with_reducible refine And.intro ?_ ?_); omega) | ((fail_if_success with_reducible refine Wz.h ?_); simp only [D.int, D.bool]))
          refine callW_emb c2 [3] (by kernel_rfl) rfl rfl ?_
          rintro _ _ ⟨rfl, rfl⟩
          simp (disch := omega) only [↓LD, LU, LS, LT, loadA_rf, seval, ren, List.getElem?_nil, List.append_nil, dkR, dkB, dkP, dkA, dkS, dkC, ren_rk]
          repeat' (first | (with_reducible first | refine Wa.h ?_ | refine Ws.h ?_ | refine Wb.h fun K hK => ?_ | (refine hK _ ?_; clear hK K)) | ((with_reducible refine kQ ?_ ?_); kernel_rfl) | ((with_reducible refine k1 ?_ ?_); rfl) | ((with_reducible refine k0 ?_ ?_); rfl) | ((with_reducible apply kB) <;> first | rfl | intro h) | ((with_reducible refine kM ?_ ?_); rfl) | (with_reducible refine Wt.h (fun h => ?_) (fun h => ?_)) <;> try (exfalso; omega) | (with_reducible refine Wu.h (fun h => ?_) (fun h => ?_)) <;> try simp only [h] | ((fail_if_success with_reducible refine Wz.h ?_); simp (disch := omega) only [↓LD, LU, LS, LT, loadA_rf, seval, ren, List.getElem?_nil, List.append_nil, dkR, dkB, dkP, dkA, dkS, dkC, ren_rk]) | ((with_reducible refine And.intro ?_ ?_); omega) | ((fail_if_success with_reducible refine Wz.h ?_); simp only [D.int, D.bool]))
          exact OutN.mk [0, 3, 4, 5, 8] ⟨e1, e2, 0, ws, w, ps, fuseN fuse dead, true, works⟩ (by kernel_rfl) hgo
        | false =>
          have hwk : worksN fuse dead works = works + 1 := by rw [worksN, hd]; rfl
          rw [hd, hwk] at c1 hsy
          rw [hd] at c2
          simp only [Bool.false_eq_true, ↓reduceIte] at c1 c2
          refine callW_emb c1 [0, 1, 2] (by kernel_rfl) rfl rfl ?_
          rintro _ _ ⟨rfl, rfl⟩
          simp (disch := omega) only [↓LD, LU, LS, LT, loadA_rf, seval, ren, List.getElem?_nil, List.append_nil, dkR, dkB, dkP, dkA, dkS, dkC, ren_rk]
          repeat' (first | (with_reducible first | refine Wa.h ?_ | refine Ws.h ?_ | refine Wb.h fun K hK => ?_ | (refine hK _ ?_; clear hK K)) | ((with_reducible refine kQ ?_ ?_); kernel_rfl) | ((with_reducible refine k1 ?_ ?_); rfl) | ((with_reducible refine k0 ?_ ?_); rfl) | ((with_reducible apply kB) <;> first | rfl | intro h) | ((with_reducible refine kM ?_ ?_); rfl) | (with_reducible refine Wt.h (fun h => ?_) (fun h => ?_)) <;> try (exfalso; omega) | (with_reducible refine Wu.h (fun h => ?_) (fun h => ?_)) <;> try simp only [h] | ((fail_if_success with_reducible refine Wz.h ?_); simp (disch := omega) only [↓LD, LU, LS, LT, loadA_rf, seval, ren, List.getElem?_nil, List.append_nil, dkR, dkB, dkP, dkA, dkS, dkC, ren_rk]) | ((with_reducible refine And.intro ?_ ?_); omega) | ((fail_if_success with_reducible refine Wz.h ?_); simp only [D.int, D.bool]))
          refine callW_emb c2 [3] (by kernel_rfl) rfl rfl ?_
          rintro _ _ ⟨rfl, rfl⟩
          simp (disch := omega) only [↓LD, LU, LS, LT, loadA_rf, seval, ren, List.getElem?_nil, List.append_nil, dkR, dkB, dkP, dkA, dkS, dkC, ren_rk]
          repeat' (first | (with_reducible first | refine Wa.h ?_ | refine Ws.h ?_ | refine Wb.h fun K hK => ?_ | (refine hK _ ?_; clear hK K)) | ((with_reducible refine kQ ?_ ?_); kernel_rfl) | ((with_reducible refine k1 ?_ ?_); rfl) | ((with_reducible refine k0 ?_ ?_); rfl) | ((with_reducible apply kB) <;> first | rfl | intro h) | ((with_reducible refine kM ?_ ?_); rfl) | (with_reducible refine Wt.h (fun h => ?_) (fun h => ?_)) <;> try (exfalso; omega) | (with_reducible refine Wu.h (fun h => ?_) (fun h => ?_)) <;> try simp only [h] | ((fail_if_success with_reducible refine Wz.h ?_); simp (disch := omega) only [↓LD, LU, LS, LT, loadA_rf, seval, ren, List.getElem?_nil, List.append_nil, dkR, dkB, dkP, dkA, dkS, dkC, ren_rk]) | ((with_reducible refine And.intro ?_ ?_); omega) | ((fail_if_success with_reducible refine Wz.h ?_); simp only [D.int, D.bool]))
          exact OutN.mk [0, 3, 4, 5, 8] ⟨e2, e2, 0, [], nowL w ps, [], fuseN fuse dead, false, works + 1⟩ (by kernel_rfl) hsy
      · have c1 := c_disk_Sync e1 e2 0 ws fuse dead works (by omega) (by omega)
        have c2 := c_rd_Sync w ps fuse dead works hrd (by omega) (by omega)
        have hgo := hI.go
        have hsy := hI.sync
        cases hd : deadN' fuse dead with
        | true =>
          have hwk : worksN fuse dead works = works := by rw [worksN, hd]; rfl
          rw [hd, hwk] at c1 hgo
          rw [hd] at c2
          simp only [↓reduceIte] at c1 c2
          refine callW_emb c1 [0, 1, 2] (by kernel_rfl) rfl rfl ?_
          rintro _ _ ⟨rfl, rfl⟩
          simp (disch := omega) only [↓LD, LU, LS, LT, loadA_rf, seval, ren, List.getElem?_nil, List.append_nil, dkR, dkB, dkP, dkA, dkS, dkC, ren_rk]
          repeat' (first | (with_reducible first | refine Wa.h ?_ | refine Ws.h ?_ | refine Wb.h fun K hK => ?_ | (refine hK _ ?_; clear hK K)) | ((with_reducible refine kQ ?_ ?_); kernel_rfl) | ((with_reducible refine k1 ?_ ?_); rfl) | ((with_reducible refine k0 ?_ ?_); rfl) | ((with_reducible apply kB) <;> first | rfl | intro h) | ((with_reducible refine kM ?_ ?_); rfl) | (with_reducible refine Wt.h (fun h => ?_) (fun h => ?_)) <;> try (exfalso; omega) | (with_reducible refine Wu.h (fun h => ?_) (fun h => ?_)) <;> try simp only [h] | ((fail_if_success with_reducible refine Wz.h ?_); simp (disch := omega) only [↓LD, LU, LS, LT, loadA_rf, seval, ren, List.getElem?_nil, List.append_nil, dkR, dkB, dkP, dkA, dkS, dkC, ren_rk]) | ((with_reducible refine And.intro ?_ ?_); omega) | ((fail_if_success with_reducible refine Wz.h ?_); simp only [D.int, D.bool]))
          refine callW_emb c2 [3] (by kernel_rfl) rfl rfl ?_
          rintro _ _ ⟨rfl, rfl⟩
          simp (disch := omega) only [↓LD, LU, LS, LT, loadA_rf, seval, ren, List.getElem?_nil, List.append_nil, dkR, dkB, dkP, dkA, dkS, dkC, ren_rk]
          repeat' (first | (with_reducible first | refine Wa.h ?_ | refine Ws.h ?_ | refine Wb.h fun K hK => ?_ | (refine hK _ ?_; clear hK K)) | ((with_reducible refine kQ ?_ ?_); kernel_rfl) | ((with_reducible refine k1 ?_ ?_); rfl) | ((with_reducible refine k0 ?_ ?_); rfl) | ((with_reducible apply kB) <;> first | rfl | intro h) | ((with_reducible refine kM ?_ ?_); rfl) | (with_reducible refine Wt.h (fun h => ?_) (fun h => ?_)) <;> try (exfalso; omega) | (with_reducible refine Wu.h (fun h => ?_) (fun h => ?_)) <;> try simp only [h] | ((fail_if_success with_reducible refine Wz.h ?_); simp (disch := omega) only [↓LD, LU, LS, LT, loadA_rf, seval, ren, List.getElem?_nil, List.append_nil, dkR, dkB, dkP, dkA, dkS, dkC, ren_rk]) | ((with_reducible refine And.intro ?_ ?_); omega) | ((fail_if_success with_reducible refine Wz.h ?_); simp only [D.int, D.bool]))
          exact OutN.mk [0, 3, 4, 5, 8] ⟨e1, e2, 0, ws, w, ps, fuseN fuse dead, true, works⟩ (by kernel_rfl) hgo
        | false =>
          have hwk : worksN fuse dead works = works + 1 := by rw [worksN, hd]; rfl
          rw [hd, hwk] at c1 hsy
          rw [hd] at c2
          simp only [Bool.false_eq_true, ↓reduceIte] at c1 c2
          refine callW_emb c1 [0, 1, 2] (by kernel_rfl) rfl rfl ?_
          rintro _ _ ⟨rfl, rfl⟩
          simp (disch := omega) only [↓LD, LU, LS, LT, loadA_rf, seval, ren, List.getElem?_nil, List.append_nil, dkR, dkB, dkP, dkA, dkS, dkC, ren_rk]
          repeat' (first | (with_reducible first | refine Wa.h ?_ | refine Ws.h ?_ | refine Wb.h fun K hK => ?_ | (refine hK _ ?_; clear hK K)) | ((with_reducible refine kQ ?_ ?_); kernel_rfl) | ((with_reducible refine k1 ?_ ?_); rfl) | ((with_reducible refine k0 ?_ ?_); rfl) | ((with_reducible apply kB) <;> first | rfl | intro h) | ((with_reducible refine kM ?_ ?_); rfl) | (with_reducible refine Wt.h (fun h => ?_) (fun h => ?_)) <;> try (exfalso; omega) | (with_reducible refine Wu.h (fun h => ?_) (fun h => ?_)) <;> try simp only [h] | ((fail_if_success with_reducible refine Wz.h ?_); simp (disch := omega) only [↓LD, LU, LS, LT, loadA_rf, seval, ren, List.getElem?_nil, List.append_nil, dkR, dkB, dkP, dkA, dkS, dkC, ren_rk]) | ((with_reducible refine And.intro ?_ ?_); omega) | ((fail_if_success with_reducible refine Wz.h ?_); simp only [D.int, D.bool]))
          refine callW_emb c2 [3] (by kernel_rfl) rfl rfl ?_
          rintro _ _ ⟨rfl, rfl⟩
          simp (disch := omega) only [↓LD, LU, LS, LT, loadA_rf, seval, ren, List.getElem?_nil, List.append_nil, dkR, dkB, dkP, dkA, dkS, dkC, ren_rk]
          repeat' (first | (with_reducible first | refine Wa.h ?_ | refine Ws.h ?_ | refine Wb.h fun K hK => ?_ | (refine hK _ ?_; clear hK K)) | ((with_reducible refine kQ ?_ ?_); kernel_rfl) | ((with_reducible refine k1 ?_ ?_); rfl) | ((with_reducible refine k0 ?_ ?_); rfl) | ((with_reducible apply kB) <;> first | rfl | intro h) | ((with_reducible refine kM ?_ ?_); rfl) | (with_reducible refine Wt.h (fun h => ?_) (fun h => ?_)) <;> try (exfalso; omega) | (with_reducible refine Wu.h (fun h => ?_) (fun h => ?_)) <;> try simp only [h] | ((fail_if_success with_reducible refine Wz.h ?_); simp (disch := omega) only [↓LD, LU, LS, LT, loadA_rf, seval, ren, List.getElem?_nil, List.append_nil, dkR, dkB, dkP, dkA, dkS, dkC, ren_rk]) | ((with_reducible refine And.intro ?_ ?_); omega) | ((fail_if_success with_reducible refine Wz.h ?_); simp only [D.int, D.bool]))
          exact OutN.mk [0, 3, 4, 5, 8] ⟨e2, e2, 0, [], nowL w ps, [], fuseN fuse dead, false, works + 1⟩ (by kernel_rfl) hsy
      · have hcs := hI.crash a.n a.cut
        have hok := (hrl.crash a.n a.cut).2
        rw [hpl] at hok
        have hwb : ∀ v ∈ ws, v.b.length ≤ 140737488355328 := fun v hv => by
          rw [hrl.wsE] at hv
          obtain ⟨o, ho, rfl⟩ := List.mem_map.1 hv
          have := totP_mem ho
          have := hrl.tot
          show o.b.length ≤ _
          omega
        have c1 := c_disk_Crash e1 e2 0 ws fuse dead works a.n a.cut (i * 1048576) hnl (by omega) hwb (fun j hj => ⟨hok j hj, by
          have hv : (gt ws j).b.length ≤ i * 1048576 := by
            rw [hrl.wsE, gt_map (by omega)]
            have := totP_mem (gt_memR (l := ps) (k := j) (by omega))
            have := hrl.tot
            show (gt ps j).b.length ≤ _
            omega
          cases hg : fGet (crF e1 ws (restN a.n ((0 + 1 : Nat) : Int)) a.cut j) (gt ws j).k with
          | none => simp; omega
          | some y => have := ((hok j hj).get hg).2; simp; omega⟩)
        have c2 := c_rd_Crash w ps fuse dead works a.n a.cut hrd
        refine callW_emb c1 [0, 1, 2] (by kernel_rfl) rfl rfl ?_
        rintro _ _ ⟨rfl, rfl⟩
        simp (disch := omega) only [↓LD, LU, LS, LT, loadA_rf, seval, ren, List.getElem?_nil, List.append_nil, dkR, dkB, dkP, dkA, dkS, dkC, ren_rk]
        repeat' (first | (with_reducible first | refine Wa.h ?_ | refine Ws.h ?_ | refine Wb.h fun K hK => ?_ | (refine hK _ ?_; clear hK K)) | ((with_reducible refine kQ ?_ ?_); kernel_rfl) | ((with_reducible refine k1 ?_ ?_); rfl) | ((with_reducible refine k0 ?_ ?_); rfl) | ((with_reducible apply kB) <;> first | rfl | intro h) | ((with_reducible refine kM ?_ ?_); rfl) | (with_reducible refine Wt.h (fun h => ?_) (fun h => ?_)) <;> try (exfalso; omega) | (with_reducible refine Wu.h (fun h => ?_) (fun h => ?_)) <;> try simp only [h] | ((fail_if_success with_reducible refine Wz.h ?_); simp (disch := omega) only [↓LD, LU, LS, LT, loadA_rf, seval, ren, List.getElem?_nil, List.append_nil, dkR, dkB, dkP, dkA, dkS, dkC, ren_rk]) | ((with_reducible refine And.intro ?_ ?_); omega) | ((fail_if_success with_reducible refine Wz.h ?_); simp only [D.int, D.bool]))
        refine callW_emb c2 [3] (by kernel_rfl) rfl rfl ?_
        rintro _ _ ⟨rfl, rfl⟩
        simp (disch := omega) only [↓LD, LU, LS, LT, loadA_rf, seval, ren, List.getElem?_nil, List.append_nil, dkR, dkB, dkP, dkA, dkS, dkC, ren_rk]
        repeat' (first | (with_reducible first | refine Wa.h ?_ | refine Ws.h ?_ | refine Wb.h fun K hK => ?_ | (refine hK _ ?_; clear hK K)) | ((with_reducible refine kQ ?_ ?_); kernel_rfl) | ((with_reducible refine k1 ?_ ?_); rfl) | ((with_reducible refine k0 ?_ ?_); rfl) | ((with_reducible apply kB) <;> first | rfl | intro h) | ((with_reducible refine kM ?_ ?_); rfl) | (with_reducible refine Wt.h (fun h => ?_) (fun h => ?_)) <;> try (exfalso; omega) | (with_reducible refine Wu.h (fun h => ?_) (fun h => ?_)) <;> try simp only [h] | ((fail_if_success with_reducible refine Wz.h ?_); simp (disch := omega) only [↓LD, LU, LS, LT, loadA_rf, seval, ren, List.getElem?_nil, List.append_nil, dkR, dkB, dkP, dkA, dkS, dkC, ren_rk]) | ((with_reducible refine And.intro ?_ ?_); omega) | ((fail_if_success with_reducible refine Wz.h ?_); simp only [D.int, D.bool]))
        exact OutN.mk [0, 3, 4, 5, 8] ⟨crF e1 ws (restN a.n ((0 + 1 : Nat) : Int)) a.cut 0, crF e1 ws (restN a.n ((0 + 1 : Nat) : Int)) a.cut 0, 0, [], crL w ps a.n a.cut, [], -1, false, works⟩ (by kernel_rfl) hcs
      · refine callW_emb (c_hand_Pick a.n 9 (by omega) (by omega)) [] (by kernel_rfl) rfl rfl ?_
        rintro _ _ ⟨rfl, rfl⟩
        have hpn := pick_in (x := a.n) (n := 9) (by omega)
        repeat' (first | (with_reducible first | refine Wa.h ?_ | refine Ws.h ?_ | refine Wb.h fun K hK => ?_ | (refine hK _ ?_; clear hK K)) | ((with_reducible refine kQ ?_ ?_); kernel_rfl) | ((with_reducible refine k1 ?_ ?_); rfl) | ((with_reducible refine k0 ?_ ?_); rfl) | ((with_reducible apply kB) <;> first | rfl | intro h) | ((with_reducible refine kM ?_ ?_); rfl) | (with_reducible refine Wt.h (fun h => ?_) (fun h => ?_)) <;> try (exfalso; omega) | (with_reducible refine Wu.h (fun h => ?_) (fun h => ?_)) <;> try simp only [h] | ((fail_if_success with_reducible refine Wz.h ?_); simp (disch := omega) only [↓LD, LU, LS, LT, loadA_rf, seval, List.append_nil]) | ((with_reducible refine And.intro ?_ ?_); omega) | ((fail_if_success with_reducible refine Wz.h ?_); simp only [D.int, D.bool]))
        have c1 := c_disk_FuseG e1 e2 0 ws fuse dead works (pick a.n 9 - 2)
        have c2 := c_rd_SetFuse w ps fuse dead works (pick a.n 9 - 2)
        rw [Int.max_comm] at c2
        have hsf := hI.setF (x := pick a.n 9 - 2) (by omega)
        refine callW_emb c1 [0, 1, 2] (by kernel_rfl) rfl rfl ?_
        rintro _ _ ⟨rfl, rfl⟩
        simp (disch := omega) only [↓LD, LU, LS, LT, loadA_rf, seval, ren, List.getElem?_nil, List.append_nil, dkR, dkB, dkP, dkA, dkS, dkC, ren_rk]
        repeat' (first | (with_reducible first | refine Wa.h ?_ | refine Ws.h ?_ | refine Wb.h fun K hK => ?_ | (refine hK _ ?_; clear hK K)) | ((with_reducible refine kQ ?_ ?_); kernel_rfl) | ((with_reducible refine k1 ?_ ?_); rfl) | ((with_reducible refine k0 ?_ ?_); rfl) | ((with_reducible apply kB) <;> first | rfl | intro h) | ((with_reducible refine kM ?_ ?_); rfl) | (with_reducible refine Wt.h (fun h => ?_) (fun h => ?_)) <;> try (exfalso; omega) | (with_reducible refine Wu.h (fun h => ?_) (fun h => ?_)) <;> try simp only [h] | ((fail_if_success with_reducible refine Wz.h ?_); simp (disch := omega) only [↓LD, LU, LS, LT, loadA_rf, seval, ren, List.getElem?_nil, List.append_nil, dkR, dkB, dkP, dkA, dkS, dkC, ren_rk]) | ((with_reducible refine And.intro ?_ ?_); omega) | ((fail_if_success with_reducible refine Wz.h ?_); simp only [D.int, D.bool]))
        refine callW_emb c2 [3] (by kernel_rfl) rfl rfl ?_
        rintro _ _ ⟨rfl, rfl⟩
        simp (disch := omega) only [↓LD, LU, LS, LT, loadA_rf, seval, ren, List.getElem?_nil, List.append_nil, dkR, dkB, dkP, dkA, dkS, dkC, ren_rk]
        repeat' (first | (with_reducible first | refine Wa.h ?_ | refine Ws.h ?_ | refine Wb.h fun K hK => ?_ | (refine hK _ ?_; clear hK K)) | ((with_reducible refine kQ ?_ ?_); kernel_rfl) | ((with_reducible refine k1 ?_ ?_); rfl) | ((with_reducible refine k0 ?_ ?_); rfl) | ((with_reducible apply kB) <;> first | rfl | intro h) | ((with_reducible refine kM ?_ ?_); rfl) | (with_reducible refine Wt.h (fun h => ?_) (fun h => ?_)) <;> try (exfalso; omega) | (with_reducible refine Wu.h (fun h => ?_) (fun h => ?_)) <;> try simp only [h] | ((fail_if_success with_reducible refine Wz.h ?_); simp (disch := omega) only [↓LD, LU, LS, LT, loadA_rf, seval, ren, List.getElem?_nil, List.append_nil, dkR, dkB, dkP, dkA, dkS, dkC, ren_rk]) | ((with_reducible refine And.intro ?_ ?_); omega) | ((fail_if_success with_reducible refine Wz.h ?_); simp only [D.int, D.bool]))
        exact OutN.mk [0, 3, 4, 5, 8] ⟨e1, e2, 0, ws, w, ps, max (pick a.n 9 - 2) (-1), dead, works⟩ (by kernel_rfl) hsf
      · by_cases hk0 : k < 0
        · have c1 := c_disk_AppendN (dkR e1 e2 0 ws fuse dead works) k hk0 (fY a.b)
          have c2 := c_rd_AppendN [rkB w ps fuse dead works] k hk0 (fY a.b)
          refine callDr_emb c1 [0, 1, 2] (by kernel_rfl) rfl rfl ?_
          simp (disch := omega) only [↓LD, LU, LS, LT, loadA_rf, seval, ren, List.getElem?_nil, List.append_nil, dkR, dkB, dkP, dkA, dkS, dkC, ren_rk, rkB]
          repeat' (first | (with_reducible first | refine Wa.h ?_ | refine We.h fun K hK => ?_ | refine Wd.h fun K M hK hM => ?_ | (refine hK _ _ _ _ ?_; clear hK K; try clear hM M) | (refine hM ?_; clear hM M; try clear hK K) | refine Ws.h ?_ | refine Wb.h fun K hK => ?_ | (refine hK _ ?_; clear hK K)) | ((with_reducible refine kQ ?_ ?_); kernel_rfl) | ((with_reducible refine k1 ?_ ?_); rfl) | ((with_reducible refine k0 ?_ ?_); rfl) | ((with_reducible apply kB) <;> first | rfl | intro h) | ((with_reducible refine kM ?_ ?_); rfl) | (with_reducible refine Wt.h (fun h => ?_) (fun h => ?_)) <;> try (exfalso; omega) | (with_reducible refine Wu.h (fun h => ?_) (fun h => ?_)) <;> try simp only [h] | ((fail_if_success with_reducible refine Wz.h ?_); simp (disch := omega) only [↓LD, LU, LS, LT, loadA_rf, seval, ren, List.getElem?_nil, List.append_nil, dkR, dkB, dkP, dkA, dkS, dkC, ren_rk, rkB]) | ((with_reducible refine And.intro ?_ ?_); omega) | ((fail_if_success with_reducible refine Wz.h ?_); simp only [D.int, D.bool]))
          refine callDr_emb c2 [3] (by kernel_rfl) rfl rfl ?_
          simp (disch := omega) only [↓LD, LU, LS, LT, loadA_rf, seval, ren, List.getElem?_nil, List.append_nil, dkR, dkB, dkP, dkA, dkS, dkC, ren_rk, rkB]
          repeat' (first | (with_reducible first | refine Wa.h ?_ | refine We.h fun K hK => ?_ | refine Wd.h fun K M hK hM => ?_ | (refine hK _ _ _ _ ?_; clear hK K; try clear hM M) | (refine hM ?_; clear hM M; try clear hK K) | refine Ws.h ?_ | refine Wb.h fun K hK => ?_ | (refine hK _ ?_; clear hK K)) | ((with_reducible refine kQ ?_ ?_); kernel_rfl) | ((with_reducible refine k1 ?_ ?_); rfl) | ((with_reducible refine k0 ?_ ?_); rfl) | ((with_reducible apply kB) <;> first | rfl | intro h) | ((with_reducible refine kM ?_ ?_); rfl) | (with_reducible refine Wt.h (fun h => ?_) (fun h => ?_)) <;> try (exfalso; omega) | (with_reducible refine Wu.h (fun h => ?_) (fun h => ?_)) <;> try simp only [h] | ((fail_if_success with_reducible refine Wz.h ?_); simp (disch := omega) only [↓LD, LU, LS, LT, loadA_rf, seval, ren, List.getElem?_nil, List.append_nil, dkR, dkB, dkP, dkA, dkS, dkC, ren_rk, rkB]) | ((with_reducible refine And.intro ?_ ?_); omega) | ((fail_if_success with_reducible refine Wz.h ?_); simp only [D.int, D.bool]))
          exact OutN.mk [0, 3, 4, 5, 8] ⟨e1, e2, 0, ws, w, ps, fuse, dead, works⟩ (by kernel_rfl) hI.same
        · have k0 : 0 ≤ k := by omega
          have hroom : ((fGet e2 k).getD []).length + a.b.length ≤ 140737488355328 := by
            cases hg : fGet e2 k with
            | none => simp; omega
            | some y => have := (hrl.f2.ok.get hg).2; simp; omega
          have c1 := c_disk_AppendG e1 e2 0 ws fuse dead works (i * 1048576) hrl.f2.ok k k0 a.b hroom hnl (by omega) (by omega) (by omega)
          have c2 := c_rd_Append w ps fuse dead works k a.b k0 (by omega) (by omega) (by omega) (by omega)
          have hgo := hI.go
          cases hd : deadN' fuse dead with
          | true =>
            rw [hd] at c1 c2 hgo
            rw [show psN ps true ⟨k, false, a.b⟩ = ps from if_pos (.inl rfl)] at c2
            simp only [true_or, ↓reduceIte] at c1 c2
            refine callDr_emb c1 [0, 1, 2] (by kernel_rfl) rfl rfl ?_
            simp (disch := omega) only [↓LD, LU, LS, LT, loadA_rf, seval, ren, List.getElem?_nil, List.append_nil, dkR, dkB, dkP, dkA, dkS, dkC, ren_rk, rkB]
            repeat' (first | (with_reducible first | refine Wa.h ?_ | refine We.h fun K hK => ?_ | refine Wd.h fun K M hK hM => ?_ | (refine hK _ _ _ _ ?_; clear hK K; try clear hM M) | (refine hM ?_; clear hM M; try clear hK K) | refine Ws.h ?_ | refine Wb.h fun K hK => ?_ | (refine hK _ ?_; clear hK K)) | ((with_reducible refine kQ ?_ ?_); kernel_rfl) | ((with_reducible refine k1 ?_ ?_); rfl) | ((with_reducible refine k0 ?_ ?_); rfl) | ((with_reducible apply kB) <;> first | rfl | intro h) | ((with_reducible refine kM ?_ ?_); rfl) | (with_reducible refine Wt.h (fun h => ?_) (fun h => ?_)) <;> try (exfalso; omega) | (with_reducible refine Wu.h (fun h => ?_) (fun h => ?_)) <;> try simp only [h] | ((fail_if_success with_reducible refine Wz.h ?_); simp (disch := omega) only [↓LD, LU, LS, LT, loadA_rf, seval, ren, List.getElem?_nil, List.append_nil, dkR, dkB, dkP, dkA, dkS, dkC, ren_rk, rkB]) | ((with_reducible refine And.intro ?_ ?_); omega) | ((fail_if_success with_reducible refine Wz.h ?_); simp only [D.int, D.bool]))
            refine callDr_emb c2 [3] (by kernel_rfl) rfl rfl ?_
            simp (disch := omega) only [↓LD, LU, LS, LT, loadA_rf, seval, ren, List.getElem?_nil, List.append_nil, dkR, dkB, dkP, dkA, dkS, dkC, ren_rk, rkB]
            repeat' (first | (with_reducible first | refine Wa.h ?_ | refine We.h fun K hK => ?_ | refine Wd.h fun K M hK hM => ?_ | (refine hK _ _ _ _ ?_; clear hK K; try clear hM M) | (refine hM ?_; clear hM M; try clear hK K) | refine Ws.h ?_ | refine Wb.h fun K hK => ?_ | (refine hK _ ?_; clear hK K)) | ((with_reducible refine kQ ?_ ?_); kernel_rfl) | ((with_reducible refine k1 ?_ ?_); rfl) | ((with_reducible refine k0 ?_ ?_); rfl) | ((with_reducible apply kB) <;> first | rfl | intro h) | ((with_reducible refine kM ?_ ?_); rfl) | (with_reducible refine Wt.h (fun h => ?_) (fun h => ?_)) <;> try (exfalso; omega) | (with_reducible refine Wu.h (fun h => ?_) (fun h => ?_)) <;> try simp only [h] | ((fail_if_success with_reducible refine Wz.h ?_); simp (disch := omega) only [↓LD, LU, LS, LT, loadA_rf, seval, ren, List.getElem?_nil, List.append_nil, dkR, dkB, dkP, dkA, dkS, dkC, ren_rk, rkB]) | ((with_reducible refine And.intro ?_ ?_); omega) | ((fail_if_success with_reducible refine Wz.h ?_); simp only [D.int, D.bool]))
            exact OutN.mk [0, 3, 4, 5, 8] ⟨e1, e2, 0, ws, w, ps, fuseN fuse dead, true, worksN fuse dead works⟩ (by kernel_rfl) hgo
          | false =>
            rw [hd] at c1 c2 hgo
            by_cases hb0 : a.b = []
            · rw [show psN ps false ⟨k, false, a.b⟩ = ps from if_pos (.inr hb0)] at c2
              simp only [hb0, or_true, Bool.false_eq_true, ↓reduceIte] at c1 c2
              rw [← hb0] at c1 c2
              refine callDr_emb c1 [0, 1, 2] (by kernel_rfl) rfl rfl ?_
              simp (disch := omega) only [↓LD, LU, LS, LT, loadA_rf, seval, ren, List.getElem?_nil, List.append_nil, dkR, dkB, dkP, dkA, dkS, dkC, ren_rk, rkB]
              repeat' (first | (with_reducible first | refine Wa.h ?_ | refine We.h fun K hK => ?_ | refine Wd.h fun K M hK hM => ?_ | (refine hK _ _ _ _ ?_; clear hK K; try clear hM M) | (refine hM ?_; clear hM M; try clear hK K) | refine Ws.h ?_ | refine Wb.h fun K hK => ?_ | (refine hK _ ?_; clear hK K)) | ((with_reducible refine kQ ?_ ?_); kernel_rfl) | ((with_reducible refine k1 ?_ ?_); rfl) | ((with_reducible refine k0 ?_ ?_); rfl) | ((with_reducible apply kB) <;> first | rfl | intro h) | ((with_reducible refine kM ?_ ?_); rfl) | (with_reducible refine Wt.h (fun h => ?_) (fun h => ?_)) <;> try (exfalso; omega) | (with_reducible refine Wu.h (fun h => ?_) (fun h => ?_)) <;> try simp only [h] | ((fail_if_success with_reducible refine Wz.h ?_); simp (disch := omega) only [↓LD, LU, LS, LT, loadA_rf, seval, ren, List.getElem?_nil, List.append_nil, dkR, dkB, dkP, dkA, dkS, dkC, ren_rk, rkB]) | ((with_reducible refine And.intro ?_ ?_); omega) | ((fail_if_success with_reducible refine Wz.h ?_); simp only [D.int, D.bool]))
              refine callDr_emb c2 [3] (by kernel_rfl) rfl rfl ?_
              simp (disch := omega) only [↓LD, LU, LS, LT, loadA_rf, seval, ren, List.getElem?_nil, List.append_nil, dkR, dkB, dkP, dkA, dkS, dkC, ren_rk, rkB]
              repeat' (first | (with_reducible first | refine Wa.h ?_ | refine We.h fun K hK => ?_ | refine Wd.h fun K M hK hM => ?_ | (refine hK _ _ _ _ ?_; clear hK K; try clear hM M) | (refine hM ?_; clear hM M; try clear hK K) | refine Ws.h ?_ | refine Wb.h fun K hK => ?_ | (refine hK _ ?_; clear hK K)) | ((with_reducible refine kQ ?_ ?_); kernel_rfl) | ((with_reducible refine k1 ?_ ?_); rfl) | ((with_reducible refine k0 ?_ ?_); rfl) | ((with_reducible apply kB) <;> first | rfl | intro h) | ((with_reducible refine kM ?_ ?_); rfl) | (with_reducible refine Wt.h (fun h => ?_) (fun h => ?_)) <;> try (exfalso; omega) | (with_reducible refine Wu.h (fun h => ?_) (fun h => ?_)) <;> try simp only [h] | ((fail_if_success with_reducible refine Wz.h ?_); simp (disch := omega) only [↓LD, LU, LS, LT, loadA_rf, seval, ren, List.getElem?_nil, List.append_nil, dkR, dkB, dkP, dkA, dkS, dkC, ren_rk, rkB]) | ((with_reducible refine And.intro ?_ ?_); omega) | ((fail_if_success with_reducible refine Wz.h ?_); simp only [D.int, D.bool]))
              exact OutN.mk [0, 3, 4, 5, 8] ⟨e1, e2, 0, ws, w, ps, fuseN fuse dead, false, worksN fuse dead works⟩ (by kernel_rfl) hgo
            · rw [show psN ps false ⟨k, false, a.b⟩ = ps ++ [⟨k, false, a.b⟩] from if_neg (by simp [hb0])] at c2
              simp only [hb0, or_self, Bool.false_eq_true, ↓reduceIte] at c1 c2
              have hpt := hI.put (o := ⟨k, false, a.b⟩) ⟨k0, hk.2, by simp [hb0]⟩ hbl
              rw [hd] at hpt
              refine callDr_emb c1 [0, 1, 2] (by kernel_rfl) rfl rfl ?_
              simp (disch := omega) only [↓LD, LU, LS, LT, loadA_rf, seval, ren, List.getElem?_nil, List.append_nil, dkR, dkB, dkP, dkA, dkS, dkC, ren_rk, rkB]
              repeat' (first | (with_reducible first | refine Wa.h ?_ | refine We.h fun K hK => ?_ | refine Wd.h fun K M hK hM => ?_ | (refine hK _ _ _ _ ?_; clear hK K; try clear hM M) | (refine hM ?_; clear hM M; try clear hK K) | refine Ws.h ?_ | refine Wb.h fun K hK => ?_ | (refine hK _ ?_; clear hK K)) | ((with_reducible refine kQ ?_ ?_); kernel_rfl) | ((with_reducible refine k1 ?_ ?_); rfl) | ((with_reducible refine k0 ?_ ?_); rfl) | ((with_reducible apply kB) <;> first | rfl | intro h) | ((with_reducible refine kM ?_ ?_); rfl) | (with_reducible refine Wt.h (fun h => ?_) (fun h => ?_)) <;> try (exfalso; omega) | (with_reducible refine Wu.h (fun h => ?_) (fun h => ?_)) <;> try simp only [h] | ((fail_if_success with_reducible refine Wz.h ?_); simp (disch := omega) only [↓LD, LU, LS, LT, loadA_rf, seval, ren, List.getElem?_nil, List.append_nil, dkR, dkB, dkP, dkA, dkS, dkC, ren_rk, rkB]) | ((with_reducible refine And.intro ?_ ?_); omega) | ((fail_if_success with_reducible refine Wz.h ?_); simp only [D.int, D.bool]))
              refine callDr_emb c2 [3] (by kernel_rfl) rfl rfl ?_
              simp (disch := omega) only [↓LD, LU, LS, LT, loadA_rf, seval, ren, List.getElem?_nil, List.append_nil, dkR, dkB, dkP, dkA, dkS, dkC, ren_rk, rkB]
              repeat' (first | (with_reducible first | refine Wa.h ?_ | refine We.h fun K hK => ?_ | refine Wd.h fun K M hK hM => ?_ | (refine hK _ _ _ _ ?_; clear hK K; try clear hM M) | (refine hM ?_; clear hM M; try clear hK K) | refine Ws.h ?_ | refine Wb.h fun K hK => ?_ | (refine hK _ ?_; clear hK K)) | ((with_reducible refine kQ ?_ ?_); kernel_rfl) | ((with_reducible refine k1 ?_ ?_); rfl) | ((with_reducible refine k0 ?_ ?_); rfl) | ((with_reducible apply kB) <;> first | rfl | intro h) | ((with_reducible refine kM ?_ ?_); rfl) | (with_reducible refine Wt.h (fun h => ?_) (fun h => ?_)) <;> try (exfalso; omega) | (with_reducible refine Wu.h (fun h => ?_) (fun h => ?_)) <;> try simp only [h] | ((fail_if_success with_reducible refine Wz.h ?_); simp (disch := omega) only [↓LD, LU, LS, LT, loadA_rf, seval, ren, List.getElem?_nil, List.append_nil, dkR, dkB, dkP, dkA, dkS, dkC, ren_rk, rkB]) | ((with_reducible refine And.intro ?_ ?_); omega) | ((fail_if_success with_reducible refine Wz.h ?_); simp only [D.int, D.bool]))
              exact OutN.mk [0, 3, 4, 5, 8] ⟨e1, fDo e2 k a.b, 0 + 1, ws ++ [(⟨k, a.b⟩ : Wk)], w, ps ++ [⟨k, false, a.b⟩], fuseN fuse dead, false, worksN fuse dead works⟩ (by kernel_rfl) hpt
    · repeat' (first | (with_reducible first | refine Wa.h ?_ | refine Ws.h ?_ | refine Wb.h fun K hK => ?_ | (refine hK _ ?_; clear hK K)) | ((with_reducible refine kQ ?_ ?_); kernel_rfl) | ((with_reducible refine k1 ?_ ?_); rfl) | ((with_reducible refine k0 ?_ ?_); rfl) | ((with_reducible apply kB) <;> first | rfl | intro h) | ((with_reducible refine kM ?_ ?_); rfl) | (with_reducible refine Wt.h (fun h => ?_) (fun h => ?_)) <;> try (exfalso; omega) | (with_reducible refine Wu.h (fun h => ?_) (fun h => ?_)) <;> try simp only [h] | ((fail_if_success with_reducible refine Wz.h ?_); simp (disch := omega) only [↓LD, LU, LS, LT, loadA_rf, seval, dpH, dpP, dpQ, stB, dkB, dkP, List.cons_append, List.nil_append]) | ((with_reducible refine And.intro ?_ ?_); omega) | ((fail_if_success with_reducible refine Wz.h ?_); simp only [D.int, D.bool]))
      refine callW_emb (c_hand_Pick a.what 11 (by omega) (by omega)) [] (by kernel_rfl) rfl rfl ?_
      rintro _ _ ⟨rfl, rfl⟩
      generalize pick a.what 11 = q at hpw
      repeat' (first | (with_reducible first | refine Wa.h ?_ | refine Ws.h ?_ | refine Wb.h fun K hK => ?_ | (refine hK _ ?_; clear hK K)) | ((with_reducible refine kQ ?_ ?_); kernel_rfl) | ((with_reducible refine k1 ?_ ?_); rfl) | ((with_reducible refine k0 ?_ ?_); rfl) | ((with_reducible apply kB) <;> first | rfl | intro h) | ((with_reducible refine kM ?_ ?_); rfl) | (with_reducible refine Wt.h (fun h => ?_) (fun h => ?_)) <;> try (exfalso; omega) | (with_reducible refine Wu.h (fun h => ?_) (fun h => ?_)) <;> try simp only [h] | ((fail_if_success with_reducible refine Wz.h ?_); simp (disch := omega) only [↓LD, LU, LS, LT, loadA_rf, seval, List.append_nil]) | ((with_reducible refine And.intro ?_ ?_); omega) | ((fail_if_success with_reducible refine Wz.h ?_); simp only [D.int, D.bool]))
      · -- Remove
        by_cases hk0 : k < 0
        · refine callW_emb (c_disk_RemoveN (dkR e1 e2 (n + 1) ws fuse dead works) k hk0) [0, 1, 2, 3] (by kernel_rfl) rfl rfl ?_
          rintro _ _ ⟨rfl, rfl⟩
          simp (disch := omega) only [↓LD, LU, LS, LT, loadA_rf, seval, ren, List.getElem?_nil, List.append_nil, dkR, dkB, dkP]
          repeat' (first | (with_reducible first | refine Wa.h ?_ | refine Ws.h ?_ | refine Wb.h fun K hK => ?_ | (refine hK _ ?_; clear hK K)) | ((with_reducible refine kQ ?_ ?_); kernel_rfl) | ((with_reducible refine k1 ?_ ?_); rfl) | ((with_reducible refine k0 ?_ ?_); rfl) | ((with_reducible apply kB) <;> first | rfl | intro h) | ((with_reducible refine kM ?_ ?_); rfl) | (with_reducible refine Wt.h (fun h => ?_) (fun h => ?_)) <;> try (exfalso; omega) | (with_reducible refine Wu.h (fun h => ?_) (fun h => ?_)) <;> try simp only [h] | ((fail_if_success with_reducible refine Wz.h ?_); simp (disch := omega) only [↓LD, LU, LS, LT, loadA_rf, seval, ren, List.getElem?_nil, List.append_nil, dkR, dkB, dkP]) | ((with_reducible refine And.intro ?_ ?_); omega) | ((fail_if_success with_reducible refine Wz.h ?_); simp only [D.int, D.bool]))
          refine callW_emb (c_rd_RemoveN [rkB w ps fuse dead works] k hk0) [4] (by kernel_rfl) rfl rfl ?_
          rintro _ _ ⟨rfl, rfl⟩
          simp (disch := omega) only [↓LD, LU, LS, LT, loadA_rf, seval, ren, List.getElem?_nil, List.append_nil, ren_rk]
          repeat' (first | (with_reducible first | refine Wa.h ?_ | refine Ws.h ?_ | refine Wb.h fun K hK => ?_ | (refine hK _ ?_; clear hK K)) | ((with_reducible refine kQ ?_ ?_); kernel_rfl) | ((with_reducible refine k1 ?_ ?_); rfl) | ((with_reducible refine k0 ?_ ?_); rfl) | ((with_reducible apply kB) <;> first | rfl | intro h) | ((with_reducible refine kM ?_ ?_); rfl) | (with_reducible refine Wt.h (fun h => ?_) (fun h => ?_)) <;> try (exfalso; omega) | (with_reducible refine Wu.h (fun h => ?_) (fun h => ?_)) <;> try simp only [h] | ((fail_if_success with_reducible refine Wz.h ?_); simp (disch := omega) only [↓LD, LU, LS, LT, loadA_rf, seval, ren, List.getElem?_nil, List.append_nil, ren_rk]) | ((with_reducible refine And.intro ?_ ?_); omega) | ((fail_if_success with_reducible refine Wz.h ?_); simp only [D.int, D.bool]))
          exact OutN.mk [0, 3, 4, 5, 8] ⟨e1, e2, (n + 1), ws, w, ps, fuse, dead, works⟩ (by kernel_rfl) hI.same
        · have k0 : 0 ≤ k := by omega
          have c1 := c_disk_Remove e1 e2 (n + 1) ws fuse dead works (i * 1048576) hrl.f2.ok (by omega) k k0 hnl (by omega) (by omega) (by omega)
          have c2 := c_rd_Remove w ps fuse dead works k hrd k0 (by omega) (by omega)
          have hgo := hI.go
          cases hd : deadN' fuse dead with
          | true =>
            rw [hd] at c1 c2 hgo
            rw [show psR w ps true k = ps from if_pos (.inl rfl)] at c2
            simp only [true_or, ↓reduceIte] at c1 c2
            refine callW_emb c1 [0, 1, 2, 3] (by kernel_rfl) rfl rfl ?_
            rintro _ _ ⟨rfl, rfl⟩
            simp (disch := omega) only [↓LD, LU, LS, LT, loadA_rf, seval, ren, List.getElem?_nil, List.append_nil, dkR, dkB, dkP, dkA, dkS, dkC, ren_rk]
            repeat' (first | (with_reducible first | refine Wa.h ?_ | refine Ws.h ?_ | refine Wb.h fun K hK => ?_ | (refine hK _ ?_; clear hK K)) | ((with_reducible refine kQ ?_ ?_); kernel_rfl) | ((with_reducible refine k1 ?_ ?_); rfl) | ((with_reducible refine k0 ?_ ?_); rfl) | ((with_reducible apply kB) <;> first | rfl | intro h) | ((with_reducible refine kM ?_ ?_); rfl) | (with_reducible refine Wt.h (fun h => ?_) (fun h => ?_)) <;> try (exfalso; omega) | (with_reducible refine Wu.h (fun h => ?_) (fun h => ?_)) <;> try simp only [h] | ((fail_if_success with_reducible refine Wz.h ?_); simp (disch := omega) only [↓LD, LU, LS, LT, loadA_rf, seval, ren, List.getElem?_nil, List.append_nil, dkR, dkB, dkP, dkA, dkS, dkC, ren_rk]) | ((with_reducible refine And.intro ?_ ?_); omega) | ((fail_if_success with_reducible refine Wz.h ?_); simp only [D.int, D.bool]))
            refine callW_emb c2 [4] (by kernel_rfl) rfl rfl ?_
            rintro _ _ ⟨rfl, rfl⟩
            simp (disch := omega) only [↓LD, LU, LS, LT, loadA_rf, seval, ren, List.getElem?_nil, List.append_nil, dkR, dkB, dkP, dkA, dkS, dkC, ren_rk]
            repeat' (first | (with_reducible first | refine Wa.h ?_ | refine Ws.h ?_ | refine Wb.h fun K hK => ?_ | (refine hK _ ?_; clear hK K)) | ((with_reducible refine kQ ?_ ?_); kernel_rfl) | ((with_reducible refine k1 ?_ ?_); rfl) | ((with_reducible refine k0 ?_ ?_); rfl) | ((with_reducible apply kB) <;> first | rfl | intro h) | ((with_reducible refine kM ?_ ?_); rfl) | (with_reducible refine Wt.h (fun h => ?_) (fun h => ?_)) <;> try (exfalso; omega) | (with_reducible refine Wu.h (fun h => ?_) (fun h => ?_)) <;> try simp only [h] | ((fail_if_success with_reducible refine Wz.h ?_); simp (disch := omega) only [↓LD, LU, LS, LT, loadA_rf, seval, ren, List.getElem?_nil, List.append_nil, dkR, dkB, dkP, dkA, dkS, dkC, ren_rk]) | ((with_reducible refine And.intro ?_ ?_); omega) | ((fail_if_success with_reducible refine Wz.h ?_); simp only [D.int, D.bool]))
            exact OutN.mk [0, 3, 4, 5, 8] ⟨e1, e2, (n + 1), ws, w, ps, fuseN fuse dead, true, worksN fuse dead works⟩ (by kernel_rfl) hgo
          | false =>
            rw [hd] at c1 c2 hgo
            cases hg : fGet e2 k with
            | none =>
              rw [hg] at c1
              rw [show psR w ps false k = ps from if_pos (.inr (hrl.gone.2 hg))] at c2
              simp only [or_true, Bool.false_eq_true, ↓reduceIte] at c1 c2
              refine callW_emb c1 [0, 1, 2, 3] (by kernel_rfl) rfl rfl ?_
              rintro _ _ ⟨rfl, rfl⟩
              simp (disch := omega) only [↓LD, LU, LS, LT, loadA_rf, seval, ren, List.getElem?_nil, List.append_nil, dkR, dkB, dkP, dkA, dkS, dkC, ren_rk]
              repeat' (first | (with_reducible first | refine Wa.h ?_ | refine Ws.h ?_ | refine Wb.h fun K hK => ?_ | (refine hK _ ?_; clear hK K)) | ((with_reducible refine kQ ?_ ?_); kernel_rfl) | ((with_reducible refine k1 ?_ ?_); rfl) | ((with_reducible refine k0 ?_ ?_); rfl) | ((with_reducible apply kB) <;> first | rfl | intro h) | ((with_reducible refine kM ?_ ?_); rfl) | (with_reducible refine Wt.h (fun h => ?_) (fun h => ?_)) <;> try (exfalso; omega) | (with_reducible refine Wu.h (fun h => ?_) (fun h => ?_)) <;> try simp only [h] | ((fail_if_success with_reducible refine Wz.h ?_); simp (disch := omega) only [↓LD, LU, LS, LT, loadA_rf, seval, ren, List.getElem?_nil, List.append_nil, dkR, dkB, dkP, dkA, dkS, dkC, ren_rk]) | ((with_reducible refine And.intro ?_ ?_); omega) | ((fail_if_success with_reducible refine Wz.h ?_); simp only [D.int, D.bool]))
              refine callW_emb c2 [4] (by kernel_rfl) rfl rfl ?_
              rintro _ _ ⟨rfl, rfl⟩
              simp (disch := omega) only [↓LD, LU, LS, LT, loadA_rf, seval, ren, List.getElem?_nil, List.append_nil, dkR, dkB, dkP, dkA, dkS, dkC, ren_rk]
              repeat' (first | (with_reducible first | refine Wa.h ?_ | refine Ws.h ?_ | refine Wb.h fun K hK => ?_ | (refine hK _ ?_; clear hK K)) | ((with_reducible refine kQ ?_ ?_); kernel_rfl) | ((with_reducible refine k1 ?_ ?_); rfl) | ((with_reducible refine k0 ?_ ?_); rfl) | ((with_reducible apply kB) <;> first | rfl | intro h) | ((with_reducible refine kM ?_ ?_); rfl) | (with_reducible refine Wt.h (fun h => ?_) (fun h => ?_)) <;> try (exfalso; omega) | (with_reducible refine Wu.h (fun h => ?_) (fun h => ?_)) <;> try simp only [h] | ((fail_if_success with_reducible refine Wz.h ?_); simp (disch := omega) only [↓LD, LU, LS, LT, loadA_rf, seval, ren, List.getElem?_nil, List.append_nil, dkR, dkB, dkP, dkA, dkS, dkC, ren_rk]) | ((with_reducible refine And.intro ?_ ?_); omega) | ((fail_if_success with_reducible refine Wz.h ?_); simp only [D.int, D.bool]))
              exact OutN.mk [0, 3, 4, 5, 8] ⟨e1, e2, (n + 1), ws, w, ps, fuseN fuse dead, false, worksN fuse dead works⟩ (by kernel_rfl) hgo
            | some y =>
              rw [hg] at c1
              rw [show psR w ps false k = ps ++ [⟨k, true, []⟩] from if_neg (by rw [hrl.gone, hg]; simp)] at c2
              simp only [reduceCtorEq, or_self, Bool.false_eq_true, ↓reduceIte] at c1 c2
              have hpt := hI.put (o := ⟨k, true, []⟩) ⟨k0, hk.2, by simp⟩ (by simp)
              rw [hd] at hpt
              refine callW_emb c1 [0, 1, 2, 3] (by kernel_rfl) rfl rfl ?_
              rintro _ _ ⟨rfl, rfl⟩
              simp (disch := omega) only [↓LD, LU, LS, LT, loadA_rf, seval, ren, List.getElem?_nil, List.append_nil, dkR, dkB, dkP, dkA, dkS, dkC, ren_rk]
              repeat' (first | (with_reducible first | refine Wa.h ?_ | refine Ws.h ?_ | refine Wb.h fun K hK => ?_ | (refine hK _ ?_; clear hK K)) | ((with_reducible refine kQ ?_ ?_); kernel_rfl) | ((with_reducible refine k1 ?_ ?_); rfl) | ((with_reducible refine k0 ?_ ?_); rfl) | ((with_reducible apply kB) <;> first | rfl | intro h) | ((with_reducible refine kM ?_ ?_); rfl) | (with_reducible refine Wt.h (fun h => ?_) (fun h => ?_)) <;> try (exfalso; omega) | (with_reducible refine Wu.h (fun h => ?_) (fun h => ?_)) <;> try simp only [h] | ((fail_if_success with_reducible refine Wz.h ?_); simp (disch := omega) only [↓LD, LU, LS, LT, loadA_rf, seval, ren, List.getElem?_nil, List.append_nil, dkR, dkB, dkP, dkA, dkS, dkC, ren_rk]) | ((with_reducible refine And.intro ?_ ?_); omega) | ((fail_if_success with_reducible refine Wz.h ?_); simp only [D.int, D.bool]))
              refine callW_emb c2 [4] (by kernel_rfl) rfl rfl ?_
              rintro _ _ ⟨rfl, rfl⟩
              simp (disch := omega) only [↓LD, LU, LS, LT, loadA_rf, seval, ren, List.getElem?_nil, List.append_nil, dkR, dkB, dkP, dkA, dkS, dkC, ren_rk]
              repeat' (first | (with_reducible first | refine Wa.h ?_ | refine Ws.h ?_ | refine Wb.h fun K hK => ?_ | (refine hK _ ?_; clear hK K)) | ((with_reducible refine kQ ?_ ?_); kernel_rfl) | ((with_reducible refine k1 ?_ ?_); rfl) | ((with_reducible refine k0 ?_ ?_); rfl) | ((with_reducible apply kB) <;> first | rfl | intro h) | ((with_reducible refine kM ?_ ?_); rfl) | (with_reducible refine Wt.h (fun h => ?_) (fun h => ?_)) <;> try (exfalso; omega) | (with_reducible refine Wu.h (fun h => ?_) (fun h => ?_)) <;> try simp only [h] | ((fail_if_success with_reducible refine Wz.h ?_); simp (disch := omega) only [↓LD, LU, LS, LT, loadA_rf, seval, ren, List.getElem?_nil, List.append_nil, dkR, dkB, dkP, dkA, dkS, dkC, ren_rk]) | ((with_reducible refine And.intro ?_ ?_); omega) | ((fail_if_success with_reducible refine Wz.h ?_); simp only [D.int, D.bool]))
              exact OutN.mk [0, 3, 4, 5, 8] ⟨e1, fDo e2 k [], (n + 1) + 1, ws ++ [(⟨k, []⟩ : Wk)], w, ps ++ [⟨k, true, []⟩], fuseN fuse dead, false, worksN fuse dead works⟩ (by kernel_rfl) hpt
      · have c1 := c_disk_Sync e1 e2 (n + 1) ws fuse dead works (by omega) (by omega)
        have c2 := c_rd_Sync w ps fuse dead works hrd (by omega) (by omega)
        have hgo := hI.go
        have hsy := hI.sync
        cases hd : deadN' fuse dead with
        | true =>
          have hwk : worksN fuse dead works = works := by rw [worksN, hd]; rfl
          rw [hd, hwk] at c1 hgo
          rw [hd] at c2
          simp only [↓reduceIte] at c1 c2
          refine callW_emb c1 [0, 1, 2, 3] (by kernel_rfl) rfl rfl ?_
          rintro _ _ ⟨rfl, rfl⟩
          simp (disch := omega) only [↓LD, LU, LS, LT, loadA_rf, seval, ren, List.getElem?_nil, List.append_nil, dkR, dkB, dkP, dkA, dkS, dkC, ren_rk]
          repeat' (first | (with_reducible first | refine Wa.h ?_ | refine Ws.h ?_ | refine Wb.h fun K hK => ?_ | (refine hK _ ?_; clear hK K)) | ((with_reducible refine kQ ?_ ?_); kernel_rfl) | ((with_reducible refine k1 ?_ ?_); rfl) | ((with_reducible refine k0 ?_ ?_); rfl) | ((with_reducible apply kB) <;> first | rfl | intro h) | ((with_reducible refine kM ?_ ?_); rfl) | (with_reducible refine Wt.h (fun h => ?_) (fun h => ?_)) <;> try (exfalso; omega) | (with_reducible refine Wu.h (fun h => ?_) (fun h => ?_)) <;> try simp only [h] | ((fail_if_success with_reducible refine Wz.h ?_); simp (disch := omega) only [↓LD, LU, LS, LT, loadA_rf, seval, ren, List.getElem?_nil, List.append_nil, dkR, dkB, dkP, dkA, dkS, dkC, ren_rk]) | ((with_reducible refine And.intro ?_ ?_); omega) | ((fail_if_success with_reducible refine Wz.h ?_); simp only [D.int, D.bool]))
          refine callW_emb c2 [4] (by kernel_rfl) rfl rfl ?_
          rintro _ _ ⟨rfl, rfl⟩
          simp (disch := omega) only [↓LD, LU, LS, LT, loadA_rf, seval, ren, List.getElem?_nil, List.append_nil, dkR, dkB, dkP, dkA, dkS, dkC, ren_rk]
          repeat' (first | (with_reducible first | refine Wa.h ?_ | refine Ws.h ?_ | refine Wb.h fun K hK => ?_ | (refine hK _ ?_; clear hK K)) | ((with_reducible refine kQ ?_ ?_); kernel_rfl) | ((with_reducible refine k1 ?_ ?_); rfl) | ((with_reducible refine k0 ?_ ?_); rfl) | ((with_reducible apply kB) <;> first | rfl | intro h) | ((with_reducible refine kM ?_ ?_); rfl) | (with_reducible refine Wt.h (fun h => ?_) (fun h => ?_)) <;> try (exfalso; omega) | (with_reducible refine Wu.h (fun h => ?_) (fun h => ?_)) <;> try simp only [h] | ((fail_if_success with_reducible refine Wz.h ?_); simp (disch := omega) only [↓LD, LU, LS, LT, loadA_rf, seval, ren, List.getElem?_nil, List.append_nil, dkR, dkB, dkP, dkA, dkS, dkC, ren_rk]) | ((with_reducible refine And.intro ?_ ?_); omega) | ((fail_if_success with_reducible refine Wz.h ?_); simp only [D.int, D.bool]))
          exact OutN.mk [0, 3, 4, 5, 8] ⟨e1, e2, (n + 1), ws, w, ps, fuseN fuse dead, true, works⟩ (by kernel_rfl) hgo
        | false =>
          have hwk : worksN fuse dead works = works + 1 := by rw [worksN, hd]; rfl
          rw [hd, hwk] at c1 hsy
          rw [hd] at c2
          simp only [Bool.false_eq_true, ↓reduceIte] at c1 c2
          refine callW_emb c1 [0, 1, 2, 3] (by kernel_rfl) rfl rfl ?_
          rintro _ _ ⟨rfl, rfl⟩
          simp (disch := omega) only [↓LD, LU, LS, LT, loadA_rf, seval, ren, List.getElem?_nil, List.append_nil, dkR, dkB, dkP, dkA, dkS, dkC, ren_rk]
          repeat' (first | (with_reducible first | refine Wa.h ?_ | refine Ws.h ?_ | refine Wb.h fun K hK => ?_ | (refine hK _ ?_; clear hK K)) | ((with_reducible refine kQ ?_ ?_); kernel_rfl) | ((with_reducible refine k1 ?_ ?_); rfl) | ((with_reducible refine k0 ?_ ?_); rfl) | ((with_reducible apply kB) <;> first | rfl | intro h) | ((with_reducible refine kM ?_ ?_); rfl) | (with_reducible refine Wt.h (fun h => ?_) (fun h => ?_)) <;> try (exfalso; omega) | (with_reducible refine Wu.h (fun h => ?_) (fun h => ?_)) <;> try simp only [h] | ((fail_if_success with_reducible refine Wz.h ?_); simp (disch := omega) only [↓LD, LU, LS, LT, loadA_rf, seval, ren, List.getElem?_nil, List.append_nil, dkR, dkB, dkP, dkA, dkS, dkC, ren_rk]) | ((with_reducible refine And.intro ?_ ?_); omega) | ((fail_if_success with_reducible refine Wz.h ?_); simp only [D.int, D.bool]))
          refine callW_emb c2 [4] (by kernel_rfl) rfl rfl ?_
          rintro _ _ ⟨rfl, rfl⟩
          simp (disch := omega) only [↓LD, LU, LS, LT, loadA_rf, seval, ren, List.getElem?_nil, List.append_nil, dkR, dkB, dkP, dkA, dkS, dkC, ren_rk]
          repeat' (first | (with_reducible first | refine Wa.h ?_ | refine Ws.h ?_ | refine Wb.h fun K hK => ?_ | (refine hK _ ?_; clear hK K)) | ((with_reducible refine kQ ?_ ?_); kernel_rfl) | ((with_reducible refine k1 ?_ ?_); rfl) | ((with_reducible refine k0 ?_ ?_); rfl) | ((with_reducible apply kB) <;> first | rfl | intro h) | ((with_reducible refine kM ?_ ?_); rfl) | (with_reducible refine Wt.h (fun h => ?_) (fun h => ?_)) <;> try (exfalso; omega) | (with_reducible refine Wu.h (fun h => ?_) (fun h => ?_)) <;> try simp only [h] | ((fail_if_success with_reducible refine Wz.h ?_); simp (disch := omega) only [↓LD, LU, LS, LT, loadA_rf, seval, ren, List.getElem?_nil, List.append_nil, dkR, dkB, dkP, dkA, dkS, dkC, ren_rk]) | ((with_reducible refine And.intro ?_ ?_); omega) | ((fail_if_success with_reducible refine Wz.h ?_); simp only [D.int, D.bool]))
          exact OutN.mk [0, 3, 4, 5, 8] ⟨e2, e2, 0, [], nowL w ps, [], fuseN fuse dead, false, works + 1⟩ (by kernel_rfl) hsy
      · have c1 := c_disk_Sync e1 e2 (n + 1) ws fuse dead works (by omega) (by omega)
        have c2 := c_rd_Sync w ps fuse dead works hrd (by omega) (by omega)
        have hgo := hI.go
        have hsy := hI.sync
        cases hd : deadN' fuse dead with
        | true =>
          have hwk : worksN fuse dead works = works := by rw [worksN, hd]; rfl
          rw [hd, hwk] at c1 hgo
          rw [hd] at c2
          simp only [↓reduceIte] at c1 c2
          refine callW_emb c1 [0, 1, 2, 3] (by kernel_rfl) rfl rfl ?_
          rintro _ _ ⟨rfl, rfl⟩
          simp (disch := omega) only [↓LD, LU, LS, LT, loadA_rf, seval, ren, List.getElem?_nil, List.append_nil, dkR, dkB, dkP, dkA, dkS, dkC, ren_rk]
          repeat' (first | (with_reducible first | refine Wa.h ?_ | refine Ws.h ?_ | refine Wb.h fun K hK => ?_ | (refine hK _ ?_; clear hK K)) | ((with_reducible refine kQ ?_ ?_); kernel_rfl) | ((with_reducible refine k1 ?_ ?_); rfl) | ((with_reducible refine k0 ?_ ?_); rfl) | ((with_reducible apply kB) <;> first | rfl | intro h) | ((with_reducible refine kM ?_ ?_); rfl) | (with_reducible refine Wt.h (fun h => ?_) (fun h => ?_)) <;> try (exfalso; omega) | (with_reducible refine Wu.h (fun h => ?_) (fun h => ?_)) <;> try simp only [h] | ((fail_if_success with_reducible refine Wz.h ?_); simp (disch := omega) only [↓LD, LU, LS, LT, loadA_rf, seval, ren, List.getElem?_nil, List.append_nil, dkR, dkB, dkP, dkA, dkS, dkC, ren_rk]) | ((with_reducible refine And.intro ?_ ?_); omega) | ((fail_if_success with_reducible refine Wz.h ?_); simp only [D.int, D.bool]))
          refine callW_emb c2 [4] (by kernel_rfl) rfl rfl ?_
          rintro _ _ ⟨rfl, rfl⟩
          simp (disch := omega) only [↓LD, LU, LS, LT, loadA_rf, seval, ren, List.getElem?_nil, List.append_nil, dkR, dkB, dkP, dkA, dkS, dkC, ren_rk]
          repeat' (first | (with_reducible first | refine Wa.h ?_ | refine Ws.h ?_ | refine Wb.h fun K hK => ?_ | (refine hK _ ?_; clear hK K)) | ((with_reducible refine kQ ?_ ?_); kernel_rfl) | ((with_reducible refine k1 ?_ ?_); rfl) | ((with_reducible refine k0 ?_ ?_); rfl) | ((with_reducible apply kB) <;> first | rfl | intro h) | ((with_reducible refine kM ?_ ?_); rfl) | (with_reducible refine Wt.h (fun h => ?_) (fun h => ?_)) <;> try (exfalso; omega) | (with_reducible refine Wu.h (fun h => ?_) (fun h => ?_)) <;> try simp only [h] | ((fail_if_success with_reducible refine Wz.h ?_); simp (disch := omega) only [↓LD, LU, LS, LT, loadA_rf, seval, ren, List.getElem?_nil, List.append_nil, dkR, dkB, dkP, dkA, dkS, dkC, ren_rk]) | ((with_reducible refine And.intro ?_ ?_); omega) | ((fail_if_success with_reducible refine Wz.h ?_); simp only [D.int, D.bool]))
          exact OutN.mk [0, 3, 4, 5, 8] ⟨e1, e2, (n + 1), ws, w, ps, fuseN fuse dead, true, works⟩ (by kernel_rfl) hgo
        | false =>
          have hwk : worksN fuse dead works = works + 1 := by rw [worksN, hd]; rfl
          rw [hd, hwk] at c1 hsy
          rw [hd] at c2
          simp only [Bool.false_eq_true, ↓reduceIte] at c1 c2
          refine callW_emb c1 [0, 1, 2, 3] (by kernel_rfl) rfl rfl ?_
          rintro _ _ ⟨rfl, rfl⟩
          simp (disch := omega) only [↓LD, LU, LS, LT, loadA_rf, seval, ren, List.getElem?_nil, List.append_nil, dkR, dkB, dkP, dkA, dkS, dkC, ren_rk]
          repeat' (first | (with_reducible first | refine Wa.h ?_ | refine Ws.h ?_ | refine Wb.h fun K hK => ?_ | (refine hK _ ?_; clear hK K)) | ((with_reducible refine kQ ?_ ?_); kernel_rfl) | ((with_reducible refine k1 ?_ ?_); rfl) | ((with_reducible refine k0 ?_ ?_); rfl) | ((with_reducible apply kB) <;> first | rfl | intro h) | ((with_reducible refine kM ?_ ?_); rfl) | (with_reducible refine Wt.h (fun h => ?_) (fun h => ?_)) <;> try (exfalso; omega) | (with_reducible refine Wu.h (fun h => ?_) (fun h => ?_)) <;> try simp only [h] | ((fail_if_success with_reducible refine Wz.h ?_); simp (disch := omega) only [↓LD, LU, LS, LT, loadA_rf, seval, ren, List.getElem?_nil, List.append_nil, dkR, dkB, dkP, dkA, dkS, dkC, ren_rk]) | ((with_reducible refine And.intro ?_ ?_); omega) | ((fail_if_success with_reducible refine Wz.h ?_); simp only [D.int, D.bool]))
          refine callW_emb c2 [4] (by kernel_rfl) rfl rfl ?_
          rintro _ _ ⟨rfl, rfl⟩
          simp (disch := omega) only [↓LD, LU, LS, LT, loadA_rf, seval, ren, List.getElem?_nil, List.append_nil, dkR, dkB, dkP, dkA, dkS, dkC, ren_rk]
          repeat' (first | (with_reducible first | refine Wa.h ?_ | refine Ws.h ?_ | refine Wb.h fun K hK => ?_ | (refine hK _ ?_; clear hK K)) | ((with_reducible refine kQ ?_ ?_); kernel_rfl) | ((with_reducible refine k1 ?_ ?_); rfl) | ((with_reducible refine k0 ?_ ?_); rfl) | ((with_reducible apply kB) <;> first | rfl | intro h) | ((with_reducible refine kM ?_ ?_); rfl) | (with_reducible refine Wt.h (fun h => ?_) (fun h => ?_)) <;> try (exfalso; omega) | (with_reducible refine Wu.h (fun h => ?_) (fun h => ?_)) <;> try simp only [h] | ((fail_if_success with_reducible refine Wz.h ?_); simp (disch := omega) only [↓LD, LU, LS, LT, loadA_rf, seval, ren, List.getElem?_nil, List.append_nil, dkR, dkB, dkP, dkA, dkS, dkC, ren_rk]) | ((with_reducible refine And.intro ?_ ?_); omega) | ((fail_if_success with_reducible refine Wz.h ?_); simp only [D.int, D.bool]))
          exact OutN.mk [0, 3, 4, 5, 8] ⟨e2, e2, 0, [], nowL w ps, [], fuseN fuse dead, false, works + 1⟩ (by kernel_rfl) hsy
      · have hcs := hI.crash a.n a.cut
        have hok := (hrl.crash a.n a.cut).2
        rw [hpl] at hok
        have hwb : ∀ v ∈ ws, v.b.length ≤ 140737488355328 := fun v hv => by
          rw [hrl.wsE] at hv
          obtain ⟨o, ho, rfl⟩ := List.mem_map.1 hv
          have := totP_mem ho
          have := hrl.tot
          show o.b.length ≤ _
          omega
        have c1 := c_disk_Crash e1 e2 (n + 1) ws fuse dead works a.n a.cut (i * 1048576) hnl (by omega) hwb (fun j hj => ⟨hok j hj, by
          have hv : (gt ws j).b.length ≤ i * 1048576 := by
            rw [hrl.wsE, gt_map (by omega)]
            have := totP_mem (gt_memR (l := ps) (k := j) (by omega))
            have := hrl.tot
            show (gt ps j).b.length ≤ _
            omega
          cases hg : fGet (crF e1 ws (restN a.n (((n + 1) + 1 : Nat) : Int)) a.cut j) (gt ws j).k with
          | none => simp; omega
          | some y => have := ((hok j hj).get hg).2; simp; omega⟩)
        have c2 := c_rd_Crash w ps fuse dead works a.n a.cut hrd
        refine callW_emb c1 [0, 1, 2, 3] (by kernel_rfl) rfl rfl ?_
        rintro _ _ ⟨rfl, rfl⟩
        simp (disch := omega) only [↓LD, LU, LS, LT, loadA_rf, seval, ren, List.getElem?_nil, List.append_nil, dkR, dkB, dkP, dkA, dkS, dkC, ren_rk]
        repeat' (first | (with_reducible first | refine Wa.h ?_ | refine Ws.h ?_ | refine Wb.h fun K hK => ?_ | (refine hK _ ?_; clear hK K)) | ((with_reducible refine kQ ?_ ?_); kernel_rfl) | ((with_reducible refine k1 ?_ ?_); rfl) | ((with_reducible refine k0 ?_ ?_); rfl) | ((with_reducible apply kB) <;> first | rfl | intro h) | ((with_reducible refine kM ?_ ?_); rfl) | (with_reducible refine Wt.h (fun h => ?_) (fun h => ?_)) <;> try (exfalso; omega) | (with_reducible refine Wu.h (fun h => ?_) (fun h => ?_)) <;> try simp only [h] | ((fail_if_success with_reducible refine Wz.h ?_); simp (disch := omega) only [↓LD, LU, LS, LT, loadA_rf, seval, ren, List.getElem?_nil, List.append_nil, dkR, dkB, dkP, dkA, dkS, dkC, ren_rk]) | ((with_reducible refine And.intro ?_ ?_); omega) | ((fail_if_success with_reducible refine Wz.h ?_); simp only [D.int, D.bool]))
        refine callW_emb c2 [4] (by kernel_rfl) rfl rfl ?_
        rintro _ _ ⟨rfl, rfl⟩
        simp (disch := omega) only [↓LD, LU, LS, LT, loadA_rf, seval, ren, List.getElem?_nil, List.append_nil, dkR, dkB, dkP, dkA, dkS, dkC, ren_rk]
        repeat' (first | (with_reducible first | refine Wa.h ?_ | refine Ws.h ?_ | refine Wb.h fun K hK => ?_ | (refine hK _ ?_; clear hK K)) | ((with_reducible refine kQ ?_ ?_); kernel_rfl) | ((with_reducible refine k1 ?_ ?_); rfl) | ((with_reducible refine k0 ?_ ?_); rfl) | ((with_reducible apply kB) <;> first | rfl | intro h) | ((with_reducible refine kM ?_ ?_); rfl) | (with_reducible refine Wt.h (fun h => ?_) (fun h => ?_)) <;> try (exfalso; omega) | (with_reducible refine Wu.h (fun h => ?_) (fun h => ?_)) <;> try simp only [h] | ((fail_if_success with_reducible refine Wz.h ?_); simp (disch := omega) only [↓LD, LU, LS, LT, loadA_rf, seval, ren, List.getElem?_nil, List.append_nil, dkR, dkB, dkP, dkA, dkS, dkC, ren_rk]) | ((with_reducible refine And.intro ?_ ?_); omega) | ((fail_if_success with_reducible refine Wz.h ?_); simp only [D.int, D.bool]))
        exact OutN.mk [0, 3, 4, 5, 8] ⟨crF e1 ws (restN a.n (((n + 1) + 1 : Nat) : Int)) a.cut (n + 1), crF e1 ws (restN a.n (((n + 1) + 1 : Nat) : Int)) a.cut (n + 1), 0, [], crL w ps a.n a.cut, [], -1, false, works⟩ (by kernel_rfl) hcs
      · refine callW_emb (c_hand_Pick a.n 9 (by omega) (by omega)) [] (by kernel_rfl) rfl rfl ?_
        rintro _ _ ⟨rfl, rfl⟩
        have hpn := pick_in (x := a.n) (n := 9) (by omega)
        repeat' (first | (with_reducible first | refine Wa.h ?_ | refine Ws.h ?_ | refine Wb.h fun K hK => ?_ | (refine hK _ ?_; clear hK K)) | ((with_reducible refine kQ ?_ ?_); kernel_rfl) | ((with_reducible refine k1 ?_ ?_); rfl) | ((with_reducible refine k0 ?_ ?_); rfl) | ((with_reducible apply kB) <;> first | rfl | intro h) | ((with_reducible refine kM ?_ ?_); rfl) | (with_reducible refine Wt.h (fun h => ?_) (fun h => ?_)) <;> try (exfalso; omega) | (with_reducible refine Wu.h (fun h => ?_) (fun h => ?_)) <;> try simp only [h] | ((fail_if_success with_reducible refine Wz.h ?_); simp (disch := omega) only [↓LD, LU, LS, LT, loadA_rf, seval, List.append_nil]) | ((with_reducible refine And.intro ?_ ?_); omega) | ((fail_if_success with_reducible refine Wz.h ?_); simp only [D.int, D.bool]))
        have c1 := c_disk_FuseG e1 e2 (n + 1) ws fuse dead works (pick a.n 9 - 2)
        have c2 := c_rd_SetFuse w ps fuse dead works (pick a.n 9 - 2)
        rw [Int.max_comm] at c2
        have hsf := hI.setF (x := pick a.n 9 - 2) (by omega)
        refine callW_emb c1 [0, 1, 2, 3] (by kernel_rfl) rfl rfl ?_
        rintro _ _ ⟨rfl, rfl⟩
        simp (disch := omega) only [↓LD, LU, LS, LT, loadA_rf, seval, ren, List.getElem?_nil, List.append_nil, dkR, dkB, dkP, dkA, dkS, dkC, ren_rk]
        repeat' (first | (with_reducible first | refine Wa.h ?_ | refine Ws.h ?_ | refine Wb.h fun K hK => ?_ | (refine hK _ ?_; clear hK K)) | ((with_reducible refine kQ ?_ ?_); kernel_rfl) | ((with_reducible refine k1 ?_ ?_); rfl) | ((with_reducible refine k0 ?_ ?_); rfl) | ((with_reducible apply kB) <;> first | rfl | intro h) | ((with_reducible refine kM ?_ ?_); rfl) | (with_reducible refine Wt.h (fun h => ?_) (fun h => ?_)) <;> try (exfalso; omega) | (with_reducible refine Wu.h (fun h => ?_) (fun h => ?_)) <;> try simp only [h] | ((fail_if_success with_reducible refine Wz.h ?_); simp (disch := omega) only [↓LD, LU, LS, LT, loadA_rf, seval, ren, List.getElem?_nil, List.append_nil, dkR, dkB, dkP, dkA, dkS, dkC, ren_rk]) | ((with_reducible refine And.intro ?_ ?_); omega) | ((fail_if_success with_reducible refine Wz.h ?_); simp only [D.int, D.bool]))
        refine callW_emb c2 [4] (by kernel_rfl) rfl rfl ?_
        rintro _ _ ⟨rfl, rfl⟩
        simp (disch := omega) only [↓LD, LU, LS, LT, loadA_rf, seval, ren, List.getElem?_nil, List.append_nil, dkR, dkB, dkP, dkA, dkS, dkC, ren_rk]
        repeat' (first | (with_reducible first | refine Wa.h ?_ | refine Ws.h ?_ | refine Wb.h fun K hK => ?_ | (refine hK _ ?_; clear hK K)) | ((with_reducible refine kQ ?_ ?_); kernel_rfl) | ((with_reducible refine k1 ?_ ?_); rfl) | ((with_reducible refine k0 ?_ ?_); rfl) | ((with_reducible apply kB) <;> first | rfl | intro h) | ((with_reducible refine kM ?_ ?_); rfl) | (with_reducible refine Wt.h (fun h => ?_) (fun h => ?_)) <;> try (exfalso; omega) | (with_reducible refine Wu.h (fun h => ?_) (fun h => ?_)) <;> try simp only [h] | ((fail_if_success with_reducible refine Wz.h ?_); simp (disch := omega) only [↓LD, LU, LS, LT, loadA_rf, seval, ren, List.getElem?_nil, List.append_nil, dkR, dkB, dkP, dkA, dkS, dkC, ren_rk]) | ((with_reducible refine And.intro ?_ ?_); omega) | ((fail_if_success with_reducible refine Wz.h ?_); simp only [D.int, D.bool]))
        exact OutN.mk [0, 3, 4, 5, 8] ⟨e1, e2, (n + 1), ws, w, ps, max (pick a.n 9 - 2) (-1), dead, works⟩ (by kernel_rfl) hsf
      · by_cases hk0 : k < 0
        · have c1 := c_disk_AppendN (dkR e1 e2 (n + 1) ws fuse dead works) k hk0 (fY a.b)
          have c2 := c_rd_AppendN [rkB w ps fuse dead works] k hk0 (fY a.b)
          refine callDr_emb c1 [0, 1, 2, 3] (by kernel_rfl) rfl rfl ?_
          simp (disch := omega) only [↓LD, LU, LS, LT, loadA_rf, seval, ren, List.getElem?_nil, List.append_nil, dkR, dkB, dkP, dkA, dkS, dkC, ren_rk, rkB]
          repeat' (first | (with_reducible first | refine Wa.h ?_ | refine We.h fun K hK => ?_ | refine Wd.h fun K M hK hM => ?_ | (refine hK _ _ _ _ ?_; clear hK K; try clear hM M) | (refine hM ?_; clear hM M; try clear hK K) | refine Ws.h ?_ | refine Wb.h fun K hK => ?_ | (refine hK _ ?_; clear hK K)) | ((with_reducible refine kQ ?_ ?_); kernel_rfl) | ((with_reducible refine k1 ?_ ?_); rfl) | ((with_reducible refine k0 ?_ ?_); rfl) | ((with_reducible apply kB) <;> first | rfl | intro h) | ((with_reducible refine kM ?_ ?_); rfl) | (with_reducible refine Wt.h (fun h => ?_) (fun h => ?_)) <;> try (exfalso; omega) | (with_reducible refine Wu.h (fun h => ?_) (fun h => ?_)) <;> try simp only [h] | ((fail_if_success with_reducible refine Wz.h ?_); simp (disch := omega) only [↓LD, LU, LS, LT, loadA_rf, seval, ren, List.getElem?_nil, List.append_nil, dkR, dkB, dkP, dkA, dkS, dkC, ren_rk, rkB]) | ((with_reducible refine And.intro ?_ ?_); omega) | ((fail_if_success with_reducible refine Wz.h ?_); simp only [D.int, D.bool]))
          refine callDr_emb c2 [4] (by kernel_rfl) rfl rfl ?_
          simp (disch := omega) only [↓LD, LU, LS, LT, loadA_rf, seval, ren, List.getElem?_nil, List.append_nil, dkR, dkB, dkP, dkA, dkS, dkC, ren_rk, rkB]
          repeat' (first | (with_reducible first | refine Wa.h ?_ | refine We.h fun K hK => ?_ | refine Wd.h fun K M hK hM => ?_ | (refine hK _ _ _ _ ?_; clear hK K; try clear hM M) | (refine hM ?_; clear hM M; try clear hK K) | refine Ws.h ?_ | refine Wb.h fun K hK => ?_ | (refine hK _ ?_; clear hK K)) | ((with_reducible refine kQ ?_ ?_); kernel_rfl) | ((with_reducible refine k1 ?_ ?_); rfl) | ((with_reducible refine k0 ?_ ?_); rfl) | ((with_reducible apply kB) <;> first | rfl | intro h) | ((with_reducible refine kM ?_ ?_); rfl) | (with_reducible refine Wt.h (fun h => ?_) (fun h => ?_)) <;> try (exfalso; omega) | (with_reducible refine Wu.h (fun h => ?_) (fun h => ?_)) <;> try simp only [h] | ((fail_if_success with_reducible refine Wz.h ?_); simp (disch := omega) only [↓LD, LU, LS, LT, loadA_rf, seval, ren, List.getElem?_nil, List.append_nil, dkR, dkB, dkP, dkA, dkS, dkC, ren_rk, rkB]) | ((with_reducible refine And.intro ?_ ?_); omega) | ((fail_if_success with_reducible refine Wz.h ?_); simp only [D.int, D.bool]))
          exact OutN.mk [0, 3, 4, 5, 8] ⟨e1, e2, (n + 1), ws, w, ps, fuse, dead, works⟩ (by kernel_rfl) hI.same
        · have k0 : 0 ≤ k := by omega
          have hroom : ((fGet e2 k).getD []).length + a.b.length ≤ 140737488355328 := by
            cases hg : fGet e2 k with
            | none => simp; omega
            | some y => have := (hrl.f2.ok.get hg).2; simp; omega
          have c1 := c_disk_AppendG e1 e2 (n + 1) ws fuse dead works (i * 1048576) hrl.f2.ok k k0 a.b hroom hnl (by omega) (by omega) (by omega)
          have c2 := c_rd_Append w ps fuse dead works k a.b k0 (by omega) (by omega) (by omega) (by omega)
          have hgo := hI.go
          cases hd : deadN' fuse dead with
          | true =>
            rw [hd] at c1 c2 hgo
            rw [show psN ps true ⟨k, false, a.b⟩ = ps from if_pos (.inl rfl)] at c2
            simp only [true_or, ↓reduceIte] at c1 c2
            refine callDr_emb c1 [0, 1, 2, 3] (by kernel_rfl) rfl rfl ?_
            simp (disch := omega) only [↓LD, LU, LS, LT, loadA_rf, seval, ren, List.getElem?_nil, List.append_nil, dkR, dkB, dkP, dkA, dkS, dkC, ren_rk, rkB]
            repeat' (first | (with_reducible first | refine Wa.h ?_ | refine We.h fun K hK => ?_ | refine Wd.h fun K M hK hM => ?_ | (refine hK _ _ _ _ ?_; clear hK K; try clear hM M) | (refine hM ?_; clear hM M; try clear hK K) | refine Ws.h ?_ | refine Wb.h fun K hK => ?_ | (refine hK _ ?_; clear hK K)) | ((with_reducible refine kQ ?_ ?_); kernel_rfl) | ((with_reducible refine k1 ?_ ?_); rfl) | ((with_reducible refine k0 ?_ ?_); rfl) | ((with_reducible apply kB) <;> first | rfl | intro h) | ((with_reducible refine kM ?_ ?_); rfl) | (with_reducible refine Wt.h (fun h => ?_) (fun h => ?_)) <;> try (exfalso; omega) | (with_reducible refine Wu.h (fun h => ?_) (fun h => ?_)) <;> try simp only [h] | ((fail_if_success with_reducible refine Wz.h ?_); simp (disch := omega) only [↓LD, LU, LS, LT, loadA_rf, seval, ren, List.getElem?_nil, List.append_nil, dkR, dkB, dkP, dkA, dkS, dkC, ren_rk, rkB]) | ((with_reducible refine And.intro ?_ ?_); omega) | ((fail_if_success with_reducible refine Wz.h ?_); simp only [D.int, D.bool]))
            refine callDr_emb c2 [4] (by kernel_rfl) rfl rfl ?_
            simp (disch := omega) only [↓LD, LU, LS, LT, loadA_rf, seval, ren, List.getElem?_nil, List.append_nil, dkR, dkB, dkP, dkA, dkS, dkC, ren_rk, rkB]
            repeat' (first | (with_reducible first | refine Wa.h ?_ | refine We.h fun K hK => ?_ | refine Wd.h fun K M hK hM => ?_ | (refine hK _ _ _ _ ?_; clear hK K; try clear hM M) | (refine hM ?_; clear hM M; try clear hK K) | refine Ws.h ?_ | refine Wb.h fun K hK => ?_ | (refine hK _ ?_; clear hK K)) | ((with_reducible refine kQ ?_ ?_); kernel_rfl) | ((with_reducible refine k1 ?_ ?_); rfl) | ((with_reducible refine k0 ?_ ?_); rfl) | ((with_reducible apply kB) <;> first | rfl | intro h) | ((with_reducible refine kM ?_ ?_); rfl) | (with_reducible refine Wt.h (fun h => ?_) (fun h => ?_)) <;> try (exfalso; omega) | (with_reducible refine Wu.h (fun h => ?_) (fun h => ?_)) <;> try simp only [h] | ((fail_if_success with_reducible refine Wz.h ?_); simp (disch := omega) only [↓LD, LU, LS, LT, loadA_rf, seval, ren, List.getElem?_nil, List.append_nil, dkR, dkB, dkP, dkA, dkS, dkC, ren_rk, rkB]) | ((with_reducible refine And.intro ?_ ?_); omega) | ((fail_if_success with_reducible refine Wz.h ?_); simp only [D.int, D.bool]))
            exact OutN.mk [0, 3, 4, 5, 8] ⟨e1, e2, (n + 1), ws, w, ps, fuseN fuse dead, true, worksN fuse dead works⟩ (by kernel_rfl) hgo
          | false =>
            rw [hd] at c1 c2 hgo
            by_cases hb0 : a.b = []
            · rw [show psN ps false ⟨k, false, a.b⟩ = ps from if_pos (.inr hb0)] at c2
              simp only [hb0, or_true, Bool.false_eq_true, ↓reduceIte] at c1 c2
              rw [← hb0] at c1 c2
              refine callDr_emb c1 [0, 1, 2, 3] (by kernel_rfl) rfl rfl ?_
              simp (disch := omega) only [↓LD, LU, LS, LT, loadA_rf, seval, ren, List.getElem?_nil, List.append_nil, dkR, dkB, dkP, dkA, dkS, dkC, ren_rk, rkB]
              repeat' (first | (with_reducible first | refine Wa.h ?_ | refine We.h fun K hK => ?_ | refine Wd.h fun K M hK hM => ?_ | (refine hK _ _ _ _ ?_; clear hK K; try clear hM M) | (refine hM ?_; clear hM M; try clear hK K) | refine Ws.h ?_ | refine Wb.h fun K hK => ?_ | (refine hK _ ?_; clear hK K)) | ((with_reducible refine kQ ?_ ?_); kernel_rfl) | ((with_reducible refine k1 ?_ ?_); rfl) | ((with_reducible refine k0 ?_ ?_); rfl) | ((with_reducible apply kB) <;> first | rfl | intro h) | ((with_reducible refine kM ?_ ?_); rfl) | (with_reducible refine Wt.h (fun h => ?_) (fun h => ?_)) <;> try (exfalso; omega) | (with_reducible refine Wu.h (fun h => ?_) (fun h => ?_)) <;> try simp only [h] | ((fail_if_success with_reducible refine Wz.h ?_); simp (disch := omega) only [↓LD, LU, LS, LT, loadA_rf, seval, ren, List.getElem?_nil, List.append_nil, dkR, dkB, dkP, dkA, dkS, dkC, ren_rk, rkB]) | ((with_reducible refine And.intro ?_ ?_); omega) | ((fail_if_success with_reducible refine Wz.h ?_); simp only [D.int, D.bool]))
              refine callDr_emb c2 [4] (by kernel_rfl) rfl rfl ?_
              simp (disch := omega) only [↓LD, LU, LS, LT, loadA_rf, seval, ren, List.getElem?_nil, List.append_nil, dkR, dkB, dkP, dkA, dkS, dkC, ren_rk, rkB]
              repeat' (first | (with_reducible first | refine Wa.h ?_ | refine We.h fun K hK => ?_ | refine Wd.h fun K M hK hM => ?_ | (refine hK _ _ _ _ ?_; clear hK K; try clear hM M) | (refine hM ?_; clear hM M; try clear hK K) | refine Ws.h ?_ | refine Wb.h fun K hK => ?_ | (refine hK _ ?_; clear hK K)) | ((with_reducible refine kQ ?_ ?_); kernel_rfl) | ((with_reducible refine k1 ?_ ?_); rfl) | ((with_reducible refine k0 ?_ ?_); rfl) | ((with_reducible apply kB) <;> first | rfl | intro h) | ((with_reducible refine kM ?_ ?_); rfl) | (with_reducible refine Wt.h (fun h => ?_) (fun h => ?_)) <;> try (exfalso; omega) | (with_reducible refine Wu.h (fun h => ?_) (fun h => ?_)) <;> try simp only [h] | ((fail_if_success with_reducible refine Wz.h ?_); simp (disch := omega) only [↓LD, LU, LS, LT, loadA_rf, seval, ren, List.getElem?_nil, List.append_nil, dkR, dkB, dkP, dkA, dkS, dkC, ren_rk, rkB]) | ((with_reducible refine And.intro ?_ ?_); omega) | ((fail_if_success with_reducible refine Wz.h ?_); simp only [D.int, D.bool]))
              exact OutN.mk [0, 3, 4, 5, 8] ⟨e1, e2, (n + 1), ws, w, ps, fuseN fuse dead, false, worksN fuse dead works⟩ (by kernel_rfl) hgo
            · rw [show psN ps false ⟨k, false, a.b⟩ = ps ++ [⟨k, false, a.b⟩] from if_neg (by simp [hb0])] at c2
              simp only [hb0, or_self, Bool.false_eq_true, ↓reduceIte] at c1 c2
              have hpt := hI.put (o := ⟨k, false, a.b⟩) ⟨k0, hk.2, by simp [hb0]⟩ hbl
              rw [hd] at hpt
              refine callDr_emb c1 [0, 1, 2, 3] (by kernel_rfl) rfl rfl ?_
              simp (disch := omega) only [↓LD, LU, LS, LT, loadA_rf, seval, ren, List.getElem?_nil, List.append_nil, dkR, dkB, dkP, dkA, dkS, dkC, ren_rk, rkB]
              repeat' (first | (with_reducible first | refine Wa.h ?_ | refine We.h fun K hK => ?_ | refine Wd.h fun K M hK hM => ?_ | (refine hK _ _ _ _ ?_; clear hK K; try clear hM M) | (refine hM ?_; clear hM M; try clear hK K) | refine Ws.h ?_ | refine Wb.h fun K hK => ?_ | (refine hK _ ?_; clear hK K)) | ((with_reducible refine kQ ?_ ?_); kernel_rfl) | ((with_reducible refine k1 ?_ ?_); rfl) | ((with_reducible refine k0 ?_ ?_); rfl) | ((with_reducible apply kB) <;> first | rfl | intro h) | ((with_reducible refine kM ?_ ?_); rfl) | (with_reducible refine Wt.h (fun h => ?_) (fun h => ?_)) <;> try (exfalso; omega) | (with_reducible refine Wu.h (fun h => ?_) (fun h => ?_)) <;> try simp only [h] | ((fail_if_success with_reducible refine Wz.h ?_); simp (disch := omega) only [↓LD, LU, LS, LT, loadA_rf, seval, ren, List.getElem?_nil, List.append_nil, dkR, dkB, dkP, dkA, dkS, dkC, ren_rk, rkB]) | ((with_reducible refine And.intro ?_ ?_); omega) | ((fail_if_success with_reducible refine Wz.h ?_); simp only [D.int, D.bool]))
              refine callDr_emb c2 [4] (by kernel_rfl) rfl rfl ?_
              simp (disch := omega) only [↓LD, LU, LS, LT, loadA_rf, seval, ren, List.getElem?_nil, List.append_nil, dkR, dkB, dkP, dkA, dkS, dkC, ren_rk, rkB]
              repeat' (first | (with_reducible first | refine Wa.h ?_ | refine We.h fun K hK => ?_ | refine Wd.h fun K M hK hM => ?_ | (refine hK _ _ _ _ ?_; clear hK K; try clear hM M) | (refine hM ?_; clear hM M; try clear hK K) | refine Ws.h ?_ | refine Wb.h fun K hK => ?_ | (refine hK _ ?_; clear hK K)) | ((with_reducible refine kQ ?_ ?_); kernel_rfl) | ((with_reducible refine k1 ?_ ?_); rfl) | ((with_reducible refine k0 ?_ ?_); rfl) | ((with_reducible apply kB) <;> first | rfl | intro h) | ((with_reducible refine kM ?_ ?_); rfl) | (with_reducible refine Wt.h (fun h => ?_) (fun h => ?_)) <;> try (exfalso; omega) | (with_reducible refine Wu.h (fun h => ?_) (fun h => ?_)) <;> try simp only [h] | ((fail_if_success with_reducible refine Wz.h ?_); simp (disch := omega) only [↓LD, LU, LS, LT, loadA_rf, seval, ren, List.getElem?_nil, List.append_nil, dkR, dkB, dkP, dkA, dkS, dkC, ren_rk, rkB]) | ((with_reducible refine And.intro ?_ ?_); omega) | ((fail_if_success with_reducible refine Wz.h ?_); simp only [D.int, D.bool]))
              exact OutN.mk [0, 3, 4, 5, 8] ⟨e1, fDo e2 k a.b, (n + 1) + 1, ws ++ [(⟨k, a.b⟩ : Wk)], w, ps ++ [⟨k, false, a.b⟩], fuseN fuse dead, false, worksN fuse dead works⟩ (by kernel_rfl) hpt
  · rintro y hJ s' hv
    refine thenQ_n ?_
    refine HS.view hv ?_
    clear hv s'
    clear hI
    have hpl := hJ.pl
    have hrd := hJ.rd (by omega)
    have hrl := hJ.rl
    have hnl := hJ.nl
    have hni := hJ.ni
    have hfu := hJ.fu
    have hwo := hJ.wo
    obtain ⟨e1, e2, n, ws, w, ps, fuse, dead, works⟩ := y
    dsimp only at hpl hrd hrl hnl hni hfu hwo ⊢
    refine HS.seq ?_
    refine HS.cutn (fun _ : Unit => ⟨frm 179 [(0, .f (fSt l)), (3, .pt 0 0), (4, dpP n), (5, D.int i)], dpH e1 e2 n ws w ps fuse dead works, []⟩) (fun _ => True) ?_ ?_
    · have c1 := c_disk_Dead e1 e2 n ws fuse dead works
      have c2 := c_disk_Works e1 e2 n ws fuse dead works
      have c3 : Con Try.prog 31 [.pt 0 0] (dkR e1 e2 n ws fuse dead works) fun r H' => r = D.int ps.length ∧ H' = dkR e1 e2 n ws fuse dead works := (c_disk_Pend e1 e2 n ws fuse dead works).mono fun _ _ h => by rw [hpl]; exact h
      rcases n with _ | n
      · repeat' (first | (with_reducible first | refine Wa.h ?_ | refine We.h fun K hK => ?_ | refine Wd.h fun K M hK hM => ?_ | (refine hK _ _ _ _ ?_; clear hK K; try clear hM M) | (refine hM ?_; clear hM M; try clear hK K) | refine Ws.h ?_ | refine Wb.h fun K hK => ?_ | (refine hK _ ?_; clear hK K)) | ((with_reducible refine kQ ?_ ?_); kernel_rfl) | ((with_reducible refine k1 ?_ ?_); rfl) | ((with_reducible refine k0 ?_ ?_); rfl) | ((with_reducible apply kB) <;> first | rfl | intro h) | ((with_reducible refine kM ?_ ?_); rfl) | (with_reducible refine Wt.h (fun h => ?_) (fun h => ?_)) <;> try (exfalso; omega) | (with_reducible refine Wu.h (fun h => ?_) (fun h => ?_)) <;> try simp only [h] | ((fail_if_success with_reducible refine Wz.h ?_); simp (disch := omega) only [↓LD, LU, LS, LT, loadA_rf, seval, dpH, dpP, rkB, fP, dkB, dkP]) | ((with_reducible refine And.intro ?_ ?_); omega) | ((fail_if_success with_reducible refine Wz.h ?_); simp only [D.int, D.bool]))
        refine callDr_emb c1 [0, 1, 2] (by kernel_rfl) rfl rfl ?_
        simp (disch := omega) only [↓LD, LU, LS, LT, loadA_rf, seval, ren, List.getElem?_nil, List.append_nil, dkR, dkB, dkP]
        cases dead
        all_goals
          repeat' (first | (with_reducible first | refine Wa.h ?_ | refine We.h fun K hK => ?_ | refine Wd.h fun K M hK hM => ?_ | (refine hK _ _ _ _ ?_; clear hK K; try clear hM M) | (refine hM ?_; clear hM M; try clear hK K) | refine Ws.h ?_ | refine Wb.h fun K hK => ?_ | (refine hK _ ?_; clear hK K)) | ((with_reducible refine kQ ?_ ?_); kernel_rfl) | ((with_reducible refine k1 ?_ ?_); rfl) | ((with_reducible refine k0 ?_ ?_); rfl) | ((with_reducible apply kB) <;> first | rfl | intro h) | ((with_reducible refine kM ?_ ?_); rfl) | (with_reducible refine Wt.h (fun h => ?_) (fun h => ?_)) <;> try (exfalso; omega) | (with_reducible refine Wu.h (fun h => ?_) (fun h => ?_)) <;> try simp only [h] | ((fail_if_success with_reducible refine Wz.h ?_); simp (disch := omega) only [↓LD, LU, LS, LT, loadA_rf, seval, ren, List.getElem?_nil, List.append_nil, dkR, dkB, dkP, rkB, dpP, dpH]) | ((with_reducible refine And.intro ?_ ?_); omega) | ((fail_if_success with_reducible refine Wz.h ?_); simp only [D.int, D.bool]))
          refine callDr_emb c2 [0, 1, 2] (by kernel_rfl) rfl rfl ?_
          simp (disch := omega) only [↓LD, LU, LS, LT, loadA_rf, seval, ren, List.getElem?_nil, List.append_nil, dkR, dkB, dkP]
          repeat' (first | (with_reducible first | refine Wa.h ?_ | refine We.h fun K hK => ?_ | refine Wd.h fun K M hK hM => ?_ | (refine hK _ _ _ _ ?_; clear hK K; try clear hM M) | (refine hM ?_; clear hM M; try clear hK K) | refine Ws.h ?_ | refine Wb.h fun K hK => ?_ | (refine hK _ ?_; clear hK K)) | ((with_reducible refine kQ ?_ ?_); kernel_rfl) | ((with_reducible refine k1 ?_ ?_); rfl) | ((with_reducible refine k0 ?_ ?_); rfl) | ((with_reducible apply kB) <;> first | rfl | intro h) | ((with_reducible refine kM ?_ ?_); rfl) | (with_reducible refine Wt.h (fun h => ?_) (fun h => ?_)) <;> try (exfalso; omega) | (with_reducible refine Wu.h (fun h => ?_) (fun h => ?_)) <;> try simp only [h] | ((fail_if_success with_reducible refine Wz.h ?_); simp (disch := omega) only [↓LD, LU, LS, LT, loadA_rf, seval, ren, List.getElem?_nil, List.append_nil, dkR, dkB, dkP, rkB, dpP, dpH]) | ((with_reducible refine And.intro ?_ ?_); omega) | ((fail_if_success with_reducible refine Wz.h ?_); simp only [D.int, D.bool]))
          refine callDr_emb c3 [0, 1, 2] (by kernel_rfl) rfl rfl ?_
          simp (disch := omega) only [↓LD, LU, LS, LT, loadA_rf, seval, ren, List.getElem?_nil, List.append_nil, dkR, dkB, dkP]
          repeat' (first | (with_reducible first | refine Wa.h ?_ | refine We.h fun K hK => ?_ | refine Wd.h fun K M hK hM => ?_ | (refine hK _ _ _ _ ?_; clear hK K; try clear hM M) | (refine hM ?_; clear hM M; try clear hK K) | refine Ws.h ?_ | refine Wb.h fun K hK => ?_ | (refine hK _ ?_; clear hK K)) | ((with_reducible refine kQ ?_ ?_); kernel_rfl) | ((with_reducible refine k1 ?_ ?_); rfl) | ((with_reducible refine k0 ?_ ?_); rfl) | ((with_reducible apply kB) <;> first | rfl | intro h) | ((with_reducible refine kM ?_ ?_); rfl) | (with_reducible refine Wt.h (fun h => ?_) (fun h => ?_)) <;> try (exfalso; omega) | (with_reducible refine Wu.h (fun h => ?_) (fun h => ?_)) <;> try simp only [h] | ((fail_if_success with_reducible refine Wz.h ?_); simp (disch := omega) only [↓LD, LU, LS, LT, loadA_rf, seval, ren, List.getElem?_nil, List.append_nil, dkR, dkB, dkP, rkB, dpP, dpH, fP]) | ((with_reducible refine And.intro ?_ ?_); omega) | ((fail_if_success with_reducible refine Wz.h ?_); simp only [D.int, D.bool]))
          exact OutN.mk [0, 3, 4, 5] () (by kernel_rfl) trivial
      · repeat' (first | (with_reducible first | refine Wa.h ?_ | refine We.h fun K hK => ?_ | refine Wd.h fun K M hK hM => ?_ | (refine hK _ _ _ _ ?_; clear hK K; try clear hM M) | (refine hM ?_; clear hM M; try clear hK K) | refine Ws.h ?_ | refine Wb.h fun K hK => ?_ | (refine hK _ ?_; clear hK K)) | ((with_reducible refine kQ ?_ ?_); kernel_rfl) | ((with_reducible refine k1 ?_ ?_); rfl) | ((with_reducible refine k0 ?_ ?_); rfl) | ((with_reducible apply kB) <;> first | rfl | intro h) | ((with_reducible refine kM ?_ ?_); rfl) | (with_reducible refine Wt.h (fun h => ?_) (fun h => ?_)) <;> try (exfalso; omega) | (with_reducible refine Wu.h (fun h => ?_) (fun h => ?_)) <;> try simp only [h] | ((fail_if_success with_reducible refine Wz.h ?_); simp (disch := omega) only [↓LD, LU, LS, LT, loadA_rf, seval, dpH, dpP, rkB, fP, dkB, dkP]) | ((with_reducible refine And.intro ?_ ?_); omega) | ((fail_if_success with_reducible refine Wz.h ?_); simp only [D.int, D.bool]))
        refine callDr_emb c1 [0, 1, 2, 3] (by kernel_rfl) rfl rfl ?_
        simp (disch := omega) only [↓LD, LU, LS, LT, loadA_rf, seval, ren, List.getElem?_nil, List.append_nil, dkR, dkB, dkP]
        cases dead
        all_goals
          repeat' (first | (with_reducible first | refine Wa.h ?_ | refine We.h fun K hK => ?_ | refine Wd.h fun K M hK hM => ?_ | (refine hK _ _ _ _ ?_; clear hK K; try clear hM M) | (refine hM ?_; clear hM M; try clear hK K) | refine Ws.h ?_ | refine Wb.h fun K hK => ?_ | (refine hK _ ?_; clear hK K)) | ((with_reducible refine kQ ?_ ?_); kernel_rfl) | ((with_reducible refine k1 ?_ ?_); rfl) | ((with_reducible refine k0 ?_ ?_); rfl) | ((with_reducible apply kB) <;> first | rfl | intro h) | ((with_reducible refine kM ?_ ?_); rfl) | (with_reducible refine Wt.h (fun h => ?_) (fun h => ?_)) <;> try (exfalso; omega) | (with_reducible refine Wu.h (fun h => ?_) (fun h => ?_)) <;> try simp only [h] | ((fail_if_success with_reducible refine Wz.h ?_); simp (disch := omega) only [↓LD, LU, LS, LT, loadA_rf, seval, ren, List.getElem?_nil, List.append_nil, dkR, dkB, dkP, rkB, dpP, dpH]) | ((with_reducible refine And.intro ?_ ?_); omega) | ((fail_if_success with_reducible refine Wz.h ?_); simp only [D.int, D.bool]))
          refine callDr_emb c2 [0, 1, 2, 3] (by kernel_rfl) rfl rfl ?_
          simp (disch := omega) only [↓LD, LU, LS, LT, loadA_rf, seval, ren, List.getElem?_nil, List.append_nil, dkR, dkB, dkP]
          repeat' (first | (with_reducible first | refine Wa.h ?_ | refine We.h fun K hK => ?_ | refine Wd.h fun K M hK hM => ?_ | (refine hK _ _ _ _ ?_; clear hK K; try clear hM M) | (refine hM ?_; clear hM M; try clear hK K) | refine Ws.h ?_ | refine Wb.h fun K hK => ?_ | (refine hK _ ?_; clear hK K)) | ((with_reducible refine kQ ?_ ?_); kernel_rfl) | ((with_reducible refine k1 ?_ ?_); rfl) | ((with_reducible refine k0 ?_ ?_); rfl) | ((with_reducible apply kB) <;> first | rfl | intro h) | ((with_reducible refine kM ?_ ?_); rfl) | (with_reducible refine Wt.h (fun h => ?_) (fun h => ?_)) <;> try (exfalso; omega) | (with_reducible refine Wu.h (fun h => ?_) (fun h => ?_)) <;> try simp only [h] | ((fail_if_success with_reducible refine Wz.h ?_); simp (disch := omega) only [↓LD, LU, LS, LT, loadA_rf, seval, ren, List.getElem?_nil, List.append_nil, dkR, dkB, dkP, rkB, dpP, dpH]) | ((with_reducible refine And.intro ?_ ?_); omega) | ((fail_if_success with_reducible refine Wz.h ?_); simp only [D.int, D.bool]))
          refine callDr_emb c3 [0, 1, 2, 3] (by kernel_rfl) rfl rfl ?_
          simp (disch := omega) only [↓LD, LU, LS, LT, loadA_rf, seval, ren, List.getElem?_nil, List.append_nil, dkR, dkB, dkP]
          repeat' (first | (with_reducible first | refine Wa.h ?_ | refine We.h fun K hK => ?_ | refine Wd.h fun K M hK hM => ?_ | (refine hK _ _ _ _ ?_; clear hK K; try clear hM M) | (refine hM ?_; clear hM M; try clear hK K) | refine Ws.h ?_ | refine Wb.h fun K hK => ?_ | (refine hK _ ?_; clear hK K)) | ((with_reducible refine kQ ?_ ?_); kernel_rfl) | ((with_reducible refine k1 ?_ ?_); rfl) | ((with_reducible refine k0 ?_ ?_); rfl) | ((with_reducible apply kB) <;> first | rfl | intro h) | ((with_reducible refine kM ?_ ?_); rfl) | (with_reducible refine Wt.h (fun h => ?_) (fun h => ?_)) <;> try (exfalso; omega) | (with_reducible refine Wu.h (fun h => ?_) (fun h => ?_)) <;> try simp only [h] | ((fail_if_success with_reducible refine Wz.h ?_); simp (disch := omega) only [↓LD, LU, LS, LT, loadA_rf, seval, ren, List.getElem?_nil, List.append_nil, dkR, dkB, dkP, rkB, dpP, dpH, fP]) | ((with_reducible refine And.intro ?_ ?_); omega) | ((fail_if_success with_reducible refine Wz.h ?_); simp only [D.int, D.bool]))
          exact OutN.mk [0, 3, 4, 5] () (by kernel_rfl) trivial
    rintro _ - s' hv
    refine thenQ_n ?_
    refine HS.view hv ?_
    clear hv s'
    have hfs : ∀ S, flD w ps false = S → sortL (e2.map (·.1)) = S := fun S h => by rw [hrl.files, h]
    have hki := hrl.f2.in' (by omega)
    refine HS.seq ?_
    refine HS.cutn (fun S : List Int => ⟨frm 179 [(0, .f (fSt l)), (3, .pt 0 0), (4, dpP n), (5, D.int i), (10, .f (.s (S.map iF) S.length))], dpH e1 e2 n ws w ps fuse dead works, []⟩) (fun S => S = flD w ps dead) ?_ ?_
    · cases dead with
      | true =>
        have c1 := c_disk_FilesD e1 e2 n ws fuse works
        rcases n with _ | n
        · repeat' (first | (with_reducible first | refine Wa.h ?_ | refine Ws.h ?_ | refine Wb.h fun K hK => ?_ | (refine hK _ ?_; clear hK K)) | ((with_reducible refine kQ ?_ ?_); kernel_rfl) | ((with_reducible refine k1 ?_ ?_); rfl) | ((with_reducible refine k0 ?_ ?_); rfl) | ((with_reducible apply kB) <;> first | rfl | intro h) | ((with_reducible refine kM ?_ ?_); rfl) | (with_reducible refine Wt.h (fun h => ?_) (fun h => ?_)) <;> try (exfalso; omega) | (with_reducible refine Wu.h (fun h => ?_) (fun h => ?_)) <;> try simp only [h] | ((fail_if_success with_reducible refine Wz.h ?_); simp (disch := omega) only [↓LD, LU, LS, LT, loadA_rf, seval, dpH, dpP]) | ((with_reducible refine And.intro ?_ ?_); omega) | ((fail_if_success with_reducible refine Wz.h ?_); simp only [D.int, D.bool]))
          refine callW_emb c1 [0, 1, 2] (by kernel_rfl) rfl rfl ?_
          rintro _ _ ⟨rfl, rfl⟩
          simp (disch := omega) only [↓LD, LU, LS, LT, loadA_rf, seval, ren, List.getElem?_nil, List.append_nil, dkR, dkB, dkP, ren_rk]
          repeat' (first | (with_reducible first | refine Wa.h ?_ | refine Ws.h ?_ | refine Wb.h fun K hK => ?_ | (refine hK _ ?_; clear hK K)) | ((with_reducible refine kQ ?_ ?_); kernel_rfl) | ((with_reducible refine k1 ?_ ?_); rfl) | ((with_reducible refine k0 ?_ ?_); rfl) | ((with_reducible apply kB) <;> first | rfl | intro h) | ((with_reducible refine kM ?_ ?_); rfl) | (with_reducible refine Wt.h (fun h => ?_) (fun h => ?_)) <;> try (exfalso; omega) | (with_reducible refine Wu.h (fun h => ?_) (fun h => ?_)) <;> try simp only [h] | ((fail_if_success with_reducible refine Wz.h ?_); simp (disch := omega) only [↓LD, LU, LS, LT, loadA_rf, seval, ren, List.getElem?_nil, List.append_nil, dkR, dkB, dkP, ren_rk]) | ((with_reducible refine And.intro ?_ ?_); omega) | ((fail_if_success with_reducible refine Wz.h ?_); simp only [D.int, D.bool]))
          have h1 := View.nil1 (P := Try.prog) (n0 := 0) (n := 179) (e := [(0, .f (fSt l)), (3, .pt 0 0), (4, dpP 0), (5, D.int i), (10, .f nilF)]) (H := dpH e1 e2 0 ws w ps fuse true works) (dr := []) 10 rfl (by omega)
          exact OutN.via [0, 3, 4, 5, 10] [] (by kernel_rfl) (h1.trans (View.sweep (keep := [0, 3, 4, 5, 10]) (by kernel_rfl))) rfl
        · repeat' (first | (with_reducible first | refine Wa.h ?_ | refine Ws.h ?_ | refine Wb.h fun K hK => ?_ | (refine hK _ ?_; clear hK K)) | ((with_reducible refine kQ ?_ ?_); kernel_rfl) | ((with_reducible refine k1 ?_ ?_); rfl) | ((with_reducible refine k0 ?_ ?_); rfl) | ((with_reducible apply kB) <;> first | rfl | intro h) | ((with_reducible refine kM ?_ ?_); rfl) | (with_reducible refine Wt.h (fun h => ?_) (fun h => ?_)) <;> try (exfalso; omega) | (with_reducible refine Wu.h (fun h => ?_) (fun h => ?_)) <;> try simp only [h] | ((fail_if_success with_reducible refine Wz.h ?_); simp (disch := omega) only [↓LD, LU, LS, LT, loadA_rf, seval, dpH, dpP]) | ((with_reducible refine And.intro ?_ ?_); omega) | ((fail_if_success with_reducible refine Wz.h ?_); simp only [D.int, D.bool]))
          refine callW_emb c1 [0, 1, 2, 3] (by kernel_rfl) rfl rfl ?_
          rintro _ _ ⟨rfl, rfl⟩
          simp (disch := omega) only [↓LD, LU, LS, LT, loadA_rf, seval, ren, List.getElem?_nil, List.append_nil, dkR, dkB, dkP, ren_rk]
          repeat' (first | (with_reducible first | refine Wa.h ?_ | refine Ws.h ?_ | refine Wb.h fun K hK => ?_ | (refine hK _ ?_; clear hK K)) | ((with_reducible refine kQ ?_ ?_); kernel_rfl) | ((with_reducible refine k1 ?_ ?_); rfl) | ((with_reducible refine k0 ?_ ?_); rfl) | ((with_reducible apply kB) <;> first | rfl | intro h) | ((with_reducible refine kM ?_ ?_); rfl) | (with_reducible refine Wt.h (fun h => ?_) (fun h => ?_)) <;> try (exfalso; omega) | (with_reducible refine Wu.h (fun h => ?_) (fun h => ?_)) <;> try simp only [h] | ((fail_if_success with_reducible refine Wz.h ?_); simp (disch := omega) only [↓LD, LU, LS, LT, loadA_rf, seval, ren, List.getElem?_nil, List.append_nil, dkR, dkB, dkP, ren_rk]) | ((with_reducible refine And.intro ?_ ?_); omega) | ((fail_if_success with_reducible refine Wz.h ?_); simp only [D.int, D.bool]))
          have h1 := View.nil1 (P := Try.prog) (n0 := 0) (n := 179) (e := [(0, .f (fSt l)), (3, .pt 0 0), (4, dpP (n + 1)), (5, D.int i), (10, .f nilF)]) (H := dpH e1 e2 (n + 1) ws w ps fuse true works) (dr := []) 10 rfl (by omega)
          exact OutN.via [0, 3, 4, 5, 10] [] (by kernel_rfl) (h1.trans (View.sweep (keep := [0, 3, 4, 5, 10]) (by kernel_rfl))) rfl
      | false =>
        rcases hS : flD w ps false with _ | ⟨z, S⟩
        · have c1 := c_disk_FilesS e1 e2 n ws fuse works [] hki (hfs _ hS)
          rcases n with _ | n
          · repeat' (first | (with_reducible first | refine Wa.h ?_ | refine Ws.h ?_ | refine Wb.h fun K hK => ?_ | (refine hK _ ?_; clear hK K)) | ((with_reducible refine kQ ?_ ?_); kernel_rfl) | ((with_reducible refine k1 ?_ ?_); rfl) | ((with_reducible refine k0 ?_ ?_); rfl) | ((with_reducible apply kB) <;> first | rfl | intro h) | ((with_reducible refine kM ?_ ?_); rfl) | (with_reducible refine Wt.h (fun h => ?_) (fun h => ?_)) <;> try (exfalso; omega) | (with_reducible refine Wu.h (fun h => ?_) (fun h => ?_)) <;> try simp only [h] | ((fail_if_success with_reducible refine Wz.h ?_); simp (disch := omega) only [↓LD, LU, LS, LT, loadA_rf, seval, dpH, dpP]) | ((with_reducible refine And.intro ?_ ?_); omega) | ((fail_if_success with_reducible refine Wz.h ?_); simp only [D.int, D.bool]))
            refine callW_emb c1 [0, 1, 2] (by kernel_rfl) rfl rfl ?_
            rintro _ _ ⟨rfl, rfl⟩
            simp (disch := omega) only [↓LD, LU, LS, LT, loadA_rf, seval, ren, List.getElem?_nil, List.append_nil, dkR, dkB, dkP, dkFS, ren_rk]
            repeat' (first | (with_reducible first | refine Wa.h ?_ | refine Ws.h ?_ | refine Wb.h fun K hK => ?_ | (refine hK _ ?_; clear hK K)) | ((with_reducible refine kQ ?_ ?_); kernel_rfl) | ((with_reducible refine k1 ?_ ?_); rfl) | ((with_reducible refine k0 ?_ ?_); rfl) | ((with_reducible apply kB) <;> first | rfl | intro h) | ((with_reducible refine kM ?_ ?_); rfl) | (with_reducible refine Wt.h (fun h => ?_) (fun h => ?_)) <;> try (exfalso; omega) | (with_reducible refine Wu.h (fun h => ?_) (fun h => ?_)) <;> try simp only [h] | ((fail_if_success with_reducible refine Wz.h ?_); simp (disch := omega) only [↓LD, LU, LS, LT, loadA_rf, seval, ren, List.getElem?_nil, List.append_nil, dkR, dkB, dkP, dkFS, ren_rk]) | ((with_reducible refine And.intro ?_ ?_); omega) | ((fail_if_success with_reducible refine Wz.h ?_); simp only [D.int, D.bool]))
            have h1 := View.nil1 (P := Try.prog) (n0 := 0) (n := 179) (e := [(0, .f (fSt l)), (3, .pt 0 0), (4, dpP 0), (5, D.int i), (10, .f nilF)]) (H := dpH e1 e2 0 ws w ps fuse false works) (dr := []) 10 rfl (by omega)
            exact OutN.via [0, 3, 4, 5, 10] [] (by kernel_rfl) (h1.trans (View.sweep (keep := [0, 3, 4, 5, 10]) (by kernel_rfl))) rfl
          · repeat' (first | (with_reducible first | refine Wa.h ?_ | refine Ws.h ?_ | refine Wb.h fun K hK => ?_ | (refine hK _ ?_; clear hK K)) | ((with_reducible refine kQ ?_ ?_); kernel_rfl) | ((with_reducible refine k1 ?_ ?_); rfl) | ((with_reducible refine k0 ?_ ?_); rfl) | ((with_reducible apply kB) <;> first | rfl | intro h) | ((with_reducible refine kM ?_ ?_); rfl) | (with_reducible refine Wt.h (fun h => ?_) (fun h => ?_)) <;> try (exfalso; omega) | (with_reducible refine Wu.h (fun h => ?_) (fun h => ?_)) <;> try simp only [h] | ((fail_if_success with_reducible refine Wz.h ?_); simp (disch := omega) only [↓LD, LU, LS, LT, loadA_rf, seval, dpH, dpP]) | ((with_reducible refine And.intro ?_ ?_); omega) | ((fail_if_success with_reducible refine Wz.h ?_); simp only [D.int, D.bool]))
            refine callW_emb c1 [0, 1, 2, 3] (by kernel_rfl) rfl rfl ?_
            rintro _ _ ⟨rfl, rfl⟩
            simp (disch := omega) only [↓LD, LU, LS, LT, loadA_rf, seval, ren, List.getElem?_nil, List.append_nil, dkR, dkB, dkP, dkFS, ren_rk]
            repeat' (first | (with_reducible first | refine Wa.h ?_ | refine Ws.h ?_ | refine Wb.h fun K hK => ?_ | (refine hK _ ?_; clear hK K)) | ((with_reducible refine kQ ?_ ?_); kernel_rfl) | ((with_reducible refine k1 ?_ ?_); rfl) | ((with_reducible refine k0 ?_ ?_); rfl) | ((with_reducible apply kB) <;> first | rfl | intro h) | ((with_reducible refine kM ?_ ?_); rfl) | (with_reducible refine Wt.h (fun h => ?_) (fun h => ?_)) <;> try (exfalso; omega) | (with_reducible refine Wu.h (fun h => ?_) (fun h => ?_)) <;> try simp only [h] | ((fail_if_success with_reducible refine Wz.h ?_); simp (disch := omega) only [↓LD, LU, LS, LT, loadA_rf, seval, ren, List.getElem?_nil, List.append_nil, dkR, dkB, dkP, dkFS, ren_rk]) | ((with_reducible refine And.intro ?_ ?_); omega) | ((fail_if_success with_reducible refine Wz.h ?_); simp only [D.int, D.bool]))
            have h1 := View.nil1 (P := Try.prog) (n0 := 0) (n := 179) (e := [(0, .f (fSt l)), (3, .pt 0 0), (4, dpP (n + 1)), (5, D.int i), (10, .f nilF)]) (H := dpH e1 e2 (n + 1) ws w ps fuse false works) (dr := []) 10 rfl (by omega)
            exact OutN.via [0, 3, 4, 5, 10] [] (by kernel_rfl) (h1.trans (View.sweep (keep := [0, 3, 4, 5, 10]) (by kernel_rfl))) rfl
        · have c1 := c_disk_FilesS e1 e2 n ws fuse works (z :: S) hki (hfs _ hS)
          rcases n with _ | n
          · repeat' (first | (with_reducible first | refine Wa.h ?_ | refine Ws.h ?_ | refine Wb.h fun K hK => ?_ | (refine hK _ ?_; clear hK K)) | ((with_reducible refine kQ ?_ ?_); kernel_rfl) | ((with_reducible refine k1 ?_ ?_); rfl) | ((with_reducible refine k0 ?_ ?_); rfl) | ((with_reducible apply kB) <;> first | rfl | intro h) | ((with_reducible refine kM ?_ ?_); rfl) | (with_reducible refine Wt.h (fun h => ?_) (fun h => ?_)) <;> try (exfalso; omega) | (with_reducible refine Wu.h (fun h => ?_) (fun h => ?_)) <;> try simp only [h] | ((fail_if_success with_reducible refine Wz.h ?_); simp (disch := omega) only [↓LD, LU, LS, LT, loadA_rf, seval, dpH, dpP]) | ((with_reducible refine And.intro ?_ ?_); omega) | ((fail_if_success with_reducible refine Wz.h ?_); simp only [D.int, D.bool]))
            refine callW_emb c1 [0, 1, 2] (by kernel_rfl) rfl rfl ?_
            rintro _ _ ⟨rfl, rfl⟩
            simp (disch := omega) only [↓LD, LU, LS, LT, loadA_rf, seval, ren, List.getElem?_nil, List.append_nil, dkR, dkB, dkP, dkFS, ren_rk, List.cons_append, List.nil_append]
            repeat' (first | (with_reducible first | refine Wa.h ?_ | refine Ws.h ?_ | refine Wb.h fun K hK => ?_ | (refine hK _ ?_; clear hK K)) | ((with_reducible refine kQ ?_ ?_); kernel_rfl) | ((with_reducible refine k1 ?_ ?_); rfl) | ((with_reducible refine k0 ?_ ?_); rfl) | ((with_reducible apply kB) <;> first | rfl | intro h) | ((with_reducible refine kM ?_ ?_); rfl) | (with_reducible refine Wt.h (fun h => ?_) (fun h => ?_)) <;> try (exfalso; omega) | (with_reducible refine Wu.h (fun h => ?_) (fun h => ?_)) <;> try simp only [h] | ((fail_if_success with_reducible refine Wz.h ?_); simp (disch := omega) only [↓LD, LU, LS, LT, loadA_rf, seval, ren, List.getElem?_nil, List.append_nil, dkR, dkB, dkP, dkFS, ren_rk, List.cons_append, List.nil_append]) | ((with_reducible refine And.intro ?_ ?_); omega) | ((fail_if_success with_reducible refine Wz.h ?_); simp only [D.int, D.bool]))
            have h1 := View.frz (P := Try.prog) (n0 := 0) (n := 179) (e := [(0, .f (fSt l)), (3, .pt 0 0), (4, dpP 0), (5, D.int i), (10, .sl 4 0 (S.length + 1))]) (H := dpH e1 e2 0 ws w ps fuse false works ++ [.data 3 ((z :: S).map iF)]) (dr := []) 10 (k := 1) (b := 8) (z := [.int .i64 0]) rfl rfl (by kernel_rfl) (by omega) (by simp) (by omega)
            exact OutN.via [0, 3, 4, 5, 10] (z :: S) (by kernel_rfl) (h1.trans (View.sweep (keep := [0, 3, 4, 5, 10]) (by kernel_rfl))) rfl
          · repeat' (first | (with_reducible first | refine Wa.h ?_ | refine Ws.h ?_ | refine Wb.h fun K hK => ?_ | (refine hK _ ?_; clear hK K)) | ((with_reducible refine kQ ?_ ?_); kernel_rfl) | ((with_reducible refine k1 ?_ ?_); rfl) | ((with_reducible refine k0 ?_ ?_); rfl) | ((with_reducible apply kB) <;> first | rfl | intro h) | ((with_reducible refine kM ?_ ?_); rfl) | (with_reducible refine Wt.h (fun h => ?_) (fun h => ?_)) <;> try (exfalso; omega) | (with_reducible refine Wu.h (fun h => ?_) (fun h => ?_)) <;> try simp only [h] | ((fail_if_success with_reducible refine Wz.h ?_); simp (disch := omega) only [↓LD, LU, LS, LT, loadA_rf, seval, dpH, dpP]) | ((with_reducible refine And.intro ?_ ?_); omega) | ((fail_if_success with_reducible refine Wz.h ?_); simp only [D.int, D.bool]))
            refine callW_emb c1 [0, 1, 2, 3] (by kernel_rfl) rfl rfl ?_
            rintro _ _ ⟨rfl, rfl⟩
            simp (disch := omega) only [↓LD, LU, LS, LT, loadA_rf, seval, ren, List.getElem?_nil, List.append_nil, dkR, dkB, dkP, dkFS, ren_rk, List.cons_append, List.nil_append]
            repeat' (first | (with_reducible first | refine Wa.h ?_ | refine Ws.h ?_ | refine Wb.h fun K hK => ?_ | (refine hK _ ?_; clear hK K)) | ((with_reducible refine kQ ?_ ?_); kernel_rfl) | ((with_reducible refine k1 ?_ ?_); rfl) | ((with_reducible refine k0 ?_ ?_); rfl) | ((with_reducible apply kB) <;> first | rfl | intro h) | ((with_reducible refine kM ?_ ?_); rfl) | (with_reducible refine Wt.h (fun h => ?_) (fun h => ?_)) <;> try (exfalso; omega) | (with_reducible refine Wu.h (fun h => ?_) (fun h => ?_)) <;> try simp only [h] | ((fail_if_success with_reducible refine Wz.h ?_); simp (disch := omega) only [↓LD, LU, LS, LT, loadA_rf, seval, ren, List.getElem?_nil, List.append_nil, dkR, dkB, dkP, dkFS, ren_rk, List.cons_append, List.nil_append]) | ((with_reducible refine And.intro ?_ ?_); omega) | ((fail_if_success with_reducible refine Wz.h ?_); simp only [D.int, D.bool]))
            have h1 := View.frz (P := Try.prog) (n0 := 0) (n := 179) (e := [(0, .f (fSt l)), (3, .pt 0 0), (4, dpP (n + 1)), (5, D.int i), (10, .sl 5 0 (S.length + 1))]) (H := dpH e1 e2 (n + 1) ws w ps fuse false works ++ [.data 3 ((z :: S).map iF)]) (dr := []) 10 (k := 1) (b := 8) (z := [.int .i64 0]) rfl rfl (by kernel_rfl) (by omega) (by simp) (by omega)
            exact OutN.via [0, 3, 4, 5, 10] (z :: S) (by kernel_rfl) (h1.trans (View.sweep (keep := [0, 3, 4, 5, 10]) (by kernel_rfl))) rfl
    rintro _ rfl s' hv
    refine thenQ_n ?_
    refine HS.view hv ?_
    clear hv s'
    have c1 := c_rd_Files w ps fuse dead works hrd
    have hSl : (flD w ps dead).length ≤ 5 := by
      rw [flD]
      split
      · simp
      · have := flF_len 0 (nowL w ps)
        have := now_len hrl.wl hrl.ops
        omega
    generalize flD w ps dead = S at c1 hSl
    refine HS.seq ?_
    refine HS.cutn (fun _ : Unit => ⟨frm 179 [(0, .f (fSt l)), (3, .pt 0 0), (4, dpP n), (5, D.int i), (10, .f (.s (S.map iF) S.length)), (11, .f (.s (S.map iF) S.length))], dpH e1 e2 n ws w ps fuse dead works, []⟩) (fun _ => True) ?_ ?_
    · rcases n with _ | n
      · repeat' (first | (with_reducible first | refine Wa.h ?_ | refine Ws.h ?_ | refine Wb.h fun K hK => ?_ | (refine hK _ ?_; clear hK K)) | ((with_reducible refine kQ ?_ ?_); kernel_rfl) | ((with_reducible refine k1 ?_ ?_); rfl) | ((with_reducible refine k0 ?_ ?_); rfl) | ((with_reducible apply kB) <;> first | rfl | intro h) | ((with_reducible refine kM ?_ ?_); rfl) | (with_reducible refine Wt.h (fun h => ?_) (fun h => ?_)) <;> try (exfalso; omega) | (with_reducible refine Wu.h (fun h => ?_) (fun h => ?_)) <;> try simp only [h] | ((fail_if_success with_reducible refine Wz.h ?_); simp (disch := omega) only [↓LD, LU, LS, LT, loadA_rf, seval, dpH, dpP]) | ((with_reducible refine And.intro ?_ ?_); omega) | ((fail_if_success with_reducible refine Wz.h ?_); simp only [D.int, D.bool]))
        refine callW_emb c1 [3] (by kernel_rfl) rfl rfl ?_
        rintro _ _ ⟨rfl, rfl⟩
        simp (disch := omega) only [↓LD, LU, LS, LT, loadA_rf, seval, ren, List.getElem?_nil, List.append_nil, dkR, dkB, dkP, ren_rk]
        repeat' (first | (with_reducible first | refine Wa.h ?_ | refine Ws.h ?_ | refine Wb.h fun K hK => ?_ | (refine hK _ ?_; clear hK K)) | ((with_reducible refine kQ ?_ ?_); kernel_rfl) | ((with_reducible refine k1 ?_ ?_); rfl) | ((with_reducible refine k0 ?_ ?_); rfl) | ((with_reducible apply kB) <;> first | rfl | intro h) | ((with_reducible refine kM ?_ ?_); rfl) | (with_reducible refine Wt.h (fun h => ?_) (fun h => ?_)) <;> try (exfalso; omega) | (with_reducible refine Wu.h (fun h => ?_) (fun h => ?_)) <;> try simp only [h] | ((fail_if_success with_reducible refine Wz.h ?_); simp (disch := omega) only [↓LD, LU, LS, LT, loadA_rf, seval, ren, List.getElem?_nil, List.append_nil, dkR, dkB, dkP, ren_rk]) | ((with_reducible refine And.intro ?_ ?_); omega) | ((fail_if_success with_reducible refine Wz.h ?_); simp only [D.int, D.bool]))
        exact OutN.mk [0, 3, 4, 5, 10, 11] () (by kernel_rfl) trivial
      · repeat' (first | (with_reducible first | refine Wa.h ?_ | refine Ws.h ?_ | refine Wb.h fun K hK => ?_ | (refine hK _ ?_; clear hK K)) | ((with_reducible refine kQ ?_ ?_); kernel_rfl) | ((with_reducible refine k1 ?_ ?_); rfl) | ((with_reducible refine k0 ?_ ?_); rfl) | ((with_reducible apply kB) <;> first | rfl | intro h) | ((with_reducible refine kM ?_ ?_); rfl) | (with_reducible refine Wt.h (fun h => ?_) (fun h => ?_)) <;> try (exfalso; omega) | (with_reducible refine Wu.h (fun h => ?_) (fun h => ?_)) <;> try simp only [h] | ((fail_if_success with_reducible refine Wz.h ?_); simp (disch := omega) only [↓LD, LU, LS, LT, loadA_rf, seval, dpH, dpP]) | ((with_reducible refine And.intro ?_ ?_); omega) | ((fail_if_success with_reducible refine Wz.h ?_); simp only [D.int, D.bool]))
        refine callW_emb c1 [4] (by kernel_rfl) rfl rfl ?_
        rintro _ _ ⟨rfl, rfl⟩
        simp (disch := omega) only [↓LD, LU, LS, LT, loadA_rf, seval, ren, List.getElem?_nil, List.append_nil, dkR, dkB, dkP, ren_rk]
        repeat' (first | (with_reducible first | refine Wa.h ?_ | refine Ws.h ?_ | refine Wb.h fun K hK => ?_ | (refine hK _ ?_; clear hK K)) | ((with_reducible refine kQ ?_ ?_); kernel_rfl) | ((with_reducible refine k1 ?_ ?_); rfl) | ((with_reducible refine k0 ?_ ?_); rfl) | ((with_reducible apply kB) <;> first | rfl | intro h) | ((with_reducible refine kM ?_ ?_); rfl) | (with_reducible refine Wt.h (fun h => ?_) (fun h => ?_)) <;> try (exfalso; omega) | (with_reducible refine Wu.h (fun h => ?_) (fun h => ?_)) <;> try simp only [h] | ((fail_if_success with_reducible refine Wz.h ?_); simp (disch := omega) only [↓LD, LU, LS, LT, loadA_rf, seval, ren, List.getElem?_nil, List.append_nil, dkR, dkB, dkP, ren_rk]) | ((with_reducible refine And.intro ?_ ?_); omega) | ((fail_if_success with_reducible refine Wz.h ?_); simp only [D.int, D.bool]))
        exact OutN.mk [0, 3, 4, 5, 10, 11] () (by kernel_rfl) trivial
    rintro _ - s' hv
    refine thenQ_n ?_
    refine HS.view hv ?_
    clear hv s'
    refine HS.seq ?_
    refine HS.seq ?_
    repeat' (first | (with_reducible first | refine Wa.h ?_ | refine Wb.h fun K hK => ?_ | (refine hK _ ?_; clear hK K)) | ((with_reducible refine kQ ?_ ?_); kernel_rfl) | ((with_reducible refine k1 ?_ ?_); rfl) | ((with_reducible refine k0 ?_ ?_); rfl) | ((with_reducible apply kB) <;> first | rfl | intro h) | ((with_reducible refine kM ?_ ?_); rfl) | (with_reducible refine Wt.h (fun h => ?_) (fun h => ?_)) <;> try (exfalso; omega) | (with_reducible refine Wu.h (fun h => ?_) (fun h => ?_)) <;> try simp only [h] | ((fail_if_success with_reducible refine Wz.h ?_); simp (disch := omega) only [↓LD, LU, LS, LT, loadA_rf, seval]) | ((with_reducible refine And.intro ?_ ?_); omega) | ((fail_if_success with_reducible refine Wz.h ?_); simp only [D.int, D.bool]))
    refine HS.seq ?_
    refine HS.seq ?_
    repeat' (first | (with_reducible first | refine Wa.h ?_ | refine Wb.h fun K hK => ?_ | (refine hK _ ?_; clear hK K)) | ((with_reducible refine kQ ?_ ?_); kernel_rfl) | ((with_reducible refine k1 ?_ ?_); rfl) | ((with_reducible refine k0 ?_ ?_); rfl) | ((with_reducible apply kB) <;> first | rfl | intro h) | ((with_reducible refine kM ?_ ?_); rfl) | (with_reducible refine Wt.h (fun h => ?_) (fun h => ?_)) <;> try (exfalso; omega) | (with_reducible refine Wu.h (fun h => ?_) (fun h => ?_)) <;> try simp only [h] | ((fail_if_success with_reducible refine Wz.h ?_); simp (disch := omega) only [↓LD, LU, LS, LT, loadA_rf, seval]) | ((with_reducible refine And.intro ?_ ?_); omega) | ((fail_if_success with_reducible refine Wz.h ?_); simp only [D.int, D.bool]))
    refine HS.cut [0, 3, 4, 5] 3 (fun _ : Unit => ⟨frm 179 [(0, .f (fSt l)), (3, .pt 0 0), (4, dpP n), (5, D.int i)], dpH e1 e2 n ws w ps fuse dead works, []⟩) (fun _ => True) ?_ ?_
    · rcases n with _ | n
      · refine HS.loopG [0, 3, 4, 5, 10, 11, 12] (fun k : Nat => ⟨frm 179 [(0, .f (fSt l)), (3, .pt 0 0), (4, dpP 0), (5, D.int i), (10, .f (.s (S.map iF) S.length)), (11, .f (.s (S.map iF) S.length)), (12, D.int k)], dpH e1 e2 0 ws w ps fuse dead works, []⟩)
          (fun k => k ≤ S.length) (fun k => S.length - k) 0 (by kernel_rfl) (Nat.zero_le _) ?_
        rintro k hk
        repeat' (first | (with_reducible first | refine Wa.h ?_ | refine We.h fun K hK => ?_ | refine Wd.h fun K M hK hM => ?_ | (refine hK _ _ _ _ ?_; clear hK K; try clear hM M) | (refine hM ?_; clear hM M; try clear hK K) | refine Ws.h ?_ | refine Wb.h fun K hK => ?_ | (refine hK _ ?_; clear hK K)) | ((with_reducible refine kQ ?_ ?_); kernel_rfl) | ((with_reducible refine k1 ?_ ?_); rfl) | ((with_reducible refine k0 ?_ ?_); rfl) | ((with_reducible apply kB) <;> first | rfl | intro h) | ((with_reducible refine kM ?_ ?_); rfl) | (with_reducible refine Wt.h (fun h => ?_) (fun h => ?_)) <;> try (exfalso; omega) | (with_reducible refine Wu.h (fun h => ?_) (fun h => ?_)) <;> try simp only [h] | ((fail_if_success with_reducible refine Wz.h ?_); simp (disch := omega) only [↓LD, LU, LS, LT, loadA_rf, seval, dpH, dpP]) | ((with_reducible refine And.intro ?_ ?_); omega) | ((fail_if_success with_reducible refine Wz.h ?_); simp only [D.int, D.bool]))
        · exact Next.mk (k + 1) (by kernel_rfl) (by omega) (by omega)
        · exact OutS.mk () (by kernel_rfl) trivial
      · refine HS.loopG [0, 3, 4, 5, 10, 11, 12] (fun k : Nat => ⟨frm 179 [(0, .f (fSt l)), (3, .pt 0 0), (4, dpP (n + 1)), (5, D.int i), (10, .f (.s (S.map iF) S.length)), (11, .f (.s (S.map iF) S.length)), (12, D.int k)], dpH e1 e2 (n + 1) ws w ps fuse dead works, []⟩)
          (fun k => k ≤ S.length) (fun k => S.length - k) 0 (by kernel_rfl) (Nat.zero_le _) ?_
        rintro k hk
        repeat' (first | (with_reducible first | refine Wa.h ?_ | refine We.h fun K hK => ?_ | refine Wd.h fun K M hK hM => ?_ | (refine hK _ _ _ _ ?_; clear hK K; try clear hM M) | (refine hM ?_; clear hM M; try clear hK K) | refine Ws.h ?_ | refine Wb.h fun K hK => ?_ | (refine hK _ ?_; clear hK K)) | ((with_reducible refine kQ ?_ ?_); kernel_rfl) | ((with_reducible refine k1 ?_ ?_); rfl) | ((with_reducible refine k0 ?_ ?_); rfl) | ((with_reducible apply kB) <;> first | rfl | intro h) | ((with_reducible refine kM ?_ ?_); rfl) | (with_reducible refine Wt.h (fun h => ?_) (fun h => ?_)) <;> try (exfalso; omega) | (with_reducible refine Wu.h (fun h => ?_) (fun h => ?_)) <;> try simp only [h] | ((fail_if_success with_reducible refine Wz.h ?_); simp (disch := omega) only [↓LD, LU, LS, LT, loadA_rf, seval, dpH, dpP]) | ((with_reducible refine And.intro ?_ ?_); omega) | ((fail_if_success with_reducible refine Wz.h ?_); simp only [D.int, D.bool]))
        · exact Next.mk (k + 1) (by kernel_rfl) (by omega) (by omega)
        · exact OutS.mk () (by kernel_rfl) trivial
    rintro _ - s' hv
    refine blockQ_hit ?_
    refine thenQ_n ?_
    refine HS.view hv ?_
    clear hv s'
    refine HS.seq ?_
    repeat' (first | (with_reducible first | refine Wa.h ?_ | refine Wb.h fun K hK => ?_ | (refine hK _ ?_; clear hK K)) | ((with_reducible refine kQ ?_ ?_); kernel_rfl) | ((with_reducible refine k1 ?_ ?_); rfl) | ((with_reducible refine k0 ?_ ?_); rfl) | ((with_reducible apply kB) <;> first | rfl | intro h) | ((with_reducible refine kM ?_ ?_); rfl) | (with_reducible refine Wt.h (fun h => ?_) (fun h => ?_)) <;> try (exfalso; omega) | (with_reducible refine Wu.h (fun h => ?_) (fun h => ?_)) <;> try simp only [h] | ((fail_if_success with_reducible refine Wz.h ?_); simp (disch := omega) only [↓LD, LU, LS, LT, loadA_rf, seval]) | ((with_reducible refine And.intro ?_ ?_); omega) | ((fail_if_success with_reducible refine Wz.h ?_); simp only [D.int, D.bool]))
    rcases n with _ | n
    · refine HS.loopG [0, 3, 4, 5, 13] (fun j : Nat => ⟨frm 179 [(0, .f (fSt l)), (3, .pt 0 0), (4, dpP 0), (5, D.int i), (13, D.int ((j : Int) - 1))], dpH e1 e2 0 ws w ps fuse dead works, []⟩)
        (fun j => j ≤ 7) (fun j => 7 - j) 0 (by kernel_rfl) (Nat.zero_le _) ?_
      rintro j hj
      by_cases hj7 : j < 7
      · cases dead with
        | true =>
          have c1 := c_disk_Read e1 e2 0 ws fuse true works _ hrl.f2.ok (by omega) ((j : Int) - 1)
          have c2 := c_rd_ReadF w ps fuse true works ((j : Int) - 1) hrd
          rw [show rdD w ps true ((j : Int) - 1) = .f nilF from if_pos (.inl rfl)] at c2
          simp only [↓reduceIte] at c1
          repeat' (first | (with_reducible first | refine Wa.h ?_ | refine Ws.h ?_ | refine Wb.h fun K hK => ?_ | (refine hK _ ?_; clear hK K)) | ((with_reducible refine kQ ?_ ?_); kernel_rfl) | ((with_reducible refine k1 ?_ ?_); rfl) | ((with_reducible refine k0 ?_ ?_); rfl) | ((with_reducible apply kB) <;> first | rfl | intro h) | ((with_reducible refine kM ?_ ?_); rfl) | (with_reducible refine Wt.h (fun h => ?_) (fun h => ?_)) <;> try (exfalso; omega) | (with_reducible refine Wu.h (fun h => ?_) (fun h => ?_)) <;> try simp only [h] | ((fail_if_success with_reducible refine Wz.h ?_); simp (disch := omega) only [↓LD, LU, LS, LT, loadA_rf, seval, dpH, dpP]) | ((with_reducible refine And.intro ?_ ?_); omega) | ((fail_if_success with_reducible refine Wz.h ?_); simp only [D.int, D.bool]))
          refine callW_emb c1 [0, 1, 2] (by kernel_rfl) rfl rfl ?_
          rintro _ _ ⟨rfl, rfl⟩
          simp (disch := omega) only [↓LD, LU, LS, LT, loadA_rf, seval, ren, List.getElem?_nil, List.append_nil, dkR, dkB, dkP, ren_rk]
          repeat' (first | (with_reducible first | refine Wa.h ?_ | refine We.h fun K hK => ?_ | refine Wd.h fun K M hK hM => ?_ | (refine hK _ _ _ _ ?_; clear hK K; try clear hM M) | (refine hM ?_; clear hM M; try clear hK K) | refine Ws.h ?_ | refine Wb.h fun K hK => ?_ | (refine hK _ ?_; clear hK K)) | ((with_reducible refine kQ ?_ ?_); kernel_rfl) | ((with_reducible refine k1 ?_ ?_); rfl) | ((with_reducible refine k0 ?_ ?_); rfl) | ((with_reducible apply kB) <;> first | rfl | intro h) | ((with_reducible refine kM ?_ ?_); rfl) | (with_reducible refine Wt.h (fun h => ?_) (fun h => ?_)) <;> try (exfalso; omega) | (with_reducible refine Wu.h (fun h => ?_) (fun h => ?_)) <;> try simp only [h] | ((fail_if_success with_reducible refine Wz.h ?_); simp (disch := omega) only [↓LD, LU, LS, LT, loadA_rf, seval, ren, List.getElem?_nil, List.append_nil, dkR, dkB, dkP, ren_rk, rkB, elemsS_fY, bytes_map, bytes_nil0, bb_fold0]) | ((with_reducible refine And.intro ?_ ?_); omega) | ((fail_if_success with_reducible refine Wz.h ?_); simp only [D.int, D.bool]))
          refine callDr_emb c2 [3] (by kernel_rfl) rfl rfl ?_
          simp (disch := omega) only [↓LD, LU, LS, LT, loadA_rf, seval, ren, List.getElem?_nil, List.append_nil, dkR, dkB, dkP, ren_rk, rkB, elemsS_fY, bytes_map, bytes_nil0, bb_fold0]
          repeat' (first | (with_reducible first | refine Wa.h ?_ | refine We.h fun K hK => ?_ | refine Wd.h fun K M hK hM => ?_ | (refine hK _ _ _ _ ?_; clear hK K; try clear hM M) | (refine hM ?_; clear hM M; try clear hK K) | refine Ws.h ?_ | refine Wb.h fun K hK => ?_ | (refine hK _ ?_; clear hK K)) | ((with_reducible refine kQ ?_ ?_); kernel_rfl) | ((with_reducible refine k1 ?_ ?_); rfl) | ((with_reducible refine k0 ?_ ?_); rfl) | ((with_reducible apply kB) <;> first | rfl | intro h) | ((with_reducible refine kM ?_ ?_); rfl) | (with_reducible refine Wt.h (fun h => ?_) (fun h => ?_)) <;> try (exfalso; omega) | (with_reducible refine Wu.h (fun h => ?_) (fun h => ?_)) <;> try simp only [h] | ((fail_if_success with_reducible refine Wz.h ?_); simp (disch := omega) only [↓LD, LU, LS, LT, loadA_rf, seval, ren, List.getElem?_nil, List.append_nil, dkR, dkB, dkP, ren_rk, rkB, elemsS_fY, bytes_map, bytes_nil0, bb_fold0]) | ((with_reducible refine And.intro ?_ ?_); omega) | ((fail_if_success with_reducible refine Wz.h ?_); simp only [D.int, D.bool]))
          refine HS.loopG [0, 3, 4, 5, 13, 14, 15] (fun _ : Unit => ⟨frm 179 [(0, .f (fSt l)), (3, .pt 0 0), (4, dpP 0), (5, D.int i), (13, D.int ((j : Int) - 1)), (14, .f nilF), (15, D.int 0)], dpH e1 e2 0 ws w ps fuse true works, []⟩) (fun _ => True) (fun _ => 0) () (by kernel_rfl) trivial ?_
          rintro _ _
          repeat' (first | (with_reducible first | refine Wa.h ?_ | refine Ws.h ?_ | refine Wb.h fun K hK => ?_ | (refine hK _ ?_; clear hK K)) | ((with_reducible refine kQ ?_ ?_); kernel_rfl) | ((with_reducible refine k1 ?_ ?_); rfl) | ((with_reducible refine k0 ?_ ?_); rfl) | ((with_reducible apply kB) <;> first | rfl | intro h) | ((with_reducible refine kM ?_ ?_); rfl) | (with_reducible refine Wt.h (fun h => ?_) (fun h => ?_)) <;> try (exfalso; omega) | (with_reducible refine Wu.h (fun h => ?_) (fun h => ?_)) <;> try simp only [h] | ((fail_if_success with_reducible refine Wz.h ?_); simp (disch := omega) only [↓LD, LU, LS, LT, loadA_rf, seval]) | ((with_reducible refine And.intro ?_ ?_); omega) | ((fail_if_success with_reducible refine Wz.h ?_); simp only [D.int, D.bool]))
          rw [show (j : Int) - 1 + 1 = ((j + 1 : Nat) : Int) - 1 by omega]
          exact Next.mk (j + 1) (by kernel_rfl) (by omega) (by omega)
        | false =>
          have c2 := c_rd_ReadF w ps fuse false works ((j : Int) - 1) hrd
          cases hg : fGet e2 ((j : Int) - 1) with
          | none =>
            have c1 := c_disk_Read e1 e2 0 ws fuse false works _ hrl.f2.ok (by omega) ((j : Int) - 1)
            rw [hg] at c1
            simp only [Bool.false_eq_true, ↓reduceIte, orN] at c1
            have h0 := hrl.gone.2 hg
            have e : rdD w ps false ((j : Int) - 1) = .f nilF ∨ rdD w ps false ((j : Int) - 1) = .f (fY []) := by
              unfold rdD
              split
              · exact .inl rfl
              · exact .inr (by rw [h0])
            rcases e with e | e
            all_goals
              rw [e] at c2
              repeat' (first | (with_reducible first | refine Wa.h ?_ | refine Ws.h ?_ | refine Wb.h fun K hK => ?_ | (refine hK _ ?_; clear hK K)) | ((with_reducible refine kQ ?_ ?_); kernel_rfl) | ((with_reducible refine k1 ?_ ?_); rfl) | ((with_reducible refine k0 ?_ ?_); rfl) | ((with_reducible apply kB) <;> first | rfl | intro h) | ((with_reducible refine kM ?_ ?_); rfl) | (with_reducible refine Wt.h (fun h => ?_) (fun h => ?_)) <;> try (exfalso; omega) | (with_reducible refine Wu.h (fun h => ?_) (fun h => ?_)) <;> try simp only [h] | ((fail_if_success with_reducible refine Wz.h ?_); simp (disch := omega) only [↓LD, LU, LS, LT, loadA_rf, seval, dpH, dpP]) | ((with_reducible refine And.intro ?_ ?_); omega) | ((fail_if_success with_reducible refine Wz.h ?_); simp only [D.int, D.bool]))
              refine callW_emb c1 [0, 1, 2] (by kernel_rfl) rfl rfl ?_
              rintro _ _ ⟨rfl, rfl⟩
              simp (disch := omega) only [↓LD, LU, LS, LT, loadA_rf, seval, ren, List.getElem?_nil, List.append_nil, dkR, dkB, dkP, ren_rk]
              repeat' (first | (with_reducible first | refine Wa.h ?_ | refine We.h fun K hK => ?_ | refine Wd.h fun K M hK hM => ?_ | (refine hK _ _ _ _ ?_; clear hK K; try clear hM M) | (refine hM ?_; clear hM M; try clear hK K) | refine Ws.h ?_ | refine Wb.h fun K hK => ?_ | (refine hK _ ?_; clear hK K)) | ((with_reducible refine kQ ?_ ?_); kernel_rfl) | ((with_reducible refine k1 ?_ ?_); rfl) | ((with_reducible refine k0 ?_ ?_); rfl) | ((with_reducible apply kB) <;> first | rfl | intro h) | ((with_reducible refine kM ?_ ?_); rfl) | (with_reducible refine Wt.h (fun h => ?_) (fun h => ?_)) <;> try (exfalso; omega) | (with_reducible refine Wu.h (fun h => ?_) (fun h => ?_)) <;> try simp only [h] | ((fail_if_success with_reducible refine Wz.h ?_); simp (disch := omega) only [↓LD, LU, LS, LT, loadA_rf, seval, ren, List.getElem?_nil, List.append_nil, dkR, dkB, dkP, ren_rk, rkB, elemsS_fY, bytes_map, bytes_nil0, bb_fold0]) | ((with_reducible refine And.intro ?_ ?_); omega) | ((fail_if_success with_reducible refine Wz.h ?_); simp only [D.int, D.bool]))
              refine callDr_emb c2 [3] (by kernel_rfl) rfl rfl ?_
              simp (disch := omega) only [↓LD, LU, LS, LT, loadA_rf, seval, ren, List.getElem?_nil, List.append_nil, dkR, dkB, dkP, ren_rk, rkB, elemsS_fY, bytes_map, bytes_nil0, bb_fold0]
              repeat' (first | (with_reducible first | refine Wa.h ?_ | refine We.h fun K hK => ?_ | refine Wd.h fun K M hK hM => ?_ | (refine hK _ _ _ _ ?_; clear hK K; try clear hM M) | (refine hM ?_; clear hM M; try clear hK K) | refine Ws.h ?_ | refine Wb.h fun K hK => ?_ | (refine hK _ ?_; clear hK K)) | ((with_reducible refine kQ ?_ ?_); kernel_rfl) | ((with_reducible refine k1 ?_ ?_); rfl) | ((with_reducible refine k0 ?_ ?_); rfl) | ((with_reducible apply kB) <;> first | rfl | intro h) | ((with_reducible refine kM ?_ ?_); rfl) | (with_reducible refine Wt.h (fun h => ?_) (fun h => ?_)) <;> try (exfalso; omega) | (with_reducible refine Wu.h (fun h => ?_) (fun h => ?_)) <;> try simp only [h] | ((fail_if_success with_reducible refine Wz.h ?_); simp (disch := omega) only [↓LD, LU, LS, LT, loadA_rf, seval, ren, List.getElem?_nil, List.append_nil, dkR, dkB, dkP, ren_rk, rkB, elemsS_fY, bytes_map, bytes_nil0, bb_fold0]) | ((with_reducible refine And.intro ?_ ?_); omega) | ((fail_if_success with_reducible refine Wz.h ?_); simp only [D.int, D.bool]))
              refine HS.loopG [0, 3, 4, 5, 13, 14, 15] (fun _ : Unit => ⟨frm 179 [(0, .f (fSt l)), (3, .pt 0 0), (4, dpP 0), (5, D.int i), (13, D.int ((j : Int) - 1)), (14, .f nilF), (15, D.int 0)], dpH e1 e2 0 ws w ps fuse false works, []⟩) (fun _ => True) (fun _ => 0) () (by kernel_rfl) trivial ?_
              rintro _ _
              repeat' (first | (with_reducible first | refine Wa.h ?_ | refine Ws.h ?_ | refine Wb.h fun K hK => ?_ | (refine hK _ ?_; clear hK K)) | ((with_reducible refine kQ ?_ ?_); kernel_rfl) | ((with_reducible refine k1 ?_ ?_); rfl) | ((with_reducible refine k0 ?_ ?_); rfl) | ((with_reducible apply kB) <;> first | rfl | intro h) | ((with_reducible refine kM ?_ ?_); rfl) | (with_reducible refine Wt.h (fun h => ?_) (fun h => ?_)) <;> try (exfalso; omega) | (with_reducible refine Wu.h (fun h => ?_) (fun h => ?_)) <;> try simp only [h] | ((fail_if_success with_reducible refine Wz.h ?_); simp (disch := omega) only [↓LD, LU, LS, LT, loadA_rf, seval]) | ((with_reducible refine And.intro ?_ ?_); omega) | ((fail_if_success with_reducible refine Wz.h ?_); simp only [D.int, D.bool]))
              rw [show (j : Int) - 1 + 1 = ((j + 1 : Nat) : Int) - 1 by omega]
              exact Next.mk (j + 1) (by kernel_rfl) (by omega) (by omega)
          | some y =>
            have c1 := c_disk_ReadL e1 e2 0 ws fuse works _ hrl.f2.ok (by omega) ((j : Int) - 1) hg
            have hy := hrl.f2.ok.get hg
            have hrr : rdL w ps false ((j : Int) - 1) = y := by rw [← hrl.read, hg]; rfl
            have e : rdD w ps false ((j : Int) - 1) = .f (fY y) := by
              unfold rdD
              rw [if_neg, hrr]
              intro hc
              have h0 : rdL w ps false ((j : Int) - 1) = [] := by
                unfold rdL
                rcases hc with hc | hc | hc
                · cases hc
                · rw [if_neg (by omega)]
                · split
                  · rw [List.getD_eq_getElem?_getD, List.getElem?_eq_none (by omega)]; rfl
                  · rfl
              exact hy.1 (hrr.symm.trans h0)
            rw [e] at c2
            have htk : List.take y.length (List.map uF y) = List.map uF y := by rw [List.take_of_length_le]; simp
            repeat' (first | (with_reducible first | refine Wa.h ?_ | refine Ws.h ?_ | refine Wb.h fun K hK => ?_ | (refine hK _ ?_; clear hK K)) | ((with_reducible refine kQ ?_ ?_); kernel_rfl) | ((with_reducible refine k1 ?_ ?_); rfl) | ((with_reducible refine k0 ?_ ?_); rfl) | ((with_reducible apply kB) <;> first | rfl | intro h) | ((with_reducible refine kM ?_ ?_); rfl) | (with_reducible refine Wt.h (fun h => ?_) (fun h => ?_)) <;> try (exfalso; omega) | (with_reducible refine Wu.h (fun h => ?_) (fun h => ?_)) <;> try simp only [h] | ((fail_if_success with_reducible refine Wz.h ?_); simp (disch := omega) only [↓LD, LU, LS, LT, loadA_rf, seval, dpH, dpP]) | ((with_reducible refine And.intro ?_ ?_); omega) | ((fail_if_success with_reducible refine Wz.h ?_); simp only [D.int, D.bool]))
            refine callW_emb c1 [0, 1, 2] (by kernel_rfl) rfl rfl ?_
            rintro _ _ ⟨rfl, rfl⟩
            simp (disch := omega) only [↓LD, LU, LS, LT, loadA_rf, seval, ren, List.getElem?_nil, List.append_nil, dkR, dkB, dkP, ren_rk, rdP, List.cons_append, List.nil_append]
            repeat' (first | (with_reducible first | refine Wa.h ?_ | refine We.h fun K hK => ?_ | refine Wd.h fun K M hK hM => ?_ | (refine hK _ _ _ _ ?_; clear hK K; try clear hM M) | (refine hM ?_; clear hM M; try clear hK K) | refine Ws.h ?_ | refine Wb.h fun K hK => ?_ | (refine hK _ ?_; clear hK K)) | ((with_reducible refine kQ ?_ ?_); kernel_rfl) | ((with_reducible refine k1 ?_ ?_); rfl) | ((with_reducible refine k0 ?_ ?_); rfl) | ((with_reducible apply kB) <;> first | rfl | intro h) | ((with_reducible refine kM ?_ ?_); rfl) | (with_reducible refine Wt.h (fun h => ?_) (fun h => ?_)) <;> try (exfalso; omega) | (with_reducible refine Wu.h (fun h => ?_) (fun h => ?_)) <;> try simp only [h] | ((fail_if_success with_reducible refine Wz.h ?_); simp (disch := omega) only [↓LD, LU, LS, LT, loadA_rf, seval, ren, List.getElem?_nil, List.append_nil, dkR, dkB, dkP, ren_rk, rkB, elemsS_fY, htk, bytes_map, bb_fold0, rdP, List.length_map]) | ((with_reducible refine And.intro ?_ ?_); omega) | ((fail_if_success with_reducible refine Wz.h ?_); simp only [D.int, D.bool]))
            refine callDr_emb c2 [3] (by kernel_rfl) rfl rfl ?_
            simp (disch := omega) only [↓LD, LU, LS, LT, loadA_rf, seval, ren, List.getElem?_nil, List.append_nil, dkR, dkB, dkP, ren_rk, rkB, elemsS_fY, bytes_map, bytes_nil0, bb_fold0]
            repeat' (first | (with_reducible first | refine Wa.h ?_ | refine We.h fun K hK => ?_ | refine Wd.h fun K M hK hM => ?_ | (refine hK _ _ _ _ ?_; clear hK K; try clear hM M) | (refine hM ?_; clear hM M; try clear hK K) | refine Ws.h ?_ | refine Wb.h fun K hK => ?_ | (refine hK _ ?_; clear hK K)) | ((with_reducible refine kQ ?_ ?_); kernel_rfl) | ((with_reducible refine k1 ?_ ?_); rfl) | ((with_reducible refine k0 ?_ ?_); rfl) | ((with_reducible apply kB) <;> first | rfl | intro h) | ((with_reducible refine kM ?_ ?_); rfl) | (with_reducible refine Wt.h (fun h => ?_) (fun h => ?_)) <;> try (exfalso; omega) | (with_reducible refine Wu.h (fun h => ?_) (fun h => ?_)) <;> try simp only [h] | ((fail_if_success with_reducible refine Wz.h ?_); simp (disch := omega) only [↓LD, LU, LS, LT, loadA_rf, seval, ren, List.getElem?_nil, List.append_nil, dkR, dkB, dkP, ren_rk, rkB, elemsS_fY, bytes_map, bytes_nil0, bb_fold0]) | ((with_reducible refine And.intro ?_ ?_); omega) | ((fail_if_success with_reducible refine Wz.h ?_); simp only [D.int, D.bool]))
            refine HS.loopG [0, 3, 4, 5, 13, 14, 15] (fun v : Nat × Bs => ⟨frm 179 [(0, .f (fSt l)), (3, .pt 0 0), (4, dpP 0), (5, D.int i), (13, D.int ((j : Int) - 1)), (14, .sl 4 0 y.length), (15, D.int v.1)], dpH e1 e2 0 ws w ps fuse false works ++ [.data 5 (v.2.map uF)], []⟩)
              (fun v => v.1 ≤ y.length ∧ v.2.length = y.length) (fun v => y.length - v.1) (0, y) (by kernel_rfl) ⟨Nat.zero_le _, rfl⟩ ?_
            rintro ⟨m, z⟩ ⟨hm, hz⟩
            dsimp only at hm hz
            by_cases hmy : m < y.length
            · repeat' (first | (with_reducible first | refine Wa.h ?_ | refine Ws.h ?_ | refine Wb.h fun K hK => ?_ | (refine hK _ ?_; clear hK K)) | ((with_reducible refine kQ ?_ ?_); kernel_rfl) | ((with_reducible refine k1 ?_ ?_); rfl) | ((with_reducible refine k0 ?_ ?_); rfl) | ((with_reducible apply kB) <;> first | rfl | intro h) | ((with_reducible refine kM ?_ ?_); rfl) | (with_reducible refine Wt.h (fun h => ?_) (fun h => ?_)) <;> try (exfalso; omega) | (with_reducible refine Wu.h (fun h => ?_) (fun h => ?_)) <;> try simp only [h] | ((fail_if_success with_reducible refine Wz.h ?_); simp (disch := omega) only [↓LD, LU, LS, LT, loadA_rf, seval, dpH, List.cons_append, List.nil_append]) | ((with_reducible refine And.intro ?_ ?_); omega) | ((fail_if_success with_reducible refine Wz.h ?_); simp only [D.int, D.bool]))
              rw [set_inc]
              exact Next.mk (m + 1, z.set m (gt z m + 1)) (by kernel_rfl) ⟨by dsimp only; omega, by dsimp only; rw [List.length_set, hz]⟩ (by dsimp only; omega)
            · repeat' (first | (with_reducible first | refine Wa.h ?_ | refine Ws.h ?_ | refine Wb.h fun K hK => ?_ | (refine hK _ ?_; clear hK K)) | ((with_reducible refine kQ ?_ ?_); kernel_rfl) | ((with_reducible refine k1 ?_ ?_); rfl) | ((with_reducible refine k0 ?_ ?_); rfl) | ((with_reducible apply kB) <;> first | rfl | intro h) | ((with_reducible refine kM ?_ ?_); rfl) | (with_reducible refine Wt.h (fun h => ?_) (fun h => ?_)) <;> try (exfalso; omega) | (with_reducible refine Wu.h (fun h => ?_) (fun h => ?_)) <;> try simp only [h] | ((fail_if_success with_reducible refine Wz.h ?_); simp (disch := omega) only [↓LD, LU, LS, LT, loadA_rf, seval]) | ((with_reducible refine And.intro ?_ ?_); omega) | ((fail_if_success with_reducible refine Wz.h ?_); simp only [D.int, D.bool]))
              rw [show (j : Int) - 1 + 1 = ((j + 1 : Nat) : Int) - 1 by omega]
              exact Next.mk (j + 1) (by kernel_rfl) (by omega) (by omega)
      · repeat' (first | (with_reducible first | refine Wa.h ?_ | refine Ws.h ?_ | refine Wb.h fun K hK => ?_ | (refine hK _ ?_; clear hK K)) | ((with_reducible refine kQ ?_ ?_); kernel_rfl) | ((with_reducible refine k1 ?_ ?_); rfl) | ((with_reducible refine k0 ?_ ?_); rfl) | ((with_reducible apply kB) <;> first | rfl | intro h) | ((with_reducible refine kM ?_ ?_); rfl) | (with_reducible refine Wt.h (fun h => ?_) (fun h => ?_)) <;> try (exfalso; omega) | (with_reducible refine Wu.h (fun h => ?_) (fun h => ?_)) <;> try simp only [h] | ((fail_if_success with_reducible refine Wz.h ?_); simp (disch := omega) only [↓LD, LU, LS, LT, loadA_rf, seval]) | ((with_reducible refine And.intro ?_ ?_); omega) | ((fail_if_success with_reducible refine Wz.h ?_); simp only [D.int, D.bool]))
        exact Next.mk (i + 1, ⟨e1, e2, 0, ws, w, ps, fuse, dead, works⟩) (by kernel_rfl) ⟨by dsimp only; omega, hJ⟩ (by dsimp only; omega)
    · refine HS.loopG [0, 3, 4, 5, 13] (fun j : Nat => ⟨frm 179 [(0, .f (fSt l)), (3, .pt 0 0), (4, dpP (n + 1)), (5, D.int i), (13, D.int ((j : Int) - 1))], dpH e1 e2 (n + 1) ws w ps fuse dead works, []⟩)
        (fun j => j ≤ 7) (fun j => 7 - j) 0 (by kernel_rfl) (Nat.zero_le _) ?_
      rintro j hj
      by_cases hj7 : j < 7
      · cases dead with
        | true =>
          have c1 := c_disk_Read e1 e2 (n + 1) ws fuse true works _ hrl.f2.ok (by omega) ((j : Int) - 1)
          have c2 := c_rd_ReadF w ps fuse true works ((j : Int) - 1) hrd
          rw [show rdD w ps true ((j : Int) - 1) = .f nilF from if_pos (.inl rfl)] at c2
          simp only [↓reduceIte] at c1
          repeat' (first | (with_reducible first | refine Wa.h ?_ | refine Ws.h ?_ | refine Wb.h fun K hK => ?_ | (refine hK _ ?_; clear hK K)) | ((with_reducible refine kQ ?_ ?_); kernel_rfl) | ((with_reducible refine k1 ?_ ?_); rfl) | ((with_reducible refine k0 ?_ ?_); rfl) | ((with_reducible apply kB) <;> first | rfl | intro h) | ((with_reducible refine kM ?_ ?_); rfl) | (with_reducible refine Wt.h (fun h => ?_) (fun h => ?_)) <;> try (exfalso; omega) | (with_reducible refine Wu.h (fun h => ?_) (fun h => ?_)) <;> try simp only [h] | ((fail_if_success with_reducible refine Wz.h ?_); simp (disch := omega) only [↓LD, LU, LS, LT, loadA_rf, seval, dpH, dpP]) | ((with_reducible refine And.intro ?_ ?_); omega) | ((fail_if_success with_reducible refine Wz.h ?_); simp only [D.int, D.bool]))
          refine callW_emb c1 [0, 1, 2, 3] (by kernel_rfl) rfl rfl ?_
          rintro _ _ ⟨rfl, rfl⟩
          simp (disch := omega) only [↓LD, LU, LS, LT, loadA_rf, seval, ren, List.getElem?_nil, List.append_nil, dkR, dkB, dkP, ren_rk]
          repeat' (first | (with_reducible first | refine Wa.h ?_ | refine We.h fun K hK => ?_ | refine Wd.h fun K M hK hM => ?_ | (refine hK _ _ _ _ ?_; clear hK K; try clear hM M) | (refine hM ?_; clear hM M; try clear hK K) | refine Ws.h ?_ | refine Wb.h fun K hK => ?_ | (refine hK _ ?_; clear hK K)) | ((with_reducible refine kQ ?_ ?_); kernel_rfl) | ((with_reducible refine k1 ?_ ?_); rfl) | ((with_reducible refine k0 ?_ ?_); rfl) | ((with_reducible apply kB) <;> first | rfl | intro h) | ((with_reducible refine kM ?_ ?_); rfl) | (with_reducible refine Wt.h (fun h => ?_) (fun h => ?_)) <;> try (exfalso; omega) | (with_reducible refine Wu.h (fun h => ?_) (fun h => ?_)) <;> try simp only [h] | ((fail_if_success with_reducible refine Wz.h ?_); simp (disch := omega) only [↓LD, LU, LS, LT, loadA_rf, seval, ren, List.getElem?_nil, List.append_nil, dkR, dkB, dkP, ren_rk, rkB, elemsS_fY, bytes_map, bytes_nil0, bb_fold0]) | ((with_reducible refine And.intro ?_ ?_); omega) | ((fail_if_success with_reducible refine Wz.h ?_); simp only [D.int, D.bool]))
          refine callDr_emb c2 [4] (by kernel_rfl) rfl rfl ?_
          simp (disch := omega) only [↓LD, LU, LS, LT, loadA_rf, seval, ren, List.getElem?_nil, List.append_nil, dkR, dkB, dkP, ren_rk, rkB, elemsS_fY, bytes_map, bytes_nil0, bb_fold0]
          repeat' (first | (with_reducible first | refine Wa.h ?_ | refine We.h fun K hK => ?_ | refine Wd.h fun K M hK hM => ?_ | (refine hK _ _ _ _ ?_; clear hK K; try clear hM M) | (refine hM ?_; clear hM M; try clear hK K) | refine Ws.h ?_ | refine Wb.h fun K hK => ?_ | (refine hK _ ?_; clear hK K)) | ((with_reducible refine kQ ?_ ?_); kernel_rfl) | ((with_reducible refine k1 ?_ ?_); rfl) | ((with_reducible refine k0 ?_ ?_); rfl) | ((with_reducible apply kB) <;> first | rfl | intro h) | ((with_reducible refine kM ?_ ?_); rfl) | (with_reducible refine Wt.h (fun h => ?_) (fun h => ?_)) <;> try (exfalso; omega) | (with_reducible refine Wu.h (fun h => ?_) (fun h => ?_)) <;> try simp only [h] | ((fail_if_success with_reducible refine Wz.h ?_); simp (disch := omega) only [↓LD, LU, LS, LT, loadA_rf, seval, ren, List.getElem?_nil, List.append_nil, dkR, dkB, dkP, ren_rk, rkB, elemsS_fY, bytes_map, bytes_nil0, bb_fold0]) | ((with_reducible refine And.intro ?_ ?_); omega) | ((fail_if_success with_reducible refine Wz.h ?_); simp only [D.int, D.bool]))
          refine HS.loopG [0, 3, 4, 5, 13, 14, 15] (fun _ : Unit => ⟨frm 179 [(0, .f (fSt l)), (3, .pt 0 0), (4, dpP (n + 1)), (5, D.int i), (13, D.int ((j : Int) - 1)), (14, .f nilF), (15, D.int 0)], dpH e1 e2 (n + 1) ws w ps fuse true works, []⟩) (fun _ => True) (fun _ => 0) () (by kernel_rfl) trivial ?_
          rintro _ _
          repeat' (first | (with_reducible first | refine Wa.h ?_ | refine Ws.h ?_ | refine Wb.h fun K hK => ?_ | (refine hK _ ?_; clear hK K)) | ((with_reducible refine kQ ?_ ?_); kernel_rfl) | ((with_reducible refine k1 ?_ ?_); rfl) | ((with_reducible refine k0 ?_ ?_); rfl) | ((with_reducible apply kB) <;> first | rfl | intro h) | ((with_reducible refine kM ?_ ?_); rfl) | (with_reducible refine Wt.h (fun h => ?_) (fun h => ?_)) <;> try (exfalso; omega) | (with_reducible refine Wu.h (fun h => ?_) (fun h => ?_)) <;> try simp only [h] | ((fail_if_success with_reducible refine Wz.h ?_); simp (disch := omega) only [↓LD, LU, LS, LT, loadA_rf, seval]) | ((with_reducible refine And.intro ?_ ?_); omega) | ((fail_if_success with_reducible refine Wz.h ?_); simp only [D.int, D.bool]))
          rw [show (j : Int) - 1 + 1 = ((j + 1 : Nat) : Int) - 1 by omega]
          exact Next.mk (j + 1) (by kernel_rfl) (by omega) (by omega)
        | false =>
          have c2 := c_rd_ReadF w ps fuse false works ((j : Int) - 1) hrd
          cases hg : fGet e2 ((j : Int) - 1) with
          | none =>
            have c1 := c_disk_Read e1 e2 (n + 1) ws fuse false works _ hrl.f2.ok (by omega) ((j : Int) - 1)
            rw [hg] at c1
            simp only [Bool.false_eq_true, ↓reduceIte, orN] at c1
            have h0 := hrl.gone.2 hg
            have e : rdD w ps false ((j : Int) - 1) = .f nilF ∨ rdD w ps false ((j : Int) - 1) = .f (fY []) := by
              unfold rdD
              split
              · exact .inl rfl
              · exact .inr (by rw [h0])
            rcases e with e | e
            all_goals
              rw [e] at c2
              repeat' (first | (with_reducible first | refine Wa.h ?_ | refine Ws.h ?_ | refine Wb.h fun K hK => ?_ | (refine hK _ ?_; clear hK K)) | ((with_reducible refine kQ ?_ ?_); kernel_rfl) | ((with_reducible refine k1 ?_ ?_); rfl) | ((with_reducible refine k0 ?_ ?_); rfl) | ((with_reducible apply kB) <;> first | rfl | intro h) | ((with_reducible refine kM ?_ ?_); rfl) | (with_reducible refine Wt.h (fun h => ?_) (fun h => ?_)) <;> try (exfalso; omega) | (with_reducible refine Wu.h (fun h => ?_) (fun h => ?_)) <;> try simp only [h] | ((fail_if_success with_reducible refine Wz.h ?_); simp (disch := omega) only [↓LD, LU, LS, LT, loadA_rf, seval, dpH, dpP]) | ((with_reducible refine And.intro ?_ ?_); omega) | ((fail_if_success with_reducible refine Wz.h ?_); simp only [D.int, D.bool]))
              refine callW_emb c1 [0, 1, 2, 3] (by kernel_rfl) rfl rfl ?_
              rintro _ _ ⟨rfl, rfl⟩
              simp (disch := omega) only [↓LD, LU, LS, LT, loadA_rf, seval, ren, List.getElem?_nil, List.append_nil, dkR, dkB, dkP, ren_rk]
              repeat' (first | (with_reducible first | refine Wa.h ?_ | refine We.h fun K hK => ?_ | refine Wd.h fun K M hK hM => ?_ | (refine hK _ _ _ _ ?_; clear hK K; try clear hM M) | (refine hM ?_; clear hM M; try clear hK K) | refine Ws.h ?_ | refine Wb.h fun K hK => ?_ | (refine hK _ ?_; clear hK K)) | ((with_reducible refine kQ ?_ ?_); kernel_rfl) | ((with_reducible refine k1 ?_ ?_); rfl) | ((with_reducible refine k0 ?_ ?_); rfl) | ((with_reducible apply kB) <;> first | rfl | intro h) | ((with_reducible refine kM ?_ ?_); rfl) | (with_reducible refine Wt.h (fun h => ?_) (fun h => ?_)) <;> try (exfalso; omega) | (with_reducible refine Wu.h (fun h => ?_) (fun h => ?_)) <;> try simp only [h] | ((fail_if_success with_reducible refine Wz.h ?_); simp (disch := omega) only [↓LD, LU, LS, LT, loadA_rf, seval, ren, List.getElem?_nil, List.append_nil, dkR, dkB, dkP, ren_rk, rkB, elemsS_fY, bytes_map, bytes_nil0, bb_fold0]) | ((with_reducible refine And.intro ?_ ?_); omega) | ((fail_if_success with_reducible refine Wz.h ?_); simp only [D.int, D.bool]))
              refine callDr_emb c2 [4] (by kernel_rfl) rfl rfl ?_
              simp (disch := omega) only [↓LD, LU, LS, LT, loadA_rf, seval, ren, List.getElem?_nil, List.append_nil, dkR, dkB, dkP, ren_rk, rkB, elemsS_fY, bytes_map, bytes_nil0, bb_fold0]
              repeat' (first | (with_reducible first | refine Wa.h ?_ | refine We.h fun K hK => ?_ | refine Wd.h fun K M hK hM => ?_ | (refine hK _ _ _ _ ?_; clear hK K; try clear hM M) | (refine hM ?_; clear hM M; try clear hK K) | refine Ws.h ?_ | refine Wb.h fun K hK => ?_ | (refine hK _ ?_; clear hK K)) | ((with_reducible refine kQ ?_ ?_); kernel_rfl) | ((with_reducible refine k1 ?_ ?_); rfl) | ((with_reducible refine k0 ?_ ?_); rfl) | ((with_reducible apply kB) <;> first | rfl | intro h) | ((with_reducible refine kM ?_ ?_); rfl) | (with_reducible refine Wt.h (fun h => ?_) (fun h => ?_)) <;> try (exfalso; omega) | (with_reducible refine Wu.h (fun h => ?_) (fun h => ?_)) <;> try simp only [h] | ((fail_if_success with_reducible refine Wz.h ?_); simp (disch := omega) only [↓LD, LU, LS, LT, loadA_rf, seval, ren, List.getElem?_nil, List.append_nil, dkR, dkB, dkP, ren_rk, rkB, elemsS_fY, bytes_map, bytes_nil0, bb_fold0]) | ((with_reducible refine And.intro ?_ ?_); omega) | ((fail_if_success with_reducible refine Wz.h ?_); simp only [D.int, D.bool]))
              refine HS.loopG [0, 3, 4, 5, 13, 14, 15] (fun _ : Unit => ⟨frm 179 [(0, .f (fSt l)), (3, .pt 0 0), (4, dpP (n + 1)), (5, D.int i), (13, D.int ((j : Int) - 1)), (14, .f nilF), (15, D.int 0)], dpH e1 e2 (n + 1) ws w ps fuse false works, []⟩) (fun _ => True) (fun _ => 0) () (by kernel_rfl) trivial ?_
              rintro _ _
              repeat' (first | (with_reducible first | refine Wa.h ?_ | refine Ws.h ?_ | refine Wb.h fun K hK => ?_ | (refine hK _ ?_; clear hK K)) | ((with_reducible refine kQ ?_ ?_); kernel_rfl) | ((with_reducible refine k1 ?_ ?_); rfl) | ((with_reducible refine k0 ?_ ?_); rfl) | ((with_reducible apply kB) <;> first | rfl | intro h) | ((with_reducible refine kM ?_ ?_); rfl) | (with_reducible refine Wt.h (fun h => ?_) (fun h => ?_)) <;> try (exfalso; omega) | (with_reducible refine Wu.h (fun h => ?_) (fun h => ?_)) <;> try simp only [h] | ((fail_if_success with_reducible refine Wz.h ?_); simp (disch := omega) only [↓LD, LU, LS, LT, loadA_rf, seval]) | ((with_reducible refine And.intro ?_ ?_); omega) | ((fail_if_success with_reducible refine Wz.h ?_); simp only [D.int, D.bool]))
              rw [show (j : Int) - 1 + 1 = ((j + 1 : Nat) : Int) - 1 by omega]
              exact Next.mk (j + 1) (by kernel_rfl) (by omega) (by omega)
          | some y =>
            have c1 := c_disk_ReadL e1 e2 (n + 1) ws fuse works _ hrl.f2.ok (by omega) ((j : Int) - 1) hg
            have hy := hrl.f2.ok.get hg
            have hrr : rdL w ps false ((j : Int) - 1) = y := by rw [← hrl.read, hg]; rfl
            have e : rdD w ps false ((j : Int) - 1) = .f (fY y) := by
              unfold rdD
              rw [if_neg, hrr]
              intro hc
              have h0 : rdL w ps false ((j : Int) - 1) = [] := by
                unfold rdL
                rcases hc with hc | hc | hc
                · cases hc
                · rw [if_neg (by omega)]
                · split
                  · rw [List.getD_eq_getElem?_getD, List.getElem?_eq_none (by omega)]; rfl
                  · rfl
              exact hy.1 (hrr.symm.trans h0)
            rw [e] at c2
            have htk : List.take y.length (List.map uF y) = List.map uF y := by rw [List.take_of_length_le]; simp
            repeat' (first | (with_reducible first | refine Wa.h ?_ | refine Ws.h ?_ | refine Wb.h fun K hK => ?_ | (refine hK _ ?_; clear hK K)) | ((with_reducible refine kQ ?_ ?_); kernel_rfl) | ((with_reducible refine k1 ?_ ?_); rfl) | ((with_reducible refine k0 ?_ ?_); rfl) | ((with_reducible apply kB) <;> first | rfl | intro h) | ((with_reducible refine kM ?_ ?_); rfl) | (with_reducible refine Wt.h (fun h => ?_) (fun h => ?_)) <;> try (exfalso; omega) | (with_reducible refine Wu.h (fun h => ?_) (fun h => ?_)) <;> try simp only [h] | ((fail_if_success with_reducible refine Wz.h ?_); simp (disch := omega) only [↓LD, LU, LS, LT, loadA_rf, seval, dpH, dpP]) | ((with_reducible refine And.intro ?_ ?_); omega) | ((fail_if_success with_reducible refine Wz.h ?_); simp only [D.int, D.bool]))
            refine callW_emb c1 [0, 1, 2, 3] (by kernel_rfl) rfl rfl ?_
            rintro _ _ ⟨rfl, rfl⟩
            simp (disch := omega) only [↓LD, LU, LS, LT, loadA_rf, seval, ren, List.getElem?_nil, List.append_nil, dkR, dkB, dkP, ren_rk, rdP, List.cons_append, List.nil_append]
            repeat' (first | (with_reducible first | refine Wa.h ?_ | refine We.h fun K hK => ?_ | refine Wd.h fun K M hK hM => ?_ | (refine hK _ _ _ _ ?_; clear hK K; try clear hM M) | (refine hM ?_; clear hM M; try clear hK K) | refine Ws.h ?_ | refine Wb.h fun K hK => ?_ | (refine hK _ ?_; clear hK K)) | ((with_reducible refine kQ ?_ ?_); kernel_rfl) | ((with_reducible refine k1 ?_ ?_); rfl) | ((with_reducible refine k0 ?_ ?_); rfl) | ((with_reducible apply kB) <;> first | rfl | intro h) | ((with_reducible refine kM ?_ ?_); rfl) | (with_reducible refine Wt.h (fun h => ?_) (fun h => ?_)) <;> try (exfalso; omega) | (with_reducible refine Wu.h (fun h => ?_) (fun h => ?_)) <;> try simp only [h] | ((fail_if_success with_reducible refine Wz.h ?_); simp (disch := omega) only [↓LD, LU, LS, LT, loadA_rf, seval, ren, List.getElem?_nil, List.append_nil, dkR, dkB, dkP, ren_rk, rkB, elemsS_fY, htk, bytes_map, bb_fold0, rdP, List.length_map]) | ((with_reducible refine And.intro ?_ ?_); omega) | ((fail_if_success with_reducible refine Wz.h ?_); simp only [D.int, D.bool]))
            refine callDr_emb c2 [4] (by kernel_rfl) rfl rfl ?_
            simp (disch := omega) only [↓LD, LU, LS, LT, loadA_rf, seval, ren, List.getElem?_nil, List.append_nil, dkR, dkB, dkP, ren_rk, rkB, elemsS_fY, bytes_map, bytes_nil0, bb_fold0]
            repeat' (first | (with_reducible first | refine Wa.h ?_ | refine We.h fun K hK => ?_ | refine Wd.h fun K M hK hM => ?_ | (refine hK _ _ _ _ ?_; clear hK K; try clear hM M) | (refine hM ?_; clear hM M; try clear hK K) | refine Ws.h ?_ | refine Wb.h fun K hK => ?_ | (refine hK _ ?_; clear hK K)) | ((with_reducible refine kQ ?_ ?_); kernel_rfl) | ((with_reducible refine k1 ?_ ?_); rfl) | ((with_reducible refine k0 ?_ ?_); rfl) | ((with_reducible apply kB) <;> first | rfl | intro h) | ((with_reducible refine kM ?_ ?_); rfl) | (with_reducible refine Wt.h (fun h => ?_) (fun h => ?_)) <;> try (exfalso; omega) | (with_reducible refine Wu.h (fun h => ?_) (fun h => ?_)) <;> try simp only [h] | ((fail_if_success with_reducible refine Wz.h ?_); simp (disch := omega) only [↓LD, LU, LS, LT, loadA_rf, seval, ren, List.getElem?_nil, List.append_nil, dkR, dkB, dkP, ren_rk, rkB, elemsS_fY, bytes_map, bytes_nil0, bb_fold0]) | ((with_reducible refine And.intro ?_ ?_); omega) | ((fail_if_success with_reducible refine Wz.h ?_); simp only [D.int, D.bool]))
            refine HS.loopG [0, 3, 4, 5, 13, 14, 15] (fun v : Nat × Bs => ⟨frm 179 [(0, .f (fSt l)), (3, .pt 0 0), (4, dpP (n + 1)), (5, D.int i), (13, D.int ((j : Int) - 1)), (14, .sl 5 0 y.length), (15, D.int v.1)], dpH e1 e2 (n + 1) ws w ps fuse false works ++ [.data 5 (v.2.map uF)], []⟩)
              (fun v => v.1 ≤ y.length ∧ v.2.length = y.length) (fun v => y.length - v.1) (0, y) (by kernel_rfl) ⟨Nat.zero_le _, rfl⟩ ?_
            rintro ⟨m, z⟩ ⟨hm, hz⟩
            dsimp only at hm hz
            by_cases hmy : m < y.length
            · repeat' (first | (with_reducible first | refine Wa.h ?_ | refine Ws.h ?_ | refine Wb.h fun K hK => ?_ | (refine hK _ ?_; clear hK K)) | ((with_reducible refine kQ ?_ ?_); kernel_rfl) | ((with_reducible refine k1 ?_ ?_); rfl) | ((with_reducible refine k0 ?_ ?_); rfl) | ((with_reducible apply kB) <;> first | rfl | intro h) | ((with_reducible refine kM ?_ ?_); rfl) | (with_reducible refine Wt.h (fun h => ?_) (fun h => ?_)) <;> try (exfalso; omega) | (with_reducible refine Wu.h (fun h => ?_) (fun h => ?_)) <;> try simp only [h] | ((fail_if_success with_reducible refine Wz.h ?_); simp (disch := omega) only [↓LD, LU, LS, LT, loadA_rf, seval, dpH, List.cons_append, List.nil_append]) | ((with_reducible refine And.intro ?_ ?_); omega) | ((fail_if_success with_reducible refine Wz.h ?_); simp only [D.int, D.bool]))
              rw [set_inc]
              exact Next.mk (m + 1, z.set m (gt z m + 1)) (by kernel_rfl) ⟨by dsimp only; omega, by dsimp only; rw [List.length_set, hz]⟩ (by dsimp only; omega)
            · repeat' (first | (with_reducible first | refine Wa.h ?_ | refine Ws.h ?_ | refine Wb.h fun K hK => ?_ | (refine hK _ ?_; clear hK K)) | ((with_reducible refine kQ ?_ ?_); kernel_rfl) | ((with_reducible refine k1 ?_ ?_); rfl) | ((with_reducible refine k0 ?_ ?_); rfl) | ((with_reducible apply kB) <;> first | rfl | intro h) | ((with_reducible refine kM ?_ ?_); rfl) | (with_reducible refine Wt.h (fun h => ?_) (fun h => ?_)) <;> try (exfalso; omega) | (with_reducible refine Wu.h (fun h => ?_) (fun h => ?_)) <;> try simp only [h] | ((fail_if_success with_reducible refine Wz.h ?_); simp (disch := omega) only [↓LD, LU, LS, LT, loadA_rf, seval]) | ((with_reducible refine And.intro ?_ ?_); omega) | ((fail_if_success with_reducible refine Wz.h ?_); simp only [D.int, D.bool]))
              rw [show (j : Int) - 1 + 1 = ((j + 1 : Nat) : Int) - 1 by omega]
              exact Next.mk (j + 1) (by kernel_rfl) (by omega) (by omega)
      · repeat' (first | (with_reducible first | refine Wa.h ?_ | refine Ws.h ?_ | refine Wb.h fun K hK => ?_ | (refine hK _ ?_; clear hK K)) | ((with_reducible refine kQ ?_ ?_); kernel_rfl) | ((with_reducible refine k1 ?_ ?_); rfl) | ((with_reducible refine k0 ?_ ?_); rfl) | ((with_reducible apply kB) <;> first | rfl | intro h) | ((with_reducible refine kM ?_ ?_); rfl) | (with_reducible refine Wt.h (fun h => ?_) (fun h => ?_)) <;> try (exfalso; omega) | (with_reducible refine Wu.h (fun h => ?_) (fun h => ?_)) <;> try simp only [h] | ((fail_if_success with_reducible refine Wz.h ?_); simp (disch := omega) only [↓LD, LU, LS, LT, loadA_rf, seval]) | ((with_reducible refine And.intro ?_ ?_); omega) | ((fail_if_success with_reducible refine Wz.h ?_); simp only [D.int, D.bool]))
        exact Next.mk (i + 1, ⟨e1, e2, (n + 1), ws, w, ps, fuse, dead, works⟩) (by kernel_rfl) ⟨by dsimp only; omega, hJ⟩ (by dsimp only; omega)
end Go.Proofs.Ytjbkckhpoicaeaa.Mir
