/- What the disk's laws share: the chapter's example; a row handed over for good. -/
import Derived.Test.YtjhemkeilagnnaaDiskE
import Derived.Test.YtjhemkeilagnnaaHand
import Derived.Test.YtjhemkeilagnnaaCLawDisk
import Derived.Test.YtjhemkeilagnnaaMirExtD
namespace Go.Proofs.Ytjhemkeilagnnaa.Mir
open Go Go.RowKit
set_option linter.unusedVariables false
set_option linter.unusedSimpArgs false

theorem diskEx_run : isTrue (runF Try.prog extDk 60 20 [] []) = true := by kernel_rfl
theorem c_disk_known : Con Try.prog 20 [] [] fun r H' => r = D.bool true ∧ H' = [] :=
  (Con.run good extDk_ok (has_of (by kernel_rfl)) (isTrue_eq (by rw [← runF_eq]; exact diskEx_run))).mono fun _ _ h => h

theorem u8_i (i : Nat) (h : i ≤ 255) : ∃ b : UInt8, IntKind.u8.wrap (i : Int) = (b.toNat : Nat) := by
  refine ⟨UInt8.ofNat i, ?_⟩
  have h1 : (UInt8.ofNat i).toNat = i := by simp; omega
  rw [h1]
  exact IntWalk.u8_in i (by omega)
theorem callW_frz {P : Program} {f : FuncId} {la lb : List D} {H : List Row} {r n b : Nat} {T : TypeId} {xs : List F} {z : List Value} {K : D → List Row → Prop} (hr : H[r]? = some (.data T xs)) (hi : inf P T = some (1, b, z)) (hn : xs.length = n + 1)
    (h : callW P (.fn f []) (la ++ .f (.s xs (n + 1)) :: lb) (H.set r (.froz T xs)) K) : callW P (.fn f []) (la ++ .sl r 0 (n + 1) :: lb) H K := by
  obtain ⟨g, caps, e, hc⟩ := h
  injection e with e1 e2
  subst e1; subst e2
  rw [List.append_nil] at hc
  exact ⟨f, [], rfl, by rw [List.append_nil]; exact Con.frz hr hi hn hc⟩
end Go.Proofs.Ytjhemkeilagnnaa.Mir
