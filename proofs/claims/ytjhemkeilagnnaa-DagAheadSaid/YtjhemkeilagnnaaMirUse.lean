/- The machine at closed sentences. -/
import Derived.Test.YtjhemkeilagnnaaMirCode
import Derived.Test.YtjhemkeilagnnaaRows
import Derived.KernelRfl
namespace Go.Proofs.Ytjhemkeilagnnaa.Mir
open Go Go.RowKit

def isTrue : Option Eff → Bool
  | some ⟨.f (.v (.bool true)), [], []⟩ => true
  | _ => false
theorem isTrue_eq {o : Option Eff} (h : isTrue o = true) : o = some ⟨.f (.v (.bool true)), [], []⟩ := by
  unfold isTrue at h
  split at h
  · rfl
  · cases h

theorem good : Good Try.prog := by
  have h1 : (Try.prog.funcs.toList.all fun fn => !(fn.name == "runtime.NumGoroutine")) = true := by kernel_rfl
  refine ⟨fun f fn hf => ?_, by kernel_rfl⟩
  have := List.all_eq_true.1 h1 fn (by
    have h2 : Try.prog.funcs.toList[f]? = some fn := by simpa using hf
    exact List.mem_of_getElem? h2)
  simpa using this

theorem closed {P : Program} (hP : Good P) {ext : Ext} (hext : ∀ f g, ext f = some g → Sound P f g) {n : Nat} {f : FuncId} (h : isTrue (run P ext n f [] []) = true) (w : World) : Calls P f #[] w fun e w' => e = .returned (.bool true) ∧ Ch (fun _ => False) w w' := by
  have h0 : HR P w (fun _ => (0, 0)) (fun _ => False) [] := ⟨fun r x hx => by simp at hx, fun r s x y hx => by simp at hx, fun r x hx => by simp at hx, fun b hb => hb.elim⟩
  refine (run_ok hP hext n f [] [] _ (isTrue_eq h) w (fun _ => (0, 0)) (fun _ => False) #[] h0 ⟨rfl, fun i d u hd => by simp at hd⟩).mono ?_
  rintro e w' ⟨v, rfl, φ', h1, h2, h3, h4, h5⟩
  cases h3 with | f h3 => cases h3 with | v _ =>
  refine ⟨rfl, h4.os, h4.tape, h4.output, h4.size, fun k hk _ => h4.block k hk ?_⟩
  rintro ⟨r, x, hx, _⟩
  simp at hx

def noExt : Ext := fun _ => none
theorem noExt_ok (P : Program) : ∀ f g, noExt f = some g → Sound P f g := fun f g h => by cases h
end Go.Proofs.Ytjhemkeilagnnaa.Mir
