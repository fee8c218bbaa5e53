/- maps.Clone told by its contract. -/
import Derived.Test.YtjhemkeilagnnaaMirFast
import Derived.Ground.SlmcProg
import Derived.Shelf.SlMaps.Clone
namespace Go.Proofs
open Go.Shelf
def Ytjhemkeilagnnaa.cloneL_ren : Go.Shelf.Ren := ⟨fun | 5 => 57 | 7 => 72 | n => n, fun | 23 => 75 | 25 => 3 | 3 => 37 | 4 => 4 | 20 => 20 | n => n, fun | n => n⟩
theorem Ytjhemkeilagnnaa.cloneL : Go.Proofs.SlLaysW.n5 Try.prog Ytjhemkeilagnnaa.cloneL_ren := {
  mixed := by kernel_rfl
  f5 := ⟨Try.f57.name, by decide, Try.func57.trans (congrArg some (by kernel_rfl))⟩
  f7 := Try.func72.trans (congrArg some (by kernel_rfl))
  t4 := Try.underlying4
  a4 := Try.isAgg4
  z4 := Try.sizeOf4
  v4 := Try.zeroValue4
  t20 := Try.underlying20
  a20 := Try.isAgg20
  z20 := Try.sizeOf20
  v20 := Try.zeroValue20
  t23 := Try.underlying75
  a23 := Try.isAgg75
  z23 := Try.sizeOf75
  v23 := Try.zeroValue75 }

end Go.Proofs
namespace Go.Proofs.Ytjhemkeilagnnaa.Mir
open Go Go.RowKit Go.Shelf

def cloneG : List D → List Row → Option Eff
  | [.f (.v (.map none))], _ => some ⟨.f (.v (.map none)), [], []⟩
  | [.mp r], H => match H[r]? with
    | some (.map es) => some ⟨.mp H.length, [], [.map es]⟩
    | _ => none
  | _, _ => none

theorem one_arg {P : Program} {w : World} {φ : Nat → Nat × Nat} {A : Nat → Prop} {N : Nat} {d : D} {vs : Array Value} (h : Rs P w φ A N [d] vs.toList) : ∃ u, vs = #[u] ∧ R P w φ A N d u := by
  obtain ⟨l⟩ := vs
  obtain ⟨h1, h2⟩ := h
  match l, h1 with
  | [u], _ => exact ⟨u, rfl, h2 0 d u rfl rfl⟩

theorem clone_ok : Sound Try.prog 57 cloneG := by
  intro args H e hg w φ X vs hH hargs
  unfold cloneG at hg
  split at hg
  · injection hg with hg
    subst hg
    obtain ⟨u, rfl, hu⟩ := one_arg hargs
    cases hu with | f hu => cases hu with | v _ =>
    have hcon := AnyW.maps_Clone_nil Ytjhemkeilagnnaa.cloneL w
    change Calls Try.prog 57 _ _ _ at hcon
    refine hcon.mono ?_
    rintro e w' ⟨rfl, rfl⟩
    exact ⟨_, rfl, Leaves.quiet hH (.f (.v rfl))⟩
  · rename_i r
    split at hg
    · rename_i es hrow
      injection hg with hg
      subst hg
      obtain ⟨u, rfl, hu⟩ := one_arg hargs
      cases hu with | mp hr =>
      obtain ⟨en, clock, h1, h0, h2, h3⟩ := hH.rows r _ hrow
      have hcon := AnyW.maps_Clone Ytjhemkeilagnnaa.cloneL (φ r).1 en clock w h1
      change Calls Try.prog 57 _ _ _ at hcon
      refine hcon.mono ?_
      rintro e w' ⟨rfl, rfl⟩
      refine ⟨_, rfl, leaves_more hH _ _ _ _ (fun A hA hk => ⟨⟨en, clock, by rw [ext1_new]; exact alloc_new w _, h0, h2, fun i k d m hd hm => ?_⟩, ?_⟩)⟩
      · obtain ⟨g1, g2, g3⟩ := h3 i k d m hd hm
        exact ⟨g1, g2.keep hk (fun _ h => h.elim) hA (fun s hs => ext1_old hs) (Nat.le_succ _), g3⟩
      · have := R.mp (P := Try.prog) (w := w.alloc (.map en clock)) (φ := ext1 φ H.length (w.heap.size, 0)) (A := A) (N := H.length + 1) (r := H.length) (by omega)
        rw [ext1_new] at this
        exact this
    · cases hg
  · cases hg
end Go.Proofs.Ytjhemkeilagnnaa.Mir
