/- maps.Clone told by its contract. -/
import Derived.Test.YtaclakglglicdaaGreatMirFast
import Derived.Ground.SlmcProg
import Derived.Shelf.SlMaps.Clone
namespace Go.Proofs
open Go.Shelf
def YtaclakglglicdaaGreat.cloneL_ren : Go.Shelf.Ren := ⟨fun | 5 => 48 | 7 => 98 | n => n, fun | 23 => 87 | 25 => 3 | 3 => 31 | 4 => 4 | 20 => 20 | n => n, fun | n => n⟩
theorem YtaclakglglicdaaGreat.cloneL : Go.Proofs.SlLaysW.n5 Tryz.prog YtaclakglglicdaaGreat.cloneL_ren := {
  mixed := by kernel_rfl
  f5 := ⟨Tryz.f48.name, by decide, Tryz.func48.trans (congrArg some (by kernel_rfl))⟩
  f7 := Tryz.func98.trans (congrArg some (by kernel_rfl))
  t4 := Tryz.underlying4
  a4 := Tryz.isAgg4
  z4 := Tryz.sizeOf4
  v4 := Tryz.zeroValue4
  t20 := Tryz.underlying20
  a20 := Tryz.isAgg20
  z20 := Tryz.sizeOf20
  v20 := Tryz.zeroValue20
  t23 := Tryz.underlying87
  a23 := Tryz.isAgg87
  z23 := Tryz.sizeOf87
  v23 := Tryz.zeroValue87 }

end Go.Proofs
namespace Go.Proofs.YtaclakglglicdaaGreat.Mir
open Go Go.RowKit Go.Shelf

def cloneG : List D → List Row → Option Eff
  | [.f (.v (.map none))], _ => some ⟨.f (.v (.map none)), [], []⟩
  | [.mp r], H => match H[r]? with
    | some (.map es) => some ⟨.mp H.length, [], [.map es]⟩
    | _ => none
  | _, _ => none

theorem one_arg {P : Program} {w : World} {φ : Nat → Nat × Nat} {A : Nat → Prop} {N : Nat} {d : D} {vs : Array Value} (h : Rs P w φ A N [d] vs.toList) : ∃ u, vs = #[u] ∧ R P w φ A N d u := by
  obtain ⟨l⟩ := vs
  obtain ⟨h1, h2⟩ := h
  match l, h1 with
  | [u], _ => exact ⟨u, rfl, h2 0 d u rfl rfl⟩

theorem clone_ok : Sound Tryz.prog 48 cloneG := by
  intro args H e hg w φ X vs hH hargs
  unfold cloneG at hg
  split at hg
  · injection hg with hg
    subst hg
    obtain ⟨u, rfl, hu⟩ := one_arg hargs
    cases hu with | f hu => cases hu with | v _ =>
    have hcon := AnyW.maps_Clone_nil YtaclakglglicdaaGreat.cloneL w
    change Calls Tryz.prog 48 _ _ _ at hcon
    refine hcon.mono ?_
    rintro e w' ⟨rfl, rfl⟩
    exact ⟨_, rfl, Leaves.quiet hH (.f (.v rfl))⟩
  · rename_i r
    split at hg
    · rename_i es hrow
      injection hg with hg
      subst hg
      obtain ⟨u, rfl, hu⟩ := one_arg hargs
      cases hu with | mp hr =>
      obtain ⟨en, clock, h1, h0, h2, h3⟩ := hH.rows r _ hrow
      have hcon := AnyW.maps_Clone YtaclakglglicdaaGreat.cloneL (φ r).1 en clock w h1
      change Calls Tryz.prog 48 _ _ _ at hcon
      refine hcon.mono ?_
      rintro e w' ⟨rfl, rfl⟩
      refine ⟨_, rfl, leaves_more hH _ _ _ _ (fun A hA hk => ⟨⟨en, clock, by rw [ext1_new]; exact alloc_new w _, h0, h2, fun i k d m hd hm => ?_⟩, ?_⟩)⟩
      · obtain ⟨g1, g2, g3⟩ := h3 i k d m hd hm
        exact ⟨g1, g2.keep hk (fun _ h => h.elim) hA (fun s hs => ext1_old hs) (Nat.le_succ _), g3⟩
      · have := R.mp (P := Tryz.prog) (w := w.alloc (.map en clock)) (φ := ext1 φ H.length (w.heap.size, 0)) (A := A) (N := H.length + 1) (r := H.length) (by omega)
        rw [ext1_new] at this
        exact this
    · cases hg
  · cases hg
end Go.Proofs.YtaclakglglicdaaGreat.Mir
