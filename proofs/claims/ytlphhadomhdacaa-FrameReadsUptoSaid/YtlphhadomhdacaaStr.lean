/- string(b) of bytes that read as a list. -/
import Derived.Test.YtlphhadomhdacaaFew
import Derived.Laws.BytesString
namespace Go.Proofs.Ytlphhadomhdacaa
open Go Go.RowKit

theorem foldl_push (bs : List UInt8) : ∀ (acc : ByteArray), (bs.map (fun x => ((x.toNat : Nat) : Int))).foldl (fun r n => r.push (UInt8.ofNat n.toNat)) acc = ⟨acc.data ++ bs.toArray⟩ := by
  induction bs with
  | nil => intro acc; simp
  | cons x bs ih =>
    intro acc
    rw [List.map_cons, List.foldl_cons, ih]
    congr 1
    simp [ByteArray.push]

theorem run_str {P : Program} {w : World} (src dst e : TypeId) (hs : P.underlying src = some (.slice e)) (he : P.underlying e = some (.int .u8)) (hd : P.underlying dst = some .string) {ao : Option Addr} {bs : List UInt8} (hr : Rd w ao (u8s bs)) (c : Nat) :
    (convert src dst (.slice ao bs.length c)).run P w = .ok (.string ⟨bs.toArray⟩) w := by
  rw [run_convert_bytes_string w src dst e ao _ c hs he hd]
  rcases ao with _ | a
  · have hb : bs = [] := by
      rcases hr with h | ⟨_, h, _⟩
      · simpa [u8s] using h
      · cases h
    subst hb
    simp [Conv.bytesToString]
    rfl
  · have hl : (loadCells a bs.length).run P w = .ok ((bs.map (fun x => ((x.toNat : Nat) : Int))).map (Value.int .u8)).toArray w := by
      have h2 : ∀ j u, (u8s bs)[j]? = some u → w.cell? (a.add j) = some u := by
        rcases hr with h | ⟨ad, h, h2⟩
        · rw [h]; intro j u hu; simp at hu
        · cases h; exact h2
      have h3 := run_loadCells_list (P := P) w a (u8s bs) h2
      rw [u8s_len] at h3
      rw [h3]; simp [u8s]
    rw [run_bytesToString w a bs.length c _ hl, foldl_push]
    simp

end Go.Proofs.Ytlphhadomhdacaa
