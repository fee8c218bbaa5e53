/- Numbers as bytes, the highest first: plain. -/
import Derived.Test.YtlphhadomhdacaaCrcSums
namespace Go.Proofs.Ytlphhadomhdacaa

/-- The n lowest bytes of a number, the highest first. -/
def beB : Nat → Nat → List UInt8
  | 0, _ => []
  | n + 1, v => UInt8.ofNat (v / 256 ^ n) :: beB n v
/-- The number that bytes are. -/
def beN (bs : List UInt8) : Nat := bs.foldl (fun v c => v * 256 + c.toNat) 0

theorem beB_len (n v : Nat) : (beB n v).length = n := by
  induction n with
  | zero => rfl
  | succ n ih => simp [beB, ih]
theorem ofNat_toNat (k : Nat) : (UInt8.ofNat k).toNat = k % 256 := by simp
theorem beN_snoc (bs : List UInt8) (c : UInt8) : beN (bs ++ [c]) = beN bs * 256 + c.toNat := by simp [beN]
theorem beN_lt (bs : List UInt8) : beN bs < 256 ^ bs.length := by
  suffices h : ∀ (l : List UInt8), beN l.reverse < 256 ^ l.length by
    have := h bs.reverse
    simpa using this
  intro l
  induction l with
  | nil => simp [beN]
  | cons c l ih =>
    have := c.toNat_lt
    rw [List.reverse_cons, beN_snoc, List.length_cons, Nat.pow_succ]
    omega
theorem foldl_be (bs : List UInt8) : ∀ v, bs.foldl (fun v c => v * 256 + c.toNat) v = v * 256 ^ bs.length + beN bs := by
  suffices h : ∀ v, bs.foldl (fun v c => v * 256 + c.toNat) v = v * 256 ^ bs.length + bs.foldl (fun v c => v * 256 + c.toNat) 0 from h
  induction bs with
  | nil => intro v; simp
  | cons c bs ih =>
    intro v
    rw [List.foldl_cons, ih, List.foldl_cons, ih (0 * 256 + c.toNat), List.length_cons, Nat.pow_succ, Nat.zero_mul, Nat.zero_add, Nat.add_mul, Nat.mul_assoc, Nat.mul_comm 256 (256 ^ bs.length), Nat.add_assoc]
theorem beN_cons (c : UInt8) (bs : List UInt8) : beN (c :: bs) = c.toNat * 256 ^ bs.length + beN bs := by
  have h := foldl_be bs (0 * 256 + c.toNat)
  rw [Nat.zero_mul, Nat.zero_add] at h
  rw [← h]; simp [beN]
theorem beN_app (a b : List UInt8) : beN (a ++ b) = beN a * 256 ^ b.length + beN b := by
  unfold beN; rw [List.foldl_append, foldl_be]; rfl
theorem beN_beB (n v : Nat) : beN (beB n v) = v % 256 ^ n := by
  induction n with
  | zero => simp [beB, beN, Nat.mod_one]
  | succ n ih =>
    rw [beB, beN_cons, beB_len, ih, ofNat_toNat, Nat.pow_succ, Nat.mod_mul, Nat.mul_comm (v / 256 ^ n % 256), Nat.add_comm]

end Go.Proofs.Ytlphhadomhdacaa
