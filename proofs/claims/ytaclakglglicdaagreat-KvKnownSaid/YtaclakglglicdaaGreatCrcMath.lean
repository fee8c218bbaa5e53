/- The sum over bytes, in plain numbers: linear, by table as bit by bit, and one-to-one. -/
import Derived.Test.YtaclakglglicdaaGreatKit
namespace Go.Proofs.YtaclakglglicdaaGreat

def cpoly : Nat := 3988292384
def cstep (c : Nat) : Nat := (c >>> 1) ^^^ (cpoly * (c % 2))
def cstep8 (c : Nat) : Nat := cstep (cstep (cstep (cstep (cstep (cstep (cstep (cstep c)))))))
def cupd (c : Nat) (x : UInt8) : Nat := cstep8 (c ^^^ x.toNat)
def crcN (bs : List UInt8) : Nat := 4294967295 ^^^ bs.foldl cupd 4294967295

theorem cstep_lt {c : Nat} (h : c < 4294967296) : cstep c < 4294967296 := by
  have h1 : c >>> 1 < 2 ^ 32 := by rw [Nat.shiftRight_eq_div_pow]; omega
  have h2 : cpoly * (c % 2) < 2 ^ 32 := by
    rcases Nat.mod_two_eq_zero_or_one c with h | h <;> rw [h] <;> simp [cpoly]
  exact Nat.xor_lt_two_pow h1 h2
theorem cstep8_lt {c : Nat} (h : c < 4294967296) : cstep8 c < 4294967296 :=
  cstep_lt (cstep_lt (cstep_lt (cstep_lt (cstep_lt (cstep_lt (cstep_lt (cstep_lt h)))))))
theorem cupd_lt {c : Nat} (h : c < 4294967296) (x : UInt8) : cupd c x < 4294967296 :=
  cstep8_lt (Nat.xor_lt_two_pow (n := 32) h (by have := x.toNat_lt; omega))
theorem foldl_lt (bs : List UInt8) : ∀ {c : Nat}, c < 4294967296 → bs.foldl cupd c < 4294967296 := by
  induction bs with
  | nil => intro c h; exact h
  | cons x bs ih => intro c h; exact ih (cupd_lt h x)
theorem crcN_lt (bs : List UInt8) : crcN bs < 4294967296 := Nat.xor_lt_two_pow (n := 32) (by omega) (foldl_lt bs (by omega))

theorem xor_mod2 (a b : Nat) : (a ^^^ b) % 2 = (a % 2) ^^^ (b % 2) := by
  have := Nat.xor_mod_two_pow (a := a) (b := b) (n := 1)
  simpa using this
theorem poly_xor (a b : Nat) (ha : a < 2) (hb : b < 2) : cpoly * (a ^^^ b) = (cpoly * a) ^^^ (cpoly * b) := by
  match a, b, ha, hb with
  | 0, 0, _, _ => rfl
  | 0, 1, _, _ => rfl
  | 1, 0, _, _ => rfl
  | 1, 1, _, _ => rfl
theorem cstep_xor (a b : Nat) : cstep (a ^^^ b) = cstep a ^^^ cstep b := by
  unfold cstep
  rw [Nat.shiftRight_xor_distrib, xor_mod2, poly_xor _ _ (Nat.mod_lt _ (by omega)) (Nat.mod_lt _ (by omega))]
  ac_rfl
theorem cstep8_xor (a b : Nat) : cstep8 (a ^^^ b) = cstep8 a ^^^ cstep8 b := by
  unfold cstep8; simp only [cstep_xor]
theorem cstep_double (m : Nat) : cstep (2 * m) = m := by
  unfold cstep
  rw [Nat.shiftRight_eq_div_pow, show 2 * m / 2 ^ 1 = m by omega, show 2 * m % 2 = 0 by omega]
  simp
theorem cstep8_256 (m : Nat) : cstep8 (256 * m) = m := by
  unfold cstep8
  rw [show 256 * m = 2 * (2 * (2 * (2 * (2 * (2 * (2 * (2 * m))))))) by omega]
  simp only [cstep_double]
theorem split_256 (c : Nat) : c = (256 * (c / 256)) ^^^ (c % 256) := by
  have h := Nat.two_pow_add_eq_or_of_lt (i := 8) (b := c % 256) (Nat.mod_lt _ (by omega)) (c / 256)
  have h2 : 2 ^ 8 * (c / 256) ||| c % 256 = (2 ^ 8 * (c / 256)) ^^^ (c % 256) := by
    apply Nat.eq_of_testBit_eq
    intro i
    rw [Nat.testBit_or, Nat.testBit_xor]
    by_cases hi : i < 8
    · have : (2 ^ 8 * (c / 256)).testBit i = false := by rw [Nat.testBit_two_pow_mul]; simp; omega
      simp [this]
    · have : (c % 256).testBit i = false := by
        apply Nat.testBit_lt_two_pow
        exact Nat.lt_of_lt_of_le (Nat.mod_lt c (by omega : 256 > 0)) (Nat.pow_le_pow_right (n := 2) (i := 8) (by omega) (by omega))
      simp [this]
  have h3 : c = 2 ^ 8 * (c / 256) + c % 256 := by omega
  conv => lhs; rw [h3, h, h2]
/-- By table as bit by bit. -/
theorem table_step (c x : Nat) : (c / 256) ^^^ cstep8 ((c % 256) ^^^ x) = cstep8 (c ^^^ x) := by
  conv => rhs; rw [split_256 c]
  rw [Nat.xor_assoc, cstep8_xor (256 * (c / 256)), cstep8_256]

theorem xor_cancel {a b c : Nat} (h : a ^^^ b = a ^^^ c) : b = c := by
  have h2 := congrArg (a ^^^ ·) h
  simpa [← Nat.xor_assoc] using h2
theorem cstep_bit {c : Nat} (h : c < 4294967296) : (cstep c).testBit 31 = (c.testBit 0) := by
  unfold cstep
  rw [Nat.testBit_xor]
  have h1 : (c >>> 1).testBit 31 = false := by
    apply Nat.testBit_lt_two_pow
    rw [Nat.shiftRight_eq_div_pow]; omega
  rw [h1, Nat.testBit_zero]
  rcases Nat.mod_two_eq_zero_or_one c with h2 | h2 <;> rw [h2] <;> simp [cpoly] <;> decide
theorem cstep_inj {a b : Nat} (ha : a < 4294967296) (hb : b < 4294967296) (h : cstep a = cstep b) : a = b := by
  have h1 := cstep_bit ha
  rw [h, cstep_bit hb, Nat.testBit_zero, Nat.testBit_zero] at h1
  have h2 : a % 2 = b % 2 := by
    rcases Nat.mod_two_eq_zero_or_one a with x | x <;> rcases Nat.mod_two_eq_zero_or_one b with y | y <;> simp [x, y] at h1 ⊢
  unfold cstep at h
  rw [h2, Nat.xor_comm (a >>> 1), Nat.xor_comm (b >>> 1)] at h
  have h3 := xor_cancel h
  rw [Nat.shiftRight_eq_div_pow, Nat.shiftRight_eq_div_pow] at h3
  omega
theorem cstep8_inj {a b : Nat} (ha : a < 4294967296) (hb : b < 4294967296) (h : cstep8 a = cstep8 b) : a = b := by
  unfold cstep8 at h
  have l := @cstep_lt
  refine cstep_inj ha hb (cstep_inj (l ha) (l hb) (cstep_inj (l (l ha)) (l (l hb)) (cstep_inj (l (l (l ha))) (l (l (l hb))) (cstep_inj (l (l (l (l ha)))) (l (l (l (l hb))))
    (cstep_inj (l (l (l (l (l ha))))) (l (l (l (l (l hb))))) (cstep_inj (l (l (l (l (l (l ha)))))) (l (l (l (l (l (l hb)))))) (cstep_inj (l (l (l (l (l (l (l ha))))))) (l (l (l (l (l (l (l hb))))))) h)))))))
theorem xlt {c : Nat} (h : c < 4294967296) (x : UInt8) : c ^^^ x.toNat < 4294967296 := Nat.xor_lt_two_pow (n := 32) h (by have := x.toNat_lt; omega)
theorem cupd_inj {a b : Nat} (ha : a < 4294967296) (hb : b < 4294967296) (x : UInt8) (h : cupd a x = cupd b x) : a = b := by
  have h2 := cstep8_inj (xlt ha x) (xlt hb x) h
  rw [Nat.xor_comm a, Nat.xor_comm b] at h2
  exact xor_cancel h2
theorem foldl_inj (bs : List UInt8) : ∀ {a b : Nat}, a < 4294967296 → b < 4294967296 → bs.foldl cupd a = bs.foldl cupd b → a = b := by
  induction bs with
  | nil => intro a b _ _ h; exact h
  | cons x bs ih => intro a b ha hb h; exact cupd_inj ha hb x (ih (cupd_lt ha x) (cupd_lt hb x) h)
/-- One byte that is turned makes another sum. -/
theorem crc_turn (bs : List UInt8) (k : Nat) (hk : k < bs.length) (y : UInt8) (hy : y ≠ bs[k]) : crcN (bs.set k y) ≠ crcN bs := by
  intro h
  have h0 := xor_cancel h
  have e1 : bs = bs.take k ++ bs[k] :: bs.drop (k + 1) := by simp
  have e2 : bs.set k y = bs.take k ++ y :: bs.drop (k + 1) := by rw [List.set_eq_take_append_cons_drop, if_pos hk]
  rw [e2] at h0
  conv at h0 => rhs; rw [e1]
  rw [List.foldl_append, List.foldl_append, List.foldl_cons, List.foldl_cons] at h0
  have hl := foldl_lt (bs.take k) (c := 4294967295) (by omega)
  have h1 := foldl_inj _ (cupd_lt hl y) (cupd_lt hl bs[k]) h0
  have h2 := xor_cancel (cstep8_inj (xlt hl y) (xlt hl bs[k]) h1)
  exact hy (UInt8.toNat_inj.1 h2)

theorem crc_nil : crcN [] = 0 := by decide +kernel
theorem crc_a : crcN [97] = 3904355907 := by decide +kernel
theorem crc_0 : crcN [0] = 3523407757 := by decide +kernel
theorem crc_digits : crcN [49, 50, 51, 52, 53, 54, 55, 56, 57] = 3421780262 := by decide +kernel

end Go.Proofs.YtaclakglglicdaaGreat
