/- Plain lemmas on bytes and numbers: no program in sight. -/
import Derived.WalkKit
import Derived.Laws.BitsAllLaws
namespace Go.Proofs.Ytdajchppblifgaa.Pl
open Go.RowKit

/-- Bytes as a number, the lowest first. -/
def le : List UInt8 → Nat
  | [] => 0
  | c :: l => c.toNat + 256 * le l

/-- A number's k lowest bytes, the lowest first. -/
def digits (n : Nat) : Nat → List UInt8
  | 0 => []
  | k + 1 => UInt8.ofNat (n % 256) :: digits (n / 256) k

theorem digits_length (n k : Nat) : (digits n k).length = k := by
  induction k generalizing n with
  | zero => rfl
  | succ k ih => simp [digits, ih]

theorem le_lt (l : List UInt8) : le l < 256 ^ l.length := by
  induction l with
  | nil => simp [le]
  | cons c l ih =>
    have := c.toNat_lt
    simp only [le, List.length_cons, Nat.pow_succ]
    omega

theorem le_snoc (l : List UInt8) (c : UInt8) : le (l ++ [c]) = le l + c.toNat * 256 ^ l.length := by
  induction l with
  | nil => simp [le]
  | cons b l ih =>
    simp only [List.cons_append, le, ih, List.length_cons, Nat.pow_succ]
    rw [Nat.mul_add, ← Nat.mul_assoc, ← Nat.mul_assoc, Nat.mul_comm 256 c.toNat, Nat.mul_assoc c.toNat, Nat.mul_comm 256 (256 ^ l.length), Nat.mul_assoc]
    omega

theorem le_digits (n k : Nat) : le (digits n k) = n % 256 ^ k := by
  induction k generalizing n with
  | zero => simp [digits, le, Nat.mod_one]
  | succ k ih =>
    simp only [digits, le, ih]
    rw [UInt8.toNat_ofNat_of_lt' (by have := Nat.mod_lt n (show 256 > 0 by omega); simpa [UInt8.size] using this)]
    rw [Nat.pow_succ, Nat.mul_comm (256 ^ k) 256, Nat.mod_mul]

theorem digits_le (l : List UInt8) : digits (le l) l.length = l := by
  induction l with
  | nil => rfl
  | cons c l ih =>
    have hc := c.toNat_lt
    simp only [le, List.length_cons, digits]
    rw [show (c.toNat + 256 * le l) % 256 = c.toNat by omega, show (c.toNat + 256 * le l) / 256 = le l by omega, ih]
    simp

theorem digits_mod (n k : Nat) : digits (n % 256 ^ k) k = digits n k := by
  have h := digits_le (digits n k)
  rw [le_digits, digits_length] at h
  exact h

theorem or_add (a b k : Nat) (ha : a < 2 ^ k) : a ||| b * 2 ^ k = a + b * 2 ^ k := by
  rw [Nat.or_comm, ← Nat.shiftLeft_eq, ← Nat.shiftLeft_add_eq_or_of_lt ha, Nat.add_comm]

theorem pow256 (k : Nat) : 256 ^ k = 2 ^ (8 * k) := by rw [Nat.pow_mul]

theorem take_snoc (L : List UInt8) (k : Nat) (h : k < L.length) : L.take (k + 1) = L.take k ++ [L[k]] := by
  rw [List.take_succ_eq_append_getElem h]

/-- One round of the reader's loop over a number's bytes. -/
theorem or_round (L : List UInt8) (k : Nat) (h : k < L.length) (h8 : L.length ≤ 8) :
    bits .or .u64 ((le (L.take k) : Nat) : Int) (IntKind.u64.wrap (IntKind.u64.wrap (L[k].toNat : Int) * 2 ^ (8 * k))) = ((le (L.take (k + 1)) : Nat) : Int) := by
  have hc := L[k].toNat_lt
  have hl := le_lt (L.take k)
  have hlen : (L.take k).length = k := by simp; omega
  rw [hlen, pow256] at hl
  rw [take_snoc L k h, le_snoc, hlen, pow256]
  have hp : 2 ^ (8 * k) ≤ 2 ^ 56 := Nat.pow_le_pow_right (by omega) (by omega)
  have hm : L[k].toNat * 2 ^ (8 * k) ≤ 255 * 2 ^ 56 := Nat.mul_le_mul (by omega) hp
  have e1 : IntKind.u64.wrap (L[k].toNat : Int) = (L[k].toNat : Int) := by rw [IntKind.wrap_u64]; omega
  have e2 : IntKind.u64.wrap ((L[k].toNat : Int) * 2 ^ (8 * k)) = ((L[k].toNat * 2 ^ (8 * k) : Nat) : Int) := by
    have e3 : ((L[k].toNat : Int) * 2 ^ (8 * k)) = ((L[k].toNat * 2 ^ (8 * k) : Nat) : Int) := by simp
    rw [e3, IntKind.wrap_u64]
    omega
  rw [e1, e2, u64_or_nat _ _ (by omega) (by omega), or_add _ _ _ hl]

end Go.Proofs.Ytdajchppblifgaa.Pl
