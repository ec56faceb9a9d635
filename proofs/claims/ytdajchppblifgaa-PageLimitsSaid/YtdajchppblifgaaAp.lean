/- Plain: the check of bytes, told in two ways; a byte that is another one makes it another one. -/
import Derived.Test.YtdajchppblifgaaPl
namespace Go.Proofs.Ytdajchppblifgaa.Ap
open Go.RowKit Go.Proofs.Ytdajchppblifgaa.Pl

/-- The sum of all bytes, and of each as often as bytes stand from it on. -/
def S1 : List UInt8 → Nat
  | [] => 0
  | c :: l => c.toNat + S1 l
def S2 : List UInt8 → Nat
  | [] => 0
  | c :: l => (l.length + 1) * c.toNat + S2 l

theorem S1_snoc (l : List UInt8) (c : UInt8) : S1 (l ++ [c]) = S1 l + c.toNat := by
  induction l with
  | nil => simp [S1]
  | cons d l ih => simp only [List.cons_append, S1, ih]; omega
theorem S2_snoc (l : List UInt8) (c : UInt8) : S2 (l ++ [c]) = S2 l + S1 l + c.toNat := by
  induction l with
  | nil => simp [S1, S2]
  | cons d l ih =>
    simp only [List.cons_append, S1, S2, ih, List.length_append, List.length_cons, List.length_nil, Nat.zero_add, Nat.add_mul, Nat.one_mul]
    omega

def adA (l : List UInt8) : Nat := (1 + S1 l) % 65521
def adB (l : List UInt8) : Nat := (l.length + S2 l) % 65521
/-- The check. -/
def adler (l : List UInt8) : Nat := adB l * 65536 + adA l

theorem adA_lt (l : List UInt8) : adA l < 65521 := Nat.mod_lt _ (by omega)
theorem adB_lt (l : List UInt8) : adB l < 65521 := Nat.mod_lt _ (by omega)
theorem adA_nil : adA [] = 1 := rfl
theorem adB_nil : adB [] = 0 := rfl
theorem adA_snoc (l : List UInt8) (c : UInt8) : adA (l ++ [c]) = (adA l + c.toNat) % 65521 := by
  unfold adA; rw [S1_snoc]; omega
theorem adB_snoc (l : List UInt8) (c : UInt8) : adB (l ++ [c]) = (adB l + adA (l ++ [c])) % 65521 := by
  unfold adB adA; rw [S1_snoc, S2_snoc, List.length_append, List.length_singleton]; omega
theorem adler_lt (l : List UInt8) : adler l < 4294967296 := by
  have := adA_lt l
  have := adB_lt l
  unfold adler
  omega

/-- The reference's second sum behind k bytes. -/
def refB (l : List UInt8) (k : Nat) : Nat := (l.length + S2 l - S2 (l.drop k)) % 65521
theorem S2_drop_le (l : List UInt8) (k : Nat) : S2 (l.drop k) ≤ S2 l := by
  induction l generalizing k with
  | nil => simp [S2]
  | cons c l ih =>
    cases k with
    | zero => exact Nat.le_refl _
    | succ k =>
      have := ih k
      simp only [List.drop_succ_cons, S2]
      omega
theorem refB_zero (l : List UInt8) : refB l 0 = l.length % 65521 := by
  unfold refB; rw [List.drop_zero]; congr 1; omega
theorem refB_succ (l : List UInt8) (k : Nat) (h : k < l.length) : refB l (k + 1) = (refB l k + (l.length - k) % 65521 * l[k].toNat) % 65521 := by
  have e : l.drop k = l[k] :: l.drop (k + 1) := List.drop_eq_getElem_cons h
  have h1 := S2_drop_le l k
  have h2 : S2 (l.drop k) = (l.length - k) * l[k].toNat + S2 (l.drop (k + 1)) := by
    rw [e]
    simp only [S2, List.length_drop]
    rw [show l.length - (k + 1) + 1 = l.length - k by omega]
  unfold refB
  have h3 : (l.length - k) % 65521 * l[k].toNat % 65521 = (l.length - k) * l[k].toNat % 65521 := by
    rw [Nat.mul_mod, Nat.mod_mod, ← Nat.mul_mod]
  generalize (l.length - k) % 65521 * l[k].toNat = p at *
  generalize (l.length - k) * l[k].toNat = q at *
  omega
theorem refB_all (l : List UInt8) : refB l l.length = adB l := by
  unfold refB adB
  rw [List.drop_length]
  simp [S2]

theorem S1_append (a b : List UInt8) : S1 (a ++ b) = S1 a + S1 b := by
  induction a with
  | nil => simp [S1]
  | cons c l ih => simp only [List.cons_append, S1, ih]; omega

/-- One other byte: another check. -/
theorem adler_other (a b : List UInt8) (c d : UInt8) (h : c ≠ d) : adler (a ++ c :: b) ≠ adler (a ++ d :: b) := by
  intro he
  have h1 := adA_lt (a ++ c :: b)
  have h2 := adA_lt (a ++ d :: b)
  have h3 : adA (a ++ c :: b) = adA (a ++ d :: b) := by
    unfold adler at he
    omega
  unfold adA at h3
  simp only [S1_append, S1] at h3
  have hc := c.toNat_lt
  have hd := d.toNat_lt
  have hn : c.toNat ≠ d.toNat := fun e => h (UInt8.toNat_inj.1 e)
  omega

theorem shl_or (a b : Nat) (ha : a < 65536) (hb : b < 65536) : bits .or .u32 (IntKind.u32.wrap ((b : Int) * 65536)) (a : Int) = ((b * 65536 + a : Nat) : Int) := by
  have e : IntKind.u32.wrap ((b : Int) * 65536) = ((b * 65536 : Nat) : Int) := by rw [IntKind.wrap_u32']; omega
  rw [e, u32_or_nat _ _ (by omega) (by omega)]
  have := or_add a b 16 ha
  rw [show (2 : Nat) ^ 16 = 65536 from rfl] at this
  rw [Nat.or_comm, this, Nat.add_comm]

end Go.Proofs.Ytdajchppblifgaa.Ap
