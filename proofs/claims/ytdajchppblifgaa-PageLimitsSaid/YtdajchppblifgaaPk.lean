/- Pages: what Decode takes out of a page's bytes. -/
import Derived.Test.YtdajchppblifgaaPi
namespace Go.Proofs.Ytdajchppblifgaa.Pg
open Go.RowKit Go.Proofs.Ytdajchppblifgaa.Pl Go.Proofs.Ytdajchppblifgaa.Rd Go.Proofs.Ytdajchppblifgaa.Wr Go.Proofs.Ytdajchppblifgaa.Rf
set_option linter.unusedVariables false
set_option linter.unusedSimpArgs false

/-- m texts from the k-th on. -/
def ts (S : Nat → ByteArray) : Nat → Nat → List UInt8
  | _, 0 => []
  | k, m + 1 => textB (S k) ++ ts S (k + 1) m
def ns (N : Nat → Int) : Nat → Nat → List UInt8
  | _, 0 => []
  | k, m + 1 => digits (N k).toNat 4 ++ ns N (k + 1) m
theorem tl_ts (S : Nat → ByteArray) : ∀ m k, tl S k ++ ts S k m = tl S (k + m)
  | 0, k => by simp [ts]
  | m + 1, k => by
    have := tl_ts S m (k + 1)
    rw [tl, List.append_assoc] at this
    rw [ts, this]
    congr 1
    omega
theorem nl_ns (S : Nat → Int) : ∀ m k, nl S k ++ ns S k m = nl S (k + m)
  | 0, k => by simp [ns]
  | m + 1, k => by
    have := nl_ns S m (k + 1)
    rw [nl, List.append_assoc] at this
    rw [ns, this]
    congr 1
    omega
theorem ts_all (S : Nat → ByteArray) (n : Nat) : ts S 0 n = tl S n := by
  have := tl_ts S n 0
  rw [Nat.zero_add] at this
  exact this
theorem ns_all (S : Nat → Int) (n : Nat) : ns S 0 n = nl S n := by
  have := nl_ns S n 0
  rw [Nat.zero_add] at this
  exact this
theorem ts_length (S : Nat → ByteArray) (m : Nat) : ∀ n k, (∀ j, j < k + n → (S j).size ≤ m) → (ts S k n).length ≤ (m + 4) * n
  | 0, k, _ => by simp [ts]
  | n + 1, k, h => by
    have h1 := ts_length S m n (k + 1) (fun j hj => h j (by omega))
    have h2 := h k (by omega)
    rw [ts, List.length_append, textB_length, Nat.mul_succ]
    omega
theorem ns_length (N : Nat → Int) : ∀ n k, (ns N k n).length = 4 * n
  | 0, k => by simp [ns]
  | n + 1, k => by rw [ns, List.length_append, digits_length, ns_length N n (k + 1)]; omega

theorem take_num1 (A B : List UInt8) (t : Int) (hn : A.length = 1) : R.numR ⟨mkS (A ++ B), t, 0⟩ 1 = ⟨mkS B, t + 1, 0⟩ ∧ R.numV ⟨mkS (A ++ B), t, 0⟩ 1 = le A := by
  obtain ⟨h1, h2⟩ := take_bytes A B t 1 hn
  have i4 : ((1 : Nat) : Int) = 1 := rfl
  rw [i4] at h1 h2
  obtain ⟨g1, g2⟩ := numR_ok (r := (⟨mkS (A ++ B), t, 0⟩ : R)) (n := 1) (by omega)
  rw [g1, g2, h1, h2, mkS_list]
  exact ⟨rfl, rfl⟩
theorem le_digits1 (n : Nat) (h : n < 256) : le (digits n 1) = n := by rw [le_digits]; exact Nat.mod_eq_of_lt (by omega)
theorem take_bool (b : Bool) (B : List UInt8) (t : Int) : R.boolR ⟨mkS (digits (if b then 1 else 0) 1 ++ B), t, 0⟩ = ⟨mkS B, t + 1, 0⟩ ∧ R.boolV ⟨mkS (digits (if b then 1 else 0) 1 ++ B), t, 0⟩ = b := by
  obtain ⟨h1, h2⟩ := take_num1 (digits (if b then 1 else 0) 1) B t (digits_length _ _)
  rw [le_digits1 _ (by cases b <;> simp)] at h2
  unfold R.boolR R.boolV
  rw [h2, h1]
  cases b <;> simp

/-- A reader behind t bytes, with the bytes L left. -/
def rdr (L : List UInt8) (t : Nat) : R := ⟨mkS L, t, 0⟩
theorem rdr_ok {L : List UInt8} {t : Nat} (h : t + L.length ≤ 1000000) : (rdr L t).Ok :=
  ⟨by show (0 : Int) ≤ (t : Int); omega, by show (t : Int) + ((mkS L).size : Int) ≤ _; rw [mkS_size]; omega, by show (0 : Int) ≤ 0; omega, by show (0 : Int) ≤ 255; omega⟩
theorem text_step (S : Nat → ByteArray) (k m t : Nat) (B : List UInt8) (most : Nat) (hs : (S k).size ≤ most) (hm : most ≤ 8192) (hk : t + (ts S k (m + 1) ++ B).length ≤ 1000000) (W : World) (g : Nat) (h : Rd W g (rdr (ts S k (m + 1) ++ B) t)) :
    Calls Try.prog 24 #[.pointer (some ⟨g, 0, none⟩), .int .i64 most] W (Post W g (rdr (ts S (k + 1) m ++ B) (t + (4 + (S k).size))) (.string (S k))) := by
  have h1 := text_any g _ most (by omega) W h (rdr_ok hk)
  obtain ⟨a, b⟩ := take_text (S k) (ts S (k + 1) m ++ B) t most (by omega) (by omega) (by omega)
  have hq : rdr (ts S k (m + 1) ++ B) t = ⟨mkS (textB (S k) ++ (ts S (k + 1) m ++ B)), t, 0⟩ := by rw [rdr, ts, List.append_assoc]
  rw [hq, a, b] at h1
  have e : rdr (ts S (k + 1) m ++ B) (t + (4 + (S k).size)) = ⟨mkS (ts S (k + 1) m ++ B), t + 4 + (S k).size, 0⟩ := by
    rw [rdr]
    congr 1
    omega
  rw [e]
  exact h1
theorem count_step (S : Nat → Int) (k m t : Nat) (hs : 0 ≤ S k ∧ S k ≤ 2147483647) (hk : t + (ns S k (m + 1)).length ≤ 1000000) (W : World) (g : Nat) (h : Rd W g (rdr (ns S k (m + 1)) t)) :
    Calls Try.prog 22 #[.pointer (some ⟨g, 0, none⟩), .int .i64 2147483647] W (Post W g (rdr (ns S (k + 1) m) (t + 4)) (.int .i64 (S k))) := by
  have h1 := count_any g _ 2147483647 (by omega) W h (rdr_ok hk)
  have hl : le (digits (S k).toNat 4) = (S k).toNat := by rw [le_digits]; exact Nat.mod_eq_of_lt (by omega)
  obtain ⟨a, b⟩ := take_count (digits (S k).toNat 4) (ns S (k + 1) m) t 2147483647 (digits_length _ _) (by omega) (by rw [hl]; omega)
  have hq : rdr (ns S k (m + 1)) t = ⟨mkS (digits (S k).toNat 4 ++ ns S (k + 1) m), t, 0⟩ := by rw [rdr, ns]
  rw [hq, a, b, hl, show (((S k).toNat : Nat) : Int) = S k by omega] at h1
  have e : rdr (ns S (k + 1) m) (t + 4) = ⟨mkS (ns S (k + 1) m), t + 4, 0⟩ := by
    rw [rdr]
    congr 1
  rw [e]
  exact h1
theorem err_none (L : List UInt8) (t : Nat) (W : World) (g : Nat) (h : Rd W g (rdr L t)) :
    Calls Try.prog 31 #[.pointer (some ⟨g, 0, none⟩)] W fun e w' => e = .returned (.int .i64 0) ∧ W = w' :=
  err_any g 0 W (cell_of_row W g 2 _ 91 (0, 0) h)
theorem end_step (t : Nat) (W : World) (g : Nat) (h : Rd W g (rdr [] t)) :
    Calls Try.prog 16 #[.pointer (some ⟨g, 0, none⟩)] W (Post W g (rdr [] t) (.int .i64 0)) := by
  have h1 := end_any g _ W h
  have h2 : R.endR (rdr [] t) = rdr [] t := if_neg (by show ¬ 0 < (mkS []).size; rw [mkS_size]; simp)
  rw [h2] at h1
  exact h1

end Go.Proofs.Ytdajchppblifgaa.Pg
