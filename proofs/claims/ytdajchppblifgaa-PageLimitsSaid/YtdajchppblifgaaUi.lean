/- Plain: a frame at its place is taken again. -/
import Derived.Test.YtdajchppblifgaaUh
namespace Go.Proofs.Ytdajchppblifgaa.Rf
open Go.RowKit Go.Proofs.Ytdajchppblifgaa.Pl Go.Proofs.Ytdajchppblifgaa.Rd Go.Proofs.Ytdajchppblifgaa.Wr Go.Proofs.Ytdajchppblifgaa.Ap
set_option linter.unusedVariables false
set_option linter.unusedSimpArgs false

theorem mkS_ext (L : List UInt8) (a b : Nat) : (mkS L).extract a b = mkS ((L.drop a).take (b - a)) := by
  rw [← mkS_data ((mkS L).extract a b), ext_list, mkS_list]

theorem take_bytes (A B : List UInt8) (t : Int) (n : Nat) (hn : A.length = n) : R.bytesR ⟨mkS (A ++ B), t, 0⟩ n = ⟨mkS B, t + n, 0⟩ ∧ R.bytesV ⟨mkS (A ++ B), t, 0⟩ n = mkS A := by
  have h1 : ¬ ((n : Int) < 0) := by omega
  have h2 : ¬ (((mkS (A ++ B)).size : Int) < n) := by rw [mkS_size, List.length_append]; omega
  have h3 : (mkS (A ++ B)).extract n (mkS (A ++ B)).size = mkS B := by
    rw [mkS_ext, mkS_size, List.length_append, ← hn, List.drop_left, List.take_of_length_le (by omega)]
  have h4 : (mkS (A ++ B)).extract 0 n = mkS A := by
    rw [mkS_ext, List.drop_zero, Nat.sub_zero, ← hn, List.take_left]
  simp [R.bytesR, R.bytesV, h1, h2, h3, h4]

theorem take_num (A B : List UInt8) (t : Int) (hn : A.length = 4) : R.numR ⟨mkS (A ++ B), t, 0⟩ 4 = ⟨mkS B, t + 4, 0⟩ ∧ R.numV ⟨mkS (A ++ B), t, 0⟩ 4 = le A := by
  obtain ⟨h1, h2⟩ := take_bytes A B t 4 hn
  have i4 : ((4 : Nat) : Int) = 4 := rfl
  rw [i4] at h1 h2
  obtain ⟨g1, g2⟩ := numR_ok (r := (⟨mkS (A ++ B), t, 0⟩ : R)) (n := 4) (by omega)
  rw [g1, g2, h1, h2, mkS_list]
  exact ⟨rfl, rfl⟩

theorem take_count (A B : List UInt8) (t m : Int) (hn : A.length = 4) (h0 : 0 ≤ m) (hm : (le A : Int) ≤ m) : R.countR ⟨mkS (A ++ B), t, 0⟩ m = ⟨mkS B, t + 4, 0⟩ ∧ R.countV ⟨mkS (A ++ B), t, 0⟩ m = le A := by
  obtain ⟨h1, h2⟩ := take_num A B t hn
  have hc : ¬ (m < 0 ∨ m < (R.numV ⟨mkS (A ++ B), t, 0⟩ 4 : Nat)) := by rw [h2]; omega
  constructor
  · unfold R.countR
    rw [if_neg hc, h1]
  · unfold R.countV
    rw [if_neg hc, h2]

theorem take_text (t : ByteArray) (B : List UInt8) (t0 m : Int) (h32 : t.size < 4294967296) (h0 : 0 ≤ m) (hm : (t.size : Int) ≤ m) :
    R.textR ⟨mkS (textB t ++ B), t0, 0⟩ m = ⟨mkS B, t0 + 4 + t.size, 0⟩ ∧ R.textV ⟨mkS (textB t ++ B), t0, 0⟩ m = t := by
  have hl : le (digits t.size 4) = t.size := by rw [le_digits]; exact Nat.mod_eq_of_lt (by omega)
  have hb : textB t ++ B = digits t.size 4 ++ (t.data.toList ++ B) := by rw [textB, List.append_assoc]
  rw [hb]
  obtain ⟨h1, h2⟩ := take_count (digits t.size 4) (t.data.toList ++ B) t0 m (digits_length _ _) h0 (by rw [hl]; exact hm)
  rw [hl] at h2
  obtain ⟨g1, g2⟩ := take_bytes t.data.toList B (t0 + 4) t.size (by simp)
  constructor
  · unfold R.textR
    rw [h1, h2, g1]
  · unfold R.textV
    rw [h1, h2, g2, mkS_data]

theorem frame_taken (X Y : List UInt8) (t : ByteArray) (ht : t.size ≤ 2147483647) :
    unf (mkS (X ++ (frameB t ++ Y))) X.length = ⟨t, (X.length : Int) + (t.size + 8), 0⟩ := by
  have hsz : (mkS (X ++ (frameB t ++ Y))).size = X.length + (t.size + 8 + Y.length) := by rw [mkS_size, List.length_append, List.length_append, frameB_length]
  have hx : (mkS (X ++ (frameB t ++ Y))).extract X.length (mkS (X ++ (frameB t ++ Y))).size = mkS (textB t ++ (digits (adler (textB t)) 4 ++ Y)) := by
    rw [mkS_ext, List.drop_left, List.take_of_length_le (by rw [hsz, List.length_append, frameB_length]; omega), frameB, List.append_assoc]
  obtain ⟨h1, h2⟩ := take_text t (digits (adler (textB t)) 4 ++ Y) 0 2147483647 (by omega) (by omega) (by omega)
  obtain ⟨g1, g2⟩ := take_num (digits (adler (textB t)) 4) Y (0 + 4 + t.size) (digits_length _ _)
  have ha := adler_lt (textB t)
  have hl : le (digits (adler (textB t)) 4) = adler (textB t) := by rw [le_digits]; exact Nat.mod_eq_of_lt (by omega)
  rw [hl] at g2
  have e1 : fr1 (mkS (textB t ++ (digits (adler (textB t)) 4 ++ Y))) = ⟨mkS (digits (adler (textB t)) 4 ++ Y), 0 + 4 + t.size, 0⟩ := h1
  have e2 : frT (mkS (textB t ++ (digits (adler (textB t)) 4 ++ Y))) = t := h2
  have e3 : (fr2 (mkS (textB t ++ (digits (adler (textB t)) 4 ++ Y)))).e = 0 := by unfold fr2; rw [e1, g1]
  have e4 : frS (mkS (textB t ++ (digits (adler (textB t)) 4 ++ Y))) = adler (textB t) := by unfold frS; rw [e1, g2]
  have h0 : ¬ ((X.length : Int) < 0 ∨ ((mkS (X ++ (frameB t ++ Y))).size : Int) < X.length) := by rw [hsz]; omega
  unfold unf
  rw [if_neg h0, Int.toNat_natCast, hx, e2, e3, e4, if_neg (by simp), if_neg (by simp)]

end Go.Proofs.Ytdajchppblifgaa.Rf
