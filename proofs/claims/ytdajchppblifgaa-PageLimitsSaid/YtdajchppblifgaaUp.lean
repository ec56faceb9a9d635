/- Plain: what a reader that has no error has taken; what a frame's place holds. -/
import Derived.Test.YtdajchppblifgaaFr
namespace Go.Proofs.Ytdajchppblifgaa.Rf
open Go.RowKit Go.Proofs.Ytdajchppblifgaa.Pl Go.Proofs.Ytdajchppblifgaa.Rd Go.Proofs.Ytdajchppblifgaa.Wr Go.Proofs.Ytdajchppblifgaa.Ap
set_option linter.unusedVariables false
set_option linter.unusedSimpArgs false

theorem bytesR_ok {r : R} {n : Int} (h : (r.bytesR n).e = 0) : r.e = 0 ∧ 0 ≤ n ∧ n ≤ r.s.size ∧ r.bytesR n = ⟨r.s.extract n.toNat r.s.size, r.t + n, 0⟩ ∧ r.bytesV n = r.s.extract 0 n.toNat := by
  unfold R.bytesR at *
  unfold R.bytesV
  split at h
  · contradiction
  · rename_i he
    split at h
    · simp at h
    · rename_i hn
      split at h
      · simp at h
      · rename_i hc
        rw [if_neg he, if_neg hn, if_neg hc, if_neg he, if_neg hn, if_neg hc]
        exact ⟨by omega, by omega, by omega, rfl, rfl⟩
theorem fail_bad {r : R} {x : Int} (hx : x ≠ 0) : (r.fail x).e ≠ 0 := by
  unfold R.fail
  split
  · exact hx
  · rename_i h; intro h0; exact h ⟨h0, hx⟩
theorem numR_ok {r : R} {n : Int} (hn : n ≤ 8) : r.numR n = r.bytesR n ∧ r.numV n = le (r.bytesV n).data.toList := ⟨if_neg (by omega), if_neg (by omega)⟩
theorem countR_ok {r : R} {m : Int} (h : (r.countR m).e = 0) : r.countR m = r.numR 4 ∧ r.countV m = r.numV 4 := by
  unfold R.countR at h ⊢
  unfold R.countV
  split at h
  · exact absurd h (fail_bad (by omega))
  · rename_i hc
    rw [if_neg hc, if_neg hc]
    exact ⟨rfl, rfl⟩

theorem ext_list (s : ByteArray) (a b : Nat) : (s.extract a b).data.toList = (s.data.toList.drop a).take (b - a) := by
  rw [ByteArray.data_extract, Array.toList_extract, List.extract_eq_take_drop]

theorem take_lemma (x : ByteArray) (N : Nat) (h : N ≤ x.size - 4) : ((x.extract 4 x.size).extract 0 N).data.toList = (x.data.toList.drop 4).take N := by
  rw [ext_list, ext_list, List.drop_zero, List.take_take]
  congr 1
  omega

/-- The reader at a frame's place, behind its text, and behind its check. -/
def fr1 (x : ByteArray) : R := R.textR ⟨x, 0, 0⟩ 2147483647
def frT (x : ByteArray) : ByteArray := R.textV ⟨x, 0, 0⟩ 2147483647
def fr2 (x : ByteArray) : R := (fr1 x).numR 4
def frS (x : ByteArray) : Nat := (fr1 x).numV 4

theorem fr_ok {x : ByteArray} (h : (fr2 x).e = 0) : (frT x).size + 8 ≤ x.size ∧ (fr2 x).t = (frT x).size + 8 ∧ x.data.toList.take ((frT x).size + 4) = textB (frT x) := by
  unfold fr2 at h
  rw [(numR_ok (r := fr1 x) (n := 4) (by omega)).1] at h
  obtain ⟨h1, _, h2, h3, _⟩ := bytesR_ok h
  have h1' := h1
  unfold fr1 R.textR at h1
  obtain ⟨g1, g2, g3, g4, g5⟩ := bytesR_ok h1
  obtain ⟨c1, c2⟩ := countR_ok g1
  rw [c1, (numR_ok (r := ⟨x, 0, 0⟩) (n := 4) (by omega)).1] at g1
  obtain ⟨_, _, b2, b3, b4⟩ := bytesR_ok g1
  have n1 := (numR_ok (r := (⟨x, 0, 0⟩ : R)) (n := 4) (by omega)).1
  have n2 := (numR_ok (r := (⟨x, 0, 0⟩ : R)) (n := 4) (by omega)).2
  rw [b4] at n2
  have et : frT x = (x.extract 4 x.size).extract 0 (le (x.extract 0 4).data.toList) := by
    unfold frT R.textV
    rw [g5, c1, c2, n1, n2, b3]
    rfl
  have e1 : fr1 x = ⟨(x.extract 4 x.size).extract (le (x.extract 0 4).data.toList) (x.extract 4 x.size).size, 4 + (le (x.extract 0 4).data.toList : Nat), 0⟩ := by
    unfold fr1 R.textR
    rw [g4, c1, c2, n1, n2, b3]
    simp
  rw [c1, c2, n1, n2, b3] at g3
  have i4 : (4 : Int).toNat = 4 := rfl
  simp only [i4] at *
  simp only [ByteArray.size_extract] at g3
  have b5 : (4 : Int) ≤ x.size := b2
  have sz : (frT x).size = le (x.extract 0 4).data.toList := by
    rw [et]
    simp only [ByteArray.size_extract]
    omega
  rw [e1] at h2 h3
  simp only [ByteArray.size_extract] at h2
  refine ⟨by omega, ?_, ?_⟩
  · unfold fr2
    rw [(numR_ok (r := fr1 x) (n := 4) (by omega)).1, e1, h3, sz]
    simp
    omega
  · have hl4 : (x.extract 0 4).data.toList.length = 4 := by rw [ext_list]; simp; omega
    have hd := digits_le (x.extract 0 4).data.toList
    rw [hl4] at hd
    have e0 : (x.extract 0 4).data.toList = x.data.toList.take 4 := by rw [ext_list]; rfl
    have e2 : digits (frT x).size 4 = x.data.toList.take 4 := by rw [sz, hd, e0]
    have e3 : (frT x).data.toList = (x.data.toList.drop 4).take (frT x).size := by
      rw [sz, et]
      exact take_lemma x _ (by clear h2 h3 h1 g4 g5 h g1 g2 hd e0 e2; omega)
    have fin : x.data.toList.take ((frT x).size + 4) = x.data.toList.take 4 ++ (x.data.toList.drop 4).take (frT x).size := by rw [Nat.add_comm, List.take_add]
    rw [fin, ← e3, ← e2]
    unfold textB
    with_reducible rfl

end Go.Proofs.Ytdajchppblifgaa.Rf
