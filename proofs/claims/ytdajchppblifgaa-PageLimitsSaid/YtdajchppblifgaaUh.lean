/- What Unframe answers, the program's and the reference's alike; and what it answers at a frame's place. -/
import Derived.Test.YtdajchppblifgaaUg
namespace Go.Proofs.Ytdajchppblifgaa.Rf
open Go.RowKit Go.Proofs.Ytdajchppblifgaa.Pl Go.Proofs.Ytdajchppblifgaa.Rd Go.Proofs.Ytdajchppblifgaa.Wr Go.Proofs.Ytdajchppblifgaa.Ap
set_option linter.unusedVariables false
set_option linter.unusedSimpArgs false

/-- What Unframe answers: the text, the place behind the frame, the error. -/
structure Un where
  t : ByteArray
  n : Int
  e : Int
def unf (u : ByteArray) (at_ : Int) : Un :=
  if at_ < 0 ∨ (u.size : Int) < at_ then ⟨ByteArray.empty, 0, 1⟩
  else if (fr2 (u.extract at_.toNat u.size)).e ≠ 0 then ⟨ByteArray.empty, 0, (fr2 (u.extract at_.toNat u.size)).e⟩
  else if frS (u.extract at_.toNat u.size) ≠ adler (textB (frT (u.extract at_.toNat u.size))) then ⟨ByteArray.empty, 0, 6⟩
  else ⟨frT (u.extract at_.toNat u.size), at_ + ((frT (u.extract at_.toNat u.size)).size + 8), 0⟩

theorem ext_ext (u : ByteArray) (k n : Nat) (h : k + n ≤ u.size) : (u.extract k (k + n)).data.toList = (u.extract k u.size).data.toList.take n := by
  rw [ext_list, ext_list, List.take_take]
  congr 1
  omega

theorem frok (x : ByteArray) (hx : x.size ≤ 60000) : (⟨x, 0, 0⟩ : R).Ok := ⟨by simp, by simp; omega, by simp, by simp⟩

theorem unf_any (u : ByteArray) (at_ : Int) (hu : u.size ≤ 60000) (w : World) :
    Calls Try.prog 47 #[.string u, .int .i64 at_] w fun e w' => e = .returned (.tuple #[.string (unf u at_).t, .int .i64 (unf u at_).n, .int .i64 (unf u at_).e]) ∧ Below w.heap.size w w' := by
  by_cases h0 : at_ < 0 ∨ (u.size : Int) < at_
  · rw [show unf u at_ = ⟨ByteArray.empty, 0, 1⟩ from if_pos h0]
    exact unf_arg u at_ h0 w
  · obtain ⟨k, rfl⟩ : ∃ k : Nat, at_ = k := ⟨at_.toNat, by omega⟩
    have hk : k ≤ u.size := by omega
    have hxs : (u.extract k u.size).size = u.size - k := by simp [ByteArray.size_extract]
    have ok := frok (u.extract k u.size) (by omega)
    have hT := fun W g h => text_any g ⟨u.extract k u.size, 0, 0⟩ 2147483647 (by omega) W h ok
    have hN := fun W g h => num_any g (fr1 (u.extract k u.size)) 4 W h (ok.text 2147483647)
    have e0 : unf u k = if (fr2 (u.extract k u.size)).e ≠ 0 then ⟨ByteArray.empty, 0, (fr2 (u.extract k u.size)).e⟩
        else if frS (u.extract k u.size) ≠ adler (textB (frT (u.extract k u.size))) then ⟨ByteArray.empty, 0, 6⟩
        else ⟨frT (u.extract k u.size), (k : Int) + ((frT (u.extract k u.size)).size + 8), 0⟩ := if_neg h0
    by_cases he : (fr2 (u.extract k u.size)).e = 0
    · have hf := fr_ok he
      obtain ⟨f1, f2, f3⟩ := hf
      have hq : fr2 (u.extract k u.size) = ⟨(fr2 (u.extract k u.size)).s, ((frT (u.extract k u.size)).size : Int) + 8, 0⟩ := by rw [← f2, ← he]
      have hN' : ∀ W g, Rd W g (fr1 (u.extract k u.size)) → Calls Try.prog 13 #[.pointer (some ⟨g, 0, none⟩), .int .i64 4] W (Post W g ⟨(fr2 (u.extract k u.size)).s, ((frT (u.extract k u.size)).size : Int) + 8, 0⟩ (.int .u64 (frS (u.extract k u.size)))) := by
        intro W g h
        rw [← hq]
        exact hN W g h
      have hy : u.extract k (k + ((frT (u.extract k u.size)).size + 8) - 4) = mkS (textB (frT (u.extract k u.size))) := by
        rw [← f3, show k + ((frT (u.extract k u.size)).size + 8) - 4 = k + ((frT (u.extract k u.size)).size + 4) by omega, ← ext_ext u k _ (by omega), mkS_data]
      have hA := fun W => adler_any (mkS (textB (frT (u.extract k u.size)))) (by rw [mkS_size, textB_length]; omega) W
      rw [mkS_list] at hA
      rw [if_neg (by omega)] at e0
      by_cases hs : frS (u.extract k u.size) = adler (textB (frT (u.extract k u.size)))
      · rw [if_neg (by omega)] at e0
        rw [e0]
        exact unf_good u _ _ _ _ k _ (by omega) hu rfl hy _ _ _ w hT hN' hA (by rw [hs]; simp) (adler_lt _)
      · rw [if_pos hs] at e0
        rw [e0]
        exact unf_sum u _ _ _ _ k _ (by omega) hu rfl hy _ _ _ w hT hN' hA (by simp; omega) (adler_lt _)
    · rw [if_pos he] at e0
      rw [e0]
      exact unf_err u _ _ _ k hk rfl _ _ _ _ (by simpa using he) w hT hN

theorem runf_any (u : ByteArray) (at_ : Int) (hu : u.size ≤ 60000) (w : World) :
    Calls Try.prog 49 #[.string u, .int .i64 at_] w fun e w' => e = .returned (.tuple #[.string (unf u at_).t, .int .i64 (unf u at_).n, .int .i64 (unf u at_).e]) ∧ Below w.heap.size w w' := by
  by_cases h0 : at_ < 0 ∨ (u.size : Int) < at_
  · rw [show unf u at_ = ⟨ByteArray.empty, 0, 1⟩ from if_pos h0]
    exact runf_arg u at_ h0 w
  · obtain ⟨k, rfl⟩ : ∃ k : Nat, at_ = k := ⟨at_.toNat, by omega⟩
    have hk : k ≤ u.size := by omega
    have hxs : (u.extract k u.size).size = u.size - k := by simp [ByteArray.size_extract]
    have ok := frok (u.extract k u.size) (by omega)
    have hT := fun W => rtext_any ⟨u.extract k u.size, 0, 0⟩ 2147483647 (by omega) ok W
    have hN := fun W => rnum_any (fr1 (u.extract k u.size)) 4 (ok.text 2147483647) W
    have e0 : unf u k = if (fr2 (u.extract k u.size)).e ≠ 0 then ⟨ByteArray.empty, 0, (fr2 (u.extract k u.size)).e⟩
        else if frS (u.extract k u.size) ≠ adler (textB (frT (u.extract k u.size))) then ⟨ByteArray.empty, 0, 6⟩
        else ⟨frT (u.extract k u.size), (k : Int) + ((frT (u.extract k u.size)).size + 8), 0⟩ := if_neg h0
    by_cases he : (fr2 (u.extract k u.size)).e = 0
    · have hf := fr_ok he
      obtain ⟨f1, f2, f3⟩ := hf
      have hN' : ∀ W : World, Calls Try.prog 20 #[agg (fr1 (u.extract k u.size)), .int .i64 4] W fun en w' => en = .returned (.tuple #[.agg #[.string (fr2 (u.extract k u.size)).s, .int .i64 (fr2 (u.extract k u.size)).t, .int .i64 0], .int .u64 (frS (u.extract k u.size))]) ∧ Below W.heap.size W w' := by
        intro W
        have := hN W
        rw [← he]
        exact this
      have hX := fun W => reftext_any (frT (u.extract k u.size)) (by omega) W
      have hA := fun W => refadler_any (mkS (textB (frT (u.extract k u.size)))) (by rw [mkS_size, textB_length]; omega) W
      rw [mkS_list] at hA
      rw [if_neg (by omega)] at e0
      by_cases hs : frS (u.extract k u.size) = adler (textB (frT (u.extract k u.size)))
      · rw [if_neg (by omega)] at e0
        rw [e0]
        exact runf_good u (u.extract k u.size) (frT (u.extract k u.size)) _ _ _ k (by omega) hu rfl _ _ _ _ _ w hT hN' hX hA (by rw [hs]; simp) (adler_lt _)
      · rw [if_pos hs] at e0
        rw [e0]
        exact runf_sum u _ _ _ _ _ k hk rfl _ _ _ _ _ w hT hN' hX hA (by simp; omega) (adler_lt _)
    · rw [if_pos he] at e0
      rw [e0]
      exact runf_err u _ _ _ _ k hk rfl _ _ _ _ _ (by simpa using he) w hT hN

end Go.Proofs.Ytdajchppblifgaa.Rf
