/- Frames: the program's and the reference's. -/
import Derived.Test.YtdajchppblifgaaRh
namespace Go.Proofs.Ytdajchppblifgaa.Rf
open Go.RowKit Go.Proofs.Ytdajchppblifgaa.Pl Go.Proofs.Ytdajchppblifgaa.Rd Go.Proofs.Ytdajchppblifgaa.Wr Go.Proofs.Ytdajchppblifgaa.Ap
set_option linter.unusedVariables false
set_option linter.unusedSimpArgs false

/-- A frame's bytes. -/
def frameB (s : ByteArray) : List UInt8 := textB s ++ digits (adler (textB s)) 4
theorem frameB_length (s : ByteArray) : (frameB s).length = s.size + 8 := by rw [frameB, List.length_append, textB_length, digits_length]; omega
theorem mkS_list (l : List UInt8) : (mkS l).data.toList = l := by simp [mkS]

theorem frame_any (s : ByteArray) (hs : s.size ≤ 140737488355000) (w : World) :
    Calls Try.prog 46 #[.string s] w fun e w' => e = .returned (.string (mkS (frameB s))) ∧ Below w.heap.size w w' := by
  have hN := fun W => number_any s.size 4 (by omega) W
  rw [show width 4 = 4 from rfl] at hN
  have h1 : (ByteArray.mk (digits s.size 4).toArray) ++ s = mkS (textB s) := mkS_text s
  have hl : (mkS (textB s)).size ≤ 140737488355010 := by rw [mkS_size, textB_length]; omega
  have z1 : (ByteArray.mk (digits s.size 4).toArray).size ≤ 4 := by show (digits s.size 4).toArray.size ≤ 4; simp [digits_length]
  generalize (ByteArray.mk (digits s.size 4).toArray) = u at *
  have hA := fun W => adler_any (mkS (textB s)) (by omega) W
  rw [mkS_list] at hA
  have ha := adler_lt (textB s)
  have hM := fun W => number_any (adler (textB s)) 4 (by omega) W
  rw [show width 4 = 4 from rfl] at hM
  have h2 : mkS (textB s) ++ (ByteArray.mk (digits (adler (textB s)) 4).toArray) = mkS (frameB s) := mkS_append _ _
  have z2 : (ByteArray.mk (digits (adler (textB s)) 4).toArray).size ≤ 4 := by show (digits (adler (textB s)) 4).toArray.size ≤ 4; simp [digits_length]
  generalize (ByteArray.mk (digits (adler (textB s)) 4).toArray) = v at *
  generalize mkS (frameB s) = f at *
  generalize mkS (textB s) = x at *
  have ha' : ((adler (textB s) : Nat) : Int) < 4294967296 := by omega
  generalize adler (textB s) = a at *
  have hN := Lib.hid hN
  have hM := Lib.hid hM
  have hA := Lib.hid hA
  go_enter Try.func46, Try.ntmps46
  go_wp2_with (first
    | (go_at_call_of 11 (4 : Int); first | ((with_reducible refine (hN.out _).mono ?_); rintro e w1 ⟨rfl, hb1⟩) | ((with_reducible refine (hM.out _).mono ?_); rintro e w3 ⟨rfl, hb3⟩))
    | (go_at_call 18; refine (hA.out _).mono ?_; rintro e w2 ⟨rfl, hb2⟩))
  go_ret
  exact ⟨rfl, (hb1.trans (hb2.mono hb1.size)).trans (hb3.mono (Nat.le_trans hb1.size hb2.size))⟩

theorem refframe_any (s : ByteArray) (hs : s.size ≤ 140737488355000) (w : World) :
    Calls Try.prog 48 #[.string s] w fun e w' => e = .returned (.string (mkS (frameB s))) ∧ Below w.heap.size w w' := by
  have hT := fun W => reftext_any s (by omega) W
  have hl : (mkS (textB s)).size ≤ 140737488355010 := by rw [mkS_size, textB_length]; omega
  have hA := fun W => refadler_any (mkS (textB s)) (by omega) W
  rw [mkS_list] at hA
  have ha := adler_lt (textB s)
  have hM := fun W => refnum_any (adler (textB s)) 4 (by omega) W
  rw [show width 4 = 4 from rfl] at hM
  have h2 : mkS (textB s) ++ numS (adler (textB s)) 4 = mkS (frameB s) := mkS_append _ _
  have z2 : (numS (adler (textB s)) 4).size ≤ 4 := by rw [numS_size]; omega
  generalize numS (adler (textB s)) 4 = v at *
  generalize mkS (frameB s) = f at *
  generalize mkS (textB s) = x at *
  have ha' : ((adler (textB s) : Nat) : Int) < 4294967296 := by omega
  generalize adler (textB s) = a at *
  have hT := Lib.hid hT
  have hM := Lib.hid hM
  have hA := Lib.hid hA
  go_enter Try.func48, Try.ntmps48
  go_wp2_with fail
  refine (hT.out _).mono ?_; rintro e w1 ⟨rfl, hb1⟩
  go_wp2_with fail
  refine (hT.out _).mono ?_; rintro e w2 ⟨rfl, hb2⟩
  go_wp2_with (first
    | (go_at_call 19; refine (hA.out _).mono ?_; rintro e w3 ⟨rfl, rfl⟩)
    | (go_at_call 15; refine (hM.out _).mono ?_; rintro e w4 ⟨rfl, hb4⟩))
  go_ret
  exact ⟨rfl, (hb1.trans (hb2.mono hb1.size)).trans (hb4.mono (Nat.le_trans hb1.size hb2.size))⟩

end Go.Proofs.Ytdajchppblifgaa.Rf
