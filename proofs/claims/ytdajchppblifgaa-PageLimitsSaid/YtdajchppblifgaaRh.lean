/- The reference's Text and Hash. -/
import Derived.Test.YtdajchppblifgaaRn
import Derived.Test.YtdajchppblifgaaAd
import Derived.Deep.LoopGhost
namespace Go.Proofs.Ytdajchppblifgaa.Rf
open Go.RowKit Go.Proofs.Ytdajchppblifgaa.Pl Go.Proofs.Ytdajchppblifgaa.Rd Go.Proofs.Ytdajchppblifgaa.Wr
set_option linter.unusedVariables false
set_option linter.unusedSimpArgs false

/-- Bytes as a text. -/
def mkS (l : List UInt8) : ByteArray := ⟨l.toArray⟩
theorem mkS_size (l : List UInt8) : (mkS l).size = l.length := by show l.toArray.size = _; simp
theorem mkS_append (a b : List UInt8) : mkS a ++ mkS b = mkS (a ++ b) := by
  apply ByteArray.ext
  rw [ByteArray.data_append]
  simp [mkS]
theorem mkS_data (s : ByteArray) : mkS s.data.toList = s := by
  apply ByteArray.ext
  simp [mkS]
theorem mkS_text (s : ByteArray) : numS s.size 4 ++ s = mkS (textB s) := by
  conv => lhs; rhs; rw [← mkS_data s]
  exact mkS_append _ _

theorem reftext_any (s : ByteArray) (hs : s.size ≤ 140737488355328) (w : World) :
    Calls Try.prog 39 #[.string s] w fun e w' => e = .returned (.string (mkS (textB s))) ∧ Below w.heap.size w w' := by
  have hN := fun W => refnum_any s.size 4 (by omega) W
  rw [show width 4 = 4 from rfl] at hN
  have hsz : (numS s.size 4).size ≤ 4 := by rw [numS_size]; omega
  have hcat := mkS_text s
  generalize numS s.size 4 = u at *
  have hN := Lib.hid hN
  go_enter Try.func39, Try.ntmps39
  go_wp2_with (first | (go_at_call 15; refine (hN.out _).mono ?_; rintro e w1 ⟨rfl, hb1⟩))
  go_ret
  exact ⟨rfl, hb1⟩

def pad (s : ByteArray) (j : Nat) : List UInt8 := s.data.toList ++ List.replicate j 0
theorem pad_length (s : ByteArray) (j : Nat) : (pad s j).length = s.size + j := by simp [pad]
theorem pad_succ (s : ByteArray) (j : Nat) : mkS (pad s j) ++ ⟨#[0]⟩ = mkS (pad s (j + 1)) := by
  have : (⟨#[0]⟩ : ByteArray) = mkS [0] := rfl
  rw [this, mkS_append, pad, pad, List.append_assoc, List.replicate_succ']
theorem pad_hash (s : ByteArray) (j : Nat) (h : j = 0 ∨ s.size + j ≤ 32) (h2 : 32 ≤ s.size + j) : (mkS (pad s j)).extract 0 32 = mkS (hashB s) := by
  apply ByteArray.ext
  rw [ByteArray.data_extract]
  simp only [mkS]
  rw [List.extract_toArray]
  congr 1
  rw [List.extract_eq_take_drop, List.drop_zero, pad, hashB, List.take_append, List.take_replicate]
  congr 2
  simp
  omega

theorem refhash_any (s : ByteArray) (hs : s.size ≤ 140737488355328) (w : World) :
    Calls Try.prog 41 #[.string s] w fun e w' => e = .returned (.string (mkS (hashB s))) ∧ w = w' := by
  go_enter Try.func41, Try.ntmps41
  go_wp2
  go_loopg [0] (32 - s.size) (fun gq u wr => ∃ j : Nat, u = .string (mkS (pad s j)) ∧ (j = 0 ∨ s.size + j ≤ 32) ∧ Hid (gq = 32 - (s.size + j)) ∧ wr = w)
  case atStart => exact ⟨0, by simp [pad, mkS_data], .inl rfl, Lib.hid rfl, rfl⟩
  case round =>
    obtain ⟨j, rfl, hj, HG, rfl⟩ := hrel
    have hl := mkS_size (pad s j)
    rw [pad_length] at hl
    by_cases hlt : s.size + j < 32
    · have l1 : (mkS (pad s j)).size < 32 := by omega
      have hp := pad_succ s j
      have HL := Lib.hid hl
      clear hl
      go_wp2
      go_roundg (32 - (s.size + (j + 1)))
      case measure => have := HG.out; omega
      case rel => exact ⟨j + 1, rfl, .inr (by omega), Lib.hid rfl, rfl⟩
    · have l1 : 32 ≤ (mkS (pad s j)).size := by omega
      have hp := pad_hash s j hj (by omega)
      have HL := Lib.hid hl
      clear hl
      go_wp2
      go_ret
      exact ⟨rfl, rfl⟩

end Go.Proofs.Ytdajchppblifgaa.Rf
