/- The reference's Number. -/
import Derived.Test.YtdajchppblifgaaAw
namespace Go.Proofs.Ytdajchppblifgaa.Rf
open Go.RowKit Go.Proofs.Ytdajchppblifgaa.Pl Go.Proofs.Ytdajchppblifgaa.Rd Go.Proofs.Ytdajchppblifgaa.Wr
set_option linter.unusedVariables false
set_option linter.unusedSimpArgs false

/-- A byte as a text. -/
def byteS (x : Int) : ByteArray := ⟨#[UInt8.ofNat x.toNat]⟩
def numS (n k : Nat) : ByteArray := ⟨(digits n k).toArray⟩
theorem numS_size (n k : Nat) : (numS n k).size = k := by show (digits n k).toArray.size = k; simp [digits_length]
theorem byteS_size (x : Int) : (byteS x).size = 1 := rfl
theorem numS_zero (n : Nat) : numS n 0 = ByteArray.empty := rfl
theorem numS_succ (n k : Nat) : numS n k ++ byteS ((rest n k : Int) % 256) = numS n (k + 1) := by
  apply ByteArray.ext
  rw [ByteArray.data_append]
  show (digits n k).toArray ++ #[UInt8.ofNat ((rest n k : Int) % 256).toNat] = (digits n (k + 1)).toArray
  rw [digits_snoc, show ((rest n k : Int) % 256).toNat = rest n k % 256 by omega]
  simp

theorem conv_byte (W : World) (x : Int) : (convert 35 9 (.slice (some ⟨W.heap.size, 0, none⟩) 1 1)).run Try.prog (W.alloc (.cells #[.int .u8 x] 5)) = .ok (.string (byteS x)) (W.alloc (.cells #[.int .u8 x] 5)) := by
  have h := run_convert_bytes_arg (P := Try.prog) (W.alloc (.cells #[.int .u8 x] 5)) 35 5 Try.underlying35 Try.underlying5 W.heap.size 0 1 1 [x] rfl (by
    intro i hi
    obtain rfl : i = 0 := by omega
    rw [cell_of_row _ _ 0 _ 5 (0, 0) (heap_alloc_new W _)]
    rfl) 9 Try.underlying9
  exact h

theorem ret_str {a b : ByteArray} (h : a = b) : Ending.returned (.string a) = .returned (.string b) := by rw [h]

theorem rest_le (n k : Nat) : rest n k ≤ n := Nat.div_le_self _ _
theorem rest_wrap (n k : Nat) (hn : n < 18446744073709551616) : IntKind.u64.wrap ((rest n k : Int) / 256) = ((rest n (k + 1) : Nat) : Int) := by
  have h := rest_le n k
  rw [rest_succ, IntKind.wrap_u64]
  omega

theorem width_eight (b : Int) (h : ((width b : Nat) : Int) < b) : width b = 8 := by
  unfold width at *
  split
  · rename_i h0; rw [if_pos h0] at h; omega
  · rename_i h0
    rw [if_neg h0] at h
    split
    · rfl
    · rename_i h1; rw [if_neg h1] at h; omega

theorem refnum_any (n : Nat) (b : Int) (hn : n < 18446744073709551616) (w : World) :
    Calls Try.prog 15 #[.int .u64 n, .int .i64 b] w fun e w' => e = .returned (.string (numS n (width b))) ∧ Below w.heap.size w w' := by
  have hcv := conv_byte
  go_enter Try.func15, Try.ntmps15
  go_wp2
  go_loopw [0, 5, 6] (fun x s i wr => ∃ k : Nat, k ≤ width b ∧ i = .int .i64 k ∧ x = .int .u64 (rest n k) ∧ s = .string (numS n k) ∧ Below w.heap.size w wr) (fun _ _ i _ => 8 - (intOf i).toNat)
  case atStart => exact ⟨0, Nat.zero_le _, rfl, by rw [rest_zero], rfl, Below.refl _ _⟩
  case round =>
    obtain ⟨k, hk, rfl, rfl, rfl, hb⟩ := hrel
    have h8 := width_le b
    have HB := Lib.hid hb
    clear hb
    by_cases hlt : k < width b
    · have k1 : (k : Int) < b := by unfold width at hlt; split at hlt <;> (try split at hlt) <;> omega
      have k2 : (k : Int) < 8 := by omega
      have hsz := numS_size n k
      have hs1 : (numS n k).size ≤ 8 := by omega
      have HS := Lib.hid hsz
      clear hsz
      have hs2 : (byteS ((rest n k : Int) % 256)).size ≤ 1 := by rw [byteS_size]; omega
      go_wp2
      go_roundw
      case rel => exact ⟨k + 1, by omega, by go_num, by rw [rest_wrap n k hn], by rw [numS_succ], HB.out.alloc HB.out.size _⟩
      case measure => simp [intOf]; omega
    · obtain rfl : k = width b := by omega
      by_cases h1 : ((width b : Nat) : Int) < b
      · have h2 : ¬ ((width b : Nat) : Int) < 8 := by have := width_eight b h1; omega
        go_wp2
        go_ret
        exact ⟨rfl, HB.out⟩
      · go_wp2
        go_ret
        exact ⟨rfl, HB.out⟩

end Go.Proofs.Ytdajchppblifgaa.Rf
