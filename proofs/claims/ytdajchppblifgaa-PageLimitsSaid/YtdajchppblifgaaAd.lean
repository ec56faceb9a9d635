/- The two checks, and few. -/
import Derived.Test.YtdajchppblifgaaRn
import Derived.Test.YtdajchppblifgaaAp
namespace Go.Proofs.Ytdajchppblifgaa.Rf
open Go.RowKit Go.Proofs.Ytdajchppblifgaa.Pl Go.Proofs.Ytdajchppblifgaa.Rd Go.Proofs.Ytdajchppblifgaa.Wr Go.Proofs.Ytdajchppblifgaa.Ap
set_option linter.unusedVariables false
set_option linter.unusedSimpArgs false

theorem adA_step (L : List UInt8) (k : Nat) (h : k < L.length) : (((adA (L.take k) : Nat) : Int) + (L[k].toNat : Int)) % 4294967296 % 65521 = ((adA (L.take (k + 1)) : Nat) : Int) := by
  have h1 := adA_lt (L.take k)
  have h2 := L[k].toNat_lt
  rw [take_snoc L k h, adA_snoc]
  omega
theorem adB_step (L : List UInt8) (k : Nat) (h : k < L.length) : (((adB (L.take k) : Nat) : Int) + (((adA (L.take k) : Nat) : Int) + (L[k].toNat : Int)) % 4294967296 % 65521) % 65521 = ((adB (L.take (k + 1)) : Nat) : Int) := by
  rw [adA_step L k h, take_snoc L k h, adB_snoc]
  omega

theorem adler_any (s : ByteArray) (hs : s.size ≤ 9223372036854775807) (w : World) :
    Calls Try.prog 18 #[.string s] w fun e w' => e = .returned (.int .u32 (adler s.data.toList)) ∧ Below w.heap.size w w' := by
  obtain ⟨cap, W', hconv, hbel, hsz, hcell⟩ := conv_any w s
  go_enter Try.func18, Try.ntmps18
  go_wp2
  go_loop [3, 4, 10] (fun a b i => ∃ k : Nat, k ≤ s.size ∧ i = .int .i64 k ∧ a = .int .u32 (adA (s.data.toList.take k)) ∧ b = .int .u32 (adB (s.data.toList.take k))) (fun _ _ i => s.size - (intOf i).toNat)
  case atStart => exact ⟨0, Nat.zero_le _, rfl, rfl, rfl⟩
  case round =>
    obtain ⟨k, hk, rfl, rfl, rfl⟩ := hrel
    have a0 := adA_lt (s.data.toList.take k)
    have b0 := adB_lt (s.data.toList.take k)
    by_cases hlt : k < s.size
    · have hc := hcell k hlt
      have HC := Lib.hid hcell
      clear hcell
      go_wp2
      go_roundw
      case rel =>
        have hkl : k < s.data.toList.length := by simpa using hlt
        refine ⟨k + 1, by omega, by go_num, congrArg _ (adA_step s.data.toList k hkl), congrArg _ (adB_step s.data.toList k hkl)⟩
      case measure => simp [intOf]; omega
    · have e : s.data.toList.take k = s.data.toList := List.take_of_length_le (by simp; omega)
      rw [e] at a0 b0 
      have HC := Lib.hid hcell
      clear hcell
      have E := Lib.hid e
      clear e
      go_wp2
      go_ret
      refine ⟨ret_int ?_, hbel⟩
      rw [E.out]
      have h := shl_or (adA s.data.toList) (adB s.data.toList) (by omega) (by omega)
      rw [IntKind.wrap_u32'] at h
      exact h

theorem few_short (s : ByteArray) (hs : s.size ≤ 600) (w : World) :
    Calls Try.prog 17 #[.string s] w fun e w' => e = .returned (.string s) ∧ w = w' := by
  go_enter Try.func17, Try.ntmps17
  go_wp2
  go_ret
  exact ⟨rfl, rfl⟩
theorem few_long (s : ByteArray) (hs : 600 < s.size) (w : World) :
    Calls Try.prog 17 #[.string s] w fun e w' => e = .returned (.string (s.extract 0 600)) ∧ w = w' := by
  have h : (600 : Int) < s.size := by omega
  go_enter Try.func17, Try.ntmps17
  go_wp2
  go_ret
  exact ⟨rfl, rfl⟩

/-- A text that is not too long. -/
def few (s : ByteArray) : ByteArray := if s.size ≤ 600 then s else s.extract 0 600
theorem few_size (s : ByteArray) : (few s).size ≤ 600 := by
  unfold few
  split
  · assumption
  · simp [ByteArray.size_extract]; omega
theorem few_any (s : ByteArray) (w : World) :
    Calls Try.prog 17 #[.string s] w fun e w' => e = .returned (.string (few s)) ∧ w = w' := by
  unfold few
  split
  · exact few_short s (by assumption) w
  · exact few_long s (by omega) w

theorem prod_le (a b : Int) (h0 : 0 ≤ a) (h1 : a ≤ 65520) (h2 : 0 ≤ b) (h3 : b ≤ 255) : 0 ≤ a * b ∧ a * b ≤ 16707600 := by
  refine ⟨Int.mul_nonneg h0 h2, ?_⟩
  have := Int.mul_le_mul h1 h3 h2 (by omega)
  omega

theorem refA_step (L : List UInt8) (k : Nat) (h : k < L.length) : (((adA (L.take k) : Nat) : Int) + (L[k].toNat : Int)) % 65521 = ((adA (L.take (k + 1)) : Nat) : Int) := by
  have h1 := adA_lt (L.take k)
  have h2 := L[k].toNat_lt
  rw [take_snoc L k h, adA_snoc]
  omega
theorem refB_step (s : ByteArray) (k : Nat) (h : k < s.size) (hl : k < s.data.toList.length) : (((refB s.data.toList k : Nat) : Int) + ((s.size : Int) - k) % 65521 * ((s[k]).toNat : Int)) % 65521 = ((refB s.data.toList (k + 1) : Nat) : Int) := by
  rw [refB_succ _ k hl]
  have e1 : s[k] = s.data.toList[k] := rfl
  have e2 : s.data.toList.length = s.size := by simp
  have e3 : ((s.size : Int) - k) % 65521 = (((s.size - k) % 65521 : Nat) : Int) := by omega
  rw [e1, e2, e3]
  simp

theorem refadler_any (s : ByteArray) (hs : s.size ≤ 140737488355328) (w : World) :
    Calls Try.prog 19 #[.string s] w fun e w' => e = .returned (.int .u32 (adler s.data.toList)) ∧ w = w' := by
  go_enter Try.func19, Try.ntmps19
  go_wp2
  go_loop [3, 4, 5] (fun a b i => ∃ k : Nat, k ≤ s.size ∧ i = .int .i64 k ∧ a = .int .u64 (adA (s.data.toList.take k)) ∧ b = .int .u64 (refB s.data.toList k)) (fun _ _ i => s.size - (intOf i).toNat)
  case atStart => exact ⟨0, Nat.zero_le _, rfl, rfl, by rw [refB_zero]; simp⟩
  case round =>
    obtain ⟨k, hk, rfl, rfl, rfl⟩ := hrel
    have a0 := adA_lt (s.data.toList.take k)
    have b0 : refB s.data.toList k < 65521 := Nat.mod_lt _ (by omega)
    by_cases hlt : k < s.size
    · have c1 : ((s[k]).toNat : Int) ≤ 255 := by have := (s[k]).toNat_lt; omega
      have c0 : (0 : Int) ≤ ((s[k]).toNat : Int) := by omega
      obtain ⟨p0, p1⟩ := prod_le (((s.size : Int) - k) % 65521) ((s[k]).toNat : Int) (by omega) (by omega) c0 c1
      go_wp2
      go_round
      case rel =>
        have hkl : k < s.data.toList.length := by simpa using hlt
        exact ⟨k + 1, by omega, by go_num, congrArg _ (refA_step s.data.toList k hkl), congrArg _ (refB_step s k hlt hkl)⟩
      case measure => simp [intOf]; omega
    · obtain rfl : k = s.size := by omega
      have e : s.data.toList.take s.size = s.data.toList := List.take_of_length_le (by simp)
      have e2 : refB s.data.toList s.size = adB s.data.toList := by have := refB_all s.data.toList; simpa using this
      have E := Lib.hid e
      have E2 := Lib.hid e2
      clear e e2
      go_wp2
      go_ret
      refine ⟨ret_int ?_, rfl⟩
      rw [E.out, E2.out]
      unfold adler
      omega

end Go.Proofs.Ytdajchppblifgaa.Rf
