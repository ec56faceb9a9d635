/- WireLowest's walk. -/
import Derived.Test.YtdajchppblifgaaRn
namespace Go.Proofs.Ytdajchppblifgaa.Rf
open Go.RowKit Go.Proofs.Ytdajchppblifgaa.Pl Go.Proofs.Ytdajchppblifgaa.Rd Go.Proofs.Ytdajchppblifgaa.Wr
set_option linter.unusedVariables false
set_option linter.unusedSimpArgs false

/-- A reader of a number's bytes. -/
def lowR (n m : Nat) : R := ⟨numS n m, 0, 0⟩
theorem lowR_ok (n m : Nat) (hm : m ≤ 8) : (lowR n m).Ok := ⟨by simp [lowR], by simp [lowR, numS_size]; omega, by simp [lowR], by simp [lowR]⟩
theorem lowR_num (n m : Nat) (hm : m ≤ 8) : (lowR n m).numR m = ⟨ByteArray.empty, m, 0⟩ := by
  have h1 : ¬ ((8 : Int) < m) := by omega
  have h2 : ¬ ((m : Int) < 0) := by omega
  simp [lowR, R.numR, R.bytesR, h1, h2, numS_size]
theorem lowR_val (n m : Nat) (hm : m ≤ 8) : (lowR n m).numV m = n % 256 ^ m := by
  have h1 : ¬ ((8 : Int) < m) := by omega
  have h2 : ¬ ((m : Int) < 0) := by omega
  have h3 : (numS n m).extract 0 m = numS n m := by
    have := numS_size n m
    apply ByteArray.ext
    simp [ByteArray.data_extract]
    exact .inr (by omega)
  simp only [lowR, R.numV, if_neg h1, R.bytesV, if_neg h2, numS_size, Int.toNat_natCast, h3]
  simp [numS, le_digits]

theorem number_s (n : Nat) (b : Int) (hn : n < 18446744073709551616) (w : World) :
    Calls Try.prog 11 #[.int .u64 n, .int .i64 b] w fun e w' => e = .returned (.string (numS n (width b))) ∧ Below w.heap.size w w' := number_any n b hn w

theorem fits_eight (n m v : Nat) (hn : n < 18446744073709551616) (hv : v = n % 256 ^ m) (hm : (m : Int) = 8) : ((v : Int) == (n : Int)) = true := by
  obtain rfl : m = 8 := by omega
  have : n % 256 ^ 8 = n := Nat.mod_eq_of_lt (by omega)
  rw [this] at hv
  simp [hv]
theorem fits_less (n m v : Nat) (hv : v = n % 256 ^ m) (hm : ¬ (m : Int) = 8) : (((v : Int) == (n : Int)) == ((m : Int) == 8 || (n : Int) / 2 ^ (8 * m) == 0)) = true := by
  have h1 : ((m : Int) == 8) = false := by simpa using hm
  have h2 : (n : Int) / 2 ^ (8 * m) = ((n / 256 ^ m : Nat) : Int) := by rw [pow256]; simp
  rw [h1, h2, Bool.false_or, beq_iff_eq, Bool.eq_iff_iff, beq_iff_eq, beq_iff_eq]
  have hp : 0 < 256 ^ m := Nat.pow_pos (by omega)
  constructor
  · intro h
    have hlt : n < 256 ^ m := by
      have := Nat.mod_lt n hp
      omega
    rw [Nat.div_eq_of_lt hlt]
    rfl
  · intro h
    have h3 : n / 256 ^ m = 0 := by omega
    have hlt : n < 256 ^ m := by
      rcases Nat.div_eq_zero_iff.1 h3 with h | h
      · omega
      · exact h
    rw [hv, Nat.mod_eq_of_lt hlt]

theorem low_walk (n : Nat) (b : Int) (m : Nat) (hm : width b = m) (hn : n < 18446744073709551616) (w : World) :
    Calls Try.prog 3 #[.int .u64 n, .int .i64 b] w fun e w' => e = .returned (.bool true) ∧ Below w.heap.size w w' := by
  have h8 := width_le b
  rw [hm] at h8
  have hN := fun W => number_s n b hn W
  have hF := fun W => refnum_any n b hn W
  rw [hm] at hN hF
  have hN := Lib.hid hN
  have hF := Lib.hid hF
  have hsz : (numS n m).size = m := numS_size n m
  obtain ⟨v, HV⟩ : ∃ v, Hid (v = n % 256 ^ m) := ⟨_, Lib.hid rfl⟩
  have hR : ∀ W g, Rd W g ⟨numS n m, 0, 0⟩ → Calls Try.prog 13 #[.pointer (some ⟨g, 0, none⟩), .int .i64 m] W (Post W g ⟨ByteArray.empty, m, 0⟩ (.int .u64 v)) := by
    intro W g h
    have := num_any g (lowR n m) m W h (lowR_ok n m h8)
    rwa [lowR_num n m h8, lowR_val n m h8, ← HV.out] at this
  have hR := Lib.hid hR
  have hE : ∀ W g, Rd W g ⟨ByteArray.empty, m, 0⟩ → Calls Try.prog 16 #[.pointer (some ⟨g, 0, none⟩)] W (Post W g ⟨ByteArray.empty, m, 0⟩ (.int .i64 0)) := by
    intro W g h
    exact end_none g _ W h rfl
  have hE := Lib.hid hE
  have HM := Lib.hid hm
  have HN := Lib.hid hn
  clear hm hn
  go_enter Try.func3, Try.ntmps3
  go_wp2_with (first
    | (go_at_call 11; refine (hN.out _).mono ?_; rintro e w1 ⟨rfl, hb1⟩)
    | (go_at_call 12; refine (newReader _ _).mono ?_; rintro e w2 ⟨rfl, hr2, hb2⟩)
    | (go_at_call 13; refine (hR.out _ _ hr2).mono ?_; rintro e w3 ⟨rfl, hr3, hb3⟩)
    | (go_at_call 14; refine (awake_any _).mono ?_; rintro e w4 ⟨rfl, hb4⟩)
    | (go_at_call 15; refine (hF.out _).mono ?_; rintro e w5 ⟨rfl, hb5⟩)
    | (go_at_call 16; refine (hE.out _ _ ((hr3.below hb4 (Nat.lt_of_lt_of_le hr3.lt (Nat.le_refl _))).below hb5 (Nat.lt_of_lt_of_le hr3.lt hb4.size))).mono ?_; rintro e w6 ⟨rfl, hr6, hb6⟩))
  all_goals
    have z1 := hb1.size
    have z2 := hb2.size
    have z3 := hb3.size
    have z4 := hb4.size
    have z5 := hb5.size
    have c2 := hb1.trans (hb2.mono z1)
    have c3 := c2.grown hb3 (by omega) (fun k hk => by injection hk with hk; omega)
    have c5 := (c3.trans (hb4.mono (by omega))).trans (hb5.mono (by omega))
    have c6 := c5.grown hb6 (by omega) (fun k hk => by injection hk with hk; omega)
  · have hm8 : (m : Int) = 8 := by assumption
    go_ret
    exact ⟨ret_bool (fits_eight n m v HN.out HV.out hm8), c6⟩
  · have hm8 : ¬ (m : Int) = 8 := by assumption
    go_ret
    exact ⟨ret_bool (fits_less n m v HV.out hm8), c6⟩

theorem low_any (n b : Int) (h0 : 0 ≤ n) (hn : n ≤ 18446744073709551615) (w : World) :
    Calls Try.prog 3 #[.int .u64 n, .int .i64 b] w fun e w' => e = .returned (.bool true) ∧ Below w.heap.size w w' := by
  obtain ⟨m, rfl⟩ : ∃ m : Nat, n = m := ⟨n.toNat, by omega⟩
  exact low_walk m b _ rfl (by omega) w

end Go.Proofs.Ytdajchppblifgaa.Rf
