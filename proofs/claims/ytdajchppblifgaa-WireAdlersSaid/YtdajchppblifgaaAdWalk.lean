/- WireAdlers' walk. -/
import Derived.Test.YtdajchppblifgaaAd
import Derived.Deep.RegionWith
namespace Go.Proofs.Ytdajchppblifgaa.Rf
open Go.RowKit Go.Proofs.Ytdajchppblifgaa.Pl Go.Proofs.Ytdajchppblifgaa.Rd Go.Proofs.Ytdajchppblifgaa.Wr Go.Proofs.Ytdajchppblifgaa.Ap
set_option linter.unusedVariables false
set_option linter.unusedSimpArgs false

theorem adl_neg (s : ByteArray) (at_ b : Int) (h : at_ < 0) (w : World) :
    Calls Try.prog 4 #[.string s, .int .i64 at_, .int .u8 b] w fun e w' => e = .returned (.bool true) ∧ Below w.heap.size w w' := by
  obtain ⟨t, HT⟩ : ∃ t, Hid (t = few s) := ⟨_, Lib.hid rfl⟩
  have ht : t.size ≤ 600 := by rw [HT.out]; exact few_size s
  have hF := few_any s w
  rw [← HT.out] at hF
  have hF := Lib.hid hF
  go_enter Try.func4, Try.ntmps4
  go_wp2_with (first
    | (go_at_call 17; refine hF.out.mono ?_; rintro e w1 ⟨rfl, rfl⟩)
    | (go_at_call 14; refine (awake_any _).mono ?_; rintro e w2 ⟨rfl, hb2⟩)
    | (go_at_call 18; refine (adler_any t (by omega) _).mono ?_; rintro e w3 ⟨rfl, hb3⟩)
    | (go_at_call 19; refine (refadler_any t (by omega) _).mono ?_; rintro e w4 ⟨rfl, rfl⟩))
  go_ret
  exact ⟨rfl, hb2.trans (hb3.mono hb2.size)⟩

theorem adl_far (s : ByteArray) (at_ b : Int) (h : (((few s).size : Nat) : Int) ≤ at_) (w : World) :
    Calls Try.prog 4 #[.string s, .int .i64 at_, .int .u8 b] w fun e w' => e = .returned (.bool true) ∧ Below w.heap.size w w' := by
  obtain ⟨t, HT⟩ : ∃ t, Hid (t = few s) := ⟨_, Lib.hid rfl⟩
  have ht : t.size ≤ 600 := by rw [HT.out]; exact few_size s
  have hF := few_any s w
  rw [← HT.out] at hF h
  have hF := Lib.hid hF
  go_enter Try.func4, Try.ntmps4
  go_wp2_with (first
    | (go_at_call 17; refine hF.out.mono ?_; rintro e w1 ⟨rfl, rfl⟩)
    | (go_at_call 14; refine (awake_any _).mono ?_; rintro e w2 ⟨rfl, hb2⟩)
    | (go_at_call 18; refine (adler_any t (by omega) _).mono ?_; rintro e w3 ⟨rfl, hb3⟩)
    | (go_at_call 19; refine (refadler_any t (by omega) _).mono ?_; rintro e w4 ⟨rfl, rfl⟩))
  go_ret
  exact ⟨rfl, hb2.trans (hb3.mono hb2.size)⟩

theorem adl_same (s : ByteArray) (k : Nat) (h : k < (few s).size) (w : World) :
    Calls Try.prog 4 #[.string s, .int .i64 k, .int .u8 0] w fun e w' => e = .returned (.bool true) ∧ Below w.heap.size w w' := by
  obtain ⟨t, HT⟩ : ∃ t, Hid (t = few s) := ⟨_, Lib.hid rfl⟩
  have ht : t.size ≤ 600 := by rw [HT.out]; exact few_size s
  have hF := few_any s w
  rw [← HT.out] at hF h
  have hF := Lib.hid hF
  go_enter Try.func4, Try.ntmps4
  go_wp2_with (first
    | (go_at_call 17; refine hF.out.mono ?_; rintro e w1 ⟨rfl, rfl⟩)
    | (go_at_call 14; refine (awake_any _).mono ?_; rintro e w2 ⟨rfl, hb2⟩)
    | (go_at_call 18; refine (adler_any t (by omega) _).mono ?_; rintro e w3 ⟨rfl, hb3⟩)
    | (go_at_call 19; refine (refadler_any t (by omega) _).mono ?_; rintro e w4 ⟨rfl, rfl⟩))
  go_ret
  exact ⟨rfl, hb2.trans (hb3.mono hb2.size)⟩

theorem conv_byte_drew (W : World) (x : Int) : (convert 35 9 (.slice (some ⟨W.heap.size, 0, none⟩) 1 1)).run Try.prog (W.alloc (.cells #[.int .u8 x] 5)).drew = .ok (.string (byteS x)) (W.alloc (.cells #[.int .u8 x] 5)).drew :=
  conv_byte W.drew x

/-- One byte of t is another one. -/
def other (t : ByteArray) (k : Nat) (b : Int) (h : k < t.size) : ByteArray := t.extract 0 k ++ byteS (bits .xor .u8 ((t[k]).toNat : Int) b) ++ t.extract (k + 1) t.size

theorem xor_ne (c : UInt8) (b : Int) (h0 : 0 ≤ b) (h1 : b ≤ 255) (hb : (b == 0) = false) : UInt8.ofNat (bits .xor .u8 (c.toNat : Int) b).toNat ≠ c := by
  obtain ⟨m, rfl⟩ : ∃ m : Nat, b = m := ⟨b.toNat, by omega⟩
  have hc := c.toNat_lt
  have hm : m ≠ 0 := by
    intro e
    subst e
    simp at hb
  rw [u8_xor_nat _ _ (by omega) (by omega), Int.toNat_natCast]
  intro e
  have e1 := congrArg UInt8.toNat e
  rw [UInt8.toNat_ofNat_of_lt' (by have := Nat.xor_lt_two_pow (n := 8) (x := c.toNat) (y := m) (by omega) (by omega); simpa [UInt8.size] using this)] at e1
  have e2 : c.toNat ^^^ (c.toNat ^^^ m) = c.toNat ^^^ c.toNat := by rw [e1]
  rw [← Nat.xor_assoc, Nat.xor_self, Nat.zero_xor] at e2
  exact hm e2

theorem other_adler (t : ByteArray) (k : Nat) (b : Int) (h : k < t.size) (h0 : 0 ≤ b) (h1 : b ≤ 255) (hb : (b == 0) = false) : adler (other t k b h).data.toList ≠ adler t.data.toList := by
  have hl : k < t.data.toList.length := by simpa using h
  have e1 : t.data.toList = t.data.toList.take k ++ t.data.toList[k] :: t.data.toList.drop (k + 1) := by
    rw [← List.drop_eq_getElem_cons hl, List.take_append_drop]
  have e2 : (other t k b h).data.toList = t.data.toList.take k ++ UInt8.ofNat (bits .xor .u8 ((t[k]).toNat : Int) b).toNat :: t.data.toList.drop (k + 1) := by
    unfold other
    rw [ByteArray.data_append, ByteArray.data_append, ByteArray.data_extract, ByteArray.data_extract]
    simp [byteS, Array.toList_extract, List.extract_eq_take_drop]
    rw [List.take_of_length_le (by simp)]
  rw [e2]
  conv => rhs; rw [e1]
  exact adler_other _ _ _ _ (xor_ne _ b h0 h1 hb)

theorem other_size (t : ByteArray) (k : Nat) (b : Int) (h : k < t.size) : (other t k b h).size = t.size := by
  unfold other
  rw [ByteArray.size_append, ByteArray.size_append, byteS_size, ByteArray.size_extract, ByteArray.size_extract]
  omega

set_option maxHeartbeats 1000000 in
theorem adl_other (s : ByteArray) (k : Nat) (h : k < (few s).size) (b : Int) (hb : (b == 0) = false) (h0 : 0 ≤ b) (h1 : b ≤ 255) (w : World) :
    Calls Try.prog 4 #[.string s, .int .i64 k, .int .u8 b] w fun e w' => e = .returned (.bool true) ∧ Below w.heap.size w w' := by
  obtain ⟨t, HT⟩ : ∃ t, Hid (t = few s) := ⟨_, Lib.hid rfl⟩
  have ht : t.size ≤ 600 := by rw [HT.out]; exact few_size s
  have hF := few_any s w
  rw [← HT.out] at hF h
  have hF := Lib.hid hF
  have hcv := conv_byte_drew
  have hadl := other_adler t k b h h0 h1 hb
  have husz := other_size t k b h
  obtain ⟨u, hu⟩ : ∃ u, other t k b h = u := ⟨_, rfl⟩
  rw [hu] at hadl husz
  unfold other at hu
  have hU := fun W => adler_any u (by omega) W
  have hT := fun W => adler_any t (by omega) W
  have hF2 := fun W => refadler_any t (by omega) W
  generalize adler u.data.toList = vu at *
  generalize adler t.data.toList = vt at *
  have hU := Lib.hid hU
  have hT := Lib.hid hT
  have hF2 := Lib.hid hF2
  have hne : ((vu : Int) != (vt : Int)) = true := by simp; omega
  clear hadl husz
  have k1 : k ≤ t.size := by omega
  have k2 : k + 1 ≤ t.size := by omega
  have e1 : (t.extract 0 k).size ≤ 600 := by simp [ByteArray.size_extract]; omega
  have e2 : (byteS (bits .xor .u8 (t[k].toNat : Int) b)).size ≤ 1 := by rw [byteS_size]; omega
  have e3 : (t.extract (k + 1) t.size).size ≤ 600 := by simp [ByteArray.size_extract]; omega
  go_enter Try.func4, Try.ntmps4
  go_wp2_with (first
    | (go_at_call 17; refine hF.out.mono ?_; rintro e w1 ⟨rfl, rfl⟩)
    | (go_at_call 14; refine (awake_any _).mono ?_; rintro e w2 ⟨rfl, hb2⟩)
    | (go_at_call 18; refine (hT.out _).mono ?_; rintro e w3 ⟨rfl, hb3⟩)
    | (go_at_call 19; refine (hF2.out _).mono ?_; rintro e w4 ⟨rfl, rfl⟩))
  go_region
  go_wp2_with (first
    | (go_at_call_of 18 u; refine (hU.out _).mono ?_; rintro e w5 ⟨rfl, hb5⟩)
    | (go_at_call_of 18 t; refine (hT.out _).mono ?_; rintro e w6 ⟨rfl, hb6⟩))
  go_ret
  have z2 := hb2.size
  have z3 := hb3.size
  have z5 := hb5.size
  have c3 := hb2.trans (hb3.mono z2)
  have c4 := (c3.alloc (by omega) (.cells #[.int .u8 (bits .xor .u8 (t[k].toNat : Int) b)] 5)).drew
  have z4 : w.heap.size ≤ ((w3.alloc (.cells #[.int .u8 (bits .xor .u8 (t[k].toNat : Int) b)] 5)).drew).heap.size := c4.size
  exact ⟨rfl, (c4.trans (hb5.mono z4)).trans (hb6.mono (by omega))⟩

theorem adl_any (s : ByteArray) (at_ b : Int) (h0 : 0 ≤ b) (h1 : b ≤ 255) (w : World) :
    Calls Try.prog 4 #[.string s, .int .i64 at_, .int .u8 b] w fun e w' => e = .returned (.bool true) ∧ Below w.heap.size w w' := by
  by_cases hn : at_ < 0
  · exact adl_neg s at_ b hn w
  · by_cases hf : (((few s).size : Nat) : Int) ≤ at_
    · exact adl_far s at_ b hf w
    · obtain ⟨k, rfl⟩ : ∃ k : Nat, at_ = k := ⟨at_.toNat, by omega⟩
      by_cases hb : b = 0
      · subst hb
        exact adl_same s k (by omega) w
      · exact adl_other s k (by omega) b (by simpa using hb) h0 h1 w

end Go.Proofs.Ytdajchppblifgaa.Rf
