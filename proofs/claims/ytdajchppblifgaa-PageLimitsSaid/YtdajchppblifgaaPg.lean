/- Pages: what lies in memory; rising, the two tests of a list's elements. -/
import Derived.Test.YtdajchppblifgaaRv
import Derived.Deep.RegionWith
import Derived.Deep.LoopGhost
import Derived.Deep.DeepCutAuto
import Derived.Deep.CutBlock
import Derived.WalkLawsBesides
namespace Go.Proofs.Ytdajchppblifgaa.Pg
open Go.RowKit Go.Proofs.Ytdajchppblifgaa.Pl Go.Proofs.Ytdajchppblifgaa.Rd Go.Proofs.Ytdajchppblifgaa.Wr Go.Proofs.Ytdajchppblifgaa.Rf
set_option linter.unusedVariables false
set_option linter.unusedSimpArgs false

/-- n texts lie from A on. -/
def Txt (w : World) (A : Option Addr) (n : Nat) (S : Nat → ByteArray) : Prop :=
  ∀ k, k < n → ∃ b off, A = some ⟨b, off, none⟩ ∧ b < w.heap.size ∧ w.cell? ⟨b, off + k, none⟩ = some (.string (S k))
/-- n numbers lie from A on. -/
def Num (w : World) (A : Option Addr) (n : Nat) (N : Nat → Int) : Prop :=
  ∀ k, k < n → ∃ b off, A = some ⟨b, off, none⟩ ∧ b < w.heap.size ∧ w.cell? ⟨b, off + k, none⟩ = some (.int .i64 (N k))

theorem Txt.below {w w' : World} {A : Option Addr} {n : Nat} {S : Nat → ByteArray} (h : Txt w A n S) (hb : Below w.heap.size w w') : Txt w' A n S := fun k hk => by
  obtain ⟨b, off, h1, h2, h3⟩ := h k hk
  exact ⟨b, off, h1, Nat.lt_of_lt_of_le h2 hb.size, (hb.cell (p := ⟨b, off + k, none⟩) h2).trans h3⟩
theorem Num.below {w w' : World} {A : Option Addr} {n : Nat} {S : Nat → Int} (h : Num w A n S) (hb : Below w.heap.size w w') : Num w' A n S := fun k hk => by
  obtain ⟨b, off, h1, h2, h3⟩ := h k hk
  exact ⟨b, off, h1, Nat.lt_of_lt_of_le h2 hb.size, (hb.cell (p := ⟨b, off + k, none⟩) h2).trans h3⟩

set_option maxRecDepth 100000 in
theorem long_any (s : ByteArray) (w : World) :
    Calls Try.prog 61 #[.string s] w fun e w' => e = .returned (.bool (decide ((8192 : Int) < s.size))) ∧ w' = w := by
  go_enter Try.func61, Try.ntmps61
  go_wp2
  go_ret
  exact ⟨rfl, rfl⟩

theorem wild_any (n : Int) (w : World) :
    Calls Try.prog 63 #[.int .i64 n] w fun e w' => e = .returned (.bool (decide (n < 0 ∨ 2147483647 < n))) ∧ w' = w := by
  go_enter Try.func63, Try.ntmps63
  by_cases h1 : n < 0
  · go_wp2
    go_ret
    exact ⟨by simp [h1], rfl⟩
  · by_cases h2 : 2147483647 < n
    · go_wp2
      go_ret
      exact ⟨by simp [h1, h2], rfl⟩
    · go_wp2
      go_ret
      exact ⟨by simp [h1, h2], rfl⟩

/-- What may not be in a list of keys. -/
def keyBad (K : Nat → ByteArray) (k : Nat) : Prop := (K k).size < 1 ∨ 64 < (K k).size ∨ (0 < k ∧ Op.bytesLess (K (k - 1)).toList (K k).toList = false)
def Rises (K : Nat → ByteArray) (n : Nat) : Prop := (∀ k, k < n → ¬ keyBad K k) ∧ n ≤ 8
theorem rises_bad {K : Nat → ByteArray} {n k : Nat} (hk : k < n) (h : keyBad K k) : ¬ Rises K n := fun hr => hr.1 k hk h
noncomputable instance (K : Nat → ByteArray) (n : Nat) : Decidable (Rises K n) := Classical.propDecidable _
theorem rises_end {K : Nat → ByteArray} {n k : Nat} (hk : k = n) (h : ∀ j, j < k → ¬ keyBad K j) : decide (Rises K n) = decide ((n : Int) ≤ 8) := by
  subst hk
  by_cases h8 : k ≤ 8
  · have : Rises K k := ⟨h, h8⟩
    simp [this]
    omega
  · have : ¬ Rises K k := fun hr => h8 hr.2
    simp [this]
    omega
theorem not_bad0 {K : Nat → ByteArray} {x : ByteArray} (hx : x = K 0) (h1 : (1 : Int) ≤ x.size) (h2 : (x.size : Int) ≤ 64) : ¬ keyBad K 0 := by
  subst hx
  rintro (h | h | h) <;> omega
theorem not_badS {K : Nat → ByteArray} {j : Nat} {x y : ByteArray} (hx : x = K (j + 1)) (hy : y = K j) (h1 : (1 : Int) ≤ x.size) (h2 : (x.size : Int) ≤ 64) (h3 : Op.bytesLess y.toList x.toList = true) : ¬ keyBad K (j + 1) := by
  subst hx hy
  rintro (h | h | ⟨_, h⟩)
  · omega
  · omega
  · rw [Nat.add_sub_cancel, h3] at h
    exact absurd h (by simp)
theorem all_snoc {p : Nat → Prop} {k : Nat} (h : ∀ j, j < k → p j) (hk : p k) : ∀ j, j < k + 1 → p j := fun j hj => by
  by_cases hj' : j < k
  · exact h j hj'
  · have : j = k := by omega
    subst this
    exact hk

set_option maxRecDepth 100000 in
theorem rising_any (A : Option Addr) (n c : Nat) (K : Nat → ByteArray) (hn : n ≤ 9223372036854775807) (w : World) (hl : Txt w A n K) :
    Calls Try.prog 59 #[.slice A n c] w fun e w' => e = .returned (.bool (decide (Rises K n))) ∧ w' = w := by
  have HL := Lib.hid hl
  clear hl
  obtain ⟨res, HR⟩ : ∃ res, Hid (res = decide (Rises K n)) := ⟨_, Lib.hid rfl⟩
  rw [← HR.out]
  go_enter Try.func59, Try.ntmps59
  go_wp2
  go_loopg [7] n (fun gq i wr => ∃ k : Nat, i = .int .i64 k ∧ k ≤ n ∧ Hid (gq = n - k) ∧ Hid (∀ j, j < k → ¬ keyBad K j) ∧ wr = w)
  case atStart => exact ⟨0, rfl, by omega, Lib.hid rfl, Lib.hid (fun j hj => by omega), rfl⟩
  case round =>
    obtain ⟨k, rfl, hk, HG, HB, rfl⟩ := hrel
    by_cases hlt : k < n
    · obtain ⟨b, off, rfl, hb, hx⟩ := HL.out k hlt
      have i1 : (k : Int) < n := by omega
      rcases k with _ | j
      · obtain ⟨x, HX⟩ : ∃ x, Hid (x = K 0) := ⟨_, Lib.hid rfl⟩
        rw [← HX.out, Nat.add_zero] at hx
        clear HL
        by_cases h1 : (x.size : Int) < 1
        · have hres : decide (Rises K n) = false := decide_eq_false (rises_bad hlt (.inl (by rw [← HX.out]; omega)))
          rw [hres] at HR
          go_wp2
          go_ret
          exact ⟨by rw [HR.out]; rfl, rfl⟩
        by_cases h2 : 64 < (x.size : Int)
        · have hres : decide (Rises K n) = false := decide_eq_false (rises_bad hlt (.inr (.inl (by rw [← HX.out]; omega))))
          rw [hres] at HR
          go_wp2
          go_ret
          exact ⟨by rw [HR.out]; rfl, rfl⟩
        have HN := Lib.hid (not_bad0 HX.out (by omega) (by omega))
        go_wp2
        go_roundg (n - 1)
        case measure => have := HG.out; omega
        case rel => exact ⟨1, rfl, by omega, Lib.hid rfl, Lib.hid (all_snoc HB.out HN.out), rfl⟩
      · obtain ⟨b', off', h', hb', hy⟩ := HL.out j (by omega)
        simp only [Option.some.injEq, Addr.mk.injEq, and_true] at h'
        obtain ⟨rfl, rfl⟩ := h'
        obtain ⟨x, HX⟩ : ∃ x, Hid (x = K (j + 1)) := ⟨_, Lib.hid rfl⟩
        rw [← HX.out] at hx
        obtain ⟨y, HY⟩ : ∃ y, Hid (y = K j) := ⟨_, Lib.hid rfl⟩
        rw [← HY.out] at hy
        have hs1 : (0:Int) < (j + 1 : Nat) := by omega
        have hs2 : ((j + 1 : Nat) : Int) - 1 = (j : Nat) := by omega
        clear HL
        by_cases h1 : (x.size : Int) < 1
        · have hres : decide (Rises K n) = false := decide_eq_false (rises_bad hlt (.inl (by rw [← HX.out]; omega)))
          rw [hres] at HR
          go_wp2
          go_ret
          exact ⟨by rw [HR.out]; rfl, rfl⟩
        by_cases h2 : 64 < (x.size : Int)
        · have hres : decide (Rises K n) = false := decide_eq_false (rises_bad hlt (.inr (.inl (by rw [← HX.out]; omega))))
          rw [hres] at HR
          go_wp2
          go_ret
          exact ⟨by rw [HR.out]; rfl, rfl⟩
        cases h3 : Op.bytesLess y.toList x.toList
        · have hres : decide (Rises K n) = false := decide_eq_false (rises_bad hlt (.inr (.inr ⟨by omega, by rw [Nat.add_sub_cancel, ← HX.out, ← HY.out]; exact h3⟩)))
          rw [hres] at HR
          go_wp2
          go_ret
          exact ⟨by rw [HR.out]; rfl, rfl⟩
        · have HN := Lib.hid (not_badS HX.out HY.out (by omega) (by omega) h3)
          go_wp2
          go_roundg (n - (j + 1 + 1))
          case measure => have := HG.out; omega
          case rel => exact ⟨j + 1 + 1, rfl, by omega, Lib.hid rfl, Lib.hid (all_snoc HB.out HN.out), rfl⟩
    · rw [rises_end (k := k) (by omega) HB.out] at HR
      go_wp2
      go_ret
      exact ⟨by rw [HR.out]; rfl, rfl⟩

def Longs (V : Nat → ByteArray) (n : Nat) : Prop := ∃ k, k < n ∧ 8192 < (V k).size
def Wilds (N : Nat → Int) (n : Nat) : Prop := ∃ k, k < n ∧ (N k < 0 ∨ 2147483647 < N k)

set_option maxRecDepth 100000 in
theorem index66 (A : Option Addr) (n c : Nat) (V : Nat → ByteArray) (hn : n ≤ 9223372036854775807) (w : World) (hl : Txt w A n V) :
    Calls Try.prog 66 #[.slice A n c, .func (.func 61) #[] #[]] w fun e w' => ∃ m : Int, e = .returned (.int .i64 m) ∧ (0 ≤ m ↔ Longs V n) ∧ w' = w := by
  have HL := Lib.hid hl
  clear hl
  go_enter Try.func66, Try.ntmps66
  go_wp2
  go_loopg [8] n (fun gq i wr => ∃ k : Nat, i = .int .i64 k ∧ k ≤ n ∧ Hid (gq = n - k) ∧ Hid (∀ j, j < k → ¬ (8192 < (V j).size)) ∧ wr = w)
  case atStart => exact ⟨0, rfl, by omega, Lib.hid rfl, Lib.hid (fun j hj => by omega), rfl⟩
  case round =>
    obtain ⟨k, rfl, hk, HG, HB, rfl⟩ := hrel
    by_cases hlt : k < n
    · obtain ⟨b, off, rfl, hb, hx⟩ := HL.out k hlt
      have i1 : (k : Int) < n := by omega
      clear HL
      by_cases hv : 8192 < (V k).size
      · have HM := Lib.hid (show Longs V n from ⟨k, hlt, hv⟩)
        have hv' : (8192 : Int) < (V k).size := by omega
        go_wp2
        go_ret
        exact ⟨k, rfl, by simp [HM.out], rfl⟩
      · have HN := Lib.hid hv
        have hv' : ((V k).size : Int) ≤ 8192 := by omega
        clear hv
        go_wp2
        go_roundg (n - (k + 1))
        case measure => have := HG.out; omega
        case rel => exact ⟨k + 1, rfl, by omega, Lib.hid rfl, Lib.hid (all_snoc HB.out HN.out), rfl⟩
    · have HM := Lib.hid (show ¬ Longs V n from fun ⟨j, hj, h⟩ => HB.out j (by omega) h)
      clear HL HB
      go_wp2
      go_ret
      exact ⟨-1, rfl, by simp [HM.out], rfl⟩

set_option maxRecDepth 100000 in
theorem index67 (A : Option Addr) (n c : Nat) (V : Nat → Int) (hn : n ≤ 9223372036854775807) (w : World) (hl : Num w A n V) :
    Calls Try.prog 67 #[.slice A n c, .func (.func 63) #[] #[]] w fun e w' => ∃ m : Int, e = .returned (.int .i64 m) ∧ (0 ≤ m ↔ Wilds V n) ∧ w' = w := by
  have HL := Lib.hid hl
  clear hl
  go_enter Try.func67, Try.ntmps67
  go_wp2
  go_loopg [8] n (fun gq i wr => ∃ k : Nat, i = .int .i64 k ∧ k ≤ n ∧ Hid (gq = n - k) ∧ Hid (∀ j, j < k → ¬ (V j < 0 ∨ 2147483647 < V j)) ∧ wr = w)
  case atStart => exact ⟨0, rfl, by omega, Lib.hid rfl, Lib.hid (fun j hj => by omega), rfl⟩
  case round =>
    obtain ⟨k, rfl, hk, HG, HB, rfl⟩ := hrel
    by_cases hlt : k < n
    · obtain ⟨b, off, rfl, hb, hx⟩ := HL.out k hlt
      have i1 : (k : Int) < n := by omega
      clear HL
      by_cases hv1 : V k < 0
      · have HM := Lib.hid (show Wilds V n from ⟨k, hlt, .inl hv1⟩)
        go_wp2
        go_ret
        exact ⟨k, rfl, by simp [HM.out], rfl⟩
      by_cases hv2 : 2147483647 < V k
      · have HM := Lib.hid (show Wilds V n from ⟨k, hlt, .inr hv2⟩)
        go_wp2
        go_ret
        exact ⟨k, rfl, by simp [HM.out], rfl⟩
      · have HN := Lib.hid (show ¬ (V k < 0 ∨ 2147483647 < V k) by omega)
        go_wp2
        go_roundg (n - (k + 1))
        case measure => have := HG.out; omega
        case rel => exact ⟨k + 1, rfl, by omega, Lib.hid rfl, Lib.hid (all_snoc HB.out HN.out), rfl⟩
    · have HM := Lib.hid (show ¬ Wilds V n from fun ⟨j, hj, h⟩ => HB.out j (by omega) h)
      clear HL HB
      go_wp2
      go_ret
      exact ⟨-1, rfl, by simp [HM.out], rfl⟩

noncomputable instance (V : Nat → ByteArray) (n : Nat) : Decidable (Longs V n) := Classical.propDecidable _
set_option maxRecDepth 100000 in
theorem contains60 (A : Option Addr) (n c : Nat) (V : Nat → ByteArray) (hn : n ≤ 9223372036854775807) (w : World) (hl : Txt w A n V) :
    Calls Try.prog 60 #[.slice A n c, .func (.func 61) #[] #[]] w fun e w' => e = .returned (.bool (decide (Longs V n))) ∧ w' = w := by
  have HL := Lib.hid hl
  clear hl
  go_enter Try.func60, Try.ntmps60
  go_wp2_with (first | (go_at_call 66; refine (index66 A n c V hn _ HL.out).mono ?_; rintro e w1 ⟨m, rfl, hm, rfl⟩))
  go_ret
  exact ⟨rfl, rfl⟩

noncomputable instance (V : Nat → Int) (n : Nat) : Decidable (Wilds V n) := Classical.propDecidable _
set_option maxRecDepth 100000 in
theorem contains62 (A : Option Addr) (n c : Nat) (V : Nat → Int) (hn : n ≤ 9223372036854775807) (w : World) (hl : Num w A n V) :
    Calls Try.prog 62 #[.slice A n c, .func (.func 63) #[] #[]] w fun e w' => e = .returned (.bool (decide (Wilds V n))) ∧ w' = w := by
  have HL := Lib.hid hl
  clear hl
  go_enter Try.func62, Try.ntmps62
  go_wp2_with (first | (go_at_call 67; refine (index67 A n c V hn _ HL.out).mono ?_; rintro e w1 ⟨m, rfl, hm, rfl⟩))
  go_ret
  exact ⟨rfl, rfl⟩

end Go.Proofs.Ytdajchppblifgaa.Pg
