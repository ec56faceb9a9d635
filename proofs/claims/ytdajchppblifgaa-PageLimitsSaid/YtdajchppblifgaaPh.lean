/- Pages: Check. -/
import Derived.Test.YtdajchppblifgaaPg
namespace Go.Proofs.Ytdajchppblifgaa.Pg
open Go.RowKit Go.Proofs.Ytdajchppblifgaa.Pl Go.Proofs.Ytdajchppblifgaa.Rd Go.Proofs.Ytdajchppblifgaa.Wr Go.Proofs.Ytdajchppblifgaa.Rf
set_option linter.unusedVariables false
set_option linter.unusedSimpArgs false

/-- A page as it lies: what its three lists are. -/
structure P where
  lf : Bool
  A1 : Option Addr
  n1 : Nat
  c1 : Nat
  A2 : Option Addr
  n2 : Nat
  c2 : Nat
  A3 : Option Addr
  n3 : Nat
  c3 : Nat
  K : Nat → ByteArray
  V : Nat → ByteArray
  N : Nat → Int

def P.val (p : P) : Value := .agg #[.bool p.lf, .slice p.A1 p.n1 p.c1, .slice p.A2 p.n2 p.c2, .slice p.A3 p.n3 p.c3]
structure P.In (p : P) (w : World) : Prop where
  k : Txt w p.A1 p.n1 p.K
  v : Txt w p.A2 p.n2 p.V
  n : Num w p.A3 p.n3 p.N
  l1 : p.n1 ≤ 9223372036854775807
  l2 : p.n2 ≤ 9223372036854775807
  l3 : p.n3 ≤ 9223372036854775807
theorem P.In.below {p : P} {w w' : World} (h : p.In w) (hb : Below w.heap.size w w') : p.In w' := ⟨h.k.below hb, h.v.below hb, h.n.below hb, h.l1, h.l2, h.l3⟩

def P.May (p : P) : Prop := Rises p.K p.n1 ∧ (p.lf = true → p.n3 = 0 ∧ p.n2 = p.n1 ∧ ¬ Longs p.V p.n2) ∧ (p.lf = false → p.n2 = 0 ∧ p.n1 ≠ 0 ∧ p.n3 = p.n1 + 1 ∧ ¬ Wilds p.N p.n3)
noncomputable instance (p : P) : Decidable p.May := Classical.propDecidable _
noncomputable def P.err (p : P) : Int := if p.May then 0 else 6

set_option maxRecDepth 100000 in
theorem check_any (p : P) (w : World) (hp : p.In w) :
    Calls Try.prog 51 #[p.val] w fun e w' => e = .returned (.int .i64 p.err) ∧ Below w.heap.size w w' := by
  obtain ⟨lf, A1, n1, c1, A2, n2, c2, A3, n3, c3, K, V, N⟩ := p
  obtain ⟨hk, hv, hn, l1, l2, l3⟩ := hp
  simp only at hk hv hn l1 l2 l3
  have hK := fun (W : World) (hb : Below w.heap.size w W) => rising_any A1 n1 c1 K l1 W (hk.below hb)
  have hV := fun (W : World) (hb : Below w.heap.size w W) => contains60 A2 n2 c2 V l2 W (hv.below hb)
  have hN := fun (W : World) (hb : Below w.heap.size w W) => contains62 A3 n3 c3 N l3 W (hn.below hb)
  have HK := Lib.hid hK
  have HV := Lib.hid hV
  have HN := Lib.hid hN
  clear hK hV hN hk hv hn
  obtain ⟨m, HM⟩ : ∃ m, Hid (m = P.err ⟨lf, A1, n1, c1, A2, n2, c2, A3, n3, c3, K, V, N⟩) := ⟨_, Lib.hid rfl⟩
  rw [← HM.out]
  have hb := fun o => (Below.refl w.heap.size w).alloc (Nat.le_refl _) o
  show Calls Try.prog 51 #[.agg #[.bool lf, .slice A1 n1 c1, .slice A2 n2 c2, .slice A3 n3 c3]] _ _
  have HB := Lib.hid hb
  clear hb
  by_cases hr : Rises K n1
  · have hw : wrap64 ((n1 : Int) + 1) = n1 + 1 := by have := hr.2; unfold wrap64; omega
    have HR := Lib.hid hr
    have hr' : decide (Rises K n1) = true := decide_eq_true hr
    clear hr
    rw [hr'] at HK
    cases lf
    · by_cases h2 : n2 = 0
      · subst h2
        by_cases h1 : (n1 : Int) < 1
        · have hm : m = 6 := by rw [HM.out, P.err, if_neg]; intro h; have := (h.2.2 rfl).2.1; simp only at this; omega
          have hm := Lib.hid hm
          go_enter Try.func51, Try.ntmps51
          go_wp2_with (first | (go_at_call 59; refine (HK.out _ (HB.out _)).mono ?_; rintro e w1 ⟨rfl, rfl⟩))
          go_ret
          exact ⟨by rw [hm.out]; rfl, HB.out _⟩
        · by_cases h3 : (n3 : Int) = n1 + 1
          · cases h4 : decide (Wilds N n3)
            · have hm : m = 0 := by rw [HM.out, P.err, if_pos]; exact ⟨HR.out, fun h => absurd h (by simp), fun _ => ⟨rfl, by simp only; omega, by simp only; omega, by simpa using h4⟩⟩
              have hm := Lib.hid hm
              rw [h4] at HN
              go_enter Try.func51, Try.ntmps51
              go_wp2_with (first | (go_at_call 59; refine (HK.out _ (HB.out _)).mono ?_; rintro e w1 ⟨rfl, rfl⟩) | (go_at_call 62; refine (HN.out _ (HB.out _)).mono ?_; rintro e w1 ⟨rfl, rfl⟩))
              go_ret
              exact ⟨by rw [hm.out]; rfl, HB.out _⟩
            · have hm : m = 6 := by rw [HM.out, P.err, if_neg]; intro h; have := (h.2.2 rfl).2.2.2; simp only at this; simp [this] at h4
              have hm := Lib.hid hm
              rw [h4] at HN
              go_enter Try.func51, Try.ntmps51
              go_wp2_with (first | (go_at_call 59; refine (HK.out _ (HB.out _)).mono ?_; rintro e w1 ⟨rfl, rfl⟩) | (go_at_call 62; refine (HN.out _ (HB.out _)).mono ?_; rintro e w1 ⟨rfl, rfl⟩))
              go_ret
              exact ⟨by rw [hm.out]; rfl, HB.out _⟩
          · have hm : m = 6 := by rw [HM.out, P.err, if_neg]; intro h; have := (h.2.2 rfl).2.2.1; simp only at this; omega
            have hm := Lib.hid hm
            go_enter Try.func51, Try.ntmps51
            go_wp2_with (first | (go_at_call 59; refine (HK.out _ (HB.out _)).mono ?_; rintro e w1 ⟨rfl, rfl⟩))
            go_ret
            exact ⟨by rw [hm.out]; rfl, HB.out _⟩
      · have hm : m = 6 := by rw [HM.out, P.err, if_neg]; intro h; have := (h.2.2 rfl).1; simp only at this; omega
        have hm := Lib.hid hm
        have h2' : 0 < n2 := by omega
        go_enter Try.func51, Try.ntmps51
        go_wp2_with (first | (go_at_call 59; refine (HK.out _ (HB.out _)).mono ?_; rintro e w1 ⟨rfl, rfl⟩))
        go_ret
        exact ⟨by rw [hm.out]; rfl, HB.out _⟩
    · by_cases h3 : n3 = 0
      · subst h3
        by_cases h2 : (n2 : Int) = n1
        · cases h4 : decide (Longs V n2)
          · have hm : m = 0 := by rw [HM.out, P.err, if_pos]; exact ⟨HR.out, fun _ => ⟨rfl, by simp only; omega, by simpa using h4⟩, fun h => absurd h (by simp)⟩
            have hm := Lib.hid hm
            rw [h4] at HV
            go_enter Try.func51, Try.ntmps51
            go_wp2_with (first | (go_at_call 59; refine (HK.out _ (HB.out _)).mono ?_; rintro e w1 ⟨rfl, rfl⟩) | (go_at_call 60; refine (HV.out _ (HB.out _)).mono ?_; rintro e w1 ⟨rfl, rfl⟩))
            go_ret
            exact ⟨by rw [hm.out]; rfl, HB.out _⟩
          · have hm : m = 6 := by rw [HM.out, P.err, if_neg]; intro h; have := (h.2.1 rfl).2.2; simp only at this; simp [this] at h4
            have hm := Lib.hid hm
            rw [h4] at HV
            go_enter Try.func51, Try.ntmps51
            go_wp2_with (first | (go_at_call 59; refine (HK.out _ (HB.out _)).mono ?_; rintro e w1 ⟨rfl, rfl⟩) | (go_at_call 60; refine (HV.out _ (HB.out _)).mono ?_; rintro e w1 ⟨rfl, rfl⟩))
            go_ret
            exact ⟨by rw [hm.out]; rfl, HB.out _⟩
        · have hm : m = 6 := by rw [HM.out, P.err, if_neg]; intro h; have := (h.2.1 rfl).2.1; simp only at this; omega
          have hm := Lib.hid hm
          go_enter Try.func51, Try.ntmps51
          go_wp2_with (first | (go_at_call 59; refine (HK.out _ (HB.out _)).mono ?_; rintro e w1 ⟨rfl, rfl⟩))
          go_ret
          exact ⟨by rw [hm.out]; rfl, HB.out _⟩
      · have hm : m = 6 := by rw [HM.out, P.err, if_neg]; intro h; have := (h.2.1 rfl).1; simp only at this; omega
        have hm := Lib.hid hm
        have h3' : 0 < n3 := by omega
        go_enter Try.func51, Try.ntmps51
        go_wp2_with (first | (go_at_call 59; refine (HK.out _ (HB.out _)).mono ?_; rintro e w1 ⟨rfl, rfl⟩))
        go_ret
        exact ⟨by rw [hm.out]; rfl, HB.out _⟩
  · have hm : m = 6 := by rw [HM.out, P.err, if_neg]; exact fun h => hr h.1
    have hm := Lib.hid hm
    have hr' : decide (Rises K n1) = false := decide_eq_false hr
    clear hr
    rw [hr'] at HK
    go_enter Try.func51, Try.ntmps51
    go_wp2_with (first | (go_at_call 59; refine (HK.out _ (HB.out _)).mono ?_; rintro e w1 ⟨rfl, rfl⟩))
    go_ret
    exact ⟨by rw [hm.out]; rfl, HB.out _⟩

end Go.Proofs.Ytdajchppblifgaa.Pg
