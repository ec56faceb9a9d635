/- Pages: the reference's Check (cupelref05.Check, 53) of a page that lies in memory answers as the page's own form says. -/
import Derived.Test.YtdajchppblifgaaPs
import Derived.Deep.QuietTactic
import Derived.BigQuiet
namespace Go.Proofs.Ytdajchppblifgaa.Pg
open Go.RowKit Go.Proofs.Ytdajchppblifgaa.Pl Go.Proofs.Ytdajchppblifgaa.Rd Go.Proofs.Ytdajchppblifgaa.Wr Go.Proofs.Ytdajchppblifgaa.Rf
set_option linter.unusedVariables false
set_option linter.unusedSimpArgs false

theorem Bx.draws {p : P} {w W : World} (h : Bx p w W) (n : Nat) : Bx p w (W.drewN n) := ⟨h.box, h.bel.trans ⟨rfl, rfl, rfl, Nat.le_refl _, fun _ _ => rfl⟩⟩
theorem err_may {p : P} (h : p.May) : p.err = 0 := if_pos h
theorem err_not {p : P} (h : ¬ p.May) : p.err = 6 := if_neg h
theorem empty_size (s : ByteArray) : s.toList = [] ↔ s.size = 0 := by
  rw [ByteArray.toList_eq]
  constructor
  · intro h
    have : s.data.size = 0 := by rw [← Array.length_toList, h]; rfl
    exact this
  · intro h
    have h : s.data.size = 0 := h
    rw [Array.eq_empty_of_size_eq_zero h]
theorem bad_empty {K : Nat → ByteArray} {k : Nat} {x : ByteArray} (hx : x = K k) (h : (x.toList == ([] : List UInt8)) = true) : keyBad K k := by
  have h2 := (empty_size x).mp (by simpa using h)
  subst hx
  exact .inl (by omega)
theorem bad_long {K : Nat → ByteArray} {k : Nat} {x : ByteArray} (hx : x = K k) (h : decide (64 < (x.size : Int)) = true) : keyBad K k := by
  have h2 := of_decide_eq_true h
  subst hx
  exact .inr (.inl (by omega))
theorem bad_order {K : Nat → ByteArray} {j : Nat} {x y : ByteArray} (hx : x = K (j + 1)) (hy : y = K j) (h : Op.bytesLess y.toList x.toList = false) : keyBad K (j + 1) := by
  subst hx hy
  exact .inr (.inr ⟨by omega, by rw [Nat.add_sub_cancel]; exact h⟩)
theorem fine0 {K : Nat → ByteArray} {x : ByteArray} (hx : x = K 0) (h1 : (x.toList == ([] : List UInt8)) = false) (h2 : decide (64 < (x.size : Int)) = false) : ¬ keyBad K 0 := by
  have g1 : ¬ x.size = 0 := fun h => by rw [(empty_size x).mpr h] at h1; simp at h1
  have g2 := of_decide_eq_false h2
  exact not_bad0 hx (by omega) (by omega)
theorem fineS {K : Nat → ByteArray} {j : Nat} {x y : ByteArray} (hx : x = K (j + 1)) (hy : y = K j) (h1 : (x.toList == ([] : List UInt8)) = false) (h2 : decide (64 < (x.size : Int)) = false) (h3 : Op.bytesLess y.toList x.toList = true) : ¬ keyBad K (j + 1) := by
  have g1 : ¬ x.size = 0 := fun h => by rw [(empty_size x).mpr h] at h1; simp at h1
  have g2 := of_decide_eq_false h2
  exact not_badS hx hy (by omega) (by omega) h3
theorem cell_int {w W : World} {A : Option Addr} {n : Nat} {S : Nat → ByteArray} (h : Txt w A n S) (hb : Below w.heap.size w W) {k : Nat} (hk : k < n) {i : Int} (hi : i = k) : ∃ b off, A = some ⟨b, off, none⟩ ∧ W.cell? ⟨b, off + i.toNat, none⟩ = some (.string (S k)) := by
  subst hi
  exact text_at h hb hk
theorem cell_num {w W : World} {A : Option Addr} {n : Nat} {S : Nat → Int} (h : Num w A n S) (hb : Below w.heap.size w W) {k : Nat} (hk : k < n) {i : Int} (hi : i = k) : ∃ b off, A = some ⟨b, off, none⟩ ∧ W.cell? ⟨b, off + i.toNat, none⟩ = some (.int .i64 (S k)) := by
  subst hi
  exact num_at h hb hk

set_option maxRecDepth 100000 in
set_option maxHeartbeats 4000000 in
theorem ref53 (p : P) (w : World) (hp : p.In w) :
    Calls Try.prog 53 #[p.val] w fun e w' => e = .returned (.int .i64 p.err) ∧ Below w.heap.size w w' := by
  have hst := Bx.start p w
  have HC := Lib.hid (fun (W : World) (h : Bx p w W) => h.c)
  have HP := Lib.hid hp
  have l1 := hp.l1
  have l2 := hp.l2
  have l3 := hp.l3
  clear hp
  obtain ⟨m, HM⟩ : ∃ m, Hid (m = p.err) := ⟨_, Lib.hid rfl⟩
  rw [← HM.out]
  obtain ⟨x0, x1, x2, x3⟩ := HC.out _ hst
  have HS := Lib.hid hst
  clear hst
  unfold P.val P.cells at *
  by_cases h8 : 8 < (p.n1 : Int)
  · have hm : m = 6 := by rw [HM.out, err_not (fun h => by have := h.1.2; omega)]
    subst hm
    go_enter Try.func53, Try.ntmps53
    go_wp2_with fail
    go_ret
    exact ⟨rfl, HS.out.bel⟩
  · have H8 := Lib.hid h8
    go_enter Try.func53, Try.ntmps53
    go_wp2_with fail
    clear h8
    go_loopg [3] p.n1 (fun gq v wr => ∃ (k : Nat) (i : Int), v = .int .i64 i ∧ Hid (i = k) ∧ Hid (k ≤ p.n1) ∧ Hid (gq = p.n1 - k) ∧ Hid (∀ j, j < k → ¬ keyBad p.K j) ∧ Hid (Bx p w wr))
    case atStart => exact ⟨0, 0, rfl, Lib.hid rfl, Lib.hid (by omega), Lib.hid rfl, Lib.hid (fun j hj => by omega), HS⟩
    case round =>
      clear HS x0 x1 x2 x3
      obtain ⟨k, i, rfl, HI, HK, HG, HB, HE⟩ := hrel
      obtain ⟨x0, x1, x2, x3⟩ := HC.out _ HE.out
      by_cases hlt : k < p.n1
      · have q1 : decide (i < (p.n1 : Int)) = true := by have := HI.out; simp only [decide_eq_true_eq]; omega
        have q2 : (0 ≤ i) = True := by have := HI.out; simp only [eq_iff_iff, iff_true]; omega
        have q3 : (i < (p.n1 : Int)) = True := by have := HI.out; simp only [eq_iff_iff, iff_true]; omega
        obtain ⟨b, off, hA, hx⟩ := cell_int HP.out.k HE.out.bel hlt HI.out
        rw [hA] at x1
        have HA := Lib.hid hA
        clear hA
        obtain ⟨x, HX⟩ : ∃ x, Hid (x = p.K k) := ⟨_, Lib.hid rfl⟩
        rw [← HX.out] at hx
        cases e1 : (x.toList == ([] : List UInt8))
        · cases e2 : decide (64 < (x.size : Int))
          · rcases k with _ | j
            · have hN := fine0 HX.out e1 e2
              have HN := Lib.hid (all_snoc HB.out hN)
              clear hN
              have q4 : decide (0 < i) = false := by have := HI.out; simp only [decide_eq_false_iff_not]; omega
              have HI2 := Lib.hid (show wrap64 (i + 1) = ((0 + 1 : Nat) : Int) by have := HI.out; unfold wrap64; omega)
              go_wp2
              go_quiet (fail)
              go_wp2
              go_roundg (p.n1 - (0 + 1))
              case measure => have := HG.out; omega
              case rel => exact ⟨0 + 1, wrap64 (i + 1), rfl, HI2, Lib.hid (by omega), Lib.hid rfl, HN, Lib.hid (HE.out.draws _)⟩
            · obtain ⟨pi, HPI⟩ : ∃ pi : Int, Hid (pi = (j : Int)) := ⟨_, Lib.hid rfl⟩
              have q4 : decide (0 < i) = true := by have := HI.out; simp only [decide_eq_true_eq]; omega
              have q5 : IntKind.i64.wrap (i - 1) = pi := by have := HI.out; have := HPI.out; have := H8.out; rw [IntKind.wrap_i64]; omega
              have q6 : (0 ≤ pi) = True := by have := HPI.out; simp only [eq_iff_iff, iff_true]; omega
              have q7 : (pi < (p.n1 : Int)) = True := by have := HPI.out; simp only [eq_iff_iff, iff_true]; omega
              obtain ⟨b', off', hA', hy⟩ := cell_int HP.out.k HE.out.bel (show j < p.n1 by omega) HPI.out
              have hA' := hA'.symm.trans HA.out
              simp only [Option.some.injEq, Addr.mk.injEq, and_true] at hA'
              obtain ⟨rfl, rfl⟩ := hA'
              obtain ⟨y, HY⟩ : ∃ y, Hid (y = p.K j) := ⟨_, Lib.hid rfl⟩
              rw [← HY.out] at hy
              cases e3 : Op.bytesLess y.toList x.toList
              · have hm : m = 6 := by rw [HM.out, err_not (fun h => h.1.1 _ hlt (bad_order HX.out HY.out e3))]
                subst hm
                go_wp2
                go_quiet (fail)
                go_wp2
                go_ret
                exact ⟨rfl, (HE.out.draws _).bel⟩
              · have HN := Lib.hid (all_snoc HB.out (fineS HX.out HY.out e1 e2 e3))
                have HI2 := Lib.hid (show wrap64 (i + 1) = ((j + 1 + 1 : Nat) : Int) by have := HI.out; have := H8.out; unfold wrap64; omega)
                go_wp2
                go_quiet (fail)
                go_wp2
                go_roundg (p.n1 - (j + 1 + 1))
                case measure => have := HG.out; omega
                case rel => exact ⟨j + 1 + 1, wrap64 (i + 1), rfl, HI2, Lib.hid (by omega), Lib.hid rfl, HN, Lib.hid (HE.out.draws _)⟩
          · have hm : m = 6 := by rw [HM.out, err_not (fun h => h.1.1 k hlt (bad_long HX.out e2))]
            subst hm
            go_wp2
            go_quiet (fail)
            go_wp2
            go_ret
            exact ⟨rfl, (HE.out.draws _).bel⟩
        · have hm : m = 6 := by rw [HM.out, err_not (fun h => h.1.1 k hlt (bad_empty HX.out e1))]
          subst hm
          go_wp2
          go_quiet (fail)
          go_wp2
          go_ret
          exact ⟨rfl, (HE.out.draws _).bel⟩
      · have hr : Rises p.K p.n1 := ⟨fun j hj => HB.out j (by have := HK.out; omega), by have := H8.out; omega⟩
        have q1 : decide (i < (p.n1 : Int)) = false := by have := HI.out; simp only [decide_eq_false_iff_not]; omega
        have HR := Lib.hid hr
        clear hr HB HG
        cases hlf : p.lf
        · rw [hlf] at x0
          by_cases h2 : p.n2 = 0
          · rw [h2] at x2
            by_cases h1 : p.n1 = 0
            · have hm : m = 6 := by rw [HM.out, err_not (fun h => (h.2.2 hlf).2.1 h1)]
              subst hm
              have q2 : ((p.n1 : Int) == 0) = true := by rw [beq_iff_eq]; omega
              clear h1
              go_wp2
              go_ret
              exact ⟨rfl, HE.out.bel⟩
            · have q2 : ((p.n1 : Int) == 0) = false := by rw [beq_eq_false_iff_ne]; omega
              have q3 : (p.n1 : Int) ≤ 8 := by have := H8.out; omega
              by_cases h3 : p.n3 = p.n1 + 1
              · have q4 : ((p.n3 : Int) != (p.n1 : Int) + 1) = false := by rw [bne_eq_false_iff_eq]; omega
                have H3 := Lib.hid h3
                clear h3
                go_wp2
                clear q1 q2 q3 q4 hlt x0 x1 x2 x3 HI HK
                go_loopg [5] p.n3 (fun gq v wr => ∃ (k : Nat) (i : Int), v = .int .i64 i ∧ Hid (i = k) ∧ Hid (k ≤ p.n3) ∧ Hid (gq = p.n3 - k) ∧ Hid (∀ j, j < k → ¬ (p.N j < 0 ∨ 2147483647 < p.N j)) ∧ Hid (Bx p w wr))
                case atStart => exact ⟨0, 0, rfl, Lib.hid rfl, Lib.hid (by omega), Lib.hid rfl, Lib.hid (fun j hj => by omega), HE⟩
                case round =>
                  clear HE
                  obtain ⟨k, i, rfl, HI, HK, HG, HB, HE⟩ := hrel
                  obtain ⟨x0, x1, x2, x3⟩ := HC.out _ HE.out
                  by_cases hlt : k < p.n3
                  · have q1 : decide (i < (p.n3 : Int)) = true := by have := HI.out; simp only [decide_eq_true_eq]; omega
                    have q2 : (0 ≤ i) = True := by have := HI.out; simp only [eq_iff_iff, iff_true]; omega
                    have q3 : (i < (p.n3 : Int)) = True := by have := HI.out; simp only [eq_iff_iff, iff_true]; omega
                    obtain ⟨b, off, hA, hx⟩ := cell_num HP.out.n HE.out.bel hlt HI.out
                    rw [hA] at x3
                    clear hA
                    obtain ⟨x, HX⟩ : ∃ x, Hid (x = p.N k) := ⟨_, Lib.hid rfl⟩
                    rw [← HX.out] at hx
                    cases e1 : decide (x < 0)
                    · cases e2 : decide (2147483647 < x)
                      · have HN := Lib.hid (all_snoc HB.out (show ¬ (p.N k < 0 ∨ 2147483647 < p.N k) by rw [← HX.out]; have := of_decide_eq_false e1; have := of_decide_eq_false e2; omega))
                        have HI2 := Lib.hid (show wrap64 (i + 1) = ((k + 1 : Nat) : Int) by have := HI.out; have := H8.out; have := H3.out; unfold wrap64; omega)
                        go_wp2
                        go_roundg (p.n3 - (k + 1))
                        case measure => have := HG.out; omega
                        case rel => exact ⟨k + 1, wrap64 (i + 1), rfl, HI2, Lib.hid (by omega), Lib.hid rfl, HN, HE⟩
                      · have hm : m = 6 := by rw [HM.out, err_not (fun h => (h.2.2 hlf).2.2.2 ⟨k, hlt, .inr (by rw [← HX.out]; exact of_decide_eq_true e2)⟩)]
                        subst hm
                        go_wp2
                        go_ret
                        exact ⟨rfl, HE.out.bel⟩
                    · have hm : m = 6 := by rw [HM.out, err_not (fun h => (h.2.2 hlf).2.2.2 ⟨k, hlt, .inl (by rw [← HX.out]; exact of_decide_eq_true e1)⟩)]
                      subst hm
                      go_wp2
                      go_ret
                      exact ⟨rfl, HE.out.bel⟩
                  · have q1 : decide (i < (p.n3 : Int)) = false := by have := HI.out; simp only [decide_eq_false_iff_not]; omega
                    have hm : m = 0 := by rw [HM.out, err_may ⟨HR.out, fun h => absurd (hlf.symm.trans h) (by simp), fun _ => ⟨h2, h1, H3.out, fun ⟨j, hj, hj2⟩ => HB.out j (by have := HK.out; omega) hj2⟩⟩]
                    subst hm
                    go_wp2
                    go_ret
                    exact ⟨rfl, HE.out.bel⟩
              · have q4 : ((p.n3 : Int) != (p.n1 : Int) + 1) = true := by rw [bne_iff_ne]; omega
                have hm : m = 6 := by rw [HM.out, err_not (fun h => h3 (h.2.2 hlf).2.2.1)]
                subst hm
                go_wp2
                go_ret
                exact ⟨rfl, HE.out.bel⟩
          · have hm : m = 6 := by rw [HM.out, err_not (fun h => h2 (h.2.2 hlf).1)]
            subst hm
            have q2 : ((p.n2 : Int) != 0) = true := by rw [bne_iff_ne]; omega
            go_wp2
            go_ret
            exact ⟨rfl, HE.out.bel⟩
        · rw [hlf] at x0
          by_cases h3 : p.n3 = 0
          · have q2 : ((p.n3 : Int) != 0) = false := by rw [bne_eq_false_iff_eq]; omega
            by_cases h2 : p.n2 = p.n1
            · have q3 : ((p.n2 : Int) != (p.n1 : Int)) = false := by rw [bne_eq_false_iff_eq]; omega
              have H2 := Lib.hid h2
              have H3 := Lib.hid h3
              clear h2 h3
              go_wp2
              clear q1 q2 q3 hlt x0 x1 x2 x3 HI HK
              go_loopg [4] p.n2 (fun gq v wr => ∃ (k : Nat) (i : Int), v = .int .i64 i ∧ Hid (i = k) ∧ Hid (k ≤ p.n2) ∧ Hid (gq = p.n2 - k) ∧ Hid (∀ j, j < k → ¬ (8192 < (p.V j).size)) ∧ Hid (Bx p w wr))
              case atStart => exact ⟨0, 0, rfl, Lib.hid rfl, Lib.hid (by omega), Lib.hid rfl, Lib.hid (fun j hj => by omega), HE⟩
              case round =>
                clear HE
                obtain ⟨k, i, rfl, HI, HK, HG, HB, HE⟩ := hrel
                obtain ⟨x0, x1, x2, x3⟩ := HC.out _ HE.out
                by_cases hlt : k < p.n2
                · have q1 : decide (i < (p.n2 : Int)) = true := by have := HI.out; simp only [decide_eq_true_eq]; omega
                  have q2 : (0 ≤ i) = True := by have := HI.out; simp only [eq_iff_iff, iff_true]; omega
                  have q3 : (i < (p.n2 : Int)) = True := by have := HI.out; simp only [eq_iff_iff, iff_true]; omega
                  obtain ⟨b, off, hA, hx⟩ := cell_int HP.out.v HE.out.bel hlt HI.out
                  rw [hA] at x2
                  clear hA
                  obtain ⟨x, HX⟩ : ∃ x, Hid (x = p.V k) := ⟨_, Lib.hid rfl⟩
                  rw [← HX.out] at hx
                  cases e2 : decide (8192 < (x.size : Int))
                  · have HN := Lib.hid (all_snoc HB.out (show ¬ (8192 < (p.V k).size) by rw [← HX.out]; have := of_decide_eq_false e2; omega))
                    have HI2 := Lib.hid (show wrap64 (i + 1) = ((k + 1 : Nat) : Int) by have := HI.out; have := H8.out; have := H2.out; unfold wrap64; omega)
                    go_wp2
                    go_roundg (p.n2 - (k + 1))
                    case measure => have := HG.out; omega
                    case rel => exact ⟨k + 1, wrap64 (i + 1), rfl, HI2, Lib.hid (by omega), Lib.hid rfl, HN, HE⟩
                  · have hm : m = 6 := by rw [HM.out, err_not (fun h => (h.2.1 hlf).2.2 ⟨k, hlt, by rw [← HX.out]; have := of_decide_eq_true e2; omega⟩)]
                    subst hm
                    go_wp2
                    go_ret
                    exact ⟨rfl, HE.out.bel⟩
                · have q1 : decide (i < (p.n2 : Int)) = false := by have := HI.out; simp only [decide_eq_false_iff_not]; omega
                  have hm : m = 0 := by rw [HM.out, err_may ⟨HR.out, fun _ => ⟨H3.out, H2.out, fun ⟨j, hj, hj2⟩ => HB.out j (by have := HK.out; omega) hj2⟩, fun h => absurd (hlf.symm.trans h) (by simp)⟩]
                  subst hm
                  go_wp2
                  go_ret
                  exact ⟨rfl, HE.out.bel⟩
            · have q3 : ((p.n2 : Int) != (p.n1 : Int)) = true := by rw [bne_iff_ne]; omega
              have hm : m = 6 := by rw [HM.out, err_not (fun h => h2 (h.2.1 hlf).2.1)]
              subst hm
              go_wp2
              go_ret
              exact ⟨rfl, HE.out.bel⟩
          · have q2 : ((p.n3 : Int) != 0) = true := by rw [bne_iff_ne]; omega
            have hm : m = 6 := by rw [HM.out, err_not (fun h => h3 (h.2.1 hlf).1)]
            subst hm
            go_wp2
            go_ret
            exact ⟨rfl, HE.out.bel⟩

end Go.Proofs.Ytdajchppblifgaa.Pg
