/- Pages: the reference's Bytes of a page that may be. -/
import Derived.Test.YtdajchppblifgaaPi
namespace Go.Proofs.Ytdajchppblifgaa.Pg
open Go.RowKit Go.Proofs.Ytdajchppblifgaa.Pl Go.Proofs.Ytdajchppblifgaa.Rd Go.Proofs.Ytdajchppblifgaa.Wr Go.Proofs.Ytdajchppblifgaa.Rf
set_option linter.unusedVariables false
set_option linter.unusedSimpArgs false

/-- The reference's page p, boxed at w's end. -/
structure Bx (p : P) (w W : World) : Prop where
  box : W.heap[w.heap.size]? = some (.cells p.cells 83 (0, 0))
  bel : Below w.heap.size w W
theorem Bx.start (p : P) (w : World) : Bx p w (w.alloc (.cells p.cells 83)) := ⟨heap_alloc_new w _, (Below.refl _ w).alloc (Nat.le_refl _) _⟩
theorem Bx.below {p : P} {w W W' : World} (h : Bx p w W) (hb : Below W.heap.size W W') : Bx p w W' := ⟨(hb.block _ (blk_lt h.box)).trans h.box, h.bel.trans (hb.mono h.bel.size)⟩
theorem Bx.c {p : P} {w W : World} (h : Bx p w W) : W.cell? ⟨w.heap.size, 0, none⟩ = some (.bool p.lf) ∧ W.cell? ⟨w.heap.size, 1, none⟩ = some (.slice p.A1 p.n1 p.c1) ∧ W.cell? ⟨w.heap.size, 2, none⟩ = some (.slice p.A2 p.n2 p.c2) ∧ W.cell? ⟨w.heap.size, 3, none⟩ = some (.slice p.A3 p.n3 p.c3) :=
  ⟨cell_of_row W _ 0 _ 83 (0, 0) h.box, cell_of_row W _ 1 _ 83 (0, 0) h.box, cell_of_row W _ 2 _ 83 (0, 0) h.box, cell_of_row W _ 3 _ 83 (0, 0) h.box⟩

/-- A call that answers a text t, of at most 9000 bytes; put behind s it makes u. -/
def Says (f : Nat) (args : Array Value) (W : World) (s u : ByteArray) : Prop := ∃ t : ByteArray, t.size ≤ 9000 ∧ s ++ t = u ∧ Calls Try.prog f args W fun e w' => e = .returned (.string t) ∧ Below W.heap.size W w'

set_option maxRecDepth 100000 in
theorem refbytes_core (p : P) (w : World) (E : World → Prop) (f1 f2 f3 : Nat → ByteArray)
    (l1 : p.n1 ≤ 8) (l2 : p.n2 ≤ 8) (l3 : p.n3 ≤ 9)
    (hst : Hid (E (w.alloc (.cells #[.bool p.lf, .slice p.A1 p.n1 p.c1, .slice p.A2 p.n2 p.c2, .slice p.A3 p.n3 p.c3] 83))))
    (hcell : Hid (∀ W, E W → W.cell? ⟨w.heap.size, 0, none⟩ = some (.bool p.lf) ∧ W.cell? ⟨w.heap.size, 1, none⟩ = some (.slice p.A1 p.n1 p.c1) ∧ W.cell? ⟨w.heap.size, 2, none⟩ = some (.slice p.A2 p.n2 p.c2) ∧ W.cell? ⟨w.heap.size, 3, none⟩ = some (.slice p.A3 p.n3 p.c3)))
    (hbel : Hid (∀ W W', E W → Below W.heap.size W W' → E W'))
    (hnum : Hid (∀ W, Says 15 #[.int .u64 p.n1, .int .i64 1] W (if p.lf then ⟨#[1]⟩ else ⟨#[0]⟩) (f1 0)))
    (hz : ∀ k, (f1 k).size ≤ 80000) (hz2 : ∀ k, (f2 k).size ≤ 80000) (hz3 : ∀ k, (f3 k).size ≤ 80000)
    (ht1 : Hid (∀ W k, k < p.n1 → E W → (∃ b off, p.A1 = some ⟨b, off, none⟩ ∧ W.cell? ⟨b, off + k, none⟩ = some (.string (p.K k))) ∧ Says 39 #[.string (p.K k)] W (f1 k) (f1 (k + 1))))
    (h12 : f2 0 = f1 p.n1)
    (ht2 : Hid (∀ W k, k < p.n2 → E W → (∃ b off, p.A2 = some ⟨b, off, none⟩ ∧ W.cell? ⟨b, off + k, none⟩ = some (.string (p.V k))) ∧ Says 39 #[.string (p.V k)] W (f2 k) (f2 (k + 1))))
    (h23 : f3 0 = f2 p.n2)
    (ht3 : Hid (∀ W k, k < p.n3 → E W → (∃ b off, p.A3 = some ⟨b, off, none⟩ ∧ W.cell? ⟨b, off + k, none⟩ = some (.int .i64 (p.N k))) ∧ IntKind.u64.wrap (p.N k) = p.N k ∧ Says 15 #[.int .u64 (p.N k), .int .i64 4] W (f3 k) (f3 (k + 1)))) :
    Calls Try.prog 56 #[.agg #[.bool p.lf, .slice p.A1 p.n1 p.c1, .slice p.A2 p.n2 p.c2, .slice p.A3 p.n3 p.c3]] w fun e w' => e = .returned (.string (f3 p.n3)) ∧ E w' := by
  have hw1 : IntKind.u64.wrap (p.n1 : Int) = p.n1 := by rw [IntKind.wrap_u64]; omega
  have HZ := Lib.hid hz
  have HZ2 := Lib.hid hz2
  have HZ3 := Lib.hid hz3
  clear hz hz2 hz3
  obtain ⟨sb, HSB⟩ : ∃ sb : ByteArray, Hid (sb = if p.lf then ⟨#[1]⟩ else ⟨#[0]⟩) := ⟨_, Lib.hid rfl⟩
  obtain ⟨t, ht, hcat, hN⟩ := hnum.out (w.alloc (.cells #[.bool p.lf, .slice p.A1 p.n1 p.c1, .slice p.A2 p.n2 p.c2, .slice p.A3 p.n3 p.c3] 83))
  obtain ⟨x0, x1, x2, x3⟩ := hcell.out _ hst.out
  have HN := Lib.hid hN
  clear hN
  rw [← HSB.out] at hcat
  cases hlf : p.lf
  all_goals (
    have HSB2 : sb = _ := HSB.out
    rw [hlf] at HSB2 HN x0 hst
    simp only [if_true, Bool.false_eq_true, if_false] at HSB2
    subst HSB2
    go_enter Try.func56, Try.ntmps56
    go_upto_block 0 with (first | (go_at_call 15; refine (HN.out).mono ?_; rintro e w1 ⟨rfl, hb1⟩))
    have E1 := Lib.hid (hbel.out _ _ hst.out hb1)
    clear hb1 x0 x1 x2 x3
    go_wp2_with fail
    go_loopg [3, 4] p.n1 (fun gq v i wr => ∃ k : Nat, i = .int .i64 k ∧ v = .string (f1 k) ∧ k ≤ p.n1 ∧ Hid (gq = p.n1 - k) ∧ Hid (E wr))
    case atStart => exact ⟨0, rfl, by (first | rfl | rw [hcat]), by omega, Lib.hid rfl, E1⟩
    case round =>
      clear E1 hcat
      obtain ⟨k, rfl, rfl, hk, HG, HE⟩ := hrel
      obtain ⟨x0, x1, x2, x3⟩ := hcell.out _ HE.out
      have z1 := HZ.out k
      by_cases hlt : k < p.n1
      · obtain ⟨⟨b, off, hA, hx⟩, t2, htz, hc2, hT⟩ := ht1.out _ k hlt HE.out
        rw [hA] at x1
        clear hA
        have i1 : (k : Int) < p.n1 := by omega
        have HT := Lib.hid hT
        clear hT
        go_wp2_with (first | (go_at_call 39; refine (HT.out).mono ?_; rintro e w5 ⟨rfl, hb5⟩))
        go_roundg (p.n1 - (k + 1))
        case measure => have := HG.out; omega
        case rel => exact ⟨k + 1, rfl, by (first | rfl | rw [hc2]), by omega, Lib.hid rfl, Lib.hid (hbel.out _ _ HE.out hb5)⟩
      · have hkn : k = p.n1 := by omega
        have i1 : ¬ (k : Int) < p.n1 := by omega
        have hf : f1 k = f2 0 := by rw [hkn, h12]
        go_wp2_with fail
        go_loopg [3, 5] p.n2 (fun gq v i wx => ∃ k : Nat, i = .int .i64 k ∧ v = .string (f2 k) ∧ k ≤ p.n2 ∧ Hid (gq = p.n2 - k) ∧ Hid (E wx))
        case atStart => exact ⟨0, rfl, by (first | rfl | rw [h12] | rw [h23] | rw [hf]), by omega, Lib.hid rfl, HE⟩
        case round =>
          clear HE x0 x1 x2 x3 z1 hf
          obtain ⟨j, rfl, rfl, hj, HJ, HE⟩ := hrel
          obtain ⟨x0, x1, x2, x3⟩ := hcell.out _ HE.out
          have z1 := HZ2.out j
          by_cases hlt : j < p.n2
          · obtain ⟨⟨b, off, hA, hx⟩, t2, htz, hc2, hT⟩ := ht2.out _ j hlt HE.out
            rw [hA] at x2
            clear hA
            have i1 : (j : Int) < p.n2 := by omega
            have HT := Lib.hid hT
            clear hT
            go_wp2_with (first | (go_at_call 39; refine (HT.out).mono ?_; rintro e w5 ⟨rfl, hb5⟩))
            go_roundg (p.n2 - (j + 1))
            case measure => have := HJ.out; omega
            case rel => exact ⟨j + 1, rfl, by (first | rfl | rw [hc2]), by omega, Lib.hid rfl, Lib.hid (hbel.out _ _ HE.out hb5)⟩
          · have hjn : j = p.n2 := by omega
            have i1 : ¬ (j : Int) < p.n2 := by omega
            have hf : f2 j = f3 0 := by rw [hjn, h23]
            go_wp2_with fail
            go_loopg [3, 6] p.n3 (fun gq v i wx => ∃ k : Nat, i = .int .i64 k ∧ v = .string (f3 k) ∧ k ≤ p.n3 ∧ Hid (gq = p.n3 - k) ∧ Hid (E wx))
            case atStart => exact ⟨0, rfl, by (first | rfl | rw [h12] | rw [h23] | rw [hf]), by omega, Lib.hid rfl, HE⟩
            case round =>
              clear HE x0 x1 x2 x3 z1 hf
              obtain ⟨m, rfl, rfl, hm, HM, HE⟩ := hrel
              obtain ⟨x0, x1, x2, x3⟩ := hcell.out _ HE.out
              have z1 := HZ3.out m
              by_cases hlt : m < p.n3
              · obtain ⟨⟨b, off, hA, hx⟩, hw, t2, htz, hc2, hT⟩ := ht3.out _ m hlt HE.out
                rw [hA] at x3
                clear hA
                have i1 : (m : Int) < p.n3 := by omega
                have HT := Lib.hid hT
                clear hT
                go_wp2_with (first | (go_at_call 15; refine (HT.out).mono ?_; rintro e w5 ⟨rfl, hb5⟩))
                go_roundg (p.n3 - (m + 1))
                case measure => have := HM.out; omega
                case rel => exact ⟨m + 1, rfl, by (first | rfl | rw [hc2]), by omega, Lib.hid rfl, Lib.hid (hbel.out _ _ HE.out hb5)⟩
              · have hmn : m = p.n3 := by omega
                have i1 : ¬ (m : Int) < p.n3 := by omega
                rw [← hmn]
                go_wp2_with fail
                go_ret
                exact ⟨rfl, HE.out⟩)

theorem says_text (s : ByteArray) (xs : List UInt8) (u : ByteArray) (hs : s.size ≤ 8192) (hu : u = mkS (xs ++ textB s)) (W : World) : Says 39 #[.string s] W (mkS xs) u :=
  ⟨mkS (textB s), by rw [mkS_size, textB_length]; omega, by rw [mkS_append, hu], reftext_any s (by omega) W⟩
theorem says_num (n : Nat) (b : Int) (xs : List UInt8) (u : ByteArray) (hn : n < 18446744073709551616) (hb : width b ≤ 8) (hu : u = mkS (xs ++ digits n (width b))) (W : World) : Says 15 #[.int .u64 n, .int .i64 b] W (mkS xs) u :=
  ⟨mkS (digits n (width b)), by rw [mkS_size, digits_length]; omega, by rw [mkS_append, hu], refnum_any n b hn W⟩
theorem at_min1 {p : P} (h : p.Small) (k : Nat) : (mkS (p.at 1 (min k p.n1))).size ≤ 80000 := by
  have := P.at1 h (k := min k p.n1) (by omega)
  rw [mkS_size]
  omega
theorem at_min2 {p : P} (h : p.Small) (k : Nat) : (mkS (p.at 2 (min k p.n2))).size ≤ 80000 := by
  have := P.at2 h (k := min k p.n2) (by omega)
  rw [mkS_size]
  omega
theorem at_min3 {p : P} (h : p.Small) (k : Nat) : (mkS (p.at 3 (min k p.n3))).size ≤ 80000 := by
  have := P.at3 h (k := min k p.n3) (by omega)
  rw [mkS_size]
  omega

theorem refbytes_any (p : P) (w : World) (hp : p.In w) (hm : p.May) :
    Calls Try.prog 56 #[p.val] w fun e w' => e = .returned (.string (mkS p.bytes)) ∧ Below w.heap.size w w' := by
  have hs := hm.small
  have core := refbytes_core p w (Bx p w) (fun k => mkS (p.at 1 (min k p.n1))) (fun k => mkS (p.at 2 (min k p.n2))) (fun k => mkS (p.at 3 (min k p.n3))) hs.s1 hs.s2 hs.s3
    (Lib.hid (Bx.start p w)) (Lib.hid fun W h => h.c) (Lib.hid fun W W' h hb => h.below hb) (Lib.hid fun W => ?_) (at_min1 hs) (at_min2 hs) (at_min3 hs)
    (Lib.hid fun W k hk h => ⟨text_at hp.k h.bel hk, ?_⟩) ?_ (Lib.hid fun W k hk h => ⟨text_at hp.v h.bel hk, ?_⟩) ?_ (Lib.hid fun W k hk h => ⟨num_at hp.n h.bel hk, ?_, ?_⟩)
  · refine core.mono ?_
    rintro e w' ⟨rfl, h⟩
    rw [Nat.min_self]
    exact ⟨rfl, h.bel⟩
  · have e1 : (if p.lf then (⟨#[1]⟩ : ByteArray) else ⟨#[0]⟩) = mkS (digits (if p.lf then 1 else 0) 1) := by
      cases p.lf <;> rfl
    rw [e1]
    exact says_num p.n1 1 _ _ (by have := hs.s1; omega) (by decide) (by show mkS (p.hd ++ tl p.K (min 0 p.n1)) = _; rw [Nat.zero_min, tl, List.append_nil]; rfl) W
  · have h64 := hs.k k hk
    rw [Nat.min_eq_left (Nat.le_of_lt hk), Nat.min_eq_left (Nat.succ_le_of_lt hk)]
    exact says_text (p.K k) _ _ (by omega) (by show mkS (p.hd ++ (tl p.K k ++ textB (p.K k))) = _; rw [← List.append_assoc]; rfl) W
  · show mkS (p.hd ++ tl p.K p.n1 ++ tl p.V (min 0 p.n2)) = mkS (p.hd ++ tl p.K (min p.n1 p.n1))
    rw [Nat.zero_min, tl, List.append_nil, Nat.min_self]
  · have h64 := hs.v k hk
    rw [Nat.min_eq_left (Nat.le_of_lt hk), Nat.min_eq_left (Nat.succ_le_of_lt hk)]
    exact says_text (p.V k) _ _ (by omega) (by show mkS (p.hd ++ tl p.K p.n1 ++ (tl p.V k ++ textB (p.V k))) = _; rw [← List.append_assoc]; rfl) W
  · show mkS (p.hd ++ tl p.K p.n1 ++ tl p.V p.n2 ++ nl p.N (min 0 p.n3)) = mkS (p.hd ++ tl p.K p.n1 ++ tl p.V (min p.n2 p.n2))
    rw [Nat.zero_min, nl, List.append_nil, Nat.min_self]
  · have := hs.n k hk
    rw [IntKind.wrap_u64]
    omega
  · have h64 := hs.n k hk
    rw [Nat.min_eq_left (Nat.le_of_lt hk), Nat.min_eq_left (Nat.succ_le_of_lt hk)]
    have hi : p.N k = (((p.N k).toNat : Nat) : Int) := by omega
    have := says_num (p.N k).toNat 4 (p.at 3 k) (mkS (p.at 3 (k + 1))) (by omega) (by decide) (by show mkS (p.hd ++ tl p.K p.n1 ++ tl p.V p.n2 ++ (nl p.N k ++ digits (p.N k).toNat 4)) = _; rw [← List.append_assoc]; rfl) W
    rw [← hi] at this
    exact this

end Go.Proofs.Ytdajchppblifgaa.Pg
