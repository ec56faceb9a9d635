/- WirePuts' walk. -/
import Derived.Test.YtdajchppblifgaaRh
import Derived.Deep.RegionWith
import Derived.Deep.LoopGhost
import Derived.Deep.DeepCutAuto
import Derived.Deep.CutBlock
namespace Go.Proofs.Ytdajchppblifgaa.Rf
open Go.RowKit Go.Proofs.Ytdajchppblifgaa.Pl Go.Proofs.Ytdajchppblifgaa.Rd Go.Proofs.Ytdajchppblifgaa.Wr
set_option linter.unusedVariables false
set_option linter.unusedSimpArgs false

/-- Behind some puts: the writer has the bytes xs. -/
structure Pt (w W : World) (k : Nat) (xs : List UInt8) : Prop where
  wt : Wt W w.heap.size w.heap.size xs
  len : xs.length ≤ 700 * k
  bel : Below w.heap.size w W
theorem Pt.drewN {w W : World} {k : Nat} {xs : List UInt8} (h : Pt w W k xs) (n : Nat) : Pt w (W.drewN n) k xs :=
  ⟨h.wt, h.len, ⟨h.bel.os, h.bel.tape, h.bel.output, h.bel.size, h.bel.block⟩⟩
theorem Pt.put {w W W1 : World} {k : Nat} {xs ys : List UInt8} (h : Pt w W k xs) (hw : Wt W1 w.heap.size w.heap.size (xs ++ ys)) (hb : Below w.heap.size W W1) (hl : ys.length ≤ 700) : Pt w W1 (k + 1) (xs ++ ys) :=
  ⟨hw, by have := h.len; rw [List.length_append]; omega, h.bel.trans hb⟩
theorem Pt.below {w W W1 : World} {k : Nat} {xs : List UInt8} (h : Pt w W k xs) (hb : Below W.heap.size W W1) : Pt w W1 k xs :=
  ⟨h.wt.below hb (Nat.le_refl _), h.len, h.bel.trans (hb.mono h.bel.size)⟩
theorem pt_start (w : World) : Pt w (w.alloc (.cells #[.slice none 0 0] 94)) 0 [] :=
  ⟨⟨Nat.le_refl _, none, 0, heap_alloc_new w _, World.ownsRow_nil _ _ _ _⟩, by simp, (Below.refl _ _).alloc (Nat.le_refl _) _⟩

theorem and1 (y : Int) : ∃ d : Nat, d ≤ 1 ∧ bits .and .i64 y 1 = d := by
  have h : (BitVec.ofInt 64 y &&& BitVec.ofInt 64 1).toNat ≤ 1 := by
    rw [BitVec.toNat_and]
    exact Nat.le_trans Nat.and_le_right (by decide)
  have e : bits .and .i64 y 1 = IntKind.i64.wrap (((BitVec.ofInt 64 y &&& BitVec.ofInt 64 1).toNat : Nat) : Int) := rfl
  refine ⟨(BitVec.ofInt 64 y &&& BitVec.ofInt 64 1).toNat, h, ?_⟩
  rw [e, IntKind.wrap_i64]
  omega

theorem bit_if (d : Nat) (h : d ≤ 1) : (if ((d : Int) == 1) = true then 1 else 0) = d := by
  rcases Nat.lt_or_ge d 1 with h0 | h0
  · obtain rfl : d = 0 := by omega
    rfl
  · obtain rfl : d = 1 := by omega
    rfl

/-- What is put, as it lies in memory. -/
def Puts (w : World) (A : Option Addr) (n : Nat) : Prop :=
  ∀ k, k < n → ∃ b off x y s, A = some ⟨b, off, none⟩ ∧ b < w.heap.size ∧ w.cell? ⟨b, off + k * 3, none⟩ = some (.int .i64 x) ∧ w.cell? ⟨b, off + k * 3 + 1, none⟩ = some (.int .i64 y) ∧ w.cell? ⟨b, off + k * 3 + 2, none⟩ = some (.string s) ∧ y ≤ 9223372036854775807

set_option maxRecDepth 100000 in
set_option maxHeartbeats 40000000 in
theorem puts_any (A : Option Addr) (n c : Nat) (hn : n ≤ 9223372036854775807) (w : World) (hl : Puts w A n) :
    Calls Try.prog 6 #[.slice A n c] w fun e w' => e = .returned (.bool true) ∧ Below w.heap.size w w' := by
  have HL := Lib.hid hl
  clear hl
  go_enter Try.func6, Try.ntmps6
  go_upto_block 0 with (first
    | (go_at_call 35; refine (newWriter_any _).mono ?_; rintro e w2 ⟨rfl, rfl⟩))
  have hs0 := pt_start w
  generalize (w.alloc (.cells #[.slice none 0 0] 94)) = w0 at *
  have HS := Lib.hid hs0
  clear hs0
  go_cut [4, 5] (fun v i wx => ∃ xs, v = .string (mkS xs) ∧ Hid (∃ k, k ≤ 20 ∧ Pt w wx k xs))
  case first =>
    go_wp2_with fail
    go_loopg [4, 5] 20 (fun gq v i wr => ∃ (k : Nat) (xs : List UInt8), i = .int .i64 k ∧ v = .string (mkS xs) ∧ k ≤ 20 ∧ Hid (gq = 20 - k) ∧ Hid (Pt w wr k xs))
    case atStart => exact ⟨0, [], rfl, rfl, by omega, Lib.hid rfl, HS⟩
    case round =>
      obtain ⟨k, xs, rfl, rfl, hk, HG, HP⟩ := hrel
      by_cases hlt : k < n ∧ k < 20
      · obtain ⟨h1, h2⟩ := hlt
        obtain ⟨b, off, x, y, s, rfl, hb, hx, hy, hs, hym⟩ := HL.out k h1
        have hB := HP.out.bel
        have hx1 : wr.cell? ⟨b, off + k * 3, none⟩ = some (.int .i64 x) := (hB.cell (p := ⟨b, off + k * 3, none⟩) hb).trans hx
        have hy1 : wr.cell? ⟨b, off + k * 3 + 1, none⟩ = some (.int .i64 y) := (hB.cell (p := ⟨b, off + k * 3 + 1, none⟩) hb).trans hy
        have hs1 : wr.cell? ⟨b, off + k * 3 + 2, none⟩ = some (.string s) := (hB.cell (p := ⟨b, off + k * 3 + 2, none⟩) hb).trans hs
        clear hx hy hs
        obtain ⟨t, HT⟩ : ∃ t, Hid (t = few s) := ⟨_, Lib.hid rfl⟩
        have ht : t.size ≤ 600 := by rw [HT.out]; exact few_size s
        have hF := few_any s
        rw [← HT.out] at hF
        have hF := Lib.hid hF
        have i1 : (k : Int) < n := by omega
        have i2 : (k : Int) < 20 := by omega
        go_wp2_with fail
        go_quiet ((go_at_call 17; exact Calls.quiet_of_same ((hF.out _).mono (fun _ _ h => ⟨h.1, h.2.symm⟩))))
        go_upto_block 2 with (fail)
        have HQ := Lib.hid (HP.out.drewN nq)
        clear hF HS
        clear hs1 hy1
        have hll := HP.out.len
        have hxl : (mkS xs).size ≤ 14000 := by rw [mkS_size]; omega
        generalize wr.drewN nq = W at *
        clear hx1
        go_cut [4] (fun v wx => ∃ ys, v = .string (mkS ys) ∧ Hid (Pt w wx (k + 1) ys))
        case first =>
          by_cases x1 : x = 1
          · as_aux_lemma =>
            subst x1
            obtain ⟨m, hm, hm2⟩ : ∃ m : Nat, IntKind.u64.wrap y = m ∧ m < 18446744073709551616 := ⟨(IntKind.u64.wrap y).toNat, by rw [IntKind.wrap_u64]; omega, by rw [IntKind.wrap_u64]; omega⟩
            have hA := fun W h => wnumber_any w.heap.size w.heap.size xs m 8 hm2 (by omega) W h
            have hB := fun W => refnum_any m 8 hm2 W
            rw [show width 8 = 8 from rfl] at hA hB
            rw [show numS m 8 = mkS (digits m 8) from rfl] at hB
            have hcat := mkS_append xs (digits m 8)
            have hyl : (digits m 8).length ≤ 700 := by rw [digits_length]; omega
            have hys : (mkS (digits m 8)).size ≤ 700 := by rw [mkS_size]; exact hyl
            generalize digits m 8 = ys at *
            have HY := Lib.hid hyl
            clear hyl
            have hA := Lib.hid hA
            have hB := Lib.hid hB
            clear hm2
            go_wp2_with (first
              | (go_at_call 36; refine (hA.out _ HQ.out.wt).mono ?_; rintro e w1 ⟨rfl, hw1, hb1⟩)
              | (go_at_call 15; refine (hB.out _).mono ?_; rintro e w3 ⟨rfl, hb2⟩))
            go_meet
            exact ⟨xs ++ ys, rfl, Lib.hid ((HQ.out.put hw1 hb1 HY.out).below hb2)⟩
          have x1' : (x == 1) = false := by simpa using x1
          clear x1
          by_cases x2 : x = 2
          · as_aux_lemma =>
            subst x2
            by_cases hy0 : y < 0
            · skip
              have hA := fun W h => wcount_any w.heap.size w.heap.size xs y (by omega) (by omega) W h
              have hB := fun W => refnum_any 0 4 (by omega) W
              rw [show width 4 = 4 from rfl, show numS 0 4 = mkS (digits 0 4) from rfl, show ((0 : Nat) : Int) = 0 from rfl] at hB
              rw [show y.toNat = 0 by omega] at hA
              have hcat := mkS_append xs (digits 0 4)
              have hyl : (digits 0 4).length ≤ 700 := by rw [digits_length]; omega
              have hys : (mkS (digits 0 4)).size ≤ 700 := by rw [mkS_size]; exact hyl
              generalize digits 0 4 = ys at *
              have HY := Lib.hid hyl
              clear hyl
              have hA := Lib.hid hA
              have hB := Lib.hid hB
              go_wp2_with (first
                | (go_at_call 37; refine (hA.out _ HQ.out.wt).mono ?_; rintro e w1 ⟨rfl, hw1, hb1⟩)
                | (go_at_call 15; refine (hB.out _).mono ?_; rintro e w3 ⟨rfl, hb2⟩))
              go_meet
              exact ⟨xs ++ ys, rfl, Lib.hid ((HQ.out.put hw1 hb1 HY.out).below hb2)⟩
            · obtain ⟨m, rfl⟩ : ∃ m : Nat, y = m := ⟨y.toNat, by omega⟩
              have hA := fun W h => wcount_any w.heap.size w.heap.size xs m (by omega) (by omega) W h
              have hB := fun W => refnum_any m 4 (by omega) W
              rw [show width 4 = 4 from rfl, show numS m 4 = mkS (digits m 4) from rfl] at hB
              rw [Int.toNat_natCast] at hA
              have hw : IntKind.u64.wrap (m : Int) = m := by rw [IntKind.wrap_u64]; omega
              have hcat := mkS_append xs (digits m 4)
              have hyl : (digits m 4).length ≤ 700 := by rw [digits_length]; omega
              have hys : (mkS (digits m 4)).size ≤ 700 := by rw [mkS_size]; exact hyl
              generalize digits m 4 = ys at *
              have HY := Lib.hid hyl
              clear hyl
              have hA := Lib.hid hA
              have hB := Lib.hid hB
              have hym' := Lib.hid hym
              clear hym
              go_wp2_with (first
                | (go_at_call 37; refine (hA.out _ HQ.out.wt).mono ?_; rintro e w1 ⟨rfl, hw1, hb1⟩)
                | (go_at_call 15; refine (hB.out _).mono ?_; rintro e w3 ⟨rfl, hb2⟩))
              go_meet
              exact ⟨xs ++ ys, rfl, Lib.hid ((HQ.out.put hw1 hb1 HY.out).below hb2)⟩
          have x2' : (x == 2) = false := by simpa using x2
          clear x2
          by_cases x3 : x = 3
          · as_aux_lemma =>
            subst x3
            have hA := fun W h => wtext_any w.heap.size w.heap.size xs t (by omega) W h
            have hB := fun W => reftext_any t (by omega) W
            have hcat := mkS_append xs (textB t)
            have hyl : (textB t).length ≤ 700 := by rw [textB_length]; omega
            have hys : (mkS (textB t)).size ≤ 700 := by rw [mkS_size]; exact hyl
            generalize textB t = ys at *
            have HY := Lib.hid hyl
            clear hyl
            have hA := Lib.hid hA
            have hB := Lib.hid hB
            go_wp2_with (first
              | (go_at_call 38; refine (hA.out _ HQ.out.wt).mono ?_; rintro e w1 ⟨rfl, hw1, hb1⟩)
              | (go_at_call 39; refine (hB.out _).mono ?_; rintro e w3 ⟨rfl, hb2⟩))
            go_meet
            exact ⟨xs ++ ys, rfl, Lib.hid ((HQ.out.put hw1 hb1 HY.out).below hb2)⟩
          have x3' : (x == 3) = false := by simpa using x3
          clear x3
          by_cases x4 : x = 4
          · as_aux_lemma =>
            subst x4
            have hA := fun W h => whash_any w.heap.size w.heap.size xs t (by omega) W h
            have hB := fun W => refhash_any t (by omega) W
            have hcat := mkS_append xs (hashB t)
            have hyl : (hashB t).length ≤ 700 := by rw [hashB_length]; omega
            have hys : (mkS (hashB t)).size ≤ 700 := by rw [mkS_size]; exact hyl
            generalize hashB t = ys at *
            have HY := Lib.hid hyl
            clear hyl
            have hA := Lib.hid hA
            have hB := Lib.hid hB
            go_wp2_with (first
              | (go_at_call 40; refine (hA.out _ HQ.out.wt).mono ?_; rintro e w1 ⟨rfl, hw1, hb1⟩)
              | (go_at_call 41; refine (hB.out _).mono ?_; rintro e w3 ⟨rfl, rfl⟩; have hb2 := Below.refl w1.heap.size w1))
            go_meet
            exact ⟨xs ++ ys, rfl, Lib.hid ((HQ.out.put hw1 hb1 HY.out).below hb2)⟩
          have x4' : (x == 4) = false := by simpa using x4
          clear x4
          by_cases x5 : x = 5
          · as_aux_lemma =>
            subst x5
            obtain ⟨d, hd1, hd⟩ := and1 y
            have hA := fun W h => wbool_any w.heap.size w.heap.size xs ((d : Int) == 1) (by omega) W h
            have e1 := bit_if d hd1
            rw [e1] at hA
            clear e1
            have hB := fun W => refnum_any d 1 (by omega) W
            rw [show width 1 = 1 from rfl, show numS d 1 = mkS (digits d 1) from rfl] at hB
            have hd2 : (d : Int) ≤ 1 := by omega
            have hcat := mkS_append xs (digits d 1)
            have hyl : (digits d 1).length ≤ 700 := by rw [digits_length]; omega
            have hys : (mkS (digits d 1)).size ≤ 700 := by rw [mkS_size]; exact hyl
            generalize digits d 1 = ys at *
            have HY := Lib.hid hyl
            clear hyl
            have hA := Lib.hid hA
            have hB := Lib.hid hB
            clear hd1
            go_wp2_with (first
              | (go_at_call 42; refine (hA.out _ HQ.out.wt).mono ?_; rintro e w1 ⟨rfl, hw1, hb1⟩)
              | (go_at_call 15; refine (hB.out _).mono ?_; rintro e w3 ⟨rfl, hb2⟩))
            go_meet
            exact ⟨xs ++ ys, rfl, Lib.hid ((HQ.out.put hw1 hb1 HY.out).below hb2)⟩
          have x5' : (x == 5) = false := by simpa using x5
          clear x5
          have hA := fun W h => wbytes_any w.heap.size w.heap.size xs t (by omega) W h
          have et := mkS_data t
          have hcat := mkS_append xs (t.data.toList)
          have hyl : (t.data.toList).length ≤ 700 := by simp; omega
          have hys : (mkS (t.data.toList)).size ≤ 700 := by rw [mkS_size]; exact hyl
          generalize t.data.toList = ys at *
          have HY := Lib.hid hyl
          clear hyl
          rw [et] at hcat hys
          clear et
          have hA := Lib.hid hA
          go_wp2_with (first
            | (go_at_call 43; refine (hA.out _ HQ.out.wt).mono ?_; rintro e w1 ⟨rfl, hw1, hb1⟩; have hb2 := Below.refl w1.heap.size w1))
          go_meet
          exact ⟨xs ++ ys, rfl, Lib.hid ((HQ.out.put hw1 hb1 HY.out).below hb2)⟩
        case rest =>
          as_aux_lemma =>
            obtain ⟨ys, rfl, HP2⟩ := hcut
            have hw := HP2.out.wt
            have hz := mkS_size ys
            have hwl := Lib.hid (fun W => wlen_any w.heap.size w.heap.size ys W)
            have HW := Lib.hid hw
            clear hw hll hxl
            go_wp2_with (first | (go_at_call 44; refine (hwl.out _ HW.out).mono ?_; rintro e w5 ⟨rfl, rfl⟩))
            go_roundg (20 - (k + 1))
            case measure => have := HG.out; omega
            case rel => exact ⟨k + 1, ys, by go_num, rfl, by omega, Lib.hid rfl, HP2⟩
      · by_cases h1 : k < n
        · have i1 : (k : Int) < n := by omega
          have i2 : ¬ (k : Int) < 20 := by omega
          go_wp2_with fail
          go_meet
          exact ⟨xs, rfl, Lib.hid ⟨k, hk, HP.out⟩⟩
        · have i1 : ¬ (k : Int) < n := by omega
          go_wp2_with fail
          go_meet
          exact ⟨xs, rfl, Lib.hid ⟨k, hk, HP.out⟩⟩
  case rest =>
    as_aux_lemma =>
      obtain ⟨xs, rfl, HX⟩ := hcut
      obtain ⟨k, hk, hp⟩ := HX.out
      have HP := Lib.hid hp
      clear hp HX HL HS
      have hw := Lib.hid (fun W => wall_any w.heap.size w.heap.size xs W)
      have he : (⟨xs.toArray⟩ : ByteArray) = mkS xs := rfl
      rw [he] at hw
      clear he
      go_wp2_with (first
        | (go_at_call 14; refine (awake_any _).mono ?_; rintro e w5 ⟨rfl, hb5⟩; have hp5 := HP.out.below hb5)
        | (go_at_call 45; refine (hw.out _ hp5.wt).mono ?_; rintro e w6 ⟨rfl, rfl⟩))
      go_ret
      exact ⟨rfl, hp5.bel⟩

end Go.Proofs.Ytdajchppblifgaa.Rf
