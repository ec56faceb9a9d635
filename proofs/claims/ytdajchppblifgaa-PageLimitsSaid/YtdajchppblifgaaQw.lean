/- Pages: the walk of PageLimits. -/
import Derived.Test.YtdajchppblifgaaQl
import Derived.Deep.QuietTactic
import Derived.BigQuiet
namespace Go.Proofs.Ytdajchppblifgaa.Pg
open Go.RowKit Go.Proofs.Ytdajchppblifgaa.Pl Go.Proofs.Ytdajchppblifgaa.Rd Go.Proofs.Ytdajchppblifgaa.Wr Go.Proofs.Ytdajchppblifgaa.Rf
set_option linter.unusedVariables false
set_option linter.unusedSimpArgs false

set_option maxRecDepth 100000 in
set_option maxHeartbeats 4000000 in
theorem limits_core (x0 x1 value odd o : Int) (n k v : Nat) (hn : n ≤ 15) (hk : k ≤ 127) (hv : v ≤ 8299) (h1 : bits .and .i64 x0 15 = n) (h2 : bits .and .i64 x1 127 = k) (h3 : bits .and .i64 odd 3 = o)
    (h4 : Hid (if value.tmod 8300 < 0 then v = 0 else value.tmod 8300 = v)) (w : World) :
    Calls Try.prog 9 #[.agg #[.int .i64 x0, .int .i64 x1], .int .i64 value, .int .i64 odd] w fun e w' => e = .returned (.bool true) ∧ Below w.heap.size w w' := by
  have HN := Lib.hid hn
  have HK := Lib.hid hk
  have HV := Lib.hid hv
  obtain ⟨i9, hi9, hz90, hz91, hz92⟩ := info_parts info9
  go_enter Try.func9, Try.ntmps9
  go_wp2
  go_quiet (fail)
  go_upto_if 24 with (fail)
  have HS := Lib.hid (Li.start w #[.int .i64 x0, .int .i64 x1] nq)
  have hz : ((w.alloc (Obj.cells #[Value.int IntKind.i64 x0, Value.int IntKind.i64 x1] 75)).drewN nq).heap.size = w.heap.size + 1 := show (w.alloc (Obj.cells #[Value.int IntKind.i64 x0, Value.int IntKind.i64 x1] 75)).heap.size = w.heap.size + 1 by simp
  generalize (w.alloc (Obj.cells #[Value.int IntKind.i64 x0, Value.int IntKind.i64 x1] 75)).drewN nq = W0 at *
  go_cut [9] (fun v9 wx => v9 = .int .i64 v ∧ wx = W0)
  case first =>
    have h5 := h4.out
    by_cases hneg : value.tmod 8300 < 0
    · rw [if_pos hneg] at h5
      subst h5
      go_wp2_with fail
      go_meet
      exact ⟨rfl, rfl⟩
    · rw [if_neg hneg] at h5
      go_wp2_with fail
      go_meet
      exact ⟨rfl, rfl⟩
  case rest =>
    obtain ⟨rfl, rfl⟩ := hcut
    go_upto_block 0 with (fail)
    generalize wc.alloc (Obj.cells #[Value.bool true, Value.slice none 0 0, Value.slice none 0 0, Value.slice none 0 0] 77) = w0 at *
    go_cut [] (fun wx => ∃ A1 c1 A2 c2, Hid (Li w wx (.slice A1 n c1) (.slice A2 n c2) (.slice none 0 0)) ∧ Hid (wx.ownsRow w.heap.size 9 1 (.slice A1 n c1) n (tc (keyS k) n)) ∧ Hid (wx.ownsRow w.heap.size 9 1 (.slice A2 n c2) n (tc (fun _ => ⟨#[]⟩) n)) ∧ Hid (Sep (.slice A1 n c1) (.slice A2 n c2)))
    case first =>
      as_aux_lemma =>
        go_wp2_with fail
        go_loopg [11] n (fun gq t wr => ∃ (i : Nat) (v1 v2 : Value), t = .int .i64 i ∧ i ≤ n ∧ Hid (gq = n - i) ∧ Hid (Li w wr v1 v2 (.slice none 0 0)) ∧ Hid (wr.ownsRow w.heap.size 9 1 v1 i (tc (keyS k) i)) ∧ Hid (wr.ownsRow w.heap.size 9 1 v2 i (tc (fun _ => ⟨#[]⟩) i)) ∧ Hid (Sep v1 v2))
        case atStart => exact ⟨0, .slice none 0 0, .slice none 0 0, rfl, by omega, Lib.hid rfl, HS, Lib.hid (World.ownsRow_nil _ _ _ _), Lib.hid (World.ownsRow_nil _ _ _ _), Lib.hid (sep_nil _)⟩
        case round =>
          clear HS
          obtain ⟨i, v1, v2, rfl, hi, HG, HE, O1, O2, HP⟩ := hrel
          by_cases hlt : i < n
          · have i1 : (i : Int) < n := by omega
            have hmk := make_any k (by omega)
            have HF0 := Lib.hid (Fill.start wr (97 + (i : Int)) k)
            go_upto_block 2 with (fail)
            generalize wr.alloc (.cells (madeCells #[Value.int .u8 0] k) 5) = wf at *
            go_cut [] (fun wx => Hid (Fill wr wx (97 + (i : Int)) k k))
            case first =>
              go_wp2_with fail
              go_loopg [13] k (fun gq t wx => ∃ j : Nat, t = .int .i64 j ∧ j ≤ k ∧ Hid (gq = k - j) ∧ Hid (Fill wr wx (97 + (i : Int)) k j))
              case atStart => exact ⟨0, rfl, by omega, Lib.hid rfl, HF0⟩
              case round =>
                rename_i wx
                clear HF0
                obtain ⟨j, rfl, hj, HJ, HF⟩ := hrel
                by_cases hlj : j < k
                · have i2 : (j : Int) < k := by omega
                  have hc := HF.out.cell hlj
                  have hf := HF.out.free j
                  go_wp2_with fail
                  go_roundg (k - (j + 1))
                  case measure => have := HJ.out; omega
                  case rel => exact ⟨j + 1, rfl, by omega, Lib.hid rfl, Lib.hid (HF.out.put hlj)⟩
                · obtain rfl : j = k := by omega
                  go_wp2_with fail
                  go_meet
                  exact HF
            case rest =>
              have HF := hcut
              have hcv := HF.out.key (show i < 100 by omega)
              obtain ⟨A1, c1, rfl⟩ := own_form O1.out
              obtain ⟨A2, c2, rfl⟩ := own_form O2.out
              have E := Lib.hid (HE.out.below HF.out.1)
              have P1 := Lib.hid (own_below O1.out HF.out.1)
              have P2 := Lib.hid (own_below O2.out HF.out.1)
              clear HF0 HE O1 O2
              obtain ⟨⟨y0, y1, y2, y3⟩, f1, f2, f3⟩ := E.out.c
              have E6 := Lib.hid (E.out.alloc (.cells #[.string (keyS k i)] 9))
              have O16 := Lib.hid (P1.out.alloc (.cells #[.string (keyS k i)] 9))
              have O26 := Lib.hid (P2.out.alloc (.cells #[.string (keyS k i)] 9))
              have hbk := Lib.hid (heap_alloc_new wc (.cells #[.string (keyS k i)] 9))
              clear E P1 P2
              go_upto_region 14 with (first
                | (at_builtin; refine wpList_append_lies _ rfl (.tmp 45) (.tmp 48) 68 rfl w.heap.size 9 i9 (.string ⟨#[]⟩) 1 16 Try.underlying68 hi9 hz90 hz91 hz92 rfl (by decide) (.slice A1 i c1) i (tc (keyS k) i) rfl O16.out ⟨wc.heap.size, 0, none⟩ 1 1 [.string (keyS k i)] rfl rfl (World.news_of_block hbk.out) ?_ (by decide) ?_ ?_ E6.out.bel.size (wc.heap.size + 1) ?_ ?_; (simp [Value.oneCell']); (unfold maxLen; omega); omega; simp; intro g cap w7 ho7 hg7 hat7 hlt7; have E7 := Lib.hid (E6.out.row O16.out (by decide) hg7); have O17 := Lib.hid ho7; have O27 := Lib.hid (sep_kept HP.out O26.out hg7); have HP7 := Lib.hid (sep_new (n := i + 1) (c := cap) HP.out O26.out (Nat.le_of_eq (by simp)) hat7); obtain ⟨⟨t0, t1, t2, t3⟩, u1, u2, u3⟩ := E7.out.c; clear ho7 hg7 hat7 hlt7))
              have E8 := Lib.hid (E7.out.set 1 (.slice (some ⟨g, 0, none⟩) (i + 1) cap) _ _ _ rfl)
              have O18 := O17.out
              rw [← tc_succ] at O18
              have O18 := Lib.hid (own_set O18 E7.out.box (by decide) 1 (.slice (some ⟨g, 0, none⟩) (i + 1) cap))
              have O28 := Lib.hid (own_set O27.out E7.out.box (by decide) 1 (.slice (some ⟨g, 0, none⟩) (i + 1) cap))
              clear hbk E6 O16 O26 E7 O17 O27 t0 t1 t2 t3 u1 u2 u3 y0 y1 y2 y3 f1 f2 f3 hcv HF HP hmk
              generalize w7.setCell ⟨w.heap.size + 1, 1, none⟩ (.slice (some ⟨g, 0, none⟩) (i + 1) cap) = w8 at *
              obtain ⟨⟨y0, y1, y2, y3⟩, f1, f2, f3⟩ := E8.out.c
              have E6 := Lib.hid (E8.out.alloc (.cells #[.string ⟨#[]⟩] 9))
              have O16 := Lib.hid (O18.out.alloc (.cells #[.string ⟨#[]⟩] 9))
              have O26 := Lib.hid (O28.out.alloc (.cells #[.string ⟨#[]⟩] 9))
              have hbk := Lib.hid (heap_alloc_new w8 (.cells #[.string ⟨#[]⟩] 9))
              go_wp2_with (first
                | (at_builtin; refine wpList_append_lies _ rfl (.tmp 52) (.tmp 53) 68 rfl w.heap.size 9 i9 (.string ⟨#[]⟩) 1 16 Try.underlying68 hi9 hz90 hz91 hz92 rfl (by decide) (.slice A2 i c2) i (tc (fun _ => ⟨#[]⟩) i) rfl O26.out ⟨w8.heap.size, 0, none⟩ 1 1 [.string ⟨#[]⟩] rfl rfl (World.news_of_block hbk.out) ?_ (by decide) ?_ ?_ E6.out.bel.size (w8.heap.size + 1) ?_ ?_; (simp [Value.oneCell']); (unfold maxLen; omega); omega; simp; intro g2 cap2 w9 ho9 hg9 hat9 hlt9; have E9 := Lib.hid (E6.out.row O26.out (by decide) hg9); have O29 := Lib.hid ho9; have O19 := Lib.hid (sep_kept HP7.out.symm O16.out hg9); have HP9 := Lib.hid (sep_new (n := i + 1) (c := cap2) HP7.out.symm O16.out (Nat.le_of_eq (by simp)) hat9).symm; obtain ⟨⟨t0, t1, t2, t3⟩, u1, u2, u3⟩ := E9.out.c; clear ho9 hg9 hat9 hlt9))
              have E8 := Lib.hid (E9.out.set 2 (.slice (some ⟨g2, 0, none⟩) (i + 1) cap2) _ _ _ rfl)
              have O28 := O29.out
              rw [← tc_succ (fun _ => ⟨#[]⟩)] at O28
              have O28 := Lib.hid (own_set O28 E9.out.box (by decide) 2 (.slice (some ⟨g2, 0, none⟩) (i + 1) cap2))
              have O18 := Lib.hid (own_set O19.out E9.out.box (by decide) 2 (.slice (some ⟨g2, 0, none⟩) (i + 1) cap2))
              go_roundg (n - (i + 1))
              case measure => have := HG.out; omega
              case rel => exact ⟨i + 1, _, _, rfl, by omega, Lib.hid rfl, E8, O18, O28, HP9⟩
          · obtain rfl : i = n := by omega
            obtain ⟨A1, c1, rfl⟩ := own_form O1.out
            obtain ⟨A2, c2, rfl⟩ := own_form O2.out
            go_wp2_with fail
            go_meet
            exact ⟨A1, c1, A2, c2, HE, O1, O2, HP⟩
    case rest =>
      clear HS
      obtain ⟨A1, c1, A2, c2, HE, O1, O2, HP⟩ := hcut
      go_upto_if 57 with (fail)
      go_cut [] (fun wx => Hid (Li w wx (.slice A1 n c1) (.slice A2 n c2) (.slice none 0 0)) ∧ Hid (wx.ownsRow w.heap.size 9 1 (.slice A1 n c1) n (tc (keyS k) n)) ∧ Hid (wx.ownsRow w.heap.size 9 1 (.slice A2 n c2) n (tc (Vn n v) n)) ∧ Hid (Sep (.slice A1 n c1) (.slice A2 n c2)))
      case first =>
        by_cases h0 : 0 < n
        · have i1 : (0 : Int) < n := by omega
          obtain ⟨g2, hA, hg2, hb2⟩ := own_plain O2.out h0
          subst hA
          obtain ⟨⟨y0, y1, y2, y3⟩, f1, f2, f3⟩ := HE.out.c
          obtain ⟨pm, HPM⟩ : ∃ pm : Int, Hid (pm = ((n - 1 : Nat) : Int)) := ⟨_, Lib.hid rfl⟩
          have hpt : pm.toNat = n - 1 := by have := HPM.out; omega
          have q5 : IntKind.i64.wrap ((n : Int) - 1) = pm := by have := HPM.out; rw [IntKind.wrap_i64]; omega
          have q6 : (0 ≤ pm) = True := by have := HPM.out; simp only [eq_iff_iff, iff_true]; omega
          have q7 : (pm < (n : Int)) = True := by have := HPM.out; simp only [eq_iff_iff, iff_true]; omega
          have EZ := Lib.hid ((HE.out.alloc (.cells (madeCells #[Value.int .u8 0] v) 5)).drew)
          have OZ1 := Lib.hid (own_drew (O1.out.alloc (.cells (madeCells #[Value.int .u8 0] v) 5)))
          have OZ2 := Lib.hid (own_drew (O2.out.alloc (.cells (madeCells #[Value.int .u8 0] v) 5)))
          obtain ⟨⟨z0, z1, z2, z3⟩, _, _, _⟩ := EZ.out.c
          have hc0 := OZ2.out.cellAt (n - 1) (by omega)
          have hc1 : (tc (fun _ => (⟨#[]⟩ : ByteArray)) n)[n - 1]? = some (.string ⟨#[]⟩) := by simp [tc, List.getElem?_range (show n - 1 < n by omega)]
          have hc := hc0.trans hc1
          have hf := OZ2.out.frozenAt (n - 1)
          rw [← hpt] at hc hf
          have HPT := Lib.hid hpt
          clear hc0 hc1 hpt
          have hmk := make_any v (by omega)
          have hcv := conv_zero v
          have hcv2 := conv_zero_drew v
          go_wp2_with fail
          go_region
          go_wp2_with fail
          go_meet
          obtain ⟨s1, s2⟩ := O2.out.stored (n - 1) (.string (zerS v))
          rw [last_set h0] at s1
          have hpt := HPT.out
          rw [hpt]
          exact ⟨Lib.hid ((HE.out.row O2.out (by decide) s2).alloc _).drew, Lib.hid (own_drew ((sep_kept HP.out.symm O1.out s2).alloc _)), Lib.hid (own_drew (s1.alloc _)), HP⟩
        · obtain rfl : n = 0 := by omega
          go_wp2_with fail
          go_meet
          exact ⟨HE, O1, O2, HP⟩
      case rest =>
        clear HE O1 O2 HP
        obtain ⟨HE, O1, O2, HP⟩ := hcut
        go_upto_region 17 with (fail)
        obtain ⟨ob, HO⟩ : ∃ ob : Bool, Hid (ob = true ↔ OkL n k v) := by
          by_cases h : OkL n k v
          · exact ⟨true, Lib.hid (by simp [h])⟩
          · exact ⟨false, Lib.hid (by simp [h])⟩
        go_cut [14] (fun v14 wx => v14 = .bool ob ∧ wx = wc)
        case first =>
          clear HE O1 O2
          by_cases a : n ≤ 8
          · have q1 : decide ((n : Int) ≤ 8) = true := by rw [decide_eq_true_eq]; omega
            by_cases b : n = 0
            · have q2 : ((n : Int) == 0) = true := by rw [beq_iff_eq]; omega
              obtain rfl : ob = true := by
                exact HO.out.mpr (by unfold OkL; omega)
              clear b
              go_wp2_with fail
              go_meet
              exact ⟨rfl, rfl⟩
            · have q2 : ((n : Int) == 0) = false := by rw [beq_eq_false_iff_ne]; omega
              by_cases c : 1 ≤ k
              · have q3 : decide ((1 : Int) ≤ (k : Int)) = true := by rw [decide_eq_true_eq]; omega
                by_cases d : k ≤ 64
                · have q4 : decide ((k : Int) ≤ 64) = true := by rw [decide_eq_true_eq]; omega
                  by_cases e : v ≤ 8192
                  · have q5 : decide ((v : Int) ≤ 8192) = true := by rw [decide_eq_true_eq]; omega
                    obtain rfl : ob = true := by
                      exact HO.out.mpr (by unfold OkL; omega)
                    go_wp2_with fail
                    go_meet
                    exact ⟨rfl, rfl⟩
                  · have q5 : decide ((v : Int) ≤ 8192) = false := by rw [decide_eq_false_iff_not]; omega
                    obtain rfl : ob = false := by
                      have h := HO.out
                      cases ob
                      · rfl
                      · exact absurd (h.mp rfl) (by unfold OkL; omega)
                    go_wp2_with fail
                    go_meet
                    exact ⟨rfl, rfl⟩
                · have q4 : decide ((k : Int) ≤ 64) = false := by rw [decide_eq_false_iff_not]; omega
                  obtain rfl : ob = false := by
                    have h := HO.out
                    cases ob
                    · rfl
                    · exact absurd (h.mp rfl) (by unfold OkL; omega)
                  go_wp2_with fail
                  go_meet
                  exact ⟨rfl, rfl⟩
              · have q3 : decide ((1 : Int) ≤ (k : Int)) = false := by rw [decide_eq_false_iff_not]; omega
                obtain rfl : ob = false := by
                  have h := HO.out
                  cases ob
                  · rfl
                  · exact absurd (h.mp rfl) (by unfold OkL; omega)
                go_wp2_with fail
                go_meet
                exact ⟨rfl, rfl⟩
          · have q1 : decide ((n : Int) ≤ 8) = false := by rw [decide_eq_false_iff_not]; omega
            obtain rfl : ob = false := by
              have h := HO.out
              cases ob
              · rfl
              · exact absurd (h.mp rfl) (by unfold OkL; omega)
            go_wp2_with fail
            go_meet
            exact ⟨rfl, rfl⟩
        case rest =>
          obtain ⟨rfl, rfl⟩ := hcut
          go_upto_region 18 with (fail)
          obtain ⟨tb, HT⟩ : ∃ tb : Bool, Hid (tb = true ↔ (o = 1 ∧ 1 < n ∧ 0 < k)) := by
            by_cases h : o = 1 ∧ 1 < n ∧ 0 < k
            · exact ⟨true, Lib.hid (by simp [h])⟩
            · exact ⟨false, Lib.hid (by simp [h])⟩
          go_cut [94] (fun v94 wx => v94 = .bool tb ∧ wx = wc)
          case first =>
            by_cases a : o = 1
            · have q1 : (o == 1) = true := by rw [beq_iff_eq]; exact a
              by_cases b : 1 < n
              · have q2 : decide ((1 : Int) < (n : Int)) = true := by rw [decide_eq_true_eq]; omega
                by_cases c : 0 < k
                · have q3 : decide ((0 : Int) < (k : Int)) = true := by rw [decide_eq_true_eq]; omega
                  obtain rfl : tb = true := by
                    exact HT.out.mpr (by omega)
                  clear a
                  go_wp2_with fail
                  go_meet
                  exact ⟨rfl, rfl⟩
                · have q3 : decide ((0 : Int) < (k : Int)) = false := by rw [decide_eq_false_iff_not]; omega
                  obtain rfl : tb = false := by
                    have h := HT.out
                    cases tb
                    · rfl
                    · exact absurd (h.mp rfl) (by omega)
                  clear a
                  go_wp2_with fail
                  go_meet
                  exact ⟨rfl, rfl⟩
              · have q2 : decide ((1 : Int) < (n : Int)) = false := by rw [decide_eq_false_iff_not]; omega
                obtain rfl : tb = false := by
                  have h := HT.out
                  cases tb
                  · rfl
                  · exact absurd (h.mp rfl) (by omega)
                clear a
                go_wp2_with fail
                go_meet
                exact ⟨rfl, rfl⟩
            · have q1 : (o == 1) = false := by rw [beq_eq_false_iff_ne]; exact a
              obtain rfl : tb = false := by
                have h := HT.out
                cases tb
                · rfl
                · exact absurd (h.mp rfl) (by omega)
              go_wp2_with fail
              go_meet
              exact ⟨rfl, rfl⟩
          case rest =>
            obtain ⟨rfl, rfl⟩ := hcut
            go_upto_if 94 with (fail)
            go_cut [14] (fun v14 wx => ∃ (b2 : Bool) (K : Nat → ByteArray), v14 = .bool b2 ∧ Hid (b2 = true ↔ (Rises K n ∧ ¬ Longs (Vn n v) n)) ∧ Hid (Li w wx (.slice A1 n c1) (.slice A2 n c2) (.slice none 0 0)) ∧ Hid (wx.ownsRow w.heap.size 9 1 (.slice A1 n c1) n (tc K n)) ∧ Hid (wx.ownsRow w.heap.size 9 1 (.slice A2 n c2) n (tc (Vn n v) n)))
            case first =>
              cases tb
              · go_wp2_with fail
                go_meet
                exact ⟨ob, keyS k, rfl, Lib.hid (HO.out.trans (okL_iff n k v)), HE, O1, O2⟩
              · have hT := HT.out.mp rfl
                obtain ⟨g1, hA, hg1, hb1⟩ := own_plain O1.out (by omega)
                subst hA
                obtain ⟨⟨y0, y1, y2, y3⟩, f1, f2, f3⟩ := HE.out.c
                have p0 := (O1.out.cellAt 0 (by omega)).trans (tc_get (by omega))
                have p1 := (O1.out.cellAt 1 (by omega)).trans (tc_get (by omega))
                have hf := O1.out.frozenAt 1
                have q2 : (1 : Int) < (n : Int) := by omega
                have q3 : (0 : Int) < (n : Int) := by omega
                go_wp2_with fail
                go_region
                go_wp2_with fail
                go_meet
                obtain ⟨s1, s2⟩ := O1.out.stored 1 (.string (keyS k 0))
                rw [second_set (by omega)] at s1
                exact ⟨false, twice (keyS k), rfl, Lib.hid ⟨fun h => absurd h (by simp), fun h => absurd h.1 (not_rises_twice (by omega))⟩, Lib.hid (HE.out.row O1.out (by decide) s2).drew, Lib.hid (own_drew s1), Lib.hid (own_drew (sep_kept HP.out O2.out s2))⟩
            case rest =>
              clear HE O1 O2 HO HT
              obtain ⟨b2, K, rfl, HO, HE, O1, O2⟩ := hcut
              go_upto_if 104 with (fail)
              go_cut [14] (fun v14 wx => ∃ (b3 : Bool) (p : P), v14 = .bool b3 ∧ Hid (b3 = true ↔ p.May) ∧ Hid (Li w wx (.slice p.A1 p.n1 p.c1) (.slice p.A2 p.n2 p.c2) (.slice p.A3 p.n3 p.c3)) ∧ Hid (p.lf = true) ∧ Hid (p.In wx))
              case first =>
                by_cases a : o = 2
                · have q1 : (o == 2) = true := by rw [beq_iff_eq]; exact a
                  clear a
                  obtain ⟨⟨y0, y1, y2, y3⟩, f1, f2, f3⟩ := HE.out.c
                  have E6 := Lib.hid (HE.out.alloc (.cells #[.int .i64 0] 3))
                  have O6 := Lib.hid (O1.out.alloc (.cells #[.int .i64 0] 3))
                  have O7 := Lib.hid (O2.out.alloc (.cells #[.int .i64 0] 3))
                  have hbk := Lib.hid (heap_alloc_new wc (.cells #[.int .i64 0] 3))
                  obtain ⟨⟨z0, z1, z2, z3⟩, g1, g2, g3⟩ := E6.out.c
                  go_wp2_with fail
                  go_meet
                  refine ⟨false, ⟨true, A1, n, c1, A2, n, c2, some ⟨wc.heap.size, 0, none⟩, 1, 1, K, Vn n v, fun _ => 0⟩, rfl, Lib.hid ⟨fun h => absurd h (by simp), fun h => absurd h leaf_kid⟩, ?_, Lib.hid rfl, ?_⟩
                  · exact Lib.hid (E6.out.set 3 _ _ _ _ rfl)
                  · exact Lib.hid (page_in1 HN.out (own_set O6.out E6.out.box (by decide) 3 _) (own_set O7.out E6.out.box (by decide) 3 _) ((Below.heap_setCell _ _ _ _ (by show wc.heap.size ≠ w.heap.size + 1; have := blk_lt HE.out.box; omega)).trans hbk.out))
                · have q1 : (o == 2) = false := by rw [beq_eq_false_iff_ne]; exact a
                  go_wp2_with fail
                  go_meet
                  exact ⟨b2, ⟨true, A1, n, c1, A2, n, c2, none, 0, 0, K, Vn n v, fun _ => 0⟩, rfl, Lib.hid (HO.out.trans leaf_may.symm), HE, Lib.hid rfl, Lib.hid (page_in HN.out O1.out O2.out)⟩
              case rest =>
                clear HE O1 O2 HO
                obtain ⟨b3, p, rfl, HM, HE, HL, HI⟩ := hcut
                have hA := Lib.hid (awake_any wc)
                have hv : p.val = .agg #[.bool true, .slice p.A1 p.n1 p.c1, .slice p.A2 p.n2 p.c2, .slice p.A3 p.n3 p.c3] := by unfold P.val; rw [HL.out]
                have hC := fun (W : World) (hb : Below wc.heap.size wc W) => check_any p W (HI.out.below hb)
                rw [hv] at hC
                clear hv
                have hE := Lib.hid (fun (W : World) (hb : Below wc.heap.size wc W) => (HE.out.below hb).c)
                cases b3
                · rw [show p.err = 6 from if_neg (fun h => absurd (HM.out.mpr h) (by simp))] at hC
                  have hC := Lib.hid hC
                  go_wp2_with (first
                    | (go_at_call 50; refine (hA.out).mono ?_; rintro e w1 ⟨rfl, hb1⟩; have B1 := Lib.hid hb1; clear hb1; obtain ⟨⟨y0, y1, y2, y3⟩, _⟩ := hE.out _ B1.out)
                    | (go_at_call 51; refine (hC.out _ B1.out).mono ?_; rintro e w2 ⟨rfl, hb2⟩; have B2 := Lib.hid hb2; clear hb2))
                  go_ret
                  exact ⟨rfl, HE.out.bel.trans ((B1.out.trans (B2.out.mono B1.out.size)).mono HE.out.bel.size)⟩
                · rw [show p.err = 0 from if_pos (HM.out.mp rfl)] at hC
                  have hC := Lib.hid hC
                  go_wp2_with (first
                    | (go_at_call 50; refine (hA.out).mono ?_; rintro e w1 ⟨rfl, hb1⟩; have B1 := Lib.hid hb1; clear hb1; obtain ⟨⟨y0, y1, y2, y3⟩, _⟩ := hE.out _ B1.out)
                    | (go_at_call 51; refine (hC.out _ B1.out).mono ?_; rintro e w2 ⟨rfl, hb2⟩; have B2 := Lib.hid hb2; clear hb2))
                  go_ret
                  exact ⟨rfl, HE.out.bel.trans ((B1.out.trans (B2.out.mono B1.out.size)).mono HE.out.bel.size)⟩

theorem limits_any (x0 x1 value odd : Int) (w : World) :
    Calls Try.prog 9 #[.agg #[.int .i64 x0, .int .i64 x1], .int .i64 value, .int .i64 odd] w fun e w' => e = .returned (.bool true) ∧ Below w.heap.size w w' := by
  obtain ⟨n, h1, hn⟩ := and_mask x0 15 (by omega)
  obtain ⟨k, h2, hk⟩ := and_mask x1 127 (by omega)
  obtain ⟨v, hv, h4⟩ : ∃ v : Nat, v ≤ 8299 ∧ if value.tmod 8300 < 0 then v = 0 else value.tmod 8300 = v := by
    by_cases h : value.tmod 8300 < 0
    · exact ⟨0, by omega, by rw [if_pos h]⟩
    · have := Int.tmod_lt_of_pos value (show (0 : Int) < 8300 by omega)
      exact ⟨(value.tmod 8300).toNat, by omega, by rw [if_neg h]; omega⟩
  exact limits_core x0 x1 value odd _ n k v hn hk hv h1 h2 rfl (Lib.hid h4) w

end Go.Proofs.Ytdajchppblifgaa.Pg
