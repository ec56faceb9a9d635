/- Pages: the page as the reference has it, its lists cut at twelve (cupellaw05.Ref). -/
import Derived.Test.YtdajchppblifgaaPj
namespace Go.Proofs.Ytdajchppblifgaa.Pg
open Go.RowKit Go.Proofs.Ytdajchppblifgaa.Pl Go.Proofs.Ytdajchppblifgaa.Rd Go.Proofs.Ytdajchppblifgaa.Wr Go.Proofs.Ytdajchppblifgaa.Rf
set_option linter.unusedVariables false
set_option linter.unusedSimpArgs false

/-- The page p boxed at w's end, the result behind it, the page under way at the third block. -/
structure Cu (w W : World) (p : P) (v1 v2 v3 : Value) : Prop where
  box : W.heap[w.heap.size]? = some (.cells p.cells 77 (0, 0))
  res : W.heap[w.heap.size + 1]? = some (.cells #[.bool false, .slice none 0 0, .slice none 0 0, .slice none 0 0] 83 (0, 0))
  out : W.heap[w.heap.size + 1 + 1]? = some (.cells #[.bool p.lf, v1, v2, v3] 83 (0, 0))
  bel : Below w.heap.size w W
theorem Cu.start (w : World) (p : P) : Cu w (((w.alloc (.cells p.cells 77)).alloc (.cells #[.bool false, .slice none 0 0, .slice none 0 0, .slice none 0 0] 83)).alloc (.cells #[.bool p.lf, .slice none 0 0, .slice none 0 0, .slice none 0 0] 83)) p (.slice none 0 0) (.slice none 0 0) (.slice none 0 0) := by
  have z1 : (w.alloc (.cells p.cells 77)).heap.size = w.heap.size + 1 := by simp
  have z2 : ((w.alloc (.cells p.cells 77)).alloc (.cells #[.bool false, .slice none 0 0, .slice none 0 0, .slice none 0 0] 83)).heap.size = w.heap.size + 1 + 1 := by simp
  refine ⟨?_, ?_, ?_, ?_⟩
  · exact (Below.heap_alloc _ _ _ (by rw [z2]; omega)).trans ((Below.heap_alloc _ _ _ (by rw [z1]; omega)).trans (heap_alloc_new w _))
  · have := heap_alloc_new (w.alloc (.cells p.cells 77)) (.cells #[.bool false, .slice none 0 0, .slice none 0 0, .slice none 0 0] 83)
    rw [z1] at this
    exact (Below.heap_alloc _ _ _ (by rw [z2]; omega)).trans this
  · have := heap_alloc_new ((w.alloc (.cells p.cells 77)).alloc (.cells #[.bool false, .slice none 0 0, .slice none 0 0, .slice none 0 0] 83)) (.cells #[.bool p.lf, .slice none 0 0, .slice none 0 0, .slice none 0 0] 83)
    rw [z2] at this
    exact this
  · exact (((Below.refl _ w).alloc (Nat.le_refl _) _).alloc (by rw [z1]; omega) _).alloc (by rw [z2]; omega) _
theorem own_drew {w : World} {B e k : Nat} {v : Value} {xs : List Value} (h : w.ownsRow B e 1 v k xs) : w.drew.ownsRow B e 1 v k xs := h
section
variable {w W W' : World} {p : P} {v1 v2 v3 : Value}
theorem Cu.c (h : Cu w W p v1 v2 v3) : W.cell? ⟨w.heap.size, 0, none⟩ = some (.bool p.lf) ∧ W.cell? ⟨w.heap.size, 1, none⟩ = some (.slice p.A1 p.n1 p.c1) ∧ W.cell? ⟨w.heap.size, 2, none⟩ = some (.slice p.A2 p.n2 p.c2) ∧ W.cell? ⟨w.heap.size, 3, none⟩ = some (.slice p.A3 p.n3 p.c3) :=
  ⟨cell_of_row W _ 0 _ 77 (0, 0) h.box, cell_of_row W _ 1 _ 77 (0, 0) h.box, cell_of_row W _ 2 _ 77 (0, 0) h.box, cell_of_row W _ 3 _ 77 (0, 0) h.box⟩
theorem Cu.o (h : Cu w W p v1 v2 v3) : (W.cell? ⟨w.heap.size + 1 + 1, 0, none⟩ = some (.bool p.lf) ∧ W.cell? ⟨w.heap.size + 1 + 1, 1, none⟩ = some v1 ∧ W.cell? ⟨w.heap.size + 1 + 1, 2, none⟩ = some v2 ∧ W.cell? ⟨w.heap.size + 1 + 1, 3, none⟩ = some v3) ∧ W.frozen? ⟨w.heap.size + 1 + 1, 1, none⟩ = false ∧ W.frozen? ⟨w.heap.size + 1 + 1, 2, none⟩ = false ∧ W.frozen? ⟨w.heap.size + 1 + 1, 3, none⟩ = false :=
  ⟨⟨cell_of_row W _ 0 _ 83 (0, 0) h.out, cell_of_row W _ 1 _ 83 (0, 0) h.out, cell_of_row W _ 2 _ 83 (0, 0) h.out, cell_of_row W _ 3 _ 83 (0, 0) h.out⟩, by simp [World.frozen?, h.out], by simp [World.frozen?, h.out], by simp [World.frozen?, h.out]⟩
theorem Cu.r (h : Cu w W p v1 v2 v3) : (W.cell? ⟨w.heap.size + 1, 0, none⟩ = some (.bool false) ∧ W.cell? ⟨w.heap.size + 1, 1, none⟩ = some (.slice none 0 0) ∧ W.cell? ⟨w.heap.size + 1, 2, none⟩ = some (.slice none 0 0) ∧ W.cell? ⟨w.heap.size + 1, 3, none⟩ = some (.slice none 0 0)) ∧ W.frozen? ⟨w.heap.size + 1, 0, none⟩ = false ∧ W.frozen? ⟨w.heap.size + 1, 1, none⟩ = false ∧ W.frozen? ⟨w.heap.size + 1, 2, none⟩ = false ∧ W.frozen? ⟨w.heap.size + 1, 3, none⟩ = false :=
  ⟨⟨cell_of_row W _ 0 _ 83 (0, 0) h.res, cell_of_row W _ 1 _ 83 (0, 0) h.res, cell_of_row W _ 2 _ 83 (0, 0) h.res, cell_of_row W _ 3 _ 83 (0, 0) h.res⟩, by simp [World.frozen?, h.res], by simp [World.frozen?, h.res], by simp [World.frozen?, h.res], by simp [World.frozen?, h.res]⟩
theorem Cu.drew (h : Cu w W p v1 v2 v3) : Cu w W.drew p v1 v2 v3 := ⟨h.box, h.res, h.out, h.bel.drew⟩
theorem Cu.alloc (h : Cu w W p v1 v2 v3) (o : Obj) : Cu w (W.alloc o) p v1 v2 v3 :=
  ⟨(Below.heap_alloc _ _ _ (blk_lt h.box)).trans h.box, (Below.heap_alloc _ _ _ (blk_lt h.res)).trans h.res, (Below.heap_alloc _ _ _ (blk_lt h.out)).trans h.out, h.bel.alloc h.bel.size _⟩
theorem Cu.row {e k : Nat} {v : Value} {xs : List Value} (h : Cu w W p v1 v2 v3) (ho : W.ownsRow w.heap.size e 1 v k xs) (h77 : e ≠ 77) (h83 : e ≠ 83) (hg : W.grownBy W' v.ownBlock) : Cu w W' p v1 v2 v3 :=
  ⟨(hg.block _ (blk_lt h.box) (own_ne ho h.box h77)).trans h.box, (hg.block _ (blk_lt h.res) (own_ne ho h.res h83)).trans h.res, (hg.block _ (blk_lt h.out) (own_ne ho h.out h83)).trans h.out, h.bel.grown hg h.bel.size (fun j hj => (ho.lt j hj).1)⟩
theorem Cu.set (h : Cu w W p v1 v2 v3) (i : Nat) (v u1 u2 u3 : Value) (hu : (#[.bool p.lf, v1, v2, v3] : Array Value).setIfInBounds i v = #[.bool p.lf, u1, u2, u3]) : Cu w (W.setCell ⟨w.heap.size + 1 + 1, i, none⟩ v) p u1 u2 u3 := by
  refine ⟨(Below.heap_setCell _ _ _ _ (by simp; omega)).trans h.box, (Below.heap_setCell _ _ _ _ (by simp)).trans h.res, ?_, h.bel.setCell (by simp; omega) _⟩
  rw [← hu]
  exact set_res h.out i v
end

theorem own4 {w : World} {B e t k g : Nat} {v : Value} {xs : List Value} {cs : Array Value} (ho : w.ownsRow B e 1 v k xs) (h : w.heap[g]? = some (.cells cs t (0, 0))) (hne : e ≠ t) (a b c d : Value) :
    ((((w.setCell ⟨g, 0, none⟩ a).setCell ⟨g, 1, none⟩ b).setCell ⟨g, 2, none⟩ c).setCell ⟨g, 3, none⟩ d).ownsRow B e 1 v k xs :=
  own_set (own_set (own_set (own_set ho h hne 0 a) (set_res h 0 _) hne 1 b) (set_res (set_res h 0 _) 1 _) hne 2 c) (set_res (set_res (set_res h 0 _) 1 _) 2 _) hne 3 d
theorem own_cap {w : World} {B e n c : Nat} {A : Option Addr} {xs : List Value} (h : w.ownsRow B e 1 (.slice A n c) n xs) : n ≤ c := by
  rcases h.2 with ⟨h0, _⟩ | ⟨g, cap, cur, h0, _, _, hc⟩
  · injection h0 with _ h1 h2; omega
  · injection h0 with _ _ h2
    have := hc.1
    omega
theorem stage1 {w wx : World} {p : P} {u1 u2 u3 v : Value} {B e n : Nat} {xs : List Value} (HE : Cu w wx p u1 u2 u3) (O1 : wx.ownsRow B e 1 v n xs) : ∃ B2, B2 ≤ wx.heap.size ∧ (∀ g, v.ownBlock = some g → g < B2) ∧ w.heap.size ≤ B2 :=
  ⟨wx.heap.size, Nat.le_refl _, fun g h => (O1.lt g h).2, HE.bel.size⟩
theorem stage2 {w wx : World} {p : P} {u1 u2 u3 v v' : Value} {B B' e e' n n' : Nat} {xs xs' : List Value} (HE : Cu w wx p u1 u2 u3) (O1 : wx.ownsRow B e 1 v n xs) (O2 : wx.ownsRow B' e' 1 v' n' xs') :
    ∃ B2, B2 ≤ wx.heap.size ∧ (∀ g, v.ownBlock = some g → g < B2) ∧ (∀ g, v'.ownBlock = some g → g < B2) ∧ w.heap.size ≤ B2 :=
  ⟨wx.heap.size, Nat.le_refl _, fun g h => (O1.lt g h).2, fun g h => (O2.lt g h).2, HE.bel.size⟩
set_option maxRecDepth 100000 in
set_option maxHeartbeats 4000000 in
theorem ref_any (p : P) (w : World) (hp : p.In w) :
    Calls Try.prog 54 #[p.val] w fun e w' => ∃ A1 c1 A2 c2 A3 c3, e = .returned (P.val ⟨p.lf, A1, min p.n1 12, c1, A2, min p.n2 12, c2, A3, min p.n3 12, c3, p.K, p.V, p.N⟩) ∧ P.In ⟨p.lf, A1, min p.n1 12, c1, A2, min p.n2 12, c2, A3, min p.n3 12, c3, p.K, p.V, p.N⟩ w' ∧ (min p.n1 12 ≤ c1 ∧ min p.n2 12 ≤ c2 ∧ min p.n3 12 ≤ c3) ∧ Below w.heap.size w w' := by
  have HP := Lib.hid hp
  have hS := Cu.start w p
  have HC := Lib.hid (fun (W : World) (v1 v2 v3 : Value) (h : Cu w W p v1 v2 v3) => h.c)
  have HO := Lib.hid (fun (W : World) (v1 v2 v3 : Value) (h : Cu w W p v1 v2 v3) => h.o)
  have l1 := hp.l1
  have l2 := hp.l2
  have l3 := hp.l3
  clear hp
  obtain ⟨i9, hi9, hz90, hz91, hz92⟩ := info_parts info9
  obtain ⟨i3, hi3, hz30, hz31, hz32⟩ := info_parts info3
  have HBW := Lib.hid (Nat.le_refl w.heap.size)
  unfold P.val P.cells at *
  have HS := Lib.hid hS
  clear hS
  go_enter Try.func54, Try.ntmps54
  go_upto_block 0 with (fail)
  generalize (((w.alloc (.cells #[.bool p.lf, .slice p.A1 p.n1 p.c1, .slice p.A2 p.n2 p.c2, .slice p.A3 p.n3 p.c3] 77)).alloc (.cells #[.bool false, .slice none 0 0, .slice none 0 0, .slice none 0 0] 83)).alloc (.cells #[.bool p.lf, .slice none 0 0, .slice none 0 0, .slice none 0 0] 83)) = w0 at *
  go_cut [] (fun wx => ∃ v1, Hid (Cu w wx p v1 (.slice none 0 0) (.slice none 0 0)) ∧ Hid (wx.ownsRow w.heap.size 9 1 v1 (min p.n1 12) (tc p.K (min p.n1 12))))
  case first =>
    as_aux_lemma =>
      go_wp2_with fail
      go_loopg [4] (min p.n1 12) (fun gq i wr => ∃ (k : Nat) (v1 : Value), i = .int .i64 k ∧ k ≤ min p.n1 12 ∧ Hid (gq = min p.n1 12 - k) ∧ Hid (Cu w wr p v1 (.slice none 0 0) (.slice none 0 0)) ∧ Hid (wr.ownsRow w.heap.size 9 1 v1 k (tc p.K k)))
      case atStart => exact ⟨0, .slice none 0 0, rfl, by omega, Lib.hid rfl, HS, Lib.hid (World.ownsRow_nil _ _ _ _)⟩
      case round =>
        clear HS
        obtain ⟨k, v1, rfl, hk, HG, HE, HW⟩ := hrel
        obtain ⟨A1, c1, rfl⟩ := own_form HW.out
        obtain ⟨x0, x1, x2, x3⟩ := HC.out _ _ _ _ HE.out
        obtain ⟨⟨y0, y1, y2, y3⟩, f1, f2, f3⟩ := HO.out _ _ _ _ HE.out
        by_cases hlt : k < min p.n1 12
        · obtain ⟨b, off, hA, hx⟩ := text_at HP.out.k HE.out.bel (show k < p.n1 by omega)
          rw [hA] at x1
          clear hA
          have i1 : (k : Int) < p.n1 := by omega
          have i2 : (k : Int) < 12 := by omega
          have E6 := Lib.hid ((HE.out.alloc (.cells #[.string (p.K k)] 9)).drew)
          have O6 := Lib.hid (own_drew (HW.out.alloc (.cells #[.string (p.K k)] 9)))
          have hbk := Lib.hid (show (wr.alloc (.cells #[.string (p.K k)] 9)).drew.heap[wr.heap.size]? = some (.cells #[.string (p.K k)] 9 (0, 0)) from heap_alloc_new wr _)
          obtain ⟨⟨s0, s1, s2, s3⟩, _, _, _⟩ := HO.out _ _ _ _ E6.out
          go_wp2_with fail
          go_region_law (first
            | (refine step_append_lies _ rfl (.tmp 22) (.tmp 28) 68 rfl w.heap.size 9 i9 (.string ⟨#[]⟩) 1 16 Try.underlying68 hi9 hz90 hz91 hz92 rfl (by decide) (.slice A1 k c1) k (tc p.K k) ?_ ?_ ⟨wr.heap.size, 0, none⟩ 1 1 [.string (p.K k)] ?_ ?_ ?_ ?_ ?_ ?_ ?_ ?_ (wr.heap.size + 1) ?_ ?_; (first | rfl | simp [Act.eval, Act.put]); exact O6.out; (first | rfl | simp [Act.eval, Act.put]); rfl; exact World.news_of_block hbk.out; simp [Value.oneCell']; decide; (unfold maxLen; omega); omega; exact E6.out.bel.size; simp; intro g cap w7 ho7 hg7 _ _; have E7 := Lib.hid (E6.out.row (World.ownsRow.mono' O6.out HBW.out) (by decide) (by decide) hg7); have O7 := Lib.hid ho7; obtain ⟨⟨t0, t1, t2, t3⟩, u1, u2, u3⟩ := HO.out _ _ _ _ E7.out; clear ho7 hg7))
          all_goals (
            have E8 := Lib.hid (E7.out.set 1 (.slice (some ⟨g, 0, none⟩) (k + 1) cap) _ _ _ rfl)
            have O8 := O7.out
            rw [← tc_succ] at O8
            have O8 := Lib.hid (own_set O8 E7.out.out (by decide) 1 (.slice (some ⟨g, 0, none⟩) (k + 1) cap))
            clear O6 E6 E7 HE HW
            go_wp2_with fail
            go_roundg (min p.n1 12 - (k + 1))
            case measure => have := HG.out; omega
            case rel => exact ⟨k + 1, _, rfl, by omega, Lib.hid rfl, E8, O8⟩)
        · obtain rfl : k = min p.n1 12 := by omega
          by_cases hq : p.n1 < 12
          · have i1 : ¬ ((min p.n1 12 : Nat) : Int) < p.n1 := by omega
            go_wp2_with fail
            go_meet
            exact ⟨_, HE, HW⟩
          · have i2 : ¬ ((min p.n1 12 : Nat) : Int) < 12 := by omega
            go_wp2_with fail
            all_goals (go_meet; exact ⟨_, HE, HW⟩)
  case rest =>
    obtain ⟨v1, HE, HW⟩ := hcut
    clear HS
    obtain ⟨A1, c1, rfl⟩ := own_form HW.out
    have O1 := HW
    clear HW
    obtain ⟨B2, hb2, hl1, hbw2⟩ := stage1 HE.out O1.out
    have HB2 := Lib.hid hb2
    have HL1 := Lib.hid hl1
    have HBW2 := Lib.hid hbw2
    clear hb2 hl1 hbw2
    clear HBW
    have HBW := HBW2
    clear HBW2
    go_upto_block 2 with (fail)
    go_cut [] (fun wx => ∃ v2, Hid (Cu w wx p (.slice A1 (min p.n1 12) c1) v2 (.slice none 0 0)) ∧ Hid (wx.ownsRow w.heap.size 9 1 (.slice A1 (min p.n1 12) c1) (min p.n1 12) (tc p.K (min p.n1 12))) ∧ Hid (wx.ownsRow B2 9 1 v2 (min p.n2 12) (tc p.V (min p.n2 12))))
    case first =>
      as_aux_lemma =>
        go_wp2_with fail
        go_loopg [5] (min p.n2 12) (fun gq i wx => ∃ (k : Nat) (v2 : Value), i = .int .i64 k ∧ k ≤ min p.n2 12 ∧ Hid (gq = min p.n2 12 - k) ∧ Hid (Cu w wx p (.slice A1 (min p.n1 12) c1) v2 (.slice none 0 0)) ∧ Hid (wx.ownsRow w.heap.size 9 1 (.slice A1 (min p.n1 12) c1) (min p.n1 12) (tc p.K (min p.n1 12))) ∧ Hid (wx.ownsRow B2 9 1 v2 k (tc p.V k)) ∧ Hid (B2 ≤ wx.heap.size))
        case atStart => exact ⟨0, .slice none 0 0, rfl, by omega, Lib.hid rfl, HE, O1, Lib.hid (World.ownsRow_nil _ _ _ _), HB2⟩
        case round =>
          clear HE O1 HB2
          obtain ⟨k, v2, rfl, hk, HG, HE, O1, HW, HB2⟩ := hrel
          obtain ⟨A2, c2, rfl⟩ := own_form HW.out
          obtain ⟨x0, x1, x2, x3⟩ := HC.out _ _ _ _ HE.out
          obtain ⟨⟨y0, y1, y2, y3⟩, f1, f2, f3⟩ := HO.out _ _ _ _ HE.out
          by_cases hlt : k < min p.n2 12
          · obtain ⟨b, off, hA, hx⟩ := text_at HP.out.v HE.out.bel (show k < p.n2 by omega)
            rw [hA] at x2
            clear hA
            have i1 : (k : Int) < p.n2 := by omega
            have i2 : (k : Int) < 12 := by omega
            have E6 := Lib.hid ((HE.out.alloc (.cells #[.string (p.V k)] 9)).drew)
            have O6 := Lib.hid (own_drew (HW.out.alloc (.cells #[.string (p.V k)] 9)))
            have hbk := Lib.hid (show (wr.alloc (.cells #[.string (p.V k)] 9)).drew.heap[wr.heap.size]? = some (.cells #[.string (p.V k)] 9 (0, 0)) from heap_alloc_new wr _)
            have O61 := Lib.hid (own_drew (O1.out.alloc (.cells #[.string (p.V k)] 9)))
            have HZ6 := Lib.hid (show B2 ≤ (wr.alloc (.cells #[.string (p.V k)] 9)).drew.heap.size from Nat.le_trans HB2.out (Nat.le_of_lt (World.alloc_lt wr _)))
            obtain ⟨⟨s0, s1, s2, s3⟩, _, _, _⟩ := HO.out _ _ _ _ E6.out
            go_wp2_with fail
            go_region_law (first
              | (refine step_append_lies _ rfl (.tmp 43) (.tmp 49) 68 rfl B2 9 i9 (.string ⟨#[]⟩) 1 16 Try.underlying68 hi9 hz90 hz91 hz92 rfl (by decide) (.slice A2 k c2) k (tc p.V k) ?_ ?_ ⟨wr.heap.size, 0, none⟩ 1 1 [.string (p.V k)] ?_ ?_ ?_ ?_ ?_ ?_ ?_ ?_ (wr.heap.size + 1) ?_ ?_; (first | rfl | simp [Act.eval, Act.put]); exact O6.out; (first | rfl | simp [Act.eval, Act.put]); rfl; exact World.news_of_block hbk.out; simp [Value.oneCell']; decide; (unfold maxLen; omega); omega; exact HZ6.out; simp; intro g cap w7 ho7 hg7 _ _; have E7 := Lib.hid (E6.out.row (World.ownsRow.mono' O6.out HBW.out) (by decide) (by decide) hg7); have O7 := Lib.hid ho7; have O71 := Lib.hid (own_far O61.out HL1.out O6.out hg7); have HZ7 := Lib.hid (Nat.le_trans HZ6.out hg7.size); obtain ⟨⟨t0, t1, t2, t3⟩, u1, u2, u3⟩ := HO.out _ _ _ _ E7.out; clear ho7 hg7))
            all_goals (
              have E8 := Lib.hid (E7.out.set 2 (.slice (some ⟨g, 0, none⟩) (k + 1) cap) _ _ _ rfl)
              have O8 := O7.out
              rw [← tc_succ] at O8
              have O8 := Lib.hid (own_set O8 E7.out.out (by decide) 2 (.slice (some ⟨g, 0, none⟩) (k + 1) cap))
              have O81 := Lib.hid (own_set O71.out E7.out.out (by decide) 2 (.slice (some ⟨g, 0, none⟩) (k + 1) cap))
              have HZ8 := Lib.hid (show B2 ≤ (w7.setCell ⟨w.heap.size + 1 + 1, 2, none⟩ (.slice (some ⟨g, 0, none⟩) (k + 1) cap)).heap.size by simpa [World.setCell] using HZ7.out)
              clear O6 E6 E7 HE HW
              go_wp2_with fail
              go_roundg (min p.n2 12 - (k + 1))
              case measure => have := HG.out; omega
              case rel => exact ⟨k + 1, _, rfl, by omega, Lib.hid rfl, E8, O81, O8, HZ8⟩)
          · obtain rfl : k = min p.n2 12 := by omega
            by_cases hq : p.n2 < 12
            · have i1 : ¬ ((min p.n2 12 : Nat) : Int) < p.n2 := by omega
              go_wp2_with fail
              go_meet
              exact ⟨_, HE, O1, HW⟩
            · have i2 : ¬ ((min p.n2 12 : Nat) : Int) < 12 := by omega
              go_wp2_with fail
              all_goals (go_meet; exact ⟨_, HE, O1, HW⟩)
    case rest =>
      obtain ⟨v2, HE, O1, HW⟩ := hcut
      clear HB2
      obtain ⟨A2, c2, rfl⟩ := own_form HW.out
      have O2 := HW
      clear HW
      obtain ⟨B3, hb3, hl1, hl2, hbw3⟩ := stage2 HE.out O1.out O2.out
      have HB3 := Lib.hid hb3
      have HL1' := Lib.hid hl1
      have HL2 := Lib.hid hl2
      have HBW2 := Lib.hid hbw3
      clear hb3 hl1 hl2 hbw3
      clear HBW HL1
      have HBW := HBW2
      have HL1 := HL1'
      clear HBW2 HL1'
      go_upto_block 4 with (fail)
      go_cut [] (fun wx => ∃ v3, Hid (Cu w wx p (.slice A1 (min p.n1 12) c1) (.slice A2 (min p.n2 12) c2) v3) ∧ Hid (wx.ownsRow w.heap.size 9 1 (.slice A1 (min p.n1 12) c1) (min p.n1 12) (tc p.K (min p.n1 12))) ∧ Hid (wx.ownsRow B2 9 1 (.slice A2 (min p.n2 12) c2) (min p.n2 12) (tc p.V (min p.n2 12))) ∧ Hid (wx.ownsRow B3 3 1 v3 (min p.n3 12) (kc p.N (min p.n3 12))))
      case first =>
        as_aux_lemma =>
          go_wp2_with fail
          go_loopg [6] (min p.n3 12) (fun gq i wx => ∃ (k : Nat) (v3 : Value), i = .int .i64 k ∧ k ≤ min p.n3 12 ∧ Hid (gq = min p.n3 12 - k) ∧ Hid (Cu w wx p (.slice A1 (min p.n1 12) c1) (.slice A2 (min p.n2 12) c2) v3) ∧ Hid (wx.ownsRow w.heap.size 9 1 (.slice A1 (min p.n1 12) c1) (min p.n1 12) (tc p.K (min p.n1 12))) ∧ Hid (wx.ownsRow B2 9 1 (.slice A2 (min p.n2 12) c2) (min p.n2 12) (tc p.V (min p.n2 12))) ∧ Hid (wx.ownsRow B3 3 1 v3 k (kc p.N k)) ∧ Hid (B3 ≤ wx.heap.size))
          case atStart => exact ⟨0, .slice none 0 0, rfl, by omega, Lib.hid rfl, HE, O1, O2, Lib.hid (World.ownsRow_nil _ _ _ _), HB3⟩
          case round =>
            clear HE O1 O2 HB3
            obtain ⟨k, v3, rfl, hk, HG, HE, O1, O2, HW, HB3⟩ := hrel
            obtain ⟨A3, c3, rfl⟩ := own_form HW.out
            obtain ⟨x0, x1, x2, x3⟩ := HC.out _ _ _ _ HE.out
            obtain ⟨⟨y0, y1, y2, y3⟩, f1, f2, f3⟩ := HO.out _ _ _ _ HE.out
            by_cases hlt : k < min p.n3 12
            · obtain ⟨b, off, hA, hx⟩ := num_at HP.out.n HE.out.bel (show k < p.n3 by omega)
              rw [hA] at x3
              clear hA
              have i1 : (k : Int) < p.n3 := by omega
              have i2 : (k : Int) < 12 := by omega
              have E6 := Lib.hid ((HE.out.alloc (.cells #[.int .i64 (p.N k)] 3)).drew)
              have O6 := Lib.hid (own_drew (HW.out.alloc (.cells #[.int .i64 (p.N k)] 3)))
              have hbk := Lib.hid (show (wr.alloc (.cells #[.int .i64 (p.N k)] 3)).drew.heap[wr.heap.size]? = some (.cells #[.int .i64 (p.N k)] 3 (0, 0)) from heap_alloc_new wr _)
              have O61 := Lib.hid (own_drew (O1.out.alloc (.cells #[.int .i64 (p.N k)] 3)))
              have HZ6 := Lib.hid (show B3 ≤ (wr.alloc (.cells #[.int .i64 (p.N k)] 3)).drew.heap.size from Nat.le_trans HB3.out (Nat.le_of_lt (World.alloc_lt wr _)))
              have O62 := Lib.hid (own_drew (O2.out.alloc (.cells #[.int .i64 (p.N k)] 3)))
              obtain ⟨⟨s0, s1, s2, s3⟩, _, _, _⟩ := HO.out _ _ _ _ E6.out
              go_wp2_with fail
              go_region_law (first
                | (refine step_append_lies _ rfl (.tmp 64) (.tmp 70) 69 rfl B3 3 i3 (.int .i64 0) 1 8 Try.underlying69 hi3 hz30 hz31 hz32 rfl (by decide) (.slice A3 k c3) k (kc p.N k) ?_ ?_ ⟨wr.heap.size, 0, none⟩ 1 1 [.int .i64 (p.N k)] ?_ ?_ ?_ ?_ ?_ ?_ ?_ ?_ (wr.heap.size + 1) ?_ ?_; (first | rfl | simp [Act.eval, Act.put]); exact O6.out; (first | rfl | simp [Act.eval, Act.put]); rfl; exact World.news_of_block hbk.out; simp [Value.oneCell']; decide; (unfold maxLen; omega); omega; exact HZ6.out; simp; intro g cap w7 ho7 hg7 _ _; have E7 := Lib.hid (E6.out.row (World.ownsRow.mono' O6.out HBW.out) (by decide) (by decide) hg7); have O7 := Lib.hid ho7; have O71 := Lib.hid (own_far O61.out HL1.out O6.out hg7); have HZ7 := Lib.hid (Nat.le_trans HZ6.out hg7.size); have O72 := Lib.hid (own_far O62.out HL2.out O6.out hg7); obtain ⟨⟨t0, t1, t2, t3⟩, u1, u2, u3⟩ := HO.out _ _ _ _ E7.out; clear ho7 hg7))
              all_goals (
                have E8 := Lib.hid (E7.out.set 3 (.slice (some ⟨g, 0, none⟩) (k + 1) cap) _ _ _ rfl)
                have O8 := O7.out
                rw [← kc_succ] at O8
                have O8 := Lib.hid (own_set O8 E7.out.out (by decide) 3 (.slice (some ⟨g, 0, none⟩) (k + 1) cap))
                have O81 := Lib.hid (own_set O71.out E7.out.out (by decide) 3 (.slice (some ⟨g, 0, none⟩) (k + 1) cap))
                have HZ8 := Lib.hid (show B3 ≤ (w7.setCell ⟨w.heap.size + 1 + 1, 3, none⟩ (.slice (some ⟨g, 0, none⟩) (k + 1) cap)).heap.size by simpa [World.setCell] using HZ7.out)
                have O82 := Lib.hid (own_set O72.out E7.out.out (by decide) 3 (.slice (some ⟨g, 0, none⟩) (k + 1) cap))
                clear O6 E6 E7 HE HW
                go_wp2_with fail
                go_roundg (min p.n3 12 - (k + 1))
                case measure => have := HG.out; omega
                case rel => exact ⟨k + 1, _, rfl, by omega, Lib.hid rfl, E8, O81, O82, O8, HZ8⟩)
            · obtain rfl : k = min p.n3 12 := by omega
              by_cases hq : p.n3 < 12
              · have i1 : ¬ ((min p.n3 12 : Nat) : Int) < p.n3 := by omega
                go_wp2_with fail
                go_meet
                exact ⟨_, HE, O1, O2, HW⟩
              · have i2 : ¬ ((min p.n3 12 : Nat) : Int) < 12 := by omega
                go_wp2_with fail
                all_goals (go_meet; exact ⟨_, HE, O1, O2, HW⟩)
      case rest =>
        obtain ⟨v3, HE, O1, O2, O3⟩ := hcut
        clear HB3
        obtain ⟨A3, c3, rfl⟩ := own_form O3.out
        obtain ⟨⟨y0, y1, y2, y3⟩, f1, f2, f3⟩ := HO.out _ _ _ _ HE.out
        obtain ⟨⟨t0, t1, t2, t3⟩, u0, u1, u2, u3⟩ := HE.out.r
        have HR := Lib.hid HE.out.res
        go_wp2_with fail
        refine bodyPost_ret (v := .agg #[.bool p.lf, .slice A1 (min p.n1 12) c1, .slice A2 (min p.n2 12) c2, .slice A3 (min p.n3 12) c3]) (by simp [results, Try.results54, go_sem, t0, t1, t2, t3]) rfl ⟨A1, c1, A2, c2, A3, c3, rfl, ⟨txt_own (own4 O1.out HR.out (by decide) _ _ _ _), txt_own (own4 O2.out HR.out (by decide) _ _ _ _), num_own (own4 O3.out HR.out (by decide) _ _ _ _), by simp only; omega, by simp only; omega, by simp only; omega⟩, ⟨own_cap O1.out, own_cap O2.out, own_cap O3.out⟩, ?_⟩
        exact (((HE.out.bel.setCell (by simp) _).setCell (by simp) _).setCell (by simp) _).setCell (by simp) _

end Go.Proofs.Ytdajchppblifgaa.Pg
