/- Pages that may be are told as bytes, and read again; others are refused: the walk of PageBytes. -/
import Derived.Test.YtdajchppblifgaaPo
import Derived.Test.YtdajchppblifgaaPs
import Derived.Test.YtdajchppblifgaaPt2
import Derived.Test.YtdajchppblifgaaPr
import Derived.Test.YtdajchppblifgaaRc
namespace Go.Proofs.Ytdajchppblifgaa.Pg
open Go.RowKit Go.Proofs.Ytdajchppblifgaa.Pl Go.Proofs.Ytdajchppblifgaa.Rd Go.Proofs.Ytdajchppblifgaa.Wr Go.Proofs.Ytdajchppblifgaa.Rf
set_option linter.unusedVariables false
set_option linter.unusedSimpArgs false

/-- A page, its lists cut at twelve. -/
def P.cut (p : P) (A1 : Option Addr) (c1 : Nat) (A2 : Option Addr) (c2 : Nat) (A3 : Option Addr) (c3 : Nat) : P := ⟨p.lf, A1, min p.n1 12, c1, A2, min p.n2 12, c2, A3, min p.n3 12, c3, p.K, p.V, p.N⟩
section
variable {p : P} {A1 A2 A3 : Option Addr} {c1 c2 c3 : Nat}
theorem cut_eq (h1 : p.n1 ≤ 12) (h2 : p.n2 ≤ 12) (h3 : p.n3 ≤ 12) : p.cut A1 c1 A2 c2 A3 c3 = p.as' A1 c1 A2 c2 A3 c3 := by
  unfold P.cut P.as'
  rw [Nat.min_eq_left h1, Nat.min_eq_left h2, Nat.min_eq_left h3]
theorem may_cut (h : p.May) : p.cut A1 c1 A2 c2 A3 c3 = p.as' A1 c1 A2 c2 A3 c3 := by
  have s := h.small
  exact cut_eq (by have := s.s1; omega) (by have := s.s2; omega) (by have := s.s3; omega)
theorem cut_may (h : (p.cut A1 c1 A2 c2 A3 c3).May) : p.May := by
  have s1 : min p.n1 12 ≤ 8 := h.small.s1
  have s2 : min p.n2 12 ≤ 8 := h.small.s2
  have s3 : min p.n3 12 ≤ 9 := h.small.s3
  rw [cut_eq (by omega) (by omega) (by omega)] at h
  exact h
theorem cut_err : (p.cut A1 c1 A2 c2 A3 c3).err = p.err := by
  by_cases h : p.May
  · rw [err_may h, may_cut h, err_may (May.elsewhere h ..)]
  · rw [err_not h, err_not (fun hc => h (cut_may hc))]
end

/-- The page p boxed at w's end. -/
structure By (p : P) (w W : World) : Prop where
  box : W.heap[w.heap.size]? = some (.cells p.cells 77 (0, 0))
  bel : Below w.heap.size w W
theorem By.start (p : P) (w : World) : By p w (w.alloc (.cells p.cells 77)) := ⟨heap_alloc_new w _, (Below.refl w.heap.size w).alloc (Nat.le_refl _) _⟩
theorem By.below {p : P} {w W W' : World} (h : By p w W) (hb : Below W.heap.size W W') : By p w W' := ⟨(hb.block _ (blk_lt h.box)).trans h.box, h.bel.trans (hb.mono h.bel.size)⟩
theorem By.c {p : P} {w W : World} (h : By p w W) : W.cell? ⟨w.heap.size, 0, none⟩ = some (.bool p.lf) ∧ W.cell? ⟨w.heap.size, 1, none⟩ = some (.slice p.A1 p.n1 p.c1) ∧ W.cell? ⟨w.heap.size, 2, none⟩ = some (.slice p.A2 p.n2 p.c2) ∧ W.cell? ⟨w.heap.size, 3, none⟩ = some (.slice p.A3 p.n3 p.c3) :=
  ⟨cell_of_row W _ 0 _ 77 (0, 0) h.box, cell_of_row W _ 1 _ 77 (0, 0) h.box, cell_of_row W _ 2 _ 77 (0, 0) h.box, cell_of_row W _ 3 _ 77 (0, 0) h.box⟩

/-- And the page q, read again, boxed at g. -/
structure Bz (p : P) (w : World) (g : Nat) (q : P) (W : World) : Prop where
  by' : By p w W
  box : W.heap[g]? = some (.cells q.cells 77 (0, 0))
  qin : q.In W
theorem Bz.below {p q : P} {w W W' : World} {g : Nat} (h : Bz p w g q W) (hb : Below W.heap.size W W') : Bz p w g q W' := ⟨h.by'.below hb, (hb.block _ (blk_lt h.box)).trans h.box, h.qin.below hb⟩
theorem Bz.start {p q : P} {w W : World} (h : By p w W) (hq : q.In W) : Bz p w W.heap.size q (W.alloc (.cells q.cells 77)) := by
  have hb := (Below.refl W.heap.size W).alloc (Nat.le_refl _) (.cells q.cells 77)
  exact ⟨h.below hb, heap_alloc_new W _, hq.below hb⟩
theorem Bz.c {p q : P} {w W : World} {g : Nat} (h : Bz p w g q W) : W.cell? ⟨g, 0, none⟩ = some (.bool q.lf) ∧ W.cell? ⟨g, 1, none⟩ = some (.slice q.A1 q.n1 q.c1) ∧ W.cell? ⟨g, 2, none⟩ = some (.slice q.A2 q.n2 q.c2) ∧ W.cell? ⟨g, 3, none⟩ = some (.slice q.A3 q.n3 q.c3) :=
  ⟨cell_of_row W _ 0 _ 77 (0, 0) h.box, cell_of_row W _ 1 _ 77 (0, 0) h.box, cell_of_row W _ 2 _ 77 (0, 0) h.box, cell_of_row W _ 3 _ 77 (0, 0) h.box⟩

set_option maxRecDepth 100000 in
theorem bytes_bad (lf : Bool) (A1 : Option Addr) (n1 c1 : Nat) (A2 : Option Addr) (n2 c2 : Nat) (A3 : Option Addr) (n3 c3 : Nat) (w : World) (E : World → Prop) (C : Value → World → Prop)
    (hst : Hid (E (w.alloc (.cells #[.bool lf, .slice A1 n1 c1, .slice A2 n2 c2, .slice A3 n3 c3] 77))))
    (hcell : Hid (∀ W, E W → W.cell? ⟨w.heap.size, 0, none⟩ = some (.bool lf) ∧ W.cell? ⟨w.heap.size, 1, none⟩ = some (.slice A1 n1 c1) ∧ W.cell? ⟨w.heap.size, 2, none⟩ = some (.slice A2 n2 c2) ∧ W.cell? ⟨w.heap.size, 3, none⟩ = some (.slice A3 n3 c3)))
    (h52 : Hid (∀ W, E W → Calls Try.prog 52 #[.agg #[.bool lf, .slice A1 n1 c1, .slice A2 n2 c2, .slice A3 n3 c3]] W fun e w' => e = .returned (.tuple #[.string ⟨#[]⟩, .int .i64 6]) ∧ E w'))
    (h54 : Hid (∀ W, E W → Calls Try.prog 54 #[.agg #[.bool lf, .slice A1 n1 c1, .slice A2 n2 c2, .slice A3 n3 c3]] W fun e w' => ∃ v, e = .returned v ∧ C v w' ∧ E w'))
    (h53 : Hid (∀ W v, C v W → E W → Calls Try.prog 53 #[v] W fun e w' => e = .returned (.int .i64 6) ∧ E w'))
    (h50 : Hid (∀ W, E W → Calls Try.prog 50 #[] W fun e w' => e = .returned (.bool true) ∧ E w'))
    (h51 : Hid (∀ W, E W → Calls Try.prog 51 #[.agg #[.bool lf, .slice A1 n1 c1, .slice A2 n2 c2, .slice A3 n3 c3]] W fun e w' => e = .returned (.int .i64 6) ∧ E w')) :
    Calls Try.prog 10 #[.agg #[.bool lf, .slice A1 n1 c1, .slice A2 n2 c2, .slice A3 n3 c3]] w fun e w' => e = .returned (.bool true) ∧ E w' := by
  obtain ⟨x0, x1, x2, x3⟩ := hcell.out _ hst.out
  go_enter Try.func10, Try.ntmps10
  go_wp2_with (first
    | (go_at_call 52; refine (h52.out _ hst.out).mono ?_; rintro e w1 ⟨rfl, E1⟩; have E1 := Lib.hid E1; clear x0 x1 x2 x3; obtain ⟨x0, x1, x2, x3⟩ := hcell.out _ E1.out)
    | (go_at_call 54; refine (h54.out _ E1.out).mono ?_; rintro e w2 ⟨v, rfl, hC, E2⟩; have E2 := Lib.hid E2; have hC := Lib.hid hC)
    | (go_at_call 53; refine (h53.out _ _ hC.out E2.out).mono ?_; rintro e w3 ⟨rfl, E3⟩; have E3 := Lib.hid E3)
    | (go_at_call 50; refine (h50.out _ E3.out).mono ?_; rintro e w4 ⟨rfl, E4⟩; have E4 := Lib.hid E4; clear x0 x1 x2 x3; obtain ⟨x0, x1, x2, x3⟩ := hcell.out _ E4.out)
    | (go_at_call 51; refine (h51.out _ E4.out).mono ?_; rintro e w5 ⟨rfl, E5⟩; have E5 := Lib.hid E5))
  go_ret
  exact ⟨rfl, E5.out⟩

set_option maxRecDepth 100000 in
theorem bytes_may (lf : Bool) (A1 : Option Addr) (n1 c1 : Nat) (A2 : Option Addr) (n2 c2 : Nat) (A3 : Option Addr) (n3 c3 : Nat) (s : ByteArray) (w : World) (E : World → Prop) (C : Value → World → Prop) (F : Nat → Option Addr → Nat → Option Addr → Nat → Option Addr → Nat → World → Prop)
    (hst : Hid (E (w.alloc (.cells #[.bool lf, .slice A1 n1 c1, .slice A2 n2 c2, .slice A3 n3 c3] 77))))
    (hcell : Hid (∀ W, E W → W.cell? ⟨w.heap.size, 0, none⟩ = some (.bool lf) ∧ W.cell? ⟨w.heap.size, 1, none⟩ = some (.slice A1 n1 c1) ∧ W.cell? ⟨w.heap.size, 2, none⟩ = some (.slice A2 n2 c2) ∧ W.cell? ⟨w.heap.size, 3, none⟩ = some (.slice A3 n3 c3)))
    (h52 : Hid (∀ W, E W → Calls Try.prog 52 #[.agg #[.bool lf, .slice A1 n1 c1, .slice A2 n2 c2, .slice A3 n3 c3]] W fun e w' => e = .returned (.tuple #[.string s, .int .i64 0]) ∧ E w'))
    (h54 : Hid (∀ W, E W → Calls Try.prog 54 #[.agg #[.bool lf, .slice A1 n1 c1, .slice A2 n2 c2, .slice A3 n3 c3]] W fun e w' => ∃ v, e = .returned v ∧ C v w' ∧ E w'))
    (h53 : Hid (∀ W v, C v W → E W → Calls Try.prog 53 #[v] W fun e w' => e = .returned (.int .i64 0) ∧ E w'))
    (h50 : Hid (∀ W, E W → Calls Try.prog 50 #[] W fun e w' => e = .returned (.bool true) ∧ E w'))
    (h51 : Hid (∀ W, E W → Calls Try.prog 51 #[.agg #[.bool lf, .slice A1 n1 c1, .slice A2 n2 c2, .slice A3 n3 c3]] W fun e w' => e = .returned (.int .i64 0) ∧ E w'))
    (h55 : Hid (∀ W, E W → Calls Try.prog 55 #[.string s] W fun e w' => ∃ B1 d1 B2 d2 B3 d3, e = .returned (.tuple #[.agg #[.bool lf, .slice B1 n1 d1, .slice B2 n2 d2, .slice B3 n3 d3], .int .i64 0]) ∧ F w'.heap.size B1 d1 B2 d2 B3 d3 (w'.alloc (.cells #[.bool lf, .slice B1 n1 d1, .slice B2 n2 d2, .slice B3 n3 d3] 77))))
    (hcell2 : Hid (∀ g B1 d1 B2 d2 B3 d3 W, F g B1 d1 B2 d2 B3 d3 W → (W.cell? ⟨w.heap.size, 0, none⟩ = some (.bool lf) ∧ W.cell? ⟨w.heap.size, 1, none⟩ = some (.slice A1 n1 c1) ∧ W.cell? ⟨w.heap.size, 2, none⟩ = some (.slice A2 n2 c2) ∧ W.cell? ⟨w.heap.size, 3, none⟩ = some (.slice A3 n3 c3)) ∧ W.cell? ⟨g, 0, none⟩ = some (.bool lf) ∧ W.cell? ⟨g, 1, none⟩ = some (.slice B1 n1 d1) ∧ W.cell? ⟨g, 2, none⟩ = some (.slice B2 n2 d2) ∧ W.cell? ⟨g, 3, none⟩ = some (.slice B3 n3 d3)))
    (g54 : Hid (∀ g B1 d1 B2 d2 B3 d3 W, F g B1 d1 B2 d2 B3 d3 W → Calls Try.prog 54 #[.agg #[.bool lf, .slice A1 n1 c1, .slice A2 n2 c2, .slice A3 n3 c3]] W fun e w' => ∃ v, e = .returned v ∧ C v w' ∧ F g B1 d1 B2 d2 B3 d3 w'))
    (g56 : Hid (∀ g B1 d1 B2 d2 B3 d3 W v, C v W → F g B1 d1 B2 d2 B3 d3 W → Calls Try.prog 56 #[v] W fun e w' => e = .returned (.string s) ∧ F g B1 d1 B2 d2 B3 d3 w'))
    (g57 : Hid (∀ g B1 d1 B2 d2 B3 d3 W, F g B1 d1 B2 d2 B3 d3 W → Calls Try.prog 57 #[.agg #[.bool lf, .slice A1 n1 c1, .slice A2 n2 c2, .slice A3 n3 c3], .agg #[.bool lf, .slice B1 n1 d1, .slice B2 n2 d2, .slice B3 n3 d3]] W fun e w' => e = .returned (.bool true) ∧ Below w.heap.size w w')) :
    Calls Try.prog 10 #[.agg #[.bool lf, .slice A1 n1 c1, .slice A2 n2 c2, .slice A3 n3 c3]] w fun e w' => e = .returned (.bool true) ∧ Below w.heap.size w w' := by
  obtain ⟨x0, x1, x2, x3⟩ := hcell.out _ hst.out
  go_enter Try.func10, Try.ntmps10
  go_wp2_with (first
    | (go_at_call 52; refine (h52.out _ hst.out).mono ?_; rintro e w1 ⟨rfl, E1⟩; have E1 := Lib.hid E1; clear x0 x1 x2 x3; obtain ⟨x0, x1, x2, x3⟩ := hcell.out _ E1.out)
    | (go_at_call 54; first
        | (refine (g54.out _ _ _ _ _ _ _ _ F1.out).mono ?_; rintro e w7 ⟨u, rfl, hD, F2⟩; have F2 := Lib.hid F2; have hD := Lib.hid hD)
        | (refine (h54.out _ E1.out).mono ?_; rintro e w2 ⟨v, rfl, hC, E2⟩; have E2 := Lib.hid E2; have hC := Lib.hid hC))
    | (go_at_call 53; refine (h53.out _ _ hC.out E2.out).mono ?_; rintro e w3 ⟨rfl, E3⟩; have E3 := Lib.hid E3)
    | (go_at_call 50; refine (h50.out _ E3.out).mono ?_; rintro e w4 ⟨rfl, E4⟩; have E4 := Lib.hid E4; clear x0 x1 x2 x3; obtain ⟨x0, x1, x2, x3⟩ := hcell.out _ E4.out)
    | (go_at_call 51; refine (h51.out _ E4.out).mono ?_; rintro e w5 ⟨rfl, E5⟩; have E5 := Lib.hid E5)
    | (go_at_call 55; refine (h55.out _ E5.out).mono ?_; rintro e w6 ⟨B1, d1, B2, d2, B3, d3, rfl, F1⟩; have F1 := Lib.hid F1; clear x0 x1 x2 x3; obtain ⟨⟨x0, x1, x2, x3⟩, _⟩ := hcell2.out _ _ _ _ _ _ _ _ F1.out)
    | (go_at_call 56; refine (g56.out _ _ _ _ _ _ _ _ _ hD.out F2.out).mono ?_; rintro e w8 ⟨rfl, F3⟩; have F3 := Lib.hid F3; clear x0 x1 x2 x3; obtain ⟨⟨x0, x1, x2, x3⟩, y0, y1, y2, y3⟩ := hcell2.out _ _ _ _ _ _ _ _ F3.out)
    | (go_at_call 57; refine (g57.out _ _ _ _ _ _ _ _ F3.out).mono ?_; rintro e w9 ⟨rfl, hb9⟩))
  go_ret
  exact ⟨rfl, hb9⟩

theorem bytes_any (p : P) (w : World) (hp : p.In w) :
    Calls Try.prog 10 #[p.val] w fun e w' => e = .returned (.bool true) ∧ Below w.heap.size w w' := by
  have ref : ∀ W, p.In W → Calls Try.prog 54 #[p.val] W fun e w' => ∃ v, e = .returned v ∧ (∃ A1 c1 A2 c2 A3 c3, v = (p.cut A1 c1 A2 c2 A3 c3).val ∧ (p.cut A1 c1 A2 c2 A3 c3).In w' ∧ min p.n1 12 ≤ c1 ∧ min p.n2 12 ≤ c2 ∧ min p.n3 12 ≤ c3) ∧ Below W.heap.size W w' := fun W h => by
    refine (ref_any p W h).mono ?_
    rintro e w' ⟨A1, c1, A2, c2, A3, c3, rfl, h1, ⟨k1, k2, k3⟩, hb⟩
    exact ⟨_, rfl, ⟨A1, c1, A2, c2, A3, c3, rfl, h1, k1, k2, k3⟩, hb⟩
  have chk : ∀ W v, (∃ A1 c1 A2 c2 A3 c3, v = (p.cut A1 c1 A2 c2 A3 c3).val ∧ (p.cut A1 c1 A2 c2 A3 c3).In W ∧ min p.n1 12 ≤ c1 ∧ min p.n2 12 ≤ c2 ∧ min p.n3 12 ≤ c3) → Calls Try.prog 53 #[v] W fun e w' => e = .returned (.int .i64 p.err) ∧ Below W.heap.size W w' := by
    rintro W v ⟨A1, c1, A2, c2, A3, c3, rfl, h1, k1, k2, k3⟩
    rw [← cut_err (p := p) (A1 := A1) (A2 := A2) (A3 := A3) (c1 := c1) (c2 := c2) (c3 := c3)]
    exact ref53 _ W h1
  by_cases hm : p.May
  · have core := bytes_may p.lf p.A1 p.n1 p.c1 p.A2 p.n2 p.c2 p.A3 p.n3 p.c3 (mkS p.bytes) w (By p w)
      (fun v W => ∃ A1 c1 A2 c2 A3 c3, v = (p.cut A1 c1 A2 c2 A3 c3).val ∧ (p.cut A1 c1 A2 c2 A3 c3).In W ∧ min p.n1 12 ≤ c1 ∧ min p.n2 12 ≤ c2 ∧ min p.n3 12 ≤ c3)
      (fun g B1 d1 B2 d2 B3 d3 W => Bz p w g (p.as' B1 d1 B2 d2 B3 d3) W)
      (Lib.hid (By.start p w)) (Lib.hid fun W h => h.c) (Lib.hid fun W h => ?_) (Lib.hid fun W h => ?_) (Lib.hid fun W v hv h => ?_) (Lib.hid fun W h => ?_) (Lib.hid fun W h => ?_) (Lib.hid fun W h => ?_)
      (Lib.hid fun g B1 d1 B2 d2 B3 d3 W h => ⟨h.by'.c, h.c⟩) (Lib.hid fun g B1 d1 B2 d2 B3 d3 W h => ?_) (Lib.hid fun g B1 d1 B2 d2 B3 d3 W v hv h => ?_) (Lib.hid fun g B1 d1 B2 d2 B3 d3 W h => ?_)
    · exact core
    · exact (encode_may p W (hp.below h.bel) hm).mono fun e w' ⟨he, hb⟩ => ⟨he, h.below hb⟩
    · exact (ref W (hp.below h.bel)).mono fun e w' ⟨v, he, hv, hb⟩ => ⟨v, he, hv, h.below hb⟩
    · have := chk W v hv
      rw [err_may hm] at this
      exact this.mono fun e w' ⟨he, hb⟩ => ⟨he, h.below hb⟩
    · exact (awake_any W).mono fun e w' ⟨he, hb⟩ => ⟨he, h.below hb⟩
    · have := check_any p W (hp.below h.bel)
      rw [err_may hm] at this
      exact this.mono fun e w' ⟨he, hb⟩ => ⟨he, h.below hb⟩
    · exact (decode_may p hm W).mono fun e w' ⟨B1, d1, B2, d2, B3, d3, he, hi, hb⟩ => ⟨B1, d1, B2, d2, B3, d3, he, Bz.start (h.below hb) hi⟩
    · exact (ref W (hp.below h.by'.bel)).mono fun e w' ⟨v, he, hv, hb⟩ => ⟨v, he, hv, h.below hb⟩
    · obtain ⟨A1, c1, A2, c2, A3, c3, rfl, h1, k1, k2, k3⟩ := hv
      have hc := refbytes_any (p.cut A1 c1 A2 c2 A3 c3) W h1 (by rw [may_cut hm]; exact May.elsewhere hm ..)
      rw [show (p.cut A1 c1 A2 c2 A3 c3).bytes = p.bytes by rw [may_cut hm]; rfl] at hc
      exact hc.mono fun e w' ⟨he, hb⟩ => ⟨he, h.below hb⟩
    · exact (same_any p.lf p.A1 p.n1 p.c1 p.A2 p.n2 p.c2 p.A3 p.n3 p.c3 B1 d1 B2 d2 B3 d3 p.K p.V p.N W (hp.below h.by'.bel) h.qin).mono fun e w' ⟨he, hb⟩ => ⟨he, h.by'.bel.trans (hb.mono h.by'.bel.size)⟩
  · have core := bytes_bad p.lf p.A1 p.n1 p.c1 p.A2 p.n2 p.c2 p.A3 p.n3 p.c3 w (By p w)
      (fun v W => ∃ A1 c1 A2 c2 A3 c3, v = (p.cut A1 c1 A2 c2 A3 c3).val ∧ (p.cut A1 c1 A2 c2 A3 c3).In W ∧ min p.n1 12 ≤ c1 ∧ min p.n2 12 ≤ c2 ∧ min p.n3 12 ≤ c3)
      (Lib.hid (By.start p w)) (Lib.hid fun W h => h.c) (Lib.hid fun W h => ?_) (Lib.hid fun W h => ?_) (Lib.hid fun W v hv h => ?_) (Lib.hid fun W h => ?_) (Lib.hid fun W h => ?_)
    · exact core.mono fun e w' ⟨he, h⟩ => ⟨he, h.bel⟩
    · exact (encode_bad p W (hp.below h.bel) hm).mono fun e w' ⟨he, hb⟩ => ⟨he, h.below hb⟩
    · exact (ref W (hp.below h.bel)).mono fun e w' ⟨v, he, hv, hb⟩ => ⟨v, he, hv, h.below hb⟩
    · have := chk W v hv
      rw [err_not hm] at this
      exact this.mono fun e w' ⟨he, hb⟩ => ⟨he, h.below hb⟩
    · exact (awake_any W).mono fun e w' ⟨he, hb⟩ => ⟨he, h.below hb⟩
    · have := check_any p W (hp.below h.bel)
      rw [err_not hm] at this
      exact this.mono fun e w' ⟨he, hb⟩ => ⟨he, h.below hb⟩

end Go.Proofs.Ytdajchppblifgaa.Pg
