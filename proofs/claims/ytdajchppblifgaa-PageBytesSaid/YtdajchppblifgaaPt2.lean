/- Pages: two that are the same. -/
import Derived.Test.YtdajchppblifgaaPh
import Derived.Deep.QuietTactic
import Derived.BigQuiet
namespace Go.Proofs.Ytdajchppblifgaa.Pg
open Go.RowKit Go.Proofs.Ytdajchppblifgaa.Pl Go.Proofs.Ytdajchppblifgaa.Rd Go.Proofs.Ytdajchppblifgaa.Wr Go.Proofs.Ytdajchppblifgaa.Rf
set_option linter.unusedVariables false
set_option linter.unusedSimpArgs false

/-- The world is the old one, some orders having been drawn. -/
def Dr (w w' : World) : Prop := ∃ n, w' = w.drewN n
theorem Dr.refl (w : World) : Dr w w := ⟨0, rfl⟩
theorem Dr.step {w w' : World} (h : Dr w w') (n : Nat) : Dr w (w'.drewN n) := by
  obtain ⟨m, rfl⟩ := h
  exact ⟨m + n, World.drewN_drewN ..⟩
theorem Dr.cell {w w' : World} (h : Dr w w') {a : Addr} {v : Value} (hc : w.cell? a = some v) : w'.cell? a = some v := by
  obtain ⟨m, rfl⟩ := h
  exact hc
theorem Dr.below {w w' : World} (h : Dr w w') : Below w.heap.size w w' := by
  obtain ⟨m, rfl⟩ := h
  exact ⟨rfl, rfl, rfl, Nat.le_refl _, fun _ _ => rfl⟩

set_option maxRecDepth 100000 in
theorem equal64 (A B : Option Addr) (n c d : Nat) (S : Nat → ByteArray) (hn : n ≤ 9223372036854775807) (w : World) (ha : Txt w A n S) (hb : Txt w B n S) :
    Calls Try.prog 64 #[.slice A n c, .slice B n d] w fun e w' => e = .returned (.bool true) ∧ Dr w w' := by
  have HA := Lib.hid ha
  have HB := Lib.hid hb
  clear ha hb
  go_enter Try.func64, Try.ntmps64
  go_wp2
  go_loopg [13] n (fun gq i wr => ∃ k : Nat, i = .int .i64 k ∧ k ≤ n ∧ Hid (gq = n - k) ∧ Hid (Dr w wr))
  case atStart => exact ⟨0, rfl, by omega, Lib.hid rfl, Lib.hid (Dr.refl w)⟩
  case round =>
    obtain ⟨k, rfl, hk, HG, HD⟩ := hrel
    by_cases hlt : k < n
    · obtain ⟨b, off, rfl, _, hx⟩ := HA.out k hlt
      obtain ⟨b', off', rfl, _, hy⟩ := HB.out k hlt
      have hx := HD.out.cell hx
      have hy := HD.out.cell hy
      have i1 : (k : Int) < n := by omega
      clear HA HB
      generalize S k = u at *
      go_wp2_with fail
      go_quiet (fail)
      go_wp2_with fail
      go_roundg (n - (k + 1))
      case measure => have := HG.out; omega
      case rel => exact ⟨k + 1, rfl, by omega, Lib.hid rfl, Lib.hid (HD.out.step nq)⟩
    · have i1 : ¬ (k : Int) < n := by omega
      go_wp2_with fail
      go_ret
      exact ⟨rfl, HD.out⟩

set_option maxRecDepth 100000 in
theorem equal65 (A B : Option Addr) (n c d : Nat) (S : Nat → Int) (hn : n ≤ 9223372036854775807) (w : World) (ha : Num w A n S) (hb : Num w B n S) :
    Calls Try.prog 65 #[.slice A n c, .slice B n d] w fun e w' => e = .returned (.bool true) ∧ Dr w w' := by
  have HA := Lib.hid ha
  have HB := Lib.hid hb
  clear ha hb
  go_enter Try.func65, Try.ntmps65
  go_wp2
  go_loopg [13] n (fun gq i wr => ∃ k : Nat, i = .int .i64 k ∧ k ≤ n ∧ Hid (gq = n - k) ∧ Hid (Dr w wr))
  case atStart => exact ⟨0, rfl, by omega, Lib.hid rfl, Lib.hid (Dr.refl w)⟩
  case round =>
    obtain ⟨k, rfl, hk, HG, HD⟩ := hrel
    by_cases hlt : k < n
    · obtain ⟨b, off, rfl, _, hx⟩ := HA.out k hlt
      obtain ⟨b', off', rfl, _, hy⟩ := HB.out k hlt
      have hx := HD.out.cell hx
      have hy := HD.out.cell hy
      have i1 : (k : Int) < n := by omega
      clear HA HB
      generalize S k = u at *
      go_wp2_with fail
      go_quiet (fail)
      go_wp2_with fail
      go_roundg (n - (k + 1))
      case measure => have := HG.out; omega
      case rel => exact ⟨k + 1, rfl, by omega, Lib.hid rfl, Lib.hid (HD.out.step nq)⟩
    · have i1 : ¬ (k : Int) < n := by omega
      go_wp2_with fail
      go_ret
      exact ⟨rfl, HD.out⟩

theorem boxed2 {w W : World} {a b : Array Value} (h : Dr ((w.alloc (.cells a 77)).alloc (.cells b 77)) W) : (∀ i : Nat, W.cell? ⟨w.heap.size, i, none⟩ = a[i]?) ∧ ∀ i : Nat, W.cell? ⟨w.heap.size + 1, i, none⟩ = b[i]? := by
  obtain ⟨m, rfl⟩ := h
  have z1 : (w.alloc (.cells a 77)).heap.size = w.heap.size + 1 := by simp
  have h1 : ((w.alloc (.cells a 77)).alloc (.cells b 77)).heap[w.heap.size]? = some (.cells a 77 (0, 0)) := (Below.heap_alloc _ _ _ (by rw [z1]; omega)).trans (heap_alloc_new w _)
  have h2 := heap_alloc_new (w.alloc (.cells a 77)) (.cells b 77)
  rw [z1] at h2
  exact ⟨fun i => cell_of_row ((w.alloc (.cells a 77)).alloc (.cells b 77)) _ i _ 77 (0, 0) h1, fun i => cell_of_row ((w.alloc (.cells a 77)).alloc (.cells b 77)) _ i _ 77 (0, 0) h2⟩
theorem Dr.trans {a b c : World} (h : Dr a b) (h2 : Dr b c) : Dr a c := by
  obtain ⟨n, rfl⟩ := h2
  exact h.step n

set_option maxRecDepth 100000 in
theorem same_any (lf : Bool) (A1 : Option Addr) (n1 c1 : Nat) (A2 : Option Addr) (n2 c2 : Nat) (A3 : Option Addr) (n3 c3 : Nat) (B1 : Option Addr) (d1 : Nat) (B2 : Option Addr) (d2 : Nat) (B3 : Option Addr) (d3 : Nat) (K V : Nat → ByteArray) (N : Nat → Int) (w : World)
    (hp : P.In ⟨lf, A1, n1, c1, A2, n2, c2, A3, n3, c3, K, V, N⟩ w) (hq : P.In ⟨lf, B1, n1, d1, B2, n2, d2, B3, n3, d3, K, V, N⟩ w) :
    Calls Try.prog 57 #[P.val ⟨lf, A1, n1, c1, A2, n2, c2, A3, n3, c3, K, V, N⟩, P.val ⟨lf, B1, n1, d1, B2, n2, d2, B3, n3, d3, K, V, N⟩] w fun e w' => e = .returned (.bool true) ∧ Below w.heap.size w w' := by
  have z1 : (w.alloc (.cells #[.bool lf, .slice A1 n1 c1, .slice A2 n2 c2, .slice A3 n3 c3] 77)).heap.size = w.heap.size + 1 := by simp
  have b0 := ((Below.refl w.heap.size w).alloc (Nat.le_refl _) (.cells #[.bool lf, .slice A1 n1 c1, .slice A2 n2 c2, .slice A3 n3 c3] 77)).alloc (by rw [z1]; omega) (.cells #[.bool lf, .slice B1 n1 d1, .slice B2 n2 d2, .slice B3 n3 d3] 77)
  have H1 := Lib.hid (fun (W : World) (hb : Below w.heap.size w W) => equal64 A1 B1 n1 c1 d1 K hp.l1 W (hp.k.below hb) (hq.k.below hb))
  have H2 := Lib.hid (fun (W : World) (hb : Below w.heap.size w W) => equal64 A2 B2 n2 c2 d2 V hp.l2 W (hp.v.below hb) (hq.v.below hb))
  have H3 := Lib.hid (fun (W : World) (hb : Below w.heap.size w W) => equal65 A3 B3 n3 c3 d3 N hp.l3 W (hp.n.below hb) (hq.n.below hb))
  have BB := Lib.hid b0
  clear b0 z1 hp hq
  show Calls Try.prog 57 #[.agg #[.bool lf, .slice A1 n1 c1, .slice A2 n2 c2, .slice A3 n3 c3], .agg #[.bool lf, .slice B1 n1 d1, .slice B2 n2 d2, .slice B3 n3 d3]] _ _
  go_enter Try.func57, Try.ntmps57
  have hD0 := Dr.refl ((w.alloc (.cells #[.bool lf, .slice A1 n1 c1, .slice A2 n2 c2, .slice A3 n3 c3] 77)).alloc (.cells #[.bool lf, .slice B1 n1 d1, .slice B2 n2 d2, .slice B3 n3 d3] 77))
  have HD0 := Lib.hid hD0
  clear hD0
  go_wp2_with (first
    | (go_at_call 64; first
        | (with_reducible refine (H1.out _ BB.out).mono ?_; rintro e w1 ⟨rfl, hd1⟩; have HD1 := Lib.hid (HD0.out.trans hd1); have x0 := (boxed2 HD1.out).1 2; have y0 := (boxed2 HD1.out).2 2; simp only [List.getElem?_toArray, List.getElem?_cons_succ, List.getElem?_cons_zero] at x0 y0; clear hd1)
        | (with_reducible refine (H2.out _ (BB.out.trans (HD1.out.below.mono BB.out.size))).mono ?_; rintro e w2 ⟨rfl, hd2⟩; have HD2 := Lib.hid (HD1.out.trans hd2); have x1 := (boxed2 HD2.out).1 3; have y1 := (boxed2 HD2.out).2 3; simp only [List.getElem?_toArray, List.getElem?_cons_succ, List.getElem?_cons_zero] at x1 y1; clear hd2))
    | (go_at_call 65; refine (H3.out _ (BB.out.trans (HD2.out.below.mono BB.out.size))).mono ?_; rintro e w3 ⟨rfl, hd3⟩; have HD3 := Lib.hid (HD2.out.trans hd3); clear hd3))
  go_ret
  exact ⟨rfl, BB.out.trans (HD3.out.below.mono BB.out.size)⟩

end Go.Proofs.Ytdajchppblifgaa.Pg
