/- Unframe, the reference's; and what both answer. -/
import Derived.Test.YtdajchppblifgaaUf
namespace Go.Proofs.Ytdajchppblifgaa.Rf
open Go.RowKit Go.Proofs.Ytdajchppblifgaa.Pl Go.Proofs.Ytdajchppblifgaa.Rd Go.Proofs.Ytdajchppblifgaa.Wr Go.Proofs.Ytdajchppblifgaa.Ap
set_option linter.unusedVariables false
set_option linter.unusedSimpArgs false

theorem below_drewN {B : Nat} {a w : World} (h : Below B a w) (n : Nat) : Below B a (w.drewN n) := ⟨h.os, h.tape, h.output, h.size, h.block⟩
theorem kept1 {w1 w2 : World} {a b c : Value} (hb : Below (w1.alloc (.cells #[a, b, c] 39)).heap.size (w1.alloc (.cells #[a, b, c] 39)) w2) :
    w2.cell? ⟨w1.heap.size, 0, none⟩ = some a ∧ w2.cell? ⟨w1.heap.size, 1, none⟩ = some b ∧ w2.cell? ⟨w1.heap.size, 2, none⟩ = some c ∧
    w2.frozen? ⟨w1.heap.size, 0, none⟩ = false ∧ w2.frozen? ⟨w1.heap.size, 1, none⟩ = false ∧ w2.frozen? ⟨w1.heap.size, 2, none⟩ = false ∧ Below w1.heap.size w1 w2 ∧ w1.heap.size < w2.heap.size := by
  have hs : (w1.alloc (.cells #[a, b, c] 39)).heap.size = w1.heap.size + 1 := by simp
  have hg : w2.heap[w1.heap.size]? = some (.cells #[a, b, c] 39 (0, 0)) := (hb.block _ (by omega)).trans (heap_alloc_new w1 _)
  have hc := fun i => cell_of_row w2 w1.heap.size i _ 39 (0, 0) hg
  have hf : ∀ i, w2.frozen? ⟨w1.heap.size, i, none⟩ = false := fun i => by simp [World.frozen?, hg]
  have hz := hb.size
  exact ⟨hc 0, hc 1, hc 2, hf 0, hf 1, hf 2, ((Below.refl _ _).alloc (Nat.le_refl _) _).trans (hb.mono (by omega)), by omega⟩

theorem runf_arg (u : ByteArray) (at_ : Int) (h : at_ < 0 ∨ (u.size : Int) < at_) (w : World) :
    Calls Try.prog 49 #[.string u, .int .i64 at_] w fun e w' => e = .returned (.tuple #[.string ⟨#[]⟩, .int .i64 0, .int .i64 1]) ∧ Below w.heap.size w w' := by
  rcases h with h | h
  · go_enter Try.func49, Try.ntmps49
    go_wp2
    go_ret3
    exact ⟨rfl, Below.refl _ _⟩
  · have h0 : ¬ at_ < 0 := by omega
    go_enter Try.func49, Try.ntmps49
    go_wp2
    go_ret3
    exact ⟨rfl, Below.refl _ _⟩

theorem runf_err (u x t s1 s2 : ByteArray) (k : Nat) (hk : k ≤ u.size) (hx : u.extract k u.size = x) (v : Nat) (t1 e1 t2 e2 : Int) (he : (e2 != 0) = true) (w : World)
    (hT : ∀ W : World, Calls Try.prog 23 #[.agg #[.string x, .int .i64 0, .int .i64 0], .int .i64 2147483647] W fun en w' => en = .returned (.tuple #[.agg #[.string s1, .int .i64 t1, .int .i64 e1], .string t]) ∧ Below W.heap.size W w')
    (hN : ∀ W : World, Calls Try.prog 20 #[.agg #[.string s1, .int .i64 t1, .int .i64 e1], .int .i64 4] W fun en w' => en = .returned (.tuple #[.agg #[.string s2, .int .i64 t2, .int .i64 e2], .int .u64 v]) ∧ Below W.heap.size W w') :
    Calls Try.prog 49 #[.string u, .int .i64 k] w fun e w' => e = .returned (.tuple #[.string ⟨#[]⟩, .int .i64 0, .int .i64 e2]) ∧ Below w.heap.size w w' := by
  have HT := Lib.hid hT
  have HN := Lib.hid hN
  clear hT hN
  go_enter Try.func49, Try.ntmps49
  go_wp2_with (first
    | (go_at_call 23; refine (HT.out _).mono ?_; rintro en w1 ⟨rfl, hb1⟩)
    | (go_at_call 20; refine (HN.out _).mono ?_; rintro en w2 ⟨rfl, hb2⟩; obtain ⟨c0, c1, c2, f0, f1, f2, hb3, hz⟩ := kept1 hb2; clear hb2))
  go_quiet (fail)
  go_wp2
  go_ret3
  have z1 := hb1.size
  exact ⟨rfl, below_drewN ((((hb1.trans (hb3.mono z1)).setCell (p := ⟨w1.heap.size, 0, none⟩) z1 _).setCell (p := ⟨w1.heap.size, 1, none⟩) z1 _).setCell (p := ⟨w1.heap.size, 2, none⟩) z1 _) _⟩

theorem runf_sum (u x t s1 s2 tb : ByteArray) (k : Nat) (hk : k ≤ u.size) (hx : u.extract k u.size = x) (v a : Nat) (t1 e1 t2 : Int) (w : World)
    (hT : ∀ W : World, Calls Try.prog 23 #[.agg #[.string x, .int .i64 0, .int .i64 0], .int .i64 2147483647] W fun en w' => en = .returned (.tuple #[.agg #[.string s1, .int .i64 t1, .int .i64 e1], .string t]) ∧ Below W.heap.size W w')
    (hN : ∀ W : World, Calls Try.prog 20 #[.agg #[.string s1, .int .i64 t1, .int .i64 e1], .int .i64 4] W fun en w' => en = .returned (.tuple #[.agg #[.string s2, .int .i64 t2, .int .i64 0], .int .u64 v]) ∧ Below W.heap.size W w')
    (hX : ∀ W : World, Calls Try.prog 39 #[.string t] W fun en w' => en = .returned (.string tb) ∧ Below W.heap.size W w')
    (hA : ∀ W : World, Calls Try.prog 19 #[.string tb] W fun en w' => en = .returned (.int .u32 a) ∧ W = w') (hva : ((v : Int) != (a : Int)) = true) (ha : a < 4294967296) :
    Calls Try.prog 49 #[.string u, .int .i64 k] w fun e w' => e = .returned (.tuple #[.string ⟨#[]⟩, .int .i64 0, .int .i64 6]) ∧ Below w.heap.size w w' := by
  have HT := Lib.hid hT
  have HN := Lib.hid hN
  have HX := Lib.hid hX
  have HA := Lib.hid hA
  have hw : IntKind.u64.wrap (a : Int) = a := by rw [IntKind.wrap_u64]; omega
  clear hT hN hX hA ha
  go_enter Try.func49, Try.ntmps49
  go_wp2_with (first
    | (go_at_call 23; refine (HT.out _).mono ?_; rintro en w1 ⟨rfl, hb1⟩)
    | (go_at_call 20; refine (HN.out _).mono ?_; rintro en w2 ⟨rfl, hb2⟩; obtain ⟨c0, c1, c2, f0, f1, f2, hb3, hz⟩ := kept1 hb2; clear hb2)
    | (go_at_call 39; refine (HX.out _).mono ?_; rintro en w4 ⟨rfl, hb4⟩)
    | (go_at_call 19; refine (HA.out _).mono ?_; rintro en w5 ⟨rfl, rfl⟩))
  go_ret3
  have z1 := hb1.size
  have c3 := (((hb1.trans (hb3.mono z1)).setCell (p := ⟨w1.heap.size, 0, none⟩) z1 (.string s2)).setCell (p := ⟨w1.heap.size, 1, none⟩) z1 (.int .i64 t2)).setCell (p := ⟨w1.heap.size, 2, none⟩) z1 (.int .i64 0)
  exact ⟨rfl, c3.trans (hb4.mono c3.size)⟩

theorem runf_good (u x t s1 s2 tb : ByteArray) (k : Nat) (hk : k + (t.size + 8) ≤ u.size) (hu : u.size ≤ 60000) (hx : u.extract k u.size = x) (v a : Nat) (t1 e1 t2 : Int) (w : World)
    (hT : ∀ W : World, Calls Try.prog 23 #[.agg #[.string x, .int .i64 0, .int .i64 0], .int .i64 2147483647] W fun en w' => en = .returned (.tuple #[.agg #[.string s1, .int .i64 t1, .int .i64 e1], .string t]) ∧ Below W.heap.size W w')
    (hN : ∀ W : World, Calls Try.prog 20 #[.agg #[.string s1, .int .i64 t1, .int .i64 e1], .int .i64 4] W fun en w' => en = .returned (.tuple #[.agg #[.string s2, .int .i64 t2, .int .i64 0], .int .u64 v]) ∧ Below W.heap.size W w')
    (hX : ∀ W : World, Calls Try.prog 39 #[.string t] W fun en w' => en = .returned (.string tb) ∧ Below W.heap.size W w')
    (hA : ∀ W : World, Calls Try.prog 19 #[.string tb] W fun en w' => en = .returned (.int .u32 a) ∧ W = w') (hva : ((v : Int) == (a : Int)) = true) (ha : a < 4294967296) :
    Calls Try.prog 49 #[.string u, .int .i64 k] w fun e w' => e = .returned (.tuple #[.string t, .int .i64 ((k : Int) + ((t.size : Int) + 8)), .int .i64 0]) ∧ Below w.heap.size w w' := by
  have HT := Lib.hid hT
  have HN := Lib.hid hN
  have HX := Lib.hid hX
  have HA := Lib.hid hA
  have hw : IntKind.u64.wrap (a : Int) = a := by rw [IntKind.wrap_u64]; omega
  have k1 : k ≤ u.size := by omega
  have b1 : (k : Int) ≤ 60000 := by omega
  have b2 : (t.size : Int) ≤ 60000 := by omega
  clear hT hN hX hA ha hk hu
  go_enter Try.func49, Try.ntmps49
  go_wp2_with (first
    | (go_at_call 23; refine (HT.out _).mono ?_; rintro en w1 ⟨rfl, hb1⟩)
    | (go_at_call 20; refine (HN.out _).mono ?_; rintro en w2 ⟨rfl, hb2⟩; obtain ⟨c0, c1, c2, f0, f1, f2, hb3, hz⟩ := kept1 hb2; clear hb2)
    | (go_at_call 39; refine (HX.out _).mono ?_; rintro en w4 ⟨rfl, hb4⟩)
    | (go_at_call 19; refine (HA.out _).mono ?_; rintro en w5 ⟨rfl, rfl⟩))
  go_ret3
  have z1 := hb1.size
  have c3 := (((hb1.trans (hb3.mono z1)).setCell (p := ⟨w1.heap.size, 0, none⟩) z1 (.string s2)).setCell (p := ⟨w1.heap.size, 1, none⟩) z1 (.int .i64 t2)).setCell (p := ⟨w1.heap.size, 2, none⟩) z1 (.int .i64 0)
  exact ⟨by rw [Int.add_assoc]; rfl, c3.trans (hb4.mono c3.size)⟩

end Go.Proofs.Ytdajchppblifgaa.Rf
