/- Unframe: the program's and the reference's. -/
import Derived.Test.YtdajchppblifgaaUp
import Derived.Test.YtdajchppblifgaaRv
namespace Go.Proofs.Ytdajchppblifgaa.Rf
open Go.RowKit Go.Proofs.Ytdajchppblifgaa.Pl Go.Proofs.Ytdajchppblifgaa.Rd Go.Proofs.Ytdajchppblifgaa.Wr Go.Proofs.Ytdajchppblifgaa.Ap
set_option linter.unusedVariables false
set_option linter.unusedSimpArgs false

theorem unf_arg (u : ByteArray) (at_ : Int) (h : at_ < 0 ∨ (u.size : Int) < at_) (w : World) :
    Calls Try.prog 47 #[.string u, .int .i64 at_] w fun e w' => e = .returned (.tuple #[.string ⟨#[]⟩, .int .i64 0, .int .i64 1]) ∧ Below w.heap.size w w' := by
  rcases h with h | h
  · go_enter Try.func47, Try.ntmps47
    go_wp2
    go_ret3
    exact ⟨rfl, Below.refl _ _⟩
  · have h0 : ¬ at_ < 0 := by omega
    go_enter Try.func47, Try.ntmps47
    go_wp2
    go_ret3
    exact ⟨rfl, Below.refl _ _⟩

theorem unf_err (u x t s2 : ByteArray) (k : Nat) (hk : k ≤ u.size) (hx : u.extract k u.size = x) (r1 : R) (v : Nat) (t2 e2 : Int) (he : (e2 != 0) = true) (w : World)
    (hT : ∀ W g, Rd W g ⟨x, 0, 0⟩ → Calls Try.prog 24 #[.pointer (some ⟨g, 0, none⟩), .int .i64 2147483647] W (Post W g r1 (.string t)))
    (hN : ∀ W g, Rd W g r1 → Calls Try.prog 13 #[.pointer (some ⟨g, 0, none⟩), .int .i64 4] W (Post W g ⟨s2, t2, e2⟩ (.int .u64 v))) :
    Calls Try.prog 47 #[.string u, .int .i64 k] w fun e w' => e = .returned (.tuple #[.string ⟨#[]⟩, .int .i64 0, .int .i64 e2]) ∧ Below w.heap.size w w' := by
  have HT := Lib.hid hT
  clear hT
  have HN := Lib.hid hN
  clear hN
  go_enter Try.func47, Try.ntmps47
  go_wp2_with (first
    | (go_at_call 12; refine (newReader x _).mono ?_; rintro e w1 ⟨rfl, hr1, hb1⟩)
    | (go_at_call 24; refine (HT.out _ _ hr1).mono ?_; rintro e w2 ⟨rfl, hr2, hg2⟩)
    | (go_at_call 13; refine (HN.out _ _ hr2).mono ?_; rintro e w3 ⟨rfl, hr3, hg3⟩; have hc3 := hr3.c2)
    | (go_at_call 31; refine (err_any _ _ _ hc3).mono ?_; rintro e w4 ⟨rfl, rfl⟩))
  go_ret3
  have z1 := hb1.size
  exact ⟨rfl, (hb1.grown (only_trans hg2 hg3) z1 (fun k hk => by injection hk with hk; omega))⟩

theorem unf_sum (u x t s2 y : ByteArray) (k n : Nat) (hk : k + (n + 8) ≤ u.size) (hu : u.size ≤ 60000) (hx : u.extract k u.size = x) (hy : u.extract k (k + (n + 8) - 4) = y) (r1 : R) (v a : Nat) (w : World)
    (hT : ∀ W g, Rd W g ⟨x, 0, 0⟩ → Calls Try.prog 24 #[.pointer (some ⟨g, 0, none⟩), .int .i64 2147483647] W (Post W g r1 (.string t)))
    (hN : ∀ W g, Rd W g r1 → Calls Try.prog 13 #[.pointer (some ⟨g, 0, none⟩), .int .i64 4] W (Post W g ⟨s2, (n : Int) + 8, 0⟩ (.int .u64 v)))
    (hA : ∀ W, Calls Try.prog 18 #[.string y] W fun e w' => e = .returned (.int .u32 a) ∧ Below W.heap.size W w') (hva : ((v : Int) != (a : Int)) = true) (ha : a < 4294967296) :
    Calls Try.prog 47 #[.string u, .int .i64 k] w fun e w' => e = .returned (.tuple #[.string ⟨#[]⟩, .int .i64 0, .int .i64 6]) ∧ Below w.heap.size w w' := by
  have HT := Lib.hid hT
  have HN := Lib.hid hN
  have HA := Lib.hid hA
  have hw : IntKind.u64.wrap (a : Int) = a := by rw [IntKind.wrap_u64]; omega
  have k1 : k ≤ u.size := by omega
  have k2 : k + n + 4 ≤ u.size := by omega
  have b1 : (k : Int) ≤ 60000 := by omega
  have b2 : (n : Int) ≤ 60000 := by omega
  clear hT hN hA ha hk hu
  go_enter Try.func47, Try.ntmps47
  go_wp2_with (first
    | (go_at_call 12; refine (newReader x _).mono ?_; rintro e w1 ⟨rfl, hr1, hb1⟩)
    | (go_at_call 24; refine (HT.out _ _ hr1).mono ?_; rintro e w2 ⟨rfl, hr2, hg2⟩)
    | (go_at_call 13; refine (HN.out _ _ hr2).mono ?_; rintro e w3 ⟨rfl, hr3, hg3⟩; have hc3 := hr3.c2; have hc4 := hr3.c1)
    | (go_at_call 31; refine (err_any _ _ _ hc3).mono ?_; rintro e w4 ⟨rfl, rfl⟩)
    | (go_at_call 32; refine (at_any _ _ _ hc4).mono ?_; rintro e w4 ⟨rfl, rfl⟩)
    | (go_at_call 18; refine (HA.out _).mono ?_; rintro e w5 ⟨rfl, hb5⟩))
  go_ret3
  have z1 := hb1.size
  have c3 := hb1.grown (only_trans hg2 hg3) z1 (fun k hk => by injection hk with hk; omega)
  exact ⟨rfl, c3.trans (hb5.mono c3.size)⟩

theorem unf_good (u x t s2 y : ByteArray) (k n : Nat) (hk : k + (n + 8) ≤ u.size) (hu : u.size ≤ 60000) (hx : u.extract k u.size = x) (hy : u.extract k (k + (n + 8) - 4) = y) (r1 : R) (v a : Nat) (w : World)
    (hT : ∀ W g, Rd W g ⟨x, 0, 0⟩ → Calls Try.prog 24 #[.pointer (some ⟨g, 0, none⟩), .int .i64 2147483647] W (Post W g r1 (.string t)))
    (hN : ∀ W g, Rd W g r1 → Calls Try.prog 13 #[.pointer (some ⟨g, 0, none⟩), .int .i64 4] W (Post W g ⟨s2, (n : Int) + 8, 0⟩ (.int .u64 v)))
    (hA : ∀ W, Calls Try.prog 18 #[.string y] W fun e w' => e = .returned (.int .u32 a) ∧ Below W.heap.size W w') (hva : ((v : Int) == (a : Int)) = true) (ha : a < 4294967296) :
    Calls Try.prog 47 #[.string u, .int .i64 k] w fun e w' => e = .returned (.tuple #[.string t, .int .i64 ((k : Int) + ((n : Int) + 8)), .int .i64 0]) ∧ Below w.heap.size w w' := by
  have HT := Lib.hid hT
  have HN := Lib.hid hN
  have HA := Lib.hid hA
  have hw : IntKind.u64.wrap (a : Int) = a := by rw [IntKind.wrap_u64]; omega
  have k1 : k ≤ u.size := by omega
  have k2 : k + n + 4 ≤ u.size := by omega
  have b1 : (k : Int) ≤ 60000 := by omega
  have b2 : (n : Int) ≤ 60000 := by omega
  clear hT hN hA ha hk hu
  go_enter Try.func47, Try.ntmps47
  go_wp2_with (first
    | (go_at_call 12; refine (newReader x _).mono ?_; rintro e w1 ⟨rfl, hr1, hb1⟩)
    | (go_at_call 24; refine (HT.out _ _ hr1).mono ?_; rintro e w2 ⟨rfl, hr2, hg2⟩)
    | (go_at_call 13; refine (HN.out _ _ hr2).mono ?_; rintro e w3 ⟨rfl, hr3, hg3⟩; have hc3 := hr3.c2; have hc4 := hr3.c1)
    | (go_at_call 31; refine (err_any _ _ _ hc3).mono ?_; rintro e w4 ⟨rfl, rfl⟩)
    | (go_at_call 32; refine (at_any _ _ _ hc4).mono ?_; rintro e w4 ⟨rfl, rfl⟩)
    | (go_at_call 18; refine (HA.out _).mono ?_; rintro e w5 ⟨rfl, hb5⟩))
  go_ret3
  have z1 := hb1.size
  have c3 := hb1.grown (only_trans hg2 hg3) z1 (fun k hk => by injection hk with hk; omega)
  exact ⟨rfl, c3.trans (hb5.mono c3.size)⟩

end Go.Proofs.Ytdajchppblifgaa.Rf
