/- WireNone's walk. -/
import Derived.Test.YtdajchppblifgaaAw
namespace Go.Proofs.Ytdajchppblifgaa.Wr
open Go.RowKit Go.Proofs.Ytdajchppblifgaa.Pl Go.Proofs.Ytdajchppblifgaa.Rd
set_option linter.unusedVariables false
set_option linter.unusedSimpArgs false

set_option maxRecDepth 100000 in
theorem none_any (n : Int) (s : ByteArray) (hn : n ≤ 9223372036854775807) (hs : s.size ≤ 9223372036854775807) (w : World) :
    Calls Try.prog 7 #[.int .i64 n, .string s] w fun e w' => e = .returned (.bool true) ∧ Below w.heap.size w w' := by
  have hn' := Lib.hid hn
  have hs' := Lib.hid hs
  have hN := Lib.hid (fun W => wnumber_nil 5 n (by omega) W)
  clear hn hs
  go_enter Try.func7, Try.ntmps7
  go_wp2_with (first
    | (go_at_call 29; refine (fail_nil _ _).mono ?_; rintro e w2 ⟨rfl, rfl⟩)
    | (go_at_call 43; refine (wbytes_nil _ _).mono ?_; rintro e w2 ⟨rfl, rfl⟩)
    | (go_at_call 36; refine (hN.out _).mono ?_; rintro e w1 ⟨rfl, hb1⟩)
    | (go_at_call 37; refine (wcount_nil _ hn'.out _).mono ?_; rintro e w2 ⟨rfl, hb2⟩)
    | (go_at_call 38; refine (wtext_nil _ hs'.out _).mono ?_; rintro e w3 ⟨rfl, hb3⟩)
    | (go_at_call 40; refine (whash_nil _ _).mono ?_; rintro e w4 ⟨rfl, hb4⟩)
    | (go_at_call 42; refine (wbool_nil _).mono ?_; rintro e w5 ⟨rfl, hb5⟩)
    | (go_at_call 14; refine (awake_any _).mono ?_; rintro e w6 ⟨rfl, hb6⟩)
    | (go_at_call 30; refine (bytes_nil _ _).mono ?_; rintro e w7 ⟨rfl, rfl⟩)
    | (go_at_call 13; refine (num_nil _ _).mono ?_; rintro e w7 ⟨rfl, hb7⟩)
    | (go_at_call 22; refine (count_nil _ _ hn'.out).mono ?_; rintro e w8 ⟨rfl, hb8⟩)
    | (go_at_call 24; refine (text_nil _ _ hn'.out).mono ?_; rintro e w9 ⟨rfl, hb9⟩)
    | (go_at_call 26; refine (hash_nil _).mono ?_; rintro e w10 ⟨rfl, rfl⟩)
    | (go_at_call 28; refine (bool_nil _).mono ?_; rintro e w10 ⟨rfl, hb10⟩)
    | (go_at_call 31; refine (err_nil _).mono ?_; rintro e w11 ⟨rfl, rfl⟩)
    | (go_at_call 32; refine (at_nil _).mono ?_; rintro e w12 ⟨rfl, rfl⟩)
    | (go_at_call 33; refine (left_nil _).mono ?_; rintro e w12 ⟨rfl, rfl⟩)
    | (go_at_call 16; refine (end_nil _).mono ?_; rintro e w12 ⟨rfl, rfl⟩)
    | (go_at_call 44; refine (wlen_nil _).mono ?_; rintro e w12 ⟨rfl, rfl⟩)
    | (go_at_call 45; refine (wall_nil _).mono ?_; rintro e w12 ⟨rfl, rfl⟩))
  go_ret
  have z1 := hb1.size
  have z2 := hb2.size
  have z3 := hb3.size
  have z4 := hb4.size
  have z5 := hb5.size
  have z6 := hb6.size
  have z7 := hb7.size
  have z8 := hb8.size
  have z9 := hb9.size
  exact ⟨rfl, ((((((((hb1.trans (hb2.mono (by omega))).trans (hb3.mono (by omega))).trans (hb4.mono (by omega))).trans (hb5.mono (by omega))).trans (hb6.mono (by omega))).trans (hb7.mono (by omega))).trans (hb8.mono (by omega))).trans (hb9.mono (by omega))).trans (hb10.mono (by omega))⟩

end Go.Proofs.Ytdajchppblifgaa.Wr
