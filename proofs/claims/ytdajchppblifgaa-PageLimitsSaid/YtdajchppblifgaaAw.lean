/- The wire statements' awake answers true. -/
import Derived.Test.YtdajchppblifgaaWh
namespace Go.Proofs.Ytdajchppblifgaa.Wr
open Go.RowKit Go.Proofs.Ytdajchppblifgaa.Pl Go.Proofs.Ytdajchppblifgaa.Rd
set_option linter.unusedVariables false
set_option linter.unusedSimpArgs false

def abc : ByteArray := ⟨#[97, 98, 99]⟩
def abcR : R := ⟨⟨#[3, 0, 0, 0, 97, 98, 99]⟩, 0, 0⟩
theorem abc_text : textB abc = [3, 0, 0, 0, 97, 98, 99] := by decide +kernel
theorem abc_ok : abcR.Ok := ⟨by decide, by decide, by decide, by decide⟩
theorem abc_take : abcR.textV 3 = ⟨#[97, 98, 99]⟩ := by decide +kernel
theorem abc_size : (abcR.textR 3).s.size = 0 := by decide +kernel
theorem abc_err : (abcR.textR 3).e = 0 := by decide +kernel
theorem num258 : digits 258 (width 2) = [2, 1] := by decide +kernel

theorem awake_any (w : World) :
    Calls Try.prog 14 #[] w fun e w' => e = .returned (.bool true) ∧ Below w.heap.size w w' := by
  have hN := fun W => number_any 258 2 (by omega) W
  rw [num258, show ((258 : Nat) : Int) = 258 from rfl] at hN
  have hN := Lib.hid hN
  have hT := fun W g h => text_any g abcR 3 (by omega) W h abc_ok
  rw [abc_take] at hT
  have hT := Lib.hid hT
  have hE : ∀ W g, Rd W g (abcR.textR 3) → Calls Try.prog 16 #[.pointer (some ⟨g, 0, none⟩)] W (Post W g (abcR.textR 3) (.int .i64 0)) := by
    intro W g h
    have := end_none g _ W h abc_size
    rwa [abc_err] at this
  have hE := Lib.hid hE
  have hW := fun W g B h => wtext_any g B [] abc (by decide) W h
  rw [abc_text] at hW
  have hW := Lib.hid hW
  go_enter Try.func14, Try.ntmps14
  go_wp2_with (first
    | (go_at_call 35; refine (newWriter _).mono ?_; rintro e w1 ⟨rfl, hw1, hb1⟩)
    | (go_at_call 38; refine (hW.out _ _ _ hw1).mono ?_; rintro e w2 ⟨rfl, hw2, hb2⟩)
    | (go_at_call 45; refine (wall_any _ _ _ _ hw2).mono ?_; rintro e w3 ⟨rfl, rfl⟩)
    | (go_at_call 12; refine (newReader _ _).mono ?_; rintro e w4 ⟨rfl, hr4, hb4⟩)
    | (go_at_call 24; refine (hT.out _ _ hr4).mono ?_; rintro e w5 ⟨rfl, hr5, hb5⟩)
    | (go_at_call 16; refine (hE.out _ _ hr5).mono ?_; rintro e w6 ⟨rfl, hr6, hb6⟩)
    | (go_at_call 11; refine (hN.out _).mono ?_; rintro e w7 ⟨rfl, hb7⟩))
  go_ret
  have z1 := hb1.size
  have z2 := hb2.size
  have z4 := hb4.size
  have z5 := hb5.size
  have z6 := hb6.size
  have c2 := hb1.trans hb2
  have c4 := c2.trans (hb4.mono (by omega))
  have c5 := c4.grown hb5 (by omega) (fun k hk => by injection hk with hk; omega)
  have c6 := c5.grown hb6 (by omega) (fun k hk => by injection hk with hk; omega)
  exact ⟨rfl, c6.trans (hb7.mono (by omega))⟩

end Go.Proofs.Ytdajchppblifgaa.Wr
