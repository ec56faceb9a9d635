/- Pages: the page statements' awake answers true. -/
import Derived.Test.YtdajchppblifgaaPn
namespace Go.Proofs.Ytdajchppblifgaa.Pg
open Go.RowKit Go.Proofs.Ytdajchppblifgaa.Pl Go.Proofs.Ytdajchppblifgaa.Rd Go.Proofs.Ytdajchppblifgaa.Wr Go.Proofs.Ytdajchppblifgaa.Rf
set_option linter.unusedVariables false
set_option linter.unusedSimpArgs false

def pa (b1 b2 : Nat) : P := ⟨true, some ⟨b1, 0, none⟩, 1, 1, some ⟨b2, 0, none⟩, 1, 1, none, 0, 0, fun _ => ⟨#[97]⟩, fun _ => ⟨#[49]⟩, fun _ => 0⟩
theorem pa_may (b1 b2 : Nat) : (pa b1 b2).May := by
  refine ⟨⟨fun k hk => ?_, by show 1 ≤ 8; omega⟩, fun _ => ⟨rfl, rfl, ?_⟩, fun h => absurd h (by show ¬ true = false; simp)⟩
  · obtain rfl : k = 0 := by have : k < 1 := hk; omega
    rintro (h | h | h)
    · exact absurd h (by show ¬ 1 < 1; omega)
    · exact absurd h (by show ¬ 64 < 1; omega)
    · omega
  · rintro ⟨k, _, h⟩
    exact absurd h (by show ¬ 8192 < 1; decide)
theorem pa_in (w : World) : (pa w.heap.size (w.heap.size + 1)).In ((w.alloc (.cells #[.string ⟨#[97]⟩] 9)).alloc (.cells #[.string ⟨#[49]⟩] 9)) := by
  have z1 : (w.alloc (.cells #[.string ⟨#[97]⟩] 9)).heap.size = w.heap.size + 1 := by simp
  have z2 : ((w.alloc (.cells #[.string ⟨#[97]⟩] 9)).alloc (.cells #[.string ⟨#[49]⟩] 9)).heap.size = w.heap.size + 2 := by simp
  have h1 : ((w.alloc (.cells #[.string ⟨#[97]⟩] 9)).alloc (.cells #[.string ⟨#[49]⟩] 9)).heap[w.heap.size]? = some (.cells #[.string ⟨#[97]⟩] 9 (0, 0)) := (Below.heap_alloc _ _ _ (by simp)).trans (heap_alloc_new w _)
  have h2 := heap_alloc_new (w.alloc (.cells #[.string ⟨#[97]⟩] 9)) (.cells #[.string ⟨#[49]⟩] 9)
  rw [z1] at h2
  refine ⟨fun k hk => ?_, fun k hk => ?_, fun k hk => absurd hk (by show ¬ k < 0; omega), by show 1 ≤ 9223372036854775807; omega, by show 1 ≤ 9223372036854775807; omega, by show 0 ≤ 9223372036854775807; omega⟩
  · obtain rfl : k = 0 := by have : k < 1 := hk; omega
    exact ⟨w.heap.size, 0, rfl, by rw [z2]; omega, cell_of_row _ _ 0 _ 9 (0, 0) h1⟩
  · obtain rfl : k = 0 := by have : k < 1 := hk; omega
    exact ⟨w.heap.size + 1, 0, rfl, by rw [z2]; omega, cell_of_row _ _ 0 _ 9 (0, 0) h2⟩

theorem pa_back {w : World} {b1 b2 : Nat} {A1 : Option Addr} {c1 : Nat} {A2 : Option Addr} {c2 : Nat} {A3 : Option Addr} {c3 : Nat} (h : ((pa b1 b2).as' A1 c1 A2 c2 A3 c3).In w) :
    ∃ b off, A2 = some ⟨b, off, none⟩ ∧ ∀ o, (w.alloc o).cell? ⟨b, off, none⟩ = some (.string ⟨#[49]⟩) := by
  obtain ⟨b, off, h1, h2, h3⟩ := h.v 0 (by show 0 < 1; omega)
  exact ⟨b, off, h1, fun o => (World.cell?_of_block (Below.heap_alloc w o b h2)).trans h3⟩

set_option maxRecDepth 100000 in
theorem awake_any (w : World) :
    Calls Try.prog 50 #[] w fun e w' => e = .returned (.bool true) ∧ Below w.heap.size w w' := by
  obtain ⟨ob, hob⟩ : ∃ ob, ob = mkS (pa w.heap.size (w.heap.size + 1)).bytes := ⟨_, rfl⟩
  have hE := encode_may _ _ (pa_in w) (pa_may _ _)
  have hD := fun W => decode_may _ (pa_may w.heap.size (w.heap.size + 1)) W
  rw [← hob] at hE
  simp only [← hob] at hD
  have hE := Lib.hid hE
  have hD := Lib.hid hD
  clear hob
  go_enter Try.func50, Try.ntmps50
  go_wp2_with (first
    | (go_at_call 52; refine hE.out.mono ?_; rintro e w1 ⟨rfl, hb1⟩)
    | (go_at_call 55; refine (hD.out _).mono ?_; rintro e w2 ⟨A1, c1, A2, c2, A3, c3, rfl, hin, hb2⟩; obtain ⟨b, off, rfl, hc⟩ := pa_back hin; unfold P.val P.as' pa; clear hin))
  have b0 := ((Below.refl w.heap.size w).alloc (Nat.le_refl _) (.cells #[.string ⟨#[97]⟩] 9)).alloc (by simp) (.cells #[.string ⟨#[49]⟩] 9)
  have b1 := b0.trans (hb1.mono b0.size)
  have b2 := b1.trans (hb2.mono b1.size)
  go_ret
  exact ⟨rfl, b2.alloc b2.size _⟩

end Go.Proofs.Ytdajchppblifgaa.Pg
