/- A slice of texts, and one of numbers, that came in, laid open. -/
import Derived.Test.YtdajchppblifgaaOp
namespace Go.Proofs.Ytdajchppblifgaa.Op
open Go.RowKit Go.ChangeShapes Go.WideShapes Go.Deep
set_option linter.unusedVariables false
set_option linter.unusedSimpArgs false

def strOf : Value → ByteArray | .string s => s | _ => ByteArray.empty
def numOf : Value → Int | .int _ n => n | _ => 0

section
variable {H : Type} {enc : TypeId × Value → H} {w : World} {base : Nat} {spare : Nat → Bool} {held : Bool}

theorem texts_of {fuel : Nat} {A : Option Addr} {n c : Nat} {x : DataW H × List MemPlace} (h : DataW.trod enc Try.prog w base spare held fuel 68 [.slice A n c] = some x) :
    ∃ S : Nat → ByteArray, ∀ k, k < n → ∃ b off, A = some ⟨b, off, none⟩ ∧ b < w.heap.size ∧ w.cell? ⟨b, off + k, none⟩ = some (.string (S k)) ∧ (S k).size ≤ maxLen := by
  rcases open_slice1 Try.underlying68 (by kernel_rfl) h with ⟨h0, _⟩ | ⟨a, len, cap, m, fl, V, D, Pl, h0, hb, hl, hm, hmm, _, hx⟩
  · simp at h0
    exact ⟨fun _ => ByteArray.empty, fun k hk => by omega⟩
  · simp at h0
    obtain ⟨rfl, rfl, rfl⟩ := h0
    have hnm : n ≤ m := by rw [hmm]; split <;> omega
    refine ⟨fun k => strOf (V k), fun k hk => ?_⟩
    obtain ⟨b, off, rfl⟩ := plain_at (hx 0 (by omega)).1
    obtain ⟨e0, g0⟩ := hx k (by omega)
    rw [Go.WideShapes.add_plain] at e0
    obtain ⟨s, hv, _, hs⟩ := DataW.trod_string Try.underlying9 g0
    simp only [List.cons.injEq, and_true] at hv
    have hst : strOf (V k) = s := by rw [hv]; rfl
    rw [hv] at e0
    show ∃ b_1 off_1, _ ∧ _ ∧ w.cell? _ = some (Value.string (strOf (V k))) ∧ (strOf (V k)).size ≤ maxLen
    rw [hst]
    exact ⟨b, off, rfl, cell_lt e0, e0, hs⟩
end

end Go.Proofs.Ytdajchppblifgaa.Op
