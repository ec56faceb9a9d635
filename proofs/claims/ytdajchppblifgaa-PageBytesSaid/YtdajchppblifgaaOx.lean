/- A page that came in by value, laid open: what lies in its three lists. -/
import Derived.Test.YtdajchppblifgaaOq
import Derived.Test.YtdajchppblifgaaPh
import Derived.Lib.SmallJoins
namespace Go.Proofs.Ytdajchppblifgaa.Op
open Go.RowKit Go.ChangeShapes Go.WideShapes Go.Deep
set_option linter.unusedVariables false
set_option linter.unusedSimpArgs false

section
variable {H : Type} {enc : TypeId × Value → H} {w : World} {base : Nat} {spare : Nat → Bool} {held : Bool}

theorem nums_of {fuel : Nat} {A : Option Addr} {n c : Nat} {x : DataW H × List MemPlace} (h : DataW.trod enc Try.prog w base spare held fuel 69 [.slice A n c] = some x) :
    ∃ S : Nat → Int, ∀ k, k < n → ∃ b off, A = some ⟨b, off, none⟩ ∧ b < w.heap.size ∧ w.cell? ⟨b, off + k, none⟩ = some (.int .i64 (S k)) := by
  rcases open_slice1 Try.underlying69 (by kernel_rfl) h with ⟨h0, _⟩ | ⟨a, len, cap, m, fl, V, D, Pl, h0, hb, hl, hm, hmm, _, hx⟩
  · simp at h0
    exact ⟨fun _ => 0, fun k hk => by omega⟩
  · simp at h0
    obtain ⟨rfl, rfl, rfl⟩ := h0
    have hnm : n ≤ m := by rw [hmm]; split <;> omega
    refine ⟨fun k => numOf (V k), fun k hk => ?_⟩
    obtain ⟨b, off, rfl⟩ := plain_at (hx 0 (by omega)).1
    obtain ⟨e0, g0⟩ := hx k (by omega)
    rw [Go.WideShapes.add_plain] at e0
    obtain ⟨s, hv, _, hs⟩ := DataW.trod_int Try.underlying3 g0
    simp only [List.cons.injEq, and_true] at hv
    have hst : numOf (V k) = s := by rw [hv]; rfl
    rw [hv] at e0
    show ∃ b_1 off_1, _ ∧ _ ∧ w.cell? _ = some (Value.int .i64 (numOf (V k)))
    rw [hst]
    exact ⟨b, off, rfl, cell_lt e0, e0⟩

theorem page_of {r : Reach} {b0 : Nat} {v : Value} {d : DataW H} {ps : List MemPlace} (hv : Value.okWide Try.prog w r b0 77 v) (h : DataW.Trod enc Try.prog w base spare held 77 v d ps) :
    ∃ p : Pg.P, v = p.val ∧ p.In w := by
  obtain ⟨v0, v1, v2, v3, y0, y1, y2, y3, n, rfl, _, _, g0, g1, g2, g3⟩ := Joins.open_agg4 Try.underlying77 (by kernel_rfl) (by kernel_rfl) hv h
  obtain ⟨lf, hl, _⟩ := DataW.trod_bool Try.underlying4 g0
  obtain ⟨A1, n1, c1, h1⟩ := Joins.slice_form Try.underlying68 g1
  obtain ⟨A2, n2, c2, h2⟩ := Joins.slice_form Try.underlying68 g2
  obtain ⟨A3, n3, c3, h3⟩ := Joins.slice_form Try.underlying69 g3
  simp only [List.cons.injEq, and_true] at hl h1 h2 h3
  subst hl h1 h2 h3
  obtain ⟨K, hK⟩ := texts_of g1
  obtain ⟨V, hV⟩ := texts_of g2
  obtain ⟨N, hN⟩ := nums_of g3
  refine ⟨⟨lf, A1, n1, c1, A2, n2, c2, A3, n3, c3, K, V, N⟩, rfl, ⟨fun k hk => ?_, fun k hk => ?_, fun k hk => ?_, len_of Try.underlying68 g1, len_of Try.underlying68 g2, len_of Try.underlying69 g3⟩⟩
  · obtain ⟨b, off, q1, q2, q3, _⟩ := hK k hk
    exact ⟨b, off, q1, q2, q3⟩
  · obtain ⟨b, off, q1, q2, q3, _⟩ := hV k hk
    exact ⟨b, off, q1, q2, q3⟩
  · exact hN k hk
end

end Go.Proofs.Ytdajchppblifgaa.Op
