/- Slices of structs that came in, laid open: what lies in their cells. -/
import Derived.Test.YtdajchppblifgaaProg
import Derived.ProofKit
import Derived.OpenShut
import Derived.Deep.Slices
import Derived.KernelRfl
namespace Go.Proofs.Ytdajchppblifgaa.Op
open Go.RowKit Go.ChangeShapes Go.WideShapes Go.Deep
set_option linter.unusedVariables false
set_option linter.unusedSimpArgs false

theorem cell_lt {w : World} {b o : Nat} {v : Value} (h : w.cell? ⟨b, o, none⟩ = some v) : b < w.heap.size := by
  rcases Nat.lt_or_ge b w.heap.size with hlt | hge
  · exact hlt
  · simp [World.cell?, Array.getElem?_eq_none hge] at h

theorem plain_at {w : World} {a : Addr} {v : Value} (h : w.cell? (a.add 0) = some v) : ∃ b off, a = ⟨b, off, none⟩ := by
  obtain ⟨b, off, spot⟩ := a
  have hspot : spot = none := by simpa [Addr.add] using World.cell?_spot h
  subst hspot
  exact ⟨b, off, rfl⟩

section
variable {H : Type} {enc : TypeId × Value → H} {P : Program} {w : World} {base : Nat} {spare : Nat → Bool} {held : Bool}

theorem pair_at {t e : TypeId} {f0 f1 : Field} {fuel : Nat} {A : Option Addr} {n c : Nat} {x : DataW H × List MemPlace} (ht : P.underlying t = some (.slice e)) (he : P.underlying e = some (.struct #[f0, f1]))
    (ce : P.cellsOf e = 2) (o0 : f0.offset = 0) (o1 : f1.offset = 1) (c0 : P.cellsOf f0.type = 1) (c1 : P.cellsOf f1.type = 1)
    (h : DataW.trod enc P w base spare held fuel t [.slice A n c] = some x) (k : Nat) (hk : k < n) :
    ∃ a v0 v1 m y0 y1, A = some a ∧ w.cell? (a.add (k * 2)) = some v0 ∧ w.cell? (a.add (k * 2 + 1)) = some v1 ∧
      DataW.trod enc P w base spare held m f0.type [v0] = some y0 ∧ DataW.trod enc P w base spare held m f1.type [v1] = some y1 := by
  rcases open_slice ht h with ⟨h0, _⟩ | ⟨a, len, cap, m, fl, D, Pl, h0, hb, hl, hm, hmm, _, hx⟩
  · simp at h0
    omega
  · simp at h0
    obtain ⟨rfl, rfl, rfl⟩ := h0
    have hkm : k < m := by rw [hmm]; split <;> omega
    obtain ⟨cs', h1, h2⟩ := hx k hkm
    rw [ce] at h1
    obtain ⟨_, hlen, hcell⟩ := World.cells?_some h1
    obtain ⟨xs, k2, hk2, hxy, _, hxl, hf⟩ := DataW.trod_struct he h2
    match xs, hxl, cs', hlen with
    | [y0, y1], _, [v0, v1], _ =>
      have g0 := hf 0 f0 rfl
      have g1 := hf 1 f1 rfl
      simp [o0, o1, c0, c1] at g0 g1
      have e0 := hcell 0 (by omega)
      have e1 := hcell 1 (by omega)
      rw [add_add] at e0 e1
      exact ⟨a, v0, v1, k2, y0, y1, rfl, by simpa using e0, by simpa using e1, g0, g1⟩

theorem triple_at {t e : TypeId} {f0 f1 f2 : Field} {fuel : Nat} {A : Option Addr} {n c : Nat} {x : DataW H × List MemPlace} (ht : P.underlying t = some (.slice e)) (he : P.underlying e = some (.struct #[f0, f1, f2]))
    (ce : P.cellsOf e = 3) (o0 : f0.offset = 0) (o1 : f1.offset = 1) (o2 : f2.offset = 2) (c0 : P.cellsOf f0.type = 1) (c1 : P.cellsOf f1.type = 1) (c2 : P.cellsOf f2.type = 1)
    (h : DataW.trod enc P w base spare held fuel t [.slice A n c] = some x) (k : Nat) (hk : k < n) :
    ∃ a v0 v1 v2 m y0 y1 y2, A = some a ∧ w.cell? (a.add (k * 3)) = some v0 ∧ w.cell? (a.add (k * 3 + 1)) = some v1 ∧ w.cell? (a.add (k * 3 + 2)) = some v2 ∧
      DataW.trod enc P w base spare held m f0.type [v0] = some y0 ∧ DataW.trod enc P w base spare held m f1.type [v1] = some y1 ∧ DataW.trod enc P w base spare held m f2.type [v2] = some y2 := by
  rcases open_slice ht h with ⟨h0, _⟩ | ⟨a, len, cap, m, fl, D, Pl, h0, hb, hl, hm, hmm, _, hx⟩
  · simp at h0
    omega
  · simp at h0
    obtain ⟨rfl, rfl, rfl⟩ := h0
    have hkm : k < m := by rw [hmm]; split <;> omega
    obtain ⟨cs', h1, h2⟩ := hx k hkm
    rw [ce] at h1
    obtain ⟨_, hlen, hcell⟩ := World.cells?_some h1
    obtain ⟨xs, k2, hk2, hxy, _, hxl, hf⟩ := DataW.trod_struct he h2
    match xs, hxl, cs', hlen with
    | [y0, y1, y2], _, [v0, v1, v2], _ =>
      have g0 := hf 0 f0 rfl
      have g1 := hf 1 f1 rfl
      have g2 := hf 2 f2 rfl
      simp [o0, o1, o2, c0, c1, c2] at g0 g1 g2
      have e0 := hcell 0 (by omega)
      have e1 := hcell 1 (by omega)
      have e2 := hcell 2 (by omega)
      rw [add_add] at e0 e1 e2
      exact ⟨a, v0, v1, v2, k2, y0, y1, y2, rfl, by simpa using e0, by simpa using e1, by simpa using e2, g0, g1, g2⟩

theorem len_of {t e : TypeId} {fuel : Nat} {A : Option Addr} {n c : Nat} {x : DataW H × List MemPlace} (ht : P.underlying t = some (.slice e)) (h : DataW.trod enc P w base spare held fuel t [.slice A n c] = some x) : n ≤ 9223372036854775807 := by
  rcases open_slice ht h with ⟨h0, _⟩ | ⟨a, len, cap, m, fl, D, Pl, h0, hb, hl, hm, _⟩
  · simp at h0
    omega
  · simp at h0
    obtain ⟨rfl, rfl, rfl⟩ := h0
    unfold maxLen at hm
    omega
end

section
variable {H : Type} {enc : TypeId × Value → H} {w : World} {base : Nat} {spare : Nat → Bool} {held : Bool}

theorem takes_of {fuel : Nat} {A : Option Addr} {n c : Nat} {x : DataW H × List MemPlace} (h : DataW.trod enc Try.prog w base spare held fuel 37 [.slice A n c] = some x) (k : Nat) (hk : k < n) :
    ∃ b off x y, A = some ⟨b, off, none⟩ ∧ b < w.heap.size ∧ w.cell? ⟨b, off + k * 2, none⟩ = some (.int .i64 x) ∧ w.cell? ⟨b, off + k * 2 + 1, none⟩ = some (.int .i64 y) ∧ y ≤ 9223372036854775807 := by
  obtain ⟨a0, u0, _, _, _, _, ha0, q0, _⟩ := pair_at Try.underlying37 Try.underlying41 (by kernel_rfl) rfl rfl (by kernel_rfl) (by kernel_rfl) h 0 (by omega)
  obtain ⟨a, v0, v1, m, y0, y1, rfl, e0, e1, g0, g1⟩ := pair_at Try.underlying37 Try.underlying41 (by kernel_rfl) rfl rfl (by kernel_rfl) (by kernel_rfl) h k hk
  simp only [Option.some.injEq] at ha0
  subst ha0
  rw [Nat.zero_mul] at q0
  obtain ⟨b, off, rfl⟩ := plain_at q0
  rw [Go.WideShapes.add_plain] at e0 e1
  obtain ⟨n0, hv0, _, w0⟩ := DataW.trod_int Try.underlying3 g0
  obtain ⟨n1, hv1, _, w1⟩ := DataW.trod_int Try.underlying3 g1
  simp only [List.cons.injEq, and_true] at hv0 hv1
  subst hv0 hv1
  exact ⟨b, off, n0, n1, rfl, cell_lt e0, e0, by rw [Nat.add_assoc]; exact e1, (bounds_i64 w1).2⟩

theorem puts_of {fuel : Nat} {A : Option Addr} {n c : Nat} {x : DataW H × List MemPlace} (h : DataW.trod enc Try.prog w base spare held fuel 57 [.slice A n c] = some x) (k : Nat) (hk : k < n) :
    ∃ b off x y s, A = some ⟨b, off, none⟩ ∧ b < w.heap.size ∧ w.cell? ⟨b, off + k * 3, none⟩ = some (.int .i64 x) ∧ w.cell? ⟨b, off + k * 3 + 1, none⟩ = some (.int .i64 y) ∧ w.cell? ⟨b, off + k * 3 + 2, none⟩ = some (.string s) ∧ y ≤ 9223372036854775807 := by
  obtain ⟨a0, u0, _, _, _, _, _, _, ha0, q0, _⟩ := triple_at Try.underlying57 Try.underlying61 (by kernel_rfl) rfl rfl rfl (by kernel_rfl) (by kernel_rfl) (by kernel_rfl) h 0 (by omega)
  obtain ⟨a, v0, v1, v2, m, y0, y1, y2, rfl, e0, e1, e2, g0, g1, g2⟩ := triple_at Try.underlying57 Try.underlying61 (by kernel_rfl) rfl rfl rfl (by kernel_rfl) (by kernel_rfl) (by kernel_rfl) h k hk
  simp only [Option.some.injEq] at ha0
  subst ha0
  rw [Nat.zero_mul] at q0
  obtain ⟨b, off, rfl⟩ := plain_at q0
  rw [Go.WideShapes.add_plain] at e0 e1 e2
  obtain ⟨n0, hv0, _, w0⟩ := DataW.trod_int Try.underlying3 g0
  obtain ⟨n1, hv1, _, w1⟩ := DataW.trod_int Try.underlying3 g1
  obtain ⟨s, hv2, _, _⟩ := DataW.trod_string Try.underlying9 g2
  simp only [List.cons.injEq, and_true] at hv0 hv1 hv2
  subst hv0 hv1 hv2
  exact ⟨b, off, n0, n1, s, rfl, cell_lt e0, e0, by rw [Nat.add_assoc]; exact e1, by rw [Nat.add_assoc]; exact e2, (bounds_i64 w1).2⟩
end

end Go.Proofs.Ytdajchppblifgaa.Op
