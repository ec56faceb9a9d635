/- Pages: Decode takes a page's bytes as that page. -/
import Derived.Test.YtdajchppblifgaaPj
import Derived.Test.YtdajchppblifgaaPk
namespace Go.Proofs.Ytdajchppblifgaa.Pg
open Go.RowKit Go.Proofs.Ytdajchppblifgaa.Pl Go.Proofs.Ytdajchppblifgaa.Rd Go.Proofs.Ytdajchppblifgaa.Wr Go.Proofs.Ytdajchppblifgaa.Rf
set_option linter.unusedVariables false
set_option linter.unusedSimpArgs false

/-- The same page, as it lies elsewhere. -/
def P.as' (p : P) (A1 : Option Addr) (c1 : Nat) (A2 : Option Addr) (c2 : Nat) (A3 : Option Addr) (c3 : Nat) : P := ⟨p.lf, A1, p.n1, c1, A2, p.n2, c2, A3, p.n3, c3, p.K, p.V, p.N⟩
theorem May.elsewhere {p : P} (h : p.May) (A1 : Option Addr) (c1 : Nat) (A2 : Option Addr) (c2 : Nat) (A3 : Option Addr) (c3 : Nat) : (p.as' A1 c1 A2 c2 A3 c3).May := h

theorem sum_tl (S : Nat → ByteArray) {n k : Nat} (hk : k ≤ n) : (tl S k).length + (ts S k (n - k)).length = (tl S n).length := by
  have := congrArg List.length (tl_ts S (n - k) k)
  rw [List.length_append, show k + (n - k) = n by omega] at this
  exact this

theorem decode_may (p : P) (hm : p.May) (w : World) :
    Calls Try.prog 55 #[.string (mkS p.bytes)] w fun e w' => ∃ A1 c1 A2 c2 A3 c3, e = .returned (.tuple #[(p.as' A1 c1 A2 c2 A3 c3).val, .int .i64 0]) ∧ (p.as' A1 c1 A2 c2 A3 c3).In w' ∧ Below w.heap.size w w' := by
  have hs := hm.small
  have hlen := P.at3 hs (Nat.le_refl _)
  have hbl : p.bytes.length ≤ 70000 := hlen
  have hsum : p.bytes.length = 2 + (tl p.K p.n1).length + ((tl p.V p.n2).length + (nl p.N p.n3).length) := by
    rw [P.bytes, List.length_append, List.length_append, List.length_append, P.hd_length]
    omega
  obtain ⟨R0, hR⟩ : ∃ R0, R0 = tl p.V p.n2 ++ nl p.N p.n3 := ⟨_, rfl⟩
  have hRl : R0.length = (tl p.V p.n2).length + (nl p.N p.n3).length := by rw [hR, List.length_append]
  have hbytes : p.bytes = digits (if p.lf then 1 else 0) 1 ++ (digits p.n1 1 ++ (ts p.K 0 p.n1 ++ R0)) := by
    rw [P.bytes, P.hd, hR, ts_all]
    simp only [List.append_assoc]
  have hRv : p.lf = true → R0 = ts p.V 0 p.n1 := fun hl => by
    have h := hm.2.1 hl
    rw [hR, h.1, h.2.1, ts_all]
    show tl p.V p.n1 ++ [] = _
    rw [List.append_nil]
  have hRc : p.lf = false → R0 = ns p.N 0 (p.n1 + 1) := fun hl => by
    have h := hm.2.2 hl
    rw [hR, h.1, h.2.2.1, ns_all]
    rfl
  have n1 := hs.s1
  have core := decode_core (mkS p.bytes) p.lf p.n1 n1 p.K p.V p.N w (rdr (digits p.n1 1 ++ (ts p.K 0 p.n1 ++ R0)) 1) (fun k => rdr (ts p.K k (p.n1 - k) ++ R0) (2 + (tl p.K k).length))
    (fun k => if p.lf then rdr (ts p.V k (p.n1 - k) ++ []) (2 + (tl p.K p.n1).length + (tl p.V k).length) else rdr R0 (2 + (tl p.K p.n1).length))
    (fun k => if p.lf then rdr R0 (2 + (tl p.K p.n1).length) else rdr (ns p.N k (p.n1 + 1 - k)) (2 + (tl p.K p.n1).length + 4 * k))
    (Lib.hid fun W g h => ?_) (Lib.hid fun W g h => ?_) (Lib.hid fun W g k hk h => ?_) (Lib.hid fun W g k hk h => err_none _ _ W g h) ?_ ?_
    (Lib.hid fun hl W g k hk h => ?_) (Lib.hid fun hl W g k hk h => ?_) (Lib.hid fun hl W g h => ?_)
    (Lib.hid fun hl W g k hk h => ?_) (Lib.hid fun hl W g k hk h => ?_) (Lib.hid fun hl W g h => ?_) (Lib.hid fun A1 c1 A2 c2 A3 c3 => ?_)
  · refine core.mono ?_
    rintro e w' ⟨A1, c1, A2, c2, A3, c3, he, hin, hb⟩
    have hq : (⟨p.lf, A1, p.n1, c1, A2, if p.lf then p.n1 else 0, c2, A3, if p.lf then 0 else p.n1 + 1, c3, p.K, p.V, p.N⟩ : P) = p.as' A1 c1 A2 c2 A3 c3 := by
      unfold P.as'
      cases hl : p.lf
      · have h := hm.2.2 hl
        simp [h.1, h.2.2.1]
      · have h := hm.2.1 hl
        simp [h.1, h.2.1]
    rw [hq] at he hin
    exact ⟨A1, c1, A2, c2, A3, c3, he, hin, hb⟩
  · have h1 := bool_any g _ W h ⟨by simp, by show (0 : Int) + ((mkS p.bytes).size : Int) ≤ _; rw [mkS_size]; omega, by simp, by simp⟩
    obtain ⟨a, b⟩ := take_bool p.lf (digits p.n1 1 ++ (ts p.K 0 p.n1 ++ R0)) 0
    rw [← hbytes] at a b
    rw [a, b] at h1
    exact h1
  · have h1 := num_any g _ 1 W h (rdr_ok (by rw [List.length_append, List.length_append, digits_length, ts_all, hRl]; omega))
    obtain ⟨a, b⟩ := take_num1 (digits p.n1 1) (ts p.K 0 p.n1 ++ R0) (1 : Nat) (digits_length _ _)
    rw [le_digits1 _ (by omega)] at b
    unfold rdr at h1
    rw [a, b] at h1
    exact h1
  · have e1 : p.n1 - k = (p.n1 - (k + 1)) + 1 := by omega
    have h2 := sum_tl p.K (Nat.le_of_lt hk)
    rw [e1] at h2
    simp only [e1] at h
    have h1 := text_step p.K k (p.n1 - (k + 1)) (2 + (tl p.K k).length) R0 64 (hs.k k hk) (by omega) (by rw [List.length_append, hRl]; omega) W g h
    rw [show 2 + (tl p.K k).length + (4 + (p.K k).size) = 2 + (tl p.K (k + 1)).length by rw [tl, List.length_append, textB_length]; omega] at h1
    exact h1
  · cases hl : p.lf
    · simp [ts]
    · simp [ts, tl, hRv hl]
  · cases hl : p.lf
    · simp [ts, hRc hl]
    · simp [ts]
  · simp only [hl, if_true] at h ⊢
    have hn2 := (hm.2.1 hl).2.1
    have e1 : p.n1 - k = (p.n1 - (k + 1)) + 1 := by omega
    have h2 := sum_tl p.V (Nat.le_of_lt hk)
    rw [e1] at h2
    rw [hn2] at hsum
    simp only [e1] at h
    have h1 := text_step p.V k (p.n1 - (k + 1)) (2 + (tl p.K p.n1).length + (tl p.V k).length) [] 8192 (hs.v k (by omega)) (by omega) (by rw [List.length_append]; simp only [List.length_nil]; omega) W g h
    rw [show 2 + (tl p.K p.n1).length + (tl p.V k).length + (4 + (p.V k).size) = 2 + (tl p.K p.n1).length + (tl p.V (k + 1)).length by rw [tl, List.length_append, textB_length]; omega] at h1
    exact h1
  · simp only [hl, if_true] at h
    exact err_none _ _ W g h
  · simp only [hl, if_true, Nat.sub_self, ts, List.append_nil] at h ⊢
    exact end_step _ W g h
  · simp only [hl] at h ⊢
    have hn3 := (hm.2.2 hl).2.2.1
    have e1 : p.n1 + 1 - k = (p.n1 + 1 - (k + 1)) + 1 := by omega
    have h2 := ns_length p.N (p.n1 + 1 - (k + 1) + 1) k
    rw [nl_length, hn3] at hsum
    have h : Rd W g (rdr (ns p.N k (p.n1 + 1 - k)) (2 + (tl p.K p.n1).length + 4 * k)) := h
    rw [e1] at h
    have h1 := count_step p.N k (p.n1 + 1 - (k + 1)) (2 + (tl p.K p.n1).length + 4 * k) (hs.n k (by omega)) (by omega) W g h
    exact h1
  · simp only [hl] at h
    exact err_none _ _ W g h
  · simp only [hl, Nat.sub_self, ns] at h ⊢
    exact end_step _ W g h
  · have hq : (⟨p.lf, A1, p.n1, c1, A2, if p.lf then p.n1 else 0, c2, A3, if p.lf then 0 else p.n1 + 1, c3, p.K, p.V, p.N⟩ : P) = p.as' A1 c1 A2 c2 A3 c3 := by
      unfold P.as'
      cases hl : p.lf
      · have h := hm.2.2 hl
        simp [h.1, h.2.2.1]
      · have h := hm.2.1 hl
        simp [h.1, h.2.1]
    rw [hq]
    exact May.elsewhere hm A1 c1 A2 c2 A3 c3

end Go.Proofs.Ytdajchppblifgaa.Pg
