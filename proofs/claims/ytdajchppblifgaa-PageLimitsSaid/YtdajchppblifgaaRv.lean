/- The reference's reader, part 4: Bool, End. -/
import Derived.Test.YtdajchppblifgaaRu
namespace Go.Proofs.Ytdajchppblifgaa.Rf
open Go.RowKit Go.Proofs.Ytdajchppblifgaa.Pl Go.Proofs.Ytdajchppblifgaa.Rd Go.Proofs.Ytdajchppblifgaa.Wr
set_option linter.unusedVariables false
set_option linter.unusedSimpArgs false

theorem rbool_had (s s1 : ByteArray) (t e t1 e1 : Int) (he : (e1 == 0) = false) (w : World)
    (hN : ∀ W : World, Calls Try.prog 20 #[.agg #[.string s, .int .i64 t, .int .i64 e], .int .i64 1] W fun en w' => en = .returned (.tuple #[.agg #[.string s1, .int .i64 t1, .int .i64 e1], .int .u64 0]) ∧ Below W.heap.size W w') :
    Calls Try.prog 27 #[.agg #[.string s, .int .i64 t, .int .i64 e]] w fun en w' => en = .returned (.tuple #[.agg #[.string s1, .int .i64 t1, .int .i64 e1], .bool false]) ∧ Below w.heap.size w w' := by
  have HN := Lib.hid hN
  clear hN
  go_enter Try.func27, Try.ntmps27
  go_wp2_with (first | (go_at_call 20; refine (HN.out _).mono ?_; rintro en w1 ⟨rfl, hb⟩; obtain ⟨c0, c1, c2, f0, f1, f2, hz, hbw⟩ := kept2 hb; clear hb))
  refine bodyPost_ret (v := .tuple #[.agg #[.string s1, .int .i64 t1, .int .i64 e1], .bool false]) (by simp [results, Try.results27, go_sem, c0, c1, c2, hz, Nat.ne_of_lt hz]) rfl ⟨rfl, ?_⟩
  exact below_res hbw hz _ _ _ _

theorem rbool_more (s s1 : ByteArray) (t e t1 : Int) (v : Nat) (hv : (1 : Int) < v) (w : World)
    (hN : ∀ W : World, Calls Try.prog 20 #[.agg #[.string s, .int .i64 t, .int .i64 e], .int .i64 1] W fun en w' => en = .returned (.tuple #[.agg #[.string s1, .int .i64 t1, .int .i64 0], .int .u64 v]) ∧ Below W.heap.size W w') :
    Calls Try.prog 27 #[.agg #[.string s, .int .i64 t, .int .i64 e]] w fun en w' => en = .returned (.tuple #[.agg #[.string ⟨#[]⟩, .int .i64 t1, .int .i64 6], .bool false]) ∧ Below w.heap.size w w' := by
  have HN := Lib.hid hN
  clear hN
  go_enter Try.func27, Try.ntmps27
  go_wp2_with (first | (go_at_call 20; refine (HN.out _).mono ?_; rintro en w1 ⟨rfl, hb⟩; obtain ⟨c0, c1, c2, f0, f1, f2, hz, hbw⟩ := kept2 hb; clear hb) | (go_at_call 58; refine (rfail _ _ _ _ _).mono ?_; rintro en w2 ⟨rfl, hb2⟩; obtain ⟨⟨c0, c1, c2, f0, f1, f2⟩, hz2, hbw2⟩ := kept3 c0 c1 c2 f0 f1 f2 hz hbw hb2; clear hb2))
  refine bodyPost_ret (v := .tuple #[.agg #[.string ⟨#[]⟩, .int .i64 t1, .int .i64 6], .bool false]) (by simp [results, Try.results27, go_sem, c0, c1, c2]) rfl ⟨rfl, ?_⟩
  exact below_set3 hbw2 _ _ _

theorem rbool_fits (s s1 : ByteArray) (t e t1 : Int) (v : Nat) (hv : (v : Int) ≤ 1) (w : World)
    (hN : ∀ W : World, Calls Try.prog 20 #[.agg #[.string s, .int .i64 t, .int .i64 e], .int .i64 1] W fun en w' => en = .returned (.tuple #[.agg #[.string s1, .int .i64 t1, .int .i64 0], .int .u64 v]) ∧ Below W.heap.size W w') :
    Calls Try.prog 27 #[.agg #[.string s, .int .i64 t, .int .i64 e]] w fun en w' => en = .returned (.tuple #[.agg #[.string s1, .int .i64 t1, .int .i64 0], .bool ((v : Int) == 1)]) ∧ Below w.heap.size w w' := by
  have HN := Lib.hid hN
  clear hN
  go_enter Try.func27, Try.ntmps27
  go_wp2_with (first | (go_at_call 20; refine (HN.out _).mono ?_; rintro en w1 ⟨rfl, hb⟩; obtain ⟨c0, c1, c2, f0, f1, f2, hz, hbw⟩ := kept2 hb; clear hb))
  refine bodyPost_ret (v := .tuple #[.agg #[.string s1, .int .i64 t1, .int .i64 0], .bool ((v : Int) == 1)]) (by simp [results, Try.results27, go_sem, c0, c1, c2, hz, Nat.ne_of_lt hz]) rfl ⟨rfl, ?_⟩
  exact below_res hbw hz _ _ _ _

theorem rbool_any (r : R) (ok : r.Ok) (w : World) :
    Calls Try.prog 27 #[agg r] w fun en w' => en = .returned (.tuple #[agg r.boolR, .bool r.boolV]) ∧ Below w.heap.size w w' := by
  have hN := fun W => rnum_any r 1 ok W
  by_cases he : (r.numR 1).e = 0
  · have hq : agg (r.numR 1) = .agg #[.string (r.numR 1).s, .int .i64 (r.numR 1).t, .int .i64 0] := by unfold agg; rw [he]
    rw [hq] at hN
    by_cases h1 : 1 < r.numV 1
    · have h2 : r.boolV = false := by simp [R.boolV]; omega
      rw [show r.boolR = (r.numR 1).fail 6 from if_pos h1, h2, show (r.numR 1).fail 6 = ⟨ByteArray.empty, (r.numR 1).t, 6⟩ by simp [R.fail, he]]
      exact rbool_more _ _ _ _ _ _ (by omega) w hN
    · have h2 : r.boolV = ((r.numV 1 : Int) == 1) := by rw [Bool.eq_iff_iff]; simp [R.boolV]; omega
      rw [show r.boolR = r.numR 1 from if_neg h1, h2, hq]
      exact rbool_fits _ _ _ _ _ _ (by omega) w hN
  · have h0 := numV_err r 1 he
    have h1 : r.boolR = r.numR 1 := by
      unfold R.boolR
      split
      · simp [R.fail, he]
      · rfl
    have h2 : r.boolV = false := by simp [R.boolV, h0]
    rw [h1, h2]
    rw [h0] at hN
    exact rbool_had _ _ _ _ _ _ (by simpa using he) w hN

theorem rend_had (s : ByteArray) (t e : Int) (he : (e == 0) = false) (w : World) :
    Calls Try.prog 34 #[.agg #[.string s, .int .i64 t, .int .i64 e]] w fun en w' => en = .returned (.agg #[.string s, .int .i64 t, .int .i64 e]) ∧ Below w.heap.size w w' := by
  go_enter Try.func34, Try.ntmps34
  go_wp2
  exact bodyPost_ret (v := .agg #[.string s, .int .i64 t, .int .i64 e]) (by simp [results, Try.results34, go_sem]) rfl ⟨rfl, below2 _ _ _⟩
theorem rend_none (s : ByteArray) (t : Int) (hs : (s.size : Int) ≤ 0) (w : World) :
    Calls Try.prog 34 #[.agg #[.string s, .int .i64 t, .int .i64 0]] w fun en w' => en = .returned (.agg #[.string s, .int .i64 t, .int .i64 0]) ∧ Below w.heap.size w w' := by
  go_enter Try.func34, Try.ntmps34
  go_wp2
  exact bodyPost_ret (v := .agg #[.string s, .int .i64 t, .int .i64 0]) (by simp [results, Try.results34, go_sem]) rfl ⟨rfl, below2 _ _ _⟩
theorem rend_more (s : ByteArray) (t : Int) (hs : (0 : Int) < s.size) (w : World) :
    Calls Try.prog 34 #[.agg #[.string s, .int .i64 t, .int .i64 0]] w fun en w' => en = .returned (.agg #[.string ⟨#[]⟩, .int .i64 t, .int .i64 5]) ∧ Below w.heap.size w w' := by
  go_enter Try.func34, Try.ntmps34
  go_wp2
  refine bodyPost_ret (v := .agg #[.string ⟨#[]⟩, .int .i64 t, .int .i64 5]) (by simp [results, Try.results58, go_sem]) rfl ?_
  go_wp2
  exact bodyPost_ret (v := .agg #[.string ⟨#[]⟩, .int .i64 t, .int .i64 5]) (by simp [results, Try.results34, go_sem]) rfl ⟨rfl, below4 _ _ _ _ _⟩

theorem rend_any (r : R) (w : World) :
    Calls Try.prog 34 #[agg r] w fun en w' => en = .returned (agg r.endR) ∧ Below w.heap.size w w' := by
  obtain ⟨s, t, e⟩ := r
  by_cases he : e = 0
  · subst he
    by_cases hs : 0 < s.size
    · rw [show R.endR ⟨s, t, 0⟩ = ⟨ByteArray.empty, t, 5⟩ by simp [R.endR, hs, R.fail]]
      exact rend_more s t (by omega) w
    · rw [show R.endR ⟨s, t, 0⟩ = ⟨s, t, 0⟩ from if_neg hs]
      exact rend_none s t (by omega) w
  · have h : R.endR ⟨s, t, e⟩ = ⟨s, t, e⟩ := by
      unfold R.endR
      split
      · simp [R.fail, he]
      · rfl
    rw [h]
    exact rend_had s t e (by simpa using he) w

end Go.Proofs.Ytdajchppblifgaa.Rf
