/- The reference's reader, part 3: Count, Text, Bool, End. -/
import Derived.Test.YtdajchppblifgaaRt
namespace Go.Proofs.Ytdajchppblifgaa.Rf
open Go.RowKit Go.Proofs.Ytdajchppblifgaa.Pl Go.Proofs.Ytdajchppblifgaa.Rd Go.Proofs.Ytdajchppblifgaa.Wr
set_option linter.unusedVariables false
set_option linter.unusedSimpArgs false

theorem below_res {w w1 : World} (hbw : Below w.heap.size w w1) (hz : w.heap.size + 1 < w1.heap.size) (a b c : Value) (o : Obj) :
    Below w.heap.size w ((((w1.setCell ⟨w.heap.size + 1, 0, none⟩ a).setCell ⟨w.heap.size + 1, 1, none⟩ b).setCell ⟨w.heap.size + 1, 2, none⟩ c).alloc o) :=
  (((hbw.setCell (p := ⟨w.heap.size + 1, 0, none⟩) (by simp) _).setCell (p := ⟨w.heap.size + 1, 1, none⟩) (by simp) _).setCell (p := ⟨w.heap.size + 1, 2, none⟩) (by simp) _).alloc (by simp; omega) _

theorem rcount_had (s s1 : ByteArray) (t e t1 e1 : Int) (v : Nat) (hv : v < 4294967296) (he : (e1 == 0) = false) (most : Int) (w : World)
    (hN : ∀ W : World, Calls Try.prog 20 #[.agg #[.string s, .int .i64 t, .int .i64 e], .int .i64 4] W fun en w' => en = .returned (.tuple #[.agg #[.string s1, .int .i64 t1, .int .i64 e1], .int .u64 v]) ∧ Below W.heap.size W w') :
    Calls Try.prog 21 #[.agg #[.string s, .int .i64 t, .int .i64 e], .int .i64 most] w fun en w' => en = .returned (.tuple #[.agg #[.string s1, .int .i64 t1, .int .i64 e1], .int .i64 v]) ∧ Below w.heap.size w w' := by
  have HN := Lib.hid hN
  clear hN
  have hvi : (v : Int) < 4294967296 := by omega
  go_enter Try.func21, Try.ntmps21
  go_wp2_with (first | (go_at_call 20; refine (HN.out _).mono ?_; rintro en w1 ⟨rfl, hb⟩; obtain ⟨c0, c1, c2, f0, f1, f2, hz, hbw⟩ := kept2 hb; clear hb))
  refine bodyPost_ret (v := .tuple #[.agg #[.string s1, .int .i64 t1, .int .i64 e1], .int .i64 v]) (by simp [results, Try.results21, go_sem, c0, c1, c2, hz, Nat.ne_of_lt hz]) rfl ⟨rfl, ?_⟩
  exact below_res hbw hz _ _ _ _

/-- A result's cells behind one more call. -/
theorem kept3 {w w1 w2 : World} {o : Obj} (c0 : w1.cell? ⟨w.heap.size + 1, 0, none⟩ = some (.string ⟨#[]⟩)) (c1 : w1.cell? ⟨w.heap.size + 1, 1, none⟩ = some (.int .i64 0)) (c2 : w1.cell? ⟨w.heap.size + 1, 2, none⟩ = some (.int .i64 0))
    (f0 : w1.frozen? ⟨w.heap.size + 1, 0, none⟩ = false) (f1 : w1.frozen? ⟨w.heap.size + 1, 1, none⟩ = false) (f2 : w1.frozen? ⟨w.heap.size + 1, 2, none⟩ = false)
    (hz : w.heap.size + 1 < w1.heap.size) (hbw : Below w.heap.size w w1) (hb : Below (w1.alloc o).heap.size (w1.alloc o) w2) :
    (w2.cell? ⟨w.heap.size + 1, 0, none⟩ = some (.string ⟨#[]⟩) ∧ w2.cell? ⟨w.heap.size + 1, 1, none⟩ = some (.int .i64 0) ∧ w2.cell? ⟨w.heap.size + 1, 2, none⟩ = some (.int .i64 0) ∧
    w2.frozen? ⟨w.heap.size + 1, 0, none⟩ = false ∧ w2.frozen? ⟨w.heap.size + 1, 1, none⟩ = false ∧ w2.frozen? ⟨w.heap.size + 1, 2, none⟩ = false) ∧ w.heap.size + 1 < w2.heap.size ∧ Below w.heap.size w w2 := by
  have hs : (w1.alloc o).heap.size = w1.heap.size + 1 := by simp
  have b1 : Below w1.heap.size w1 w2 := ((Below.refl _ _).alloc (Nat.le_refl _) o).trans (hb.mono (by omega))
  have hc := fun i => b1.cell (p := ⟨w.heap.size + 1, i, none⟩) hz
  have hf := fun i => b1.frozen (p := ⟨w.heap.size + 1, i, none⟩) hz
  have h2 := b1.size
  exact ⟨⟨(hc 0).trans c0, (hc 1).trans c1, (hc 2).trans c2, (hf 0).trans f0, (hf 1).trans f1, (hf 2).trans f2⟩, by omega, hbw.trans (b1.mono (by omega))⟩

theorem below_set3 {w w1 : World} (hbw : Below w.heap.size w w1) (a b c : Value) :
    Below w.heap.size w (((w1.setCell ⟨w.heap.size + 1, 0, none⟩ a).setCell ⟨w.heap.size + 1, 1, none⟩ b).setCell ⟨w.heap.size + 1, 2, none⟩ c) :=
  ((hbw.setCell (p := ⟨w.heap.size + 1, 0, none⟩) (by simp) _).setCell (p := ⟨w.heap.size + 1, 1, none⟩) (by simp) _).setCell (p := ⟨w.heap.size + 1, 2, none⟩) (by simp) _

theorem rcount_neg (s s1 : ByteArray) (t e t1 : Int) (v : Nat) (hv : v < 4294967296) (most : Int) (hm : most < 0) (w : World)
    (hN : ∀ W : World, Calls Try.prog 20 #[.agg #[.string s, .int .i64 t, .int .i64 e], .int .i64 4] W fun en w' => en = .returned (.tuple #[.agg #[.string s1, .int .i64 t1, .int .i64 0], .int .u64 v]) ∧ Below W.heap.size W w') :
    Calls Try.prog 21 #[.agg #[.string s, .int .i64 t, .int .i64 e], .int .i64 most] w fun en w' => en = .returned (.tuple #[.agg #[.string ⟨#[]⟩, .int .i64 t1, .int .i64 3], .int .i64 0]) ∧ Below w.heap.size w w' := by
  have HN := Lib.hid hN
  clear hN
  have hvi : (v : Int) < 4294967296 := by omega
  go_enter Try.func21, Try.ntmps21
  go_wp2_with (first | (go_at_call 20; refine (HN.out _).mono ?_; rintro en w1 ⟨rfl, hb⟩; obtain ⟨c0, c1, c2, f0, f1, f2, hz, hbw⟩ := kept2 hb; clear hb) | (go_at_call 58; refine (rfail _ _ _ _ _).mono ?_; rintro en w2 ⟨rfl, hb2⟩; obtain ⟨⟨c0, c1, c2, f0, f1, f2⟩, hz2, hbw2⟩ := kept3 c0 c1 c2 f0 f1 f2 hz hbw hb2; clear hb2))
  refine bodyPost_ret (v := .tuple #[.agg #[.string ⟨#[]⟩, .int .i64 t1, .int .i64 3], .int .i64 0]) (by simp [results, Try.results21, go_sem, c0, c1, c2]) rfl ⟨rfl, ?_⟩
  exact below_set3 hbw2 _ _ _

theorem rcount_more (s s1 : ByteArray) (t e t1 : Int) (v : Nat) (hv : v < 4294967296) (most : Int) (hm : 0 ≤ most) (hb : most ≤ 9223372036854775807) (hlt : most < v) (w : World)
    (hN : ∀ W : World, Calls Try.prog 20 #[.agg #[.string s, .int .i64 t, .int .i64 e], .int .i64 4] W fun en w' => en = .returned (.tuple #[.agg #[.string s1, .int .i64 t1, .int .i64 0], .int .u64 v]) ∧ Below W.heap.size W w') :
    Calls Try.prog 21 #[.agg #[.string s, .int .i64 t, .int .i64 e], .int .i64 most] w fun en w' => en = .returned (.tuple #[.agg #[.string ⟨#[]⟩, .int .i64 t1, .int .i64 3], .int .i64 0]) ∧ Below w.heap.size w w' := by
  have HN := Lib.hid hN
  clear hN
  have hvi : (v : Int) < 4294967296 := by omega
  have hw : IntKind.u64.wrap most = most := by rw [IntKind.wrap_u64]; omega
  have hb' := Lib.hid hb
  clear hb
  go_enter Try.func21, Try.ntmps21
  go_wp2_with (first | (go_at_call 20; refine (HN.out _).mono ?_; rintro en w1 ⟨rfl, hb⟩; obtain ⟨c0, c1, c2, f0, f1, f2, hz, hbw⟩ := kept2 hb; clear hb) | (go_at_call 58; refine (rfail _ _ _ _ _).mono ?_; rintro en w2 ⟨rfl, hb2⟩; obtain ⟨⟨c0, c1, c2, f0, f1, f2⟩, hz2, hbw2⟩ := kept3 c0 c1 c2 f0 f1 f2 hz hbw hb2; clear hb2))
  refine bodyPost_ret (v := .tuple #[.agg #[.string ⟨#[]⟩, .int .i64 t1, .int .i64 3], .int .i64 0]) (by simp [results, Try.results21, go_sem, c0, c1, c2]) rfl ⟨rfl, ?_⟩
  exact below_set3 hbw2 _ _ _

theorem rcount_fits (s s1 : ByteArray) (t e t1 : Int) (v : Nat) (hv : v < 4294967296) (most : Int) (hm : 0 ≤ most) (hb : most ≤ 9223372036854775807) (hle : (v : Int) ≤ most) (w : World)
    (hN : ∀ W : World, Calls Try.prog 20 #[.agg #[.string s, .int .i64 t, .int .i64 e], .int .i64 4] W fun en w' => en = .returned (.tuple #[.agg #[.string s1, .int .i64 t1, .int .i64 0], .int .u64 v]) ∧ Below W.heap.size W w') :
    Calls Try.prog 21 #[.agg #[.string s, .int .i64 t, .int .i64 e], .int .i64 most] w fun en w' => en = .returned (.tuple #[.agg #[.string s1, .int .i64 t1, .int .i64 0], .int .i64 v]) ∧ Below w.heap.size w w' := by
  have HN := Lib.hid hN
  clear hN
  have hw2 : wrap64 (v : Int) = v := by unfold wrap64; omega
  clear hv
  have hw : IntKind.u64.wrap most = most := by rw [IntKind.wrap_u64]; omega
  have hb' := Lib.hid hb
  clear hb
  go_enter Try.func21, Try.ntmps21
  go_wp2_with (first | (go_at_call 20; refine (HN.out _).mono ?_; rintro en w1 ⟨rfl, hb⟩; obtain ⟨c0, c1, c2, f0, f1, f2, hz, hbw⟩ := kept2 hb; clear hb))
  refine bodyPost_ret (v := .tuple #[.agg #[.string s1, .int .i64 t1, .int .i64 0], .int .i64 v]) (by simp [results, Try.results21, go_sem, c0, c1, c2, hz, Nat.ne_of_lt hz, hw2]) rfl ⟨rfl, ?_⟩
  exact below_res hbw hz _ _ _ _

theorem numV_err (r : R) (n : Int) (h : (r.numR n).e ≠ 0) : r.numV n = 0 := by
  unfold R.numR at h
  unfold R.numV
  split
  · rfl
  · rename_i h8
    rw [if_neg h8] at h
    unfold R.bytesR at h
    unfold R.bytesV
    split
    · rfl
    · rename_i he
      rw [if_neg he] at h
      split
      · rfl
      · rename_i hn
        rw [if_neg hn] at h
        split
        · rfl
        · rename_i hc
          rw [if_neg hc] at h
          exact absurd rfl h

theorem rcount_any (r : R) (most : Int) (hb : most ≤ 9223372036854775807) (ok : r.Ok) (w : World) :
    Calls Try.prog 21 #[agg r, .int .i64 most] w fun en w' => en = .returned (.tuple #[agg (r.countR most), .int .i64 (r.countV most)]) ∧ Below w.heap.size w w' := by
  have hN := fun W => rnum_any r 4 ok W
  have hv := num4_lt r
  by_cases he : (r.numR 4).e = 0
  · have hf : ∀ x : Int, x ≠ 0 → (r.numR 4).fail x = ⟨ByteArray.empty, (r.numR 4).t, x⟩ := fun x hx => by simp [R.fail, he, hx]
    have hq : agg (r.numR 4) = .agg #[.string (r.numR 4).s, .int .i64 (r.numR 4).t, .int .i64 0] := by unfold agg; rw [he]
    by_cases h0 : most < 0
    · rw [show r.countR most = (r.numR 4).fail 3 from if_pos (.inl h0), show r.countV most = 0 from if_pos (.inl h0), hf 3 (by omega)]
      rw [hq] at hN
      exact rcount_neg _ _ _ _ _ _ hv most h0 w hN
    · by_cases h1 : most < r.numV 4
      · rw [show r.countR most = (r.numR 4).fail 3 from if_pos (.inr h1), show r.countV most = 0 from if_pos (.inr h1), hf 3 (by omega)]
        rw [hq] at hN
        exact rcount_more _ _ _ _ _ _ hv most (by omega) hb h1 w hN
      · rw [show r.countR most = r.numR 4 from if_neg (by omega), show r.countV most = r.numV 4 from if_neg (by omega), hq]
        rw [hq] at hN
        exact rcount_fits _ _ _ _ _ _ hv most (by omega) hb (by omega) w hN
  · have h0 := numV_err r 4 he
    have h1 : r.countR most = r.numR 4 := by
      unfold R.countR
      split
      · simp [R.fail, he]
      · rfl
    have h2 : r.countV most = r.numV 4 := by
      unfold R.countV
      split
      · exact h0.symm
      · rfl
    rw [h1, h2]
    exact rcount_had _ _ _ _ _ _ _ hv (by simpa using he) most w hN

theorem rtext_core (s s1 s2 u : ByteArray) (t e t1 e1 t2 e2 : Int) (v : Nat) (most : Int) (w : World)
    (hC : ∀ W : World, Calls Try.prog 21 #[.agg #[.string s, .int .i64 t, .int .i64 e], .int .i64 most] W fun en w' => en = .returned (.tuple #[.agg #[.string s1, .int .i64 t1, .int .i64 e1], .int .i64 v]) ∧ Below W.heap.size W w')
    (hB : ∀ W : World, Calls Try.prog 25 #[.agg #[.string s1, .int .i64 t1, .int .i64 e1], .int .i64 v] W fun en w' => en = .returned (.tuple #[.agg #[.string s2, .int .i64 t2, .int .i64 e2], .string u]) ∧ Below W.heap.size W w') :
    Calls Try.prog 23 #[.agg #[.string s, .int .i64 t, .int .i64 e], .int .i64 most] w fun en w' => en = .returned (.tuple #[.agg #[.string s2, .int .i64 t2, .int .i64 e2], .string u]) ∧ Below w.heap.size w w' := by
  have HC := Lib.hid hC
  have HB := Lib.hid hB
  clear hC hB
  go_enter Try.func23, Try.ntmps23
  go_wp2_with (first | (go_at_call 21; refine (HC.out _).mono ?_; rintro en w1 ⟨rfl, hb⟩; obtain ⟨c0, c1, c2, f0, f1, f2, hz, hbw⟩ := kept2 hb; clear hb) | (go_at_call 25; refine (HB.out _).mono ?_; rintro en w2 ⟨rfl, hb2⟩; obtain ⟨⟨c0, c1, c2, f0, f1, f2⟩, hz2, hbw2⟩ := kept3 c0 c1 c2 f0 f1 f2 hz hbw hb2; clear hb2))
  refine bodyPost_ret (v := .tuple #[.agg #[.string s2, .int .i64 t2, .int .i64 e2], .string u]) (by simp [results, Try.results23, go_sem, c0, c1, c2]) rfl ⟨rfl, ?_⟩
  exact below_set3 hbw2 _ _ _

theorem rtext_any (r : R) (most : Int) (hb : most ≤ 9223372036854775807) (ok : r.Ok) (w : World) :
    Calls Try.prog 23 #[agg r, .int .i64 most] w fun en w' => en = .returned (.tuple #[agg (r.textR most), .string (r.textV most)]) ∧ Below w.heap.size w w' :=
  rtext_core _ _ _ _ _ _ _ _ _ _ _ most w (fun W => rcount_any r most hb ok W) (fun W => rbytes_any (r.countR most) _ (ok.count most) W)

end Go.Proofs.Ytdajchppblifgaa.Rf
