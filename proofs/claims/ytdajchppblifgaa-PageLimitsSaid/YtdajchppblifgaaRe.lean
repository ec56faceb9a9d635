/- The reader's other methods, and the writer's: what each answers, and what it leaves. -/
import Derived.Test.YtdajchppblifgaaRd
namespace Go.Proofs.Ytdajchppblifgaa.Rd
open Go.RowKit Go.Proofs.Ytdajchppblifgaa.Pl

theorem R.Ok.fail {r : R} (ok : r.Ok) (x : Int) (h0 : 0 ≤ x) (h1 : x ≤ 255) : (r.fail x).Ok := by
  unfold R.fail
  split
  · exact ⟨ok.t0, by have := ok.ts; have := ok.t0; simp; omega, h0, h1⟩
  · exact ok
theorem R.Ok.bytes {r : R} (ok : r.Ok) (n : Int) : (r.bytesR n).Ok := by
  have h1 := ok.ts
  have h2 := ok.t0
  unfold R.bytesR
  split
  · exact ok
  · split
    · exact ⟨h2, by simp; omega, by simp, by simp⟩
    · split
      · exact ⟨h2, by simp; omega, by simp, by simp⟩
      · exact ⟨by simp; omega, by simp [ByteArray.size_extract]; omega, by simp, by simp⟩
theorem R.Ok.num {r : R} (ok : r.Ok) (n : Int) : (r.numR n).Ok := by
  unfold R.numR
  split
  · exact ok.fail 1 (by omega) (by omega)
  · exact ok.bytes n
theorem R.Ok.count {r : R} (ok : r.Ok) (n : Int) : (r.countR n).Ok := by
  unfold R.countR
  split
  · exact (ok.num 4).fail 3 (by omega) (by omega)
  · exact ok.num 4

/-- What Text, Bool and End leave, and what they answer. -/
def R.textR (r : R) (most : Int) : R := (r.countR most).bytesR (r.countV most)
def R.textV (r : R) (most : Int) : ByteArray := (r.countR most).bytesV (r.countV most)
def R.boolR (r : R) : R := if 1 < r.numV 1 then (r.numR 1).fail 6 else r.numR 1
def R.boolV (r : R) : Bool := r.numV 1 == 1
def R.endR (r : R) : R := if 0 < r.s.size then r.fail 5 else r

theorem R.Ok.text {r : R} (ok : r.Ok) (n : Int) : (r.textR n).Ok := (ok.count n).bytes _
theorem R.Ok.bool {r : R} (ok : r.Ok) : r.boolR.Ok := by
  unfold R.boolR
  split
  · exact (ok.num 1).fail 6 (by omega) (by omega)
  · exact ok.num 1

theorem text_any (g : Nat) (r : R) (most : Int) (hb : most ≤ 9223372036854775807) (w : World) (h : Rd w g r) (ok : r.Ok) :
    Calls Try.prog 24 #[.pointer (some ⟨g, 0, none⟩), .int .i64 most] w (Post w g (r.textR most) (.string (r.textV most))) := by
  have hc := count_any g r most hb w h ok
  have hok := ok.count most
  obtain ⟨v, HV⟩ : ∃ v, Hid (v = r.countV most) := ⟨_, Lib.hid rfl⟩
  unfold R.textR R.textV
  rw [← HV.out] at hc ⊢
  obtain ⟨r1, HR⟩ : ∃ r1, Hid (r1 = r.countR most) := ⟨_, Lib.hid rfl⟩
  rw [← HR.out] at hc hok ⊢
  have hC := Lib.hid hc
  clear hc hb h ok
  go_enter Try.func24, Try.ntmps24
  go_wp2_with (first | (go_at_call 22; refine hC.out.mono ?_; rintro e w1 ⟨rfl, hr, hg⟩) | (go_at_call 30; refine (bytes_any g r1 v _ hr hok).mono ?_; rintro e w2 ⟨rfl, hr2, hg2⟩))
  go_ret
  exact ⟨rfl, hr2, only_trans hg hg2⟩

theorem text_nil (n : Int) (w : World) (hb : n ≤ 9223372036854775807) :
    Calls Try.prog 24 #[.pointer none, .int .i64 n] w fun e w' => e = .returned (.string ByteArray.empty) ∧ Below w.heap.size w w' := by
  go_enter Try.func24, Try.ntmps24
  go_wp2_with (first | (go_at_call 22; refine (count_nil _ _ hb).mono ?_; rintro e w1 ⟨rfl, hb⟩) | (go_at_call 30; refine (bytes_nil _ _).mono ?_; rintro e w2 ⟨rfl, rfl⟩))
  go_ret
  exact ⟨rfl, hb⟩

theorem hash_any (g : Nat) (r : R) (w : World) (h : Rd w g r) (ok : r.Ok) :
    Calls Try.prog 26 #[.pointer (some ⟨g, 0, none⟩)] w (Post w g (r.bytesR 32) (.string (r.bytesV 32))) := by
  have hc := Lib.hid (bytes_any g r 32 w h ok)
  clear h ok
  go_enter Try.func26, Try.ntmps26
  go_wp2_with (first | (go_at_call 30; refine hc.out.mono ?_; rintro e w1 ⟨rfl, hr, hg⟩))
  go_ret
  exact ⟨rfl, hr, hg⟩

theorem hash_nil (w : World) :
    Calls Try.prog 26 #[.pointer none] w fun e w' => e = .returned (.string ByteArray.empty) ∧ w = w' := by
  go_enter Try.func26, Try.ntmps26
  go_wp2_with (first | (go_at_call 30; refine (bytes_nil _ _).mono ?_; rintro e w1 ⟨rfl, rfl⟩))
  go_ret
  exact ⟨rfl, rfl⟩

theorem ret_bool {a b : Bool} (h : a = b) : Ending.returned (.bool a) = .returned (.bool b) := by rw [h]

theorem bool_more (g : Nat) (r1 : R) (v : Nat) (w : World) (hv : 1 < v)
    (hc : Calls Try.prog 13 #[.pointer (some ⟨g, 0, none⟩), .int .i64 1] w (Post w g r1 (.int .u64 v))) :
    Calls Try.prog 28 #[.pointer (some ⟨g, 0, none⟩)] w (Post w g (r1.fail 6) (.bool (v == 1))) := by
  have hC := Lib.hid hc
  clear hc
  have hi : (1 : Int) < v := by omega
  go_enter Try.func28, Try.ntmps28
  go_wp2_with (first | (go_at_call 13; refine hC.out.mono ?_; rintro e w1 ⟨rfl, hr, hg⟩) | (go_at_call 29; refine (fail_any g r1 6 _ hr).mono ?_; rintro e w2 ⟨rfl, hr2, hg2⟩))
  go_ret
  exact ⟨ret_bool (by rw [Bool.eq_iff_iff]; simp; omega), hr2, only_trans hg hg2⟩

theorem bool_fits (g : Nat) (r1 : R) (v : Nat) (w : World) (hv : v ≤ 1)
    (hc : Calls Try.prog 13 #[.pointer (some ⟨g, 0, none⟩), .int .i64 1] w (Post w g r1 (.int .u64 v))) :
    Calls Try.prog 28 #[.pointer (some ⟨g, 0, none⟩)] w (Post w g r1 (.bool (v == 1))) := by
  have hC := Lib.hid hc
  clear hc
  have hi : (v : Int) ≤ 1 := by omega
  go_enter Try.func28, Try.ntmps28
  go_wp2_with (first | (go_at_call 13; refine hC.out.mono ?_; rintro e w1 ⟨rfl, hr, hg⟩) | (go_at_call 29; refine (fail_any g r1 6 _ hr).mono ?_; rintro e w2 ⟨rfl, hr2, hg2⟩))
  go_ret
  exact ⟨ret_bool (by rw [Bool.eq_iff_iff]; simp; omega), hr, hg⟩

theorem bool_any (g : Nat) (r : R) (w : World) (h : Rd w g r) (ok : r.Ok) :
    Calls Try.prog 28 #[.pointer (some ⟨g, 0, none⟩)] w (Post w g r.boolR (.bool r.boolV)) := by
  have hc := num_any g r 1 w h ok
  by_cases hv : 1 < r.numV 1
  · rw [show r.boolR = (r.numR 1).fail 6 from if_pos hv]
    exact bool_more g _ _ w hv hc
  · rw [show r.boolR = r.numR 1 from if_neg hv]
    exact bool_fits g _ _ w (by omega) hc

theorem bool_nil (w : World) :
    Calls Try.prog 28 #[.pointer none] w fun e w' => e = .returned (.bool false) ∧ Below w.heap.size w w' := by
  go_enter Try.func28, Try.ntmps28
  go_wp2_with (first | (go_at_call 13; refine (num_nil _ _).mono ?_; rintro e w1 ⟨rfl, hb⟩) | (go_at_call 29; refine (fail_nil _ _).mono ?_; rintro e w2 ⟨rfl, rfl⟩))
  go_ret
  exact ⟨rfl, hb⟩

theorem err_any (g : Nat) (e0 : Int) (w : World) (h2 : w.cell? ⟨g, 2, none⟩ = some (.int .i64 e0)) :
    Calls Try.prog 31 #[.pointer (some ⟨g, 0, none⟩)] w fun e w' => e = .returned (.int .i64 e0) ∧ w = w' := by
  go_enter Try.func31, Try.ntmps31
  go_wp2
  go_ret
  exact ⟨rfl, rfl⟩
theorem err_nil (w : World) : Calls Try.prog 31 #[.pointer none] w fun e w' => e = .returned (.int .i64 1) ∧ w = w' := by
  go_enter Try.func31, Try.ntmps31
  go_wp2
  go_ret
  exact ⟨rfl, rfl⟩
theorem at_any (g : Nat) (t : Int) (w : World) (h1 : w.cell? ⟨g, 1, none⟩ = some (.int .i64 t)) :
    Calls Try.prog 32 #[.pointer (some ⟨g, 0, none⟩)] w fun e w' => e = .returned (.int .i64 t) ∧ w = w' := by
  go_enter Try.func32, Try.ntmps32
  go_wp2
  go_ret
  exact ⟨rfl, rfl⟩
theorem at_nil (w : World) : Calls Try.prog 32 #[.pointer none] w fun e w' => e = .returned (.int .i64 0) ∧ w = w' := by
  go_enter Try.func32, Try.ntmps32
  go_wp2
  go_ret
  exact ⟨rfl, rfl⟩
theorem left_any (g : Nat) (s : ByteArray) (w : World) (h0 : w.cell? ⟨g, 0, none⟩ = some (.string s)) :
    Calls Try.prog 33 #[.pointer (some ⟨g, 0, none⟩)] w fun e w' => e = .returned (.int .i64 s.size) ∧ w = w' := by
  go_enter Try.func33, Try.ntmps33
  go_wp2
  go_ret
  exact ⟨rfl, rfl⟩
theorem left_nil (w : World) : Calls Try.prog 33 #[.pointer none] w fun e w' => e = .returned (.int .i64 0) ∧ w = w' := by
  go_enter Try.func33, Try.ntmps33
  go_wp2
  go_ret
  exact ⟨rfl, rfl⟩

theorem end_more (g : Nat) (r : R) (w : World) (h : Rd w g r) (hs : 0 < r.s.size) :
    Calls Try.prog 16 #[.pointer (some ⟨g, 0, none⟩)] w (Post w g (r.fail 5) (.int .i64 (r.fail 5).e)) := by
  have hf := Lib.hid (fail_any g r 5 w h)
  have hl := Lib.hid (left_any g r.s w h.c0)
  obtain ⟨r1, HR⟩ : ∃ r1, Hid (r1 = r.fail 5) := ⟨_, Lib.hid rfl⟩
  rw [← HR.out] at hf ⊢
  have hi : (0 : Int) < r.s.size := by omega
  clear h
  go_enter Try.func16, Try.ntmps16
  go_wp2_with (first | (go_at_call 33; refine hl.out.mono ?_; rintro e w1 ⟨rfl, rfl⟩) | (go_at_call 29; refine hf.out.mono ?_; rintro e w2 ⟨rfl, hr, hg⟩) | (go_at_call 31; refine (err_any g r1.e _ hr.c2).mono ?_; rintro e w3 ⟨rfl, rfl⟩))
  go_ret
  exact ⟨rfl, hr, hg⟩

theorem end_none (g : Nat) (r : R) (w : World) (h : Rd w g r) (hs : r.s.size = 0) :
    Calls Try.prog 16 #[.pointer (some ⟨g, 0, none⟩)] w (Post w g r (.int .i64 r.e)) := by
  have hl := Lib.hid (left_any g r.s w h.c0)
  have he := Lib.hid (err_any g r.e w h.c2)
  have ho := Lib.hid h
  clear h
  go_enter Try.func16, Try.ntmps16
  go_wp2_with (first | (go_at_call 33; refine hl.out.mono ?_; rintro e w1 ⟨rfl, rfl⟩) | (go_at_call 31; refine he.out.mono ?_; rintro e w3 ⟨rfl, rfl⟩))
  go_ret
  exact ⟨rfl, ho.out, only_refl _ _⟩

theorem end_any (g : Nat) (r : R) (w : World) (h : Rd w g r) :
    Calls Try.prog 16 #[.pointer (some ⟨g, 0, none⟩)] w (Post w g r.endR (.int .i64 r.endR.e)) := by
  by_cases hs : 0 < r.s.size
  · rw [show r.endR = r.fail 5 from if_pos hs]
    exact end_more g r w h hs
  · rw [show r.endR = r from if_neg hs]
    exact end_none g r w h (by omega)

theorem end_nil (w : World) : Calls Try.prog 16 #[.pointer none] w fun e w' => e = .returned (.int .i64 1) ∧ w = w' := by
  go_enter Try.func16, Try.ntmps16
  go_wp2_with (first | (go_at_call 33; refine (left_nil _).mono ?_; rintro e w1 ⟨rfl, rfl⟩) | (go_at_call 31; refine (err_nil _).mono ?_; rintro e w3 ⟨rfl, rfl⟩))
  go_ret
  exact ⟨rfl, rfl⟩

theorem newReader_any (s : ByteArray) (w : World) :
    Calls Try.prog 12 #[.string s] w fun e w' => e = .returned (.pointer (some ⟨w.heap.size, 0, none⟩)) ∧ w' = w.alloc (.cells #[.string s, .int .i64 0, .int .i64 0] 91) := by
  go_enter Try.func12, Try.ntmps12
  go_wp2
  go_ret
  exact ⟨rfl, rfl⟩

theorem rd_new (s : ByteArray) (w : World) : Rd (w.alloc (.cells #[.string s, .int .i64 0, .int .i64 0] 91)) w.heap.size ⟨s, 0, 0⟩ := heap_alloc_new w _

theorem newReader (s : ByteArray) (w : World) :
    Calls Try.prog 12 #[.string s] w fun e w' => e = .returned (.pointer (some ⟨w.heap.size, 0, none⟩)) ∧ Rd w' w.heap.size ⟨s, 0, 0⟩ ∧ Below w.heap.size w w' := by
  refine (newReader_any s w).mono ?_
  rintro e w' ⟨rfl, rfl⟩
  exact ⟨rfl, rd_new s w, (Below.refl _ _).alloc (Nat.le_refl _) _⟩

end Go.Proofs.Ytdajchppblifgaa.Rd
