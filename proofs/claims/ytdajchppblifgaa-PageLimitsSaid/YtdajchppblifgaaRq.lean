/- The reference's reader: what each method answers. -/
import Derived.Test.YtdajchppblifgaaAd
namespace Go.Proofs.Ytdajchppblifgaa.Rf
open Go.RowKit Go.Proofs.Ytdajchppblifgaa.Pl Go.Proofs.Ytdajchppblifgaa.Rd Go.Proofs.Ytdajchppblifgaa.Wr
set_option linter.unusedVariables false
set_option linter.unusedSimpArgs false

theorem below2 (w : World) (o p : Obj) : Below w.heap.size w ((w.alloc o).alloc p) := ((Below.refl _ _).alloc (Nat.le_refl _) _).alloc (by simp) _

theorem below4 (w : World) (o p q r : Obj) : Below w.heap.size w ((((w.alloc o).alloc p).alloc q).alloc r) := ((below2 w o p).alloc (by simp; omega) _).alloc (by simp; omega) _

theorem rfail (s : ByteArray) (t e x : Int) (w : World) :
    Calls Try.prog 58 #[.agg #[.string s, .int .i64 t, .int .i64 e], .int .i64 x] w fun en w' => en = .returned (.agg #[.string ⟨#[]⟩, .int .i64 t, .int .i64 x]) ∧ Below w.heap.size w w' := by
  go_enter Try.func58, Try.ntmps58
  go_wp2
  exact bodyPost_ret (v := .agg #[.string ⟨#[]⟩, .int .i64 t, .int .i64 x]) (by simp [results, Try.results58, go_sem]) rfl ⟨rfl, below2 _ _ _⟩

theorem rbytes_had (s : ByteArray) (t e n : Int) (he : (e != 0) = true) (w : World) :
    Calls Try.prog 25 #[.agg #[.string s, .int .i64 t, .int .i64 e], .int .i64 n] w fun en w' => en = .returned (.tuple #[.agg #[.string s, .int .i64 t, .int .i64 e], .string ⟨#[]⟩]) ∧ Below w.heap.size w w' := by
  go_enter Try.func25, Try.ntmps25
  go_wp2
  exact bodyPost_ret (v := .tuple #[.agg #[.string s, .int .i64 t, .int .i64 e], .string ⟨#[]⟩]) (by simp [results, Try.results25, go_sem]) rfl ⟨rfl, below2 _ _ _⟩

theorem rbytes_neg (s : ByteArray) (t n : Int) (hn : n < 0) (w : World) :
    Calls Try.prog 25 #[.agg #[.string s, .int .i64 t, .int .i64 0], .int .i64 n] w fun en w' => en = .returned (.tuple #[.agg #[.string ⟨#[]⟩, .int .i64 t, .int .i64 1], .string ⟨#[]⟩]) ∧ Below w.heap.size w w' := by
  go_enter Try.func25, Try.ntmps25
  go_wp2
  refine bodyPost_ret (v := .agg #[.string ⟨#[]⟩, .int .i64 t, .int .i64 1]) (by simp [results, Try.results58, go_sem]) rfl ?_
  go_wp2
  refine bodyPost_ret (v := .tuple #[.agg #[.string ⟨#[]⟩, .int .i64 t, .int .i64 1], .string ⟨#[]⟩]) (by simp [results, Try.results25, go_sem]) rfl ⟨rfl, ?_⟩
  exact below4 _ _ _ _ _

theorem rbytes_cut (s : ByteArray) (t n : Int) (hn : (s.size : Int) < n) (w : World) :
    Calls Try.prog 25 #[.agg #[.string s, .int .i64 t, .int .i64 0], .int .i64 n] w fun en w' => en = .returned (.tuple #[.agg #[.string ⟨#[]⟩, .int .i64 t, .int .i64 4], .string ⟨#[]⟩]) ∧ Below w.heap.size w w' := by
  go_enter Try.func25, Try.ntmps25
  go_wp2
  refine bodyPost_ret (v := .agg #[.string ⟨#[]⟩, .int .i64 t, .int .i64 4]) (by simp [results, Try.results58, go_sem]) rfl ?_
  go_wp2
  refine bodyPost_ret (v := .tuple #[.agg #[.string ⟨#[]⟩, .int .i64 t, .int .i64 4], .string ⟨#[]⟩]) (by simp [results, Try.results25, go_sem]) rfl ⟨rfl, ?_⟩
  exact below4 _ _ _ _ _

theorem rbytes_take (s : ByteArray) (t : Int) (n : Nat) (hn : n ≤ s.size) (ht : 0 ≤ t) (hts : t + s.size ≤ 281474976710656) (w : World) :
    Calls Try.prog 25 #[.agg #[.string s, .int .i64 t, .int .i64 0], .int .i64 n] w fun en w' => en = .returned (.tuple #[.agg #[.string (s.extract n s.size), .int .i64 (t + n), .int .i64 0], .string (s.extract 0 n)]) ∧ Below w.heap.size w w' := by
  have b1 : t + n ≤ 281474976710656 := by omega
  have b2 : (n : Int) ≤ s.size := by omega
  go_enter Try.func25, Try.ntmps25
  go_wp2
  go_region
  go_wp2
  refine bodyPost_ret (v := .tuple #[.agg #[.string (s.extract n s.size), .int .i64 (t + n), .int .i64 0], .string (s.extract 0 n)]) (by simp [results, Try.results25, go_sem]) rfl ⟨rfl, ?_⟩
  exact (below2 w _ _).drew

/-- A reader, by value. -/
def agg (r : R) : Value := .agg #[.string r.s, .int .i64 r.t, .int .i64 r.e]

theorem rbytes_any (r : R) (n : Int) (ok : r.Ok) (w : World) :
    Calls Try.prog 25 #[agg r, .int .i64 n] w fun en w' => en = .returned (.tuple #[agg (r.bytesR n), .string (r.bytesV n)]) ∧ Below w.heap.size w w' := by
  obtain ⟨s, t, e⟩ := r
  by_cases he : e = 0
  · subst he
    by_cases hn : n < 0
    · have k4 : R.bytesR ⟨s, t, 0⟩ n = ⟨ByteArray.empty, t, 1⟩ := by simp [R.bytesR, hn]
      have k5 : R.bytesV ⟨s, t, 0⟩ n = ByteArray.empty := by simp [R.bytesV, hn]
      rw [k4, k5]
      exact rbytes_neg s t n hn w
    · by_cases hc : (s.size : Int) < n
      · have k4 : R.bytesR ⟨s, t, 0⟩ n = ⟨ByteArray.empty, t, 4⟩ := by simp [R.bytesR, hn, hc]
        have k5 : R.bytesV ⟨s, t, 0⟩ n = ByteArray.empty := by simp [R.bytesV, hn, hc]
        rw [k4, k5]
        exact rbytes_cut s t n hc w
      · obtain ⟨m, rfl⟩ : ∃ m : Nat, n = m := ⟨n.toNat, by omega⟩
        have k4 : R.bytesR ⟨s, t, 0⟩ m = ⟨s.extract m s.size, t + m, 0⟩ := by simp [R.bytesR, hn, hc]
        have k5 : R.bytesV ⟨s, t, 0⟩ m = s.extract 0 m := by simp [R.bytesV, hn, hc]
        rw [k4, k5]
        exact rbytes_take s t m (by omega) ok.t0 ok.ts w
  · have k4 : R.bytesR ⟨s, t, e⟩ n = ⟨s, t, e⟩ := by simp [R.bytesR, he]
    have k5 : R.bytesV ⟨s, t, e⟩ n = ByteArray.empty := by simp [R.bytesV, he]
    rw [k4, k5]
    exact rbytes_had s t e n (by simpa using he) w

end Go.Proofs.Ytdajchppblifgaa.Rf
