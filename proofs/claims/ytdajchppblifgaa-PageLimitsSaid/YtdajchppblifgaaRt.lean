/- The reference's reader, part 2: Number, Count, Text, Bool, End. -/
import Derived.Test.YtdajchppblifgaaRq
namespace Go.Proofs.Ytdajchppblifgaa.Rf
open Go.RowKit Go.Proofs.Ytdajchppblifgaa.Pl Go.Proofs.Ytdajchppblifgaa.Rd Go.Proofs.Ytdajchppblifgaa.Wr
set_option linter.unusedVariables false
set_option linter.unusedSimpArgs false

theorem bcell {W w1 : World} (hb : Below W.heap.size W w1) : (∀ b o, b < W.heap.size → w1.cell? ⟨b, o, none⟩ = W.cell? ⟨b, o, none⟩) ∧ (∀ b o, b < W.heap.size → w1.frozen? ⟨b, o, none⟩ = W.frozen? ⟨b, o, none⟩) :=
  ⟨fun b o h => hb.cell (p := ⟨b, o, none⟩) h, fun b o h => hb.frozen (p := ⟨b, o, none⟩) h⟩

/-- A result's cells, as they lie behind a call: they are as they were made. -/
theorem kept2 {w w1 : World} {o : Obj} (hb : Below ((w.alloc o).alloc (.cells #[.string ⟨#[]⟩, .int .i64 0, .int .i64 0] 39)).heap.size ((w.alloc o).alloc (.cells #[.string ⟨#[]⟩, .int .i64 0, .int .i64 0] 39)) w1) :
    w1.cell? ⟨w.heap.size + 1, 0, none⟩ = some (.string ⟨#[]⟩) ∧ w1.cell? ⟨w.heap.size + 1, 1, none⟩ = some (.int .i64 0) ∧ w1.cell? ⟨w.heap.size + 1, 2, none⟩ = some (.int .i64 0) ∧
    w1.frozen? ⟨w.heap.size + 1, 0, none⟩ = false ∧ w1.frozen? ⟨w.heap.size + 1, 1, none⟩ = false ∧ w1.frozen? ⟨w.heap.size + 1, 2, none⟩ = false ∧ w.heap.size + 1 < w1.heap.size ∧ Below w.heap.size w w1 := by
  have hz := hb.size
  have hn : w.heap.size + 1 < ((w.alloc o).alloc (.cells #[.string ⟨#[]⟩, .int .i64 0, .int .i64 0] 39)).heap.size := by simp
  have hg : w1.heap[w.heap.size + 1]? = some (.cells #[.string ⟨#[]⟩, .int .i64 0, .int .i64 0] 39 (0, 0)) := by
    rw [hb.block _ hn]
    have := heap_alloc_new (w.alloc o) (.cells #[.string ⟨#[]⟩, .int .i64 0, .int .i64 0] 39)
    simpa using this
  have hc := fun i => cell_of_row w1 (w.heap.size + 1) i _ 39 (0, 0) hg
  have hf : ∀ i, w1.frozen? ⟨w.heap.size + 1, i, none⟩ = false := fun i => by simp [World.frozen?, hg]
  exact ⟨hc 0, hc 1, hc 2, hf 0, hf 1, hf 2, by have : w.heap.size + 2 ≤ w1.heap.size := (by simpa using hz); omega, (below2 w _ _).trans (hb.mono (by simp; omega))⟩

theorem le_drop (L : List UInt8) (j : Nat) (h : j < L.length) : le (L.drop j) = L[j].toNat + 256 * le (L.drop (j + 1)) := by
  rw [List.drop_eq_getElem_cons h, le]
theorem le_drop_lt (L : List UInt8) (j : Nat) (h8 : L.length ≤ 8) : le (L.drop (j + 1)) ≤ 72057594037927935 := by
  have h1 := le_lt (L.drop (j + 1))
  have h2 : (L.drop (j + 1)).length ≤ 7 := by rw [List.length_drop]; omega
  have h3 : 256 ^ (L.drop (j + 1)).length ≤ 256 ^ 7 := Nat.pow_le_pow_right (by omega) h2
  omega

theorem rnum_zero (s v s1 : ByteArray) (t t1 e1 : Int) (n : Int) (hn : n ≤ 8) (hv : v.size ≤ 8) (w : World)
    (hB : ∀ W : World, Calls Try.prog 25 #[.agg #[.string s, .int .i64 t, .int .i64 0], .int .i64 n] W fun en w' => en = .returned (.tuple #[.agg #[.string s1, .int .i64 t1, .int .i64 e1], .string v]) ∧ Below W.heap.size W w') :
    Calls Try.prog 20 #[.agg #[.string s, .int .i64 t, .int .i64 0], .int .i64 n] w fun en w' => en = .returned (.tuple #[.agg #[.string s1, .int .i64 t1, .int .i64 e1], .int .u64 (le v.data.toList)]) ∧ Below w.heap.size w w' := by
  have HB := Lib.hid hB
  clear hB
  go_enter Try.func20, Try.ntmps20
  go_wp2_with (first | (go_at_call 25; refine (HB.out _).mono ?_; rintro en w1 ⟨rfl, hb⟩; obtain ⟨c0, c1, c2, f0, f1, f2, hz, hbw⟩ := kept2 hb; clear hb))
  go_loop [8, 9] (fun n i => ∃ j : Int, -1 ≤ j ∧ j < v.size ∧ i = .int .i64 j ∧ n = .int .u64 (le (v.data.toList.drop (j + 1).toNat))) (fun _ i => (intOf i + 1).toNat)
  case atStart => exact ⟨(v.size : Int) - 1, by omega, by omega, rfl, by rw [show ((v.size : Int) - 1 + 1).toNat = v.size by omega]; rw [List.drop_of_length_le (by simp)]; rfl⟩
  case round =>
    obtain ⟨j, hj1, hj2, rfl, rfl⟩ := hrel
    by_cases h0 : 0 ≤ j
    · obtain ⟨k, rfl⟩ : ∃ k : Nat, j = k := ⟨j.toNat, by omega⟩
      have hk : k < v.size := by omega
      have hkl : k < v.data.toList.length := by simpa using hk
      have hd := le_drop v.data.toList k hkl
      have hl := le_drop_lt v.data.toList k (by simpa using hv)
      have d1 : ((v[k]).toNat : Int) ≤ 255 := by have := (v[k]).toNat_lt; omega
      rw [show ((k : Int) + 1).toNat = k + 1 by omega]
      generalize le (v.data.toList.drop (k + 1)) = x at *
      have HD := Lib.hid hd
      clear hd
      have hx : (x : Int) ≤ 72057594037927935 := by omega
      clear c0 c1 c2 f0 f1 f2
      go_wp2
      go_round
      case rel =>
        refine ⟨(k : Int) - 1, by omega, by omega, rfl, ?_⟩
        rw [show ((k : Int) - 1 + 1).toNat = k by omega, HD.out]
        have e1 : v[k] = v.data.toList[k] := rfl
        rw [← e1]
        simp
        omega
      case measure => simp [intOf]
    · obtain rfl : j = -1 := by omega
      have e : v.data.toList.drop ((-1 : Int) + 1).toNat = v.data.toList := by simp
      rw [e]
      go_wp2
      refine bodyPost_ret (v := .tuple #[.agg #[.string s1, .int .i64 t1, .int .i64 e1], .int .u64 (le v.data.toList)]) (by simp [results, Try.results20, go_sem, c0, c1, c2, hz, Nat.ne_of_lt hz]) rfl ⟨rfl, ?_⟩
      exact (((hbw.setCell (p := ⟨w.heap.size + 1, 0, none⟩) (by simp) _).setCell (p := ⟨w.heap.size + 1, 1, none⟩) (by simp) _).setCell (p := ⟨w.heap.size + 1, 2, none⟩) (by simp) _).alloc (by simp; omega) _

theorem rnum_had (s v s1 : ByteArray) (t t1 e1 e : Int) (he : (e == 0) = false) (n : Int) (hv : v.size ≤ 8) (w : World)
    (hB : ∀ W : World, Calls Try.prog 25 #[.agg #[.string s, .int .i64 t, .int .i64 e], .int .i64 n] W fun en w' => en = .returned (.tuple #[.agg #[.string s1, .int .i64 t1, .int .i64 e1], .string v]) ∧ Below W.heap.size W w') :
    Calls Try.prog 20 #[.agg #[.string s, .int .i64 t, .int .i64 e], .int .i64 n] w fun en w' => en = .returned (.tuple #[.agg #[.string s1, .int .i64 t1, .int .i64 e1], .int .u64 (le v.data.toList)]) ∧ Below w.heap.size w w' := by
  have HB := Lib.hid hB
  clear hB
  go_enter Try.func20, Try.ntmps20
  go_wp2_with (first | (go_at_call 25; refine (HB.out _).mono ?_; rintro en w1 ⟨rfl, hb⟩; obtain ⟨c0, c1, c2, f0, f1, f2, hz, hbw⟩ := kept2 hb; clear hb))
  go_loop [8, 9] (fun n i => ∃ j : Int, -1 ≤ j ∧ j < v.size ∧ i = .int .i64 j ∧ n = .int .u64 (le (v.data.toList.drop (j + 1).toNat))) (fun _ i => (intOf i + 1).toNat)
  case atStart => exact ⟨(v.size : Int) - 1, by omega, by omega, rfl, by rw [show ((v.size : Int) - 1 + 1).toNat = v.size by omega]; rw [List.drop_of_length_le (by simp)]; rfl⟩
  case round =>
    obtain ⟨j, hj1, hj2, rfl, rfl⟩ := hrel
    by_cases h0 : 0 ≤ j
    · obtain ⟨k, rfl⟩ : ∃ k : Nat, j = k := ⟨j.toNat, by omega⟩
      have hk : k < v.size := by omega
      have hkl : k < v.data.toList.length := by simpa using hk
      have hd := le_drop v.data.toList k hkl
      have hl := le_drop_lt v.data.toList k (by simpa using hv)
      have d1 : ((v[k]).toNat : Int) ≤ 255 := by have := (v[k]).toNat_lt; omega
      rw [show ((k : Int) + 1).toNat = k + 1 by omega]
      generalize le (v.data.toList.drop (k + 1)) = x at *
      have HD := Lib.hid hd
      clear hd
      have hx : (x : Int) ≤ 72057594037927935 := by omega
      clear c0 c1 c2 f0 f1 f2
      go_wp2
      go_round
      case rel =>
        refine ⟨(k : Int) - 1, by omega, by omega, rfl, ?_⟩
        rw [show ((k : Int) - 1 + 1).toNat = k by omega, HD.out]
        have e1 : v[k] = v.data.toList[k] := rfl
        rw [← e1]
        simp
        omega
      case measure => simp [intOf]
    · obtain rfl : j = -1 := by omega
      have e : v.data.toList.drop ((-1 : Int) + 1).toNat = v.data.toList := by simp
      rw [e]
      go_wp2
      refine bodyPost_ret (v := .tuple #[.agg #[.string s1, .int .i64 t1, .int .i64 e1], .int .u64 (le v.data.toList)]) (by simp [results, Try.results20, go_sem, c0, c1, c2, hz, Nat.ne_of_lt hz]) rfl ⟨rfl, ?_⟩
      exact (((hbw.setCell (p := ⟨w.heap.size + 1, 0, none⟩) (by simp) _).setCell (p := ⟨w.heap.size + 1, 1, none⟩) (by simp) _).setCell (p := ⟨w.heap.size + 1, 2, none⟩) (by simp) _).alloc (by simp; omega) _

theorem rnum_wide (s : ByteArray) (t n : Int) (hn : 8 < n) (w : World) :
    Calls Try.prog 20 #[.agg #[.string s, .int .i64 t, .int .i64 0], .int .i64 n] w fun en w' => en = .returned (.tuple #[.agg #[.string ⟨#[]⟩, .int .i64 t, .int .i64 1], .int .u64 0]) ∧ Below w.heap.size w w' := by
  go_enter Try.func20, Try.ntmps20
  go_wp2
  refine bodyPost_ret (v := .agg #[.string ⟨#[]⟩, .int .i64 t, .int .i64 1]) (by simp [results, Try.results58, go_sem]) rfl ?_
  go_wp2
  refine bodyPost_ret (v := .tuple #[.agg #[.string ⟨#[]⟩, .int .i64 t, .int .i64 1], .int .u64 0]) (by simp [results, Try.results20, go_sem]) rfl ⟨rfl, ?_⟩
  exact below4 _ _ _ _ _

theorem rnum_any (r : R) (n : Int) (ok : r.Ok) (w : World) :
    Calls Try.prog 20 #[agg r, .int .i64 n] w fun en w' => en = .returned (.tuple #[agg (r.numR n), .int .u64 (r.numV n)]) ∧ Below w.heap.size w w' := by
  obtain ⟨s, t, e⟩ := r
  by_cases he : e = 0
  · subst he
    by_cases hn : 8 < n
    · rw [show R.numR ⟨s, t, 0⟩ n = ⟨ByteArray.empty, t, 1⟩ by simp [R.numR, hn, R.fail], show R.numV ⟨s, t, 0⟩ n = 0 from if_pos hn]
      exact rnum_wide s t n hn w
    · rw [show R.numR ⟨s, t, 0⟩ n = R.bytesR ⟨s, t, 0⟩ n from if_neg hn, show R.numV ⟨s, t, 0⟩ n = le (R.bytesV ⟨s, t, 0⟩ n).data.toList from if_neg hn]
      have h1 := bytesV_size ⟨s, t, 0⟩ n
      exact rnum_zero s (R.bytesV ⟨s, t, 0⟩ n) _ t _ _ n (by omega) (by omega) w (fun W => rbytes_any ⟨s, t, 0⟩ n ok W)
  · have hv : R.bytesV ⟨s, t, e⟩ n = ByteArray.empty := by simp [R.bytesV, he]
    have hr : R.bytesR ⟨s, t, e⟩ n = ⟨s, t, e⟩ := by simp [R.bytesR, he]
    have h2 : R.numR ⟨s, t, e⟩ n = ⟨s, t, e⟩ := by
      unfold R.numR
      split
      · simp [R.fail, he]
      · exact hr
    have h3 : R.numV ⟨s, t, e⟩ n = 0 := by
      unfold R.numV
      split
      · rfl
      · rw [hv]; rfl
    rw [h2, h3]
    have h := fun W => rbytes_any ⟨s, t, e⟩ n ok W
    rw [hr, hv] at h
    exact rnum_had s ByteArray.empty s t t e e (by simpa using he) n (by simp) w h

end Go.Proofs.Ytdajchppblifgaa.Rf
