/- The writer's methods, and Number: what each answers, and what it leaves. -/
import Derived.Test.YtdajchppblifgaaRe
import Derived.Laws.IdiomStrings
import Derived.Laws.MakeOwn
namespace Go.Proofs.Ytdajchppblifgaa.Wr
open Go.RowKit Go.Proofs.Ytdajchppblifgaa.Pl Go.Proofs.Ytdajchppblifgaa.Rd
set_option linter.unusedVariables false
set_option linter.unusedSimpArgs false

theorem info5 : (Try.prog.info? 5).map (fun i => (i.zero, i.size, i.bytes)) = some (some (.int .u8 0), 1, 1) := by kernel_rfl

/-- What is left of a number behind its k lowest bytes. -/
def rest (n k : Nat) : Nat := n / 256 ^ k
theorem rest_zero (n : Nat) : rest n 0 = n := by simp [rest]
theorem rest_succ (n k : Nat) : rest n (k + 1) = rest n k / 256 := by unfold rest; rw [Nat.pow_succ, Nat.div_div_eq_div_mul]
theorem digits_snoc (n k : Nat) : digits n (k + 1) = digits n k ++ [UInt8.ofNat (rest n k % 256)] := by
  induction k generalizing n with
  | zero => simp [digits, rest]
  | succ k ih =>
    have e : rest n (k + 1) = rest (n / 256) k := by unfold rest; rw [Nat.pow_succ, Nat.mul_comm, Nat.div_div_eq_div_mul]
    rw [digits, ih (n / 256), e]
    rfl

/-- Number's row behind k rounds. -/
def nrow (n m k : Nat) : Array Value := ((digits n k).map (fun (c : UInt8) => Value.int .u8 (c.toNat : Int)) ++ List.replicate (m - k) (Value.int .u8 0)).toArray
def NumBlk (w0 wr : World) (n m k : Nat) : Prop := Below w0.heap.size w0 wr ∧ wr.heap[w0.heap.size]? = some (.cells (nrow n m k) 5 (0, 0))

theorem NumBlk.start (w : World) (n m : Nat) : NumBlk w (w.alloc (.cells (madeCells #[Value.int .u8 0] m) 5)) n m 0 := by
  refine ⟨(Below.refl _ _).alloc (Nat.le_refl _) _, ?_⟩
  rw [heap_alloc_new]
  congr 2
  apply Array.ext'
  simp [nrow, digits, madeCells, Array.toList_map, Nat.mod_one]
  apply List.ext_getElem <;> simp
theorem NumBlk.cell {w wr : World} {n m k : Nat} (h : NumBlk w wr n m k) (hk : k < m) : wr.cell? ⟨w.heap.size, k, none⟩ = some (.int .u8 0) := by
  rw [cell_of_row wr _ k _ 5 (0, 0) h.2]
  obtain ⟨j, rfl⟩ : ∃ j, m = k + 1 + j := ⟨m - (k + 1), by omega⟩
  simp [nrow, digits_length, List.getElem?_append, show k + 1 + j - k = j + 1 by omega, List.replicate_succ]
theorem NumBlk.free {w wr : World} {n m k : Nat} (h : NumBlk w wr n m k) (i : Nat) : wr.frozen? ⟨w.heap.size, i, none⟩ = false := by
  simp [World.frozen?, h.2]
theorem NumBlk.put {w wr : World} {n m k : Nat} (h : NumBlk w wr n m k) (hk : k < m) (x : Int) (hx : x = ((rest n k % 256 : Nat) : Int)) :
    NumBlk w (wr.setCell ⟨w.heap.size, k, none⟩ (.int .u8 x)) n m (k + 1) := by
  refine ⟨h.1.setCell (Nat.le_refl _) _, ?_⟩
  have h2 := h.2
  simp only [World.setCell, Array.getElem?_modify, h2, if_pos]
  subst hx
  simp only [Option.map_some, Obj.cells.injEq]
  congr 2
  apply Array.ext'
  have hlt : rest n k % 256 < 256 := Nat.mod_lt _ (by omega)
  obtain ⟨j, rfl⟩ : ∃ j, m = k + 1 + j := ⟨m - (k + 1), by omega⟩
  simp [nrow, digits_snoc, List.set_append, digits_length, show k + 1 + j - k = j + 1 by omega, show k + 1 + j - (k + 1) = j by omega, List.replicate_succ]
theorem NumBlk.byte {w wr : World} {n m : Nat} (h : NumBlk w wr n m m) : ∀ j (hj : j < (digits n m).length), wr.cell? ((⟨w.heap.size, 0, none⟩ : Addr).add j) = some (.int .u8 ((digits n m)[j].toNat : Int)) := by
  intro j hj
  have ha : (⟨w.heap.size, 0, none⟩ : Addr).add j = ⟨w.heap.size, j, none⟩ := by unfold Addr.add; split <;> simp_all
  rw [ha, cell_of_row wr _ j _ 5 (0, 0) h.2]
  simp [nrow, List.getElem?_append, hj]
theorem NumBlk.conv {w wr : World} {n m : Nat} (h : NumBlk w wr n m m) : (convert 35 9 (.slice (some ⟨w.heap.size, 0, none⟩) m m)).run Try.prog wr = .ok (.string ⟨(digits n m).toArray⟩) wr := by
  have := run_convert_bytes_back (P := Try.prog) wr 35 9 5 ⟨w.heap.size, 0, none⟩ m (digits n m) Try.underlying35 Try.underlying5 Try.underlying9 h.byte
  rwa [digits_length] at this

theorem make_lit (m : Nat) (hm : m ≤ 8) (W : World) : (Instr.makeSlice 35 (.int .i64 (m : Int)) (.int .i64 (m : Int))).run Try.prog W = .ok (.slice (some ⟨W.heap.size, 0, none⟩) m m) (W.alloc (.cells (madeCells #[Value.int .u8 0] m) 5)) := by
  obtain ⟨i0, hi, hz0, hz1, hz2⟩ := info_parts info5
  have h := run_make (P := Try.prog) W 35 5 i0 (.int .u8 0) Try.underlying35 hi hz0 .i64 .i64 m m (by omega) (by omega) (by rw [hz2]; omega) (by omega)
  rw [hz1] at h
  simp only [Int.toNat_natCast, Nat.mul_one] at h
  exact h

theorem number_core (n m : Nat) (hm : m ≤ 8) (hn : n < 18446744073709551616) (w : World) :
    Calls Try.prog 11 #[.int .u64 n, .int .i64 m] w fun e w' => e = .returned (.string ⟨(digits n m).toArray⟩) ∧ Below w.heap.size w w' := by
  have b1 : (m : Int) ≤ 8 := by omega
  have hmk := make_lit m hm
  go_enter Try.func11, Try.ntmps11
  go_wp2
  go_loopw [0, 13] (fun x i wr => ∃ k : Nat, k ≤ m ∧ i = .int .i64 k ∧ x = .int .u64 (rest n k) ∧ NumBlk w wr n m k) (fun _ i _ => m - (intOf i).toNat)
  case atStart => exact ⟨0, Nat.zero_le _, rfl, by rw [rest_zero], NumBlk.start w n m⟩
  case round =>
    obtain ⟨k, hk, rfl, rfl, hb⟩ := hrel
    have HB := Lib.hid hb
    clear hb
    by_cases hlt : k < m
    · have hc := HB.out.cell hlt
      have hf := HB.out.free k
      go_wp2
      go_roundw
      case rel => exact ⟨k + 1, by omega, by go_num, by rw [rest_succ]; go_num, HB.out.put hlt _ (by omega)⟩
      case measure => simp [intOf]; omega
    · obtain rfl : k = m := by omega
      have hcv := HB.out.conv
      go_wp2
      go_ret
      exact ⟨rfl, HB.out.1⟩

theorem number_neg (n : Nat) (b : Int) (hb : b < 0) (hn : n < 18446744073709551616) (w : World) :
    Calls Try.prog 11 #[.int .u64 n, .int .i64 b] w fun e w' => e = .returned (.string ⟨(digits n 0).toArray⟩) ∧ Below w.heap.size w w' := by
  have hmk : ∀ W : World, (Instr.makeSlice 35 (.int .i64 0) (.int .i64 0)).run Try.prog W = .ok (.slice (some ⟨W.heap.size, 0, none⟩) 0 0) (W.alloc (.cells (madeCells #[Value.int .u8 0] 0) 5)) := fun W => make_lit 0 (by omega) W
  go_enter Try.func11, Try.ntmps11
  go_wp2
  go_loopw [0, 13] (fun x i wr => ∃ k : Nat, k ≤ 0 ∧ i = .int .i64 k ∧ x = .int .u64 (rest n k) ∧ NumBlk w wr n 0 k) (fun _ i _ => 0 - (intOf i).toNat)
  case atStart => exact ⟨0, Nat.zero_le _, rfl, by rw [rest_zero], NumBlk.start w n 0⟩
  case round =>
    obtain ⟨k, hk, rfl, rfl, hb⟩ := hrel
    have HB := Lib.hid hb
    clear hb
    obtain rfl : k = 0 := by omega
    have hcv := HB.out.conv
    go_wp2
    go_ret
    exact ⟨rfl, HB.out.1⟩

theorem number_wide (n : Nat) (b : Int) (hb : 8 < b) (hn : n < 18446744073709551616) (w : World) :
    Calls Try.prog 11 #[.int .u64 n, .int .i64 b] w fun e w' => e = .returned (.string ⟨(digits n 8).toArray⟩) ∧ Below w.heap.size w w' := by
  have hmk : ∀ W : World, (Instr.makeSlice 35 (.int .i64 8) (.int .i64 8)).run Try.prog W = .ok (.slice (some ⟨W.heap.size, 0, none⟩) 8 8) (W.alloc (.cells (madeCells #[Value.int .u8 0] 8) 5)) := fun W => make_lit 8 (by omega) W
  go_enter Try.func11, Try.ntmps11
  go_wp2
  go_loopw [0, 13] (fun x i wr => ∃ k : Nat, k ≤ 8 ∧ i = .int .i64 k ∧ x = .int .u64 (rest n k) ∧ NumBlk w wr n 8 k) (fun _ i _ => 8 - (intOf i).toNat)
  case atStart => exact ⟨0, Nat.zero_le _, rfl, by rw [rest_zero], NumBlk.start w n 8⟩
  case round =>
    obtain ⟨k, hk, rfl, rfl, hb⟩ := hrel
    have HB := Lib.hid hb
    clear hb
    by_cases hlt : k < 8
    · have hc := HB.out.cell hlt
      have hf := HB.out.free k
      go_wp2
      go_roundw
      case rel => exact ⟨k + 1, by omega, by go_num, by rw [rest_succ]; go_num, HB.out.put hlt _ (by omega)⟩
      case measure => simp [intOf]; omega
    · obtain rfl : k = 8 := by omega
      have hcv := HB.out.conv
      go_wp2
      go_ret
      exact ⟨rfl, HB.out.1⟩

/-- So many bytes a number is told by. -/
def width (b : Int) : Nat := if b < 0 then 0 else if 8 < b then 8 else b.toNat
theorem width_le (b : Int) : width b ≤ 8 := by unfold width; split <;> (try split) <;> omega

theorem number_any (n : Nat) (b : Int) (hn : n < 18446744073709551616) (w : World) :
    Calls Try.prog 11 #[.int .u64 n, .int .i64 b] w fun e w' => e = .returned (.string ⟨(digits n (width b)).toArray⟩) ∧ Below w.heap.size w w' := by
  by_cases h0 : b < 0
  · rw [show width b = 0 from if_pos h0]
    exact number_neg n b h0 hn w
  · by_cases h8 : 8 < b
    · rw [show width b = 8 by unfold width; rw [if_neg h0, if_pos h8]]
      exact number_wide n b h8 hn w
    · obtain ⟨m, rfl⟩ : ∃ m : Nat, b = m := ⟨b.toNat, by omega⟩
      rw [show width m = m by unfold width; rw [if_neg h0, if_neg h8]; omega]
      exact number_core n m (by omega) hn w

end Go.Proofs.Ytdajchppblifgaa.Wr
