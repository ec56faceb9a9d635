/- Pages: the plain law of PageLimits: when a page of n keys of k equal bytes each, the last value of v bytes, may be. -/
import Derived.Test.YtdajchppblifgaaPo
import Derived.Test.YtdajchppblifgaaPr
namespace Go.Proofs.Ytdajchppblifgaa.Pg
open Go.RowKit Go.Proofs.Ytdajchppblifgaa.Pl Go.Proofs.Ytdajchppblifgaa.Rd Go.Proofs.Ytdajchppblifgaa.Wr Go.Proofs.Ytdajchppblifgaa.Rf
set_option linter.unusedVariables false
set_option linter.unusedSimpArgs false

theorem and_mask (x : Int) (m : Nat) (hm : m < 9223372036854775808) : ∃ n : Nat, bits .and .i64 x (m : Int) = (n : Int) ∧ n ≤ m := by
  have h : (BitVec.ofInt 64 x &&& BitVec.ofInt 64 (m : Int)).toNat ≤ m := by
    rw [BitVec.toNat_and, BitVec.toNat_ofInt, BitVec.toNat_ofInt]
    refine Nat.le_trans Nat.and_le_right ?_
    omega
  refine ⟨(BitVec.ofInt 64 x &&& BitVec.ofInt 64 (m : Int)).toNat, ?_, h⟩
  show IntKind.i64.wrap ((BitVec.ofInt 64 x &&& BitVec.ofInt 64 (m : Int)).toNat : Int) = _
  rw [IntKind.wrap_i64]
  omega

/-- The key of place i, of k bytes; a text of v zeros; the values. -/
def keyS (k i : Nat) : ByteArray := mkS (List.replicate k (UInt8.ofNat (97 + i)))
def zerS (v : Nat) : ByteArray := mkS (List.replicate v 0)
def Vn (n v : Nat) (j : Nat) : ByteArray := if j + 1 = n then zerS v else ⟨#[]⟩
theorem keyS_size (k i : Nat) : (keyS k i).size = k := by rw [keyS, mkS_size, List.length_replicate]
theorem zerS_size (v : Nat) : (zerS v).size = v := by rw [zerS, mkS_size, List.length_replicate]
theorem toL (l : List UInt8) : (mkS l).toList = l := by rw [ByteArray.toList_eq]; simp [mkS]
theorem less_rep (a b : UInt8) (h : a < b) (k : Nat) : Op.bytesLess (List.replicate (k + 1) a) (List.replicate (k + 1) b) = true := by
  simp [List.replicate_succ, Op.bytesLess, h]
theorem less_self (l : List UInt8) : Op.bytesLess l l = false := by
  induction l with
  | nil => rfl
  | cons a l ih => simp [Op.bytesLess, ih]
theorem key_less (k i : Nat) (hk : 1 ≤ k) (hi : i < 100) : Op.bytesLess (keyS k i).toList (keyS k (i + 1)).toList = true := by
  obtain ⟨m, rfl⟩ : ∃ m, k = m + 1 := ⟨k - 1, by omega⟩
  rw [keyS, keyS, toL, toL]
  refine less_rep _ _ ?_ m
  rw [UInt8.lt_iff_toNat_lt, UInt8.toNat_ofNat', UInt8.toNat_ofNat']
  omega

def OkL (n k v : Nat) : Prop := n ≤ 8 ∧ (n = 0 ∨ (1 ≤ k ∧ k ≤ 64 ∧ v ≤ 8192))
theorem okL_iff (n k v : Nat) : OkL n k v ↔ Rises (keyS k) n ∧ ¬ Longs (Vn n v) n := by
  constructor
  · rintro ⟨h8, h⟩
    refine ⟨⟨fun j hj => ?_, h8⟩, ?_⟩
    · rcases h with h | ⟨h1, h2, _⟩
      · omega
      · rintro (g | g | ⟨g1, g2⟩)
        · rw [keyS_size] at g; omega
        · rw [keyS_size] at g; omega
        · obtain ⟨i, rfl⟩ : ∃ i, j = i + 1 := ⟨j - 1, by omega⟩
          rw [Nat.add_sub_cancel, key_less k i h1 (by omega)] at g2
          exact absurd g2 (by simp)
    · rintro ⟨j, hj, g⟩
      unfold Vn at g
      split at g
      · rw [zerS_size] at g
        rcases h with h | ⟨_, _, h3⟩ <;> omega
      · exact absurd g (by show ¬ 8192 < 0; omega)
  · rintro ⟨⟨h1, h8⟩, h2⟩
    refine ⟨h8, ?_⟩
    by_cases hn : n = 0
    · exact .inl hn
    · right
      have g := h1 0 (by omega)
      have gl : ¬ 8192 < (Vn n v (n - 1)).size := fun h => h2 ⟨n - 1, by omega, h⟩
      rw [Vn, if_pos (by omega), zerS_size] at gl
      have g1 : ¬ (keyS k 0).size < 1 := fun h => g (.inl h)
      have g2 : ¬ 64 < (keyS k 0).size := fun h => g (.inr (.inl h))
      rw [keyS_size] at g1 g2
      omega
theorem not_rises_same {K : Nat → ByteArray} {n : Nat} (hn : 1 < n) (h : K 1 = K 0) : ¬ Rises K n := fun hr =>
  hr.1 1 hn (.inr (.inr ⟨by omega, by show Op.bytesLess (K 0).toList (K 1).toList = false; rw [h]; exact less_self _⟩))
/-- The keys, the second made the first. -/
def twice (K : Nat → ByteArray) (j : Nat) : ByteArray := if j = 1 then K 0 else K j
theorem not_rises_twice {K : Nat → ByteArray} {n : Nat} (hn : 1 < n) : ¬ Rises (twice K) n := not_rises_same hn rfl

/-! ### A block that is being filled -/
def frow (x : Int) (k j : Nat) : Array Value := (List.replicate j (Value.int .u8 x) ++ List.replicate (k - j) (Value.int .u8 0)).toArray
def Fill (w0 wr : World) (x : Int) (k j : Nat) : Prop := Below w0.heap.size w0 wr ∧ wr.heap[w0.heap.size]? = some (.cells (frow x k j) 5 (0, 0))
theorem Fill.start (w : World) (x : Int) (k : Nat) : Fill w (w.alloc (.cells (madeCells #[Value.int .u8 0] k) 5)) x k 0 := by
  refine ⟨(Below.refl _ _).alloc (Nat.le_refl _) _, ?_⟩
  rw [heap_alloc_new]
  congr 2
  apply Array.ext'
  simp [frow, madeCells, Array.toList_map, Nat.mod_one]
  apply List.ext_getElem <;> simp
theorem frow_get {x : Int} {k j : Nat} (hj : j < k) : (frow x k j)[j]? = some (Value.int .u8 0) := by
  obtain ⟨m, rfl⟩ : ∃ m, k = j + 1 + m := ⟨k - (j + 1), by omega⟩
  simp [frow, List.getElem?_append, show j + 1 + m - j = m + 1 by omega, List.replicate_succ]
theorem Fill.cell {w wr : World} {x : Int} {k j : Nat} (h : Fill w wr x k j) (hj : j < k) : wr.cell? ⟨w.heap.size, j, none⟩ = some (.int .u8 0) := by
  rw [cell_of_row wr _ j _ 5 (0, 0) h.2, frow_get hj]
theorem Fill.free {w wr : World} {x : Int} {k j : Nat} (h : Fill w wr x k j) (i : Nat) : wr.frozen? ⟨w.heap.size, i, none⟩ = false := by
  simp [World.frozen?, h.2]
theorem frow_set {x : Int} {k j : Nat} (hj : j < k) : (frow x k j).setIfInBounds j (.int .u8 x) = frow x k (j + 1) := by
  obtain ⟨m, rfl⟩ : ∃ m, k = j + 1 + m := ⟨k - (j + 1), by omega⟩
  apply Array.ext'
  rw [frow, frow, Array.toList_setIfInBounds]
  show (List.replicate j (Value.int .u8 x) ++ List.replicate (j + 1 + m - j) (Value.int .u8 0)).set j (.int .u8 x) = List.replicate (j + 1) (Value.int .u8 x) ++ List.replicate (j + 1 + m - (j + 1)) (Value.int .u8 0)
  rw [show j + 1 + m - j = m + 1 by omega, show j + 1 + m - (j + 1) = m by omega, List.set_append, if_neg (by simp), List.length_replicate, Nat.sub_self, List.replicate_succ (n := m), List.set_cons_zero, List.replicate_succ' (n := j), List.append_assoc]
  rfl
theorem Fill.put {w wr : World} {x : Int} {k j : Nat} (h : Fill w wr x k j) (hj : j < k) : Fill w (wr.setCell ⟨w.heap.size, j, none⟩ (.int .u8 x)) x k (j + 1) := by
  refine ⟨h.1.setCell (Nat.le_refl _) _, ?_⟩
  rw [set_res h.2, frow_set hj]
theorem Fill.conv {w wr : World} {k : Nat} {c : UInt8} (h : Fill w wr c.toNat k k) : (convert 35 9 (.slice (some ⟨w.heap.size, 0, none⟩) k k)).run Try.prog wr = .ok (.string (mkS (List.replicate k c))) wr := by
  have := run_convert_bytes_back (P := Try.prog) wr 35 9 5 ⟨w.heap.size, 0, none⟩ k (List.replicate k c) Try.underlying35 Try.underlying5 Try.underlying9 (fun j hj => by
    have hj' : j < k := by simpa using hj
    have ha : (⟨w.heap.size, 0, none⟩ : Addr).add j = ⟨w.heap.size, j, none⟩ := by unfold Addr.add; split <;> simp_all
    rw [ha, cell_of_row wr _ j _ 5 (0, 0) h.2]
    simp [frow, hj'])
  rwa [List.length_replicate] at this
theorem Fill.key {w wr : World} {k i : Nat} (h : Fill w wr (97 + (i : Int)) k k) (hi : i < 100) : (convert 35 9 (.slice (some ⟨w.heap.size, 0, none⟩) k k)).run Try.prog wr = .ok (.string (keyS k i)) wr := by
  have hx : (97 + (i : Int)) = (((UInt8.ofNat (97 + i)).toNat : Nat) : Int) := by rw [UInt8.toNat_ofNat']; omega
  rw [hx] at h
  exact h.conv
theorem make_any (m : Nat) (hm : m ≤ 10000) (W : World) : (Instr.makeSlice 35 (.int .i64 (m : Int)) (.int .i64 (m : Int))).run Try.prog W = .ok (.slice (some ⟨W.heap.size, 0, none⟩) m m) (W.alloc (.cells (madeCells #[Value.int .u8 0] m) 5)) := by
  obtain ⟨i0, hi, hz0, hz1, hz2⟩ := info_parts info5
  have h := run_make (P := Try.prog) W 35 5 i0 (.int .u8 0) Try.underlying35 hi hz0 .i64 .i64 m m (by omega) (by omega) (by rw [hz2]; omega) (by omega)
  rw [hz1] at h
  simp only [Int.toNat_natCast, Nat.mul_one] at h
  exact h
theorem conv_zero (v : Nat) (W : World) : (convert 35 9 (.slice (some ⟨W.heap.size, 0, none⟩) v v)).run Try.prog (W.alloc (.cells (madeCells #[Value.int .u8 0] v) 5)) = .ok (.string (zerS v)) (W.alloc (.cells (madeCells #[Value.int .u8 0] v) 5)) := by
  have h := Fill.start W 0 v
  have h2 : Fill W (W.alloc (.cells (madeCells #[Value.int .u8 0] v) 5)) (((0 : UInt8).toNat : Nat) : Int) v v := by
    refine ⟨h.1, ?_⟩
    rw [h.2]
    simp [frow]
  exact h2.conv
theorem conv_zero_drew (v : Nat) (W : World) : (convert 35 9 (.slice (some ⟨W.heap.size, 0, none⟩) v v)).run Try.prog (W.alloc (.cells (madeCells #[Value.int .u8 0] v) 5)).drew = .ok (.string (zerS v)) (W.alloc (.cells (madeCells #[Value.int .u8 0] v) 5)).drew :=
  conv_zero v W.drew
/-- The values' cells, the last one laid. -/
theorem last_set {n v : Nat} (hn : 0 < n) : (tc (fun _ => (⟨#[]⟩ : ByteArray)) n).set (n - 1) (.string (zerS v)) = tc (Vn n v) n := by
  apply List.ext_getElem?
  intro j
  rw [List.getElem?_set]
  simp only [tc, List.length_map, List.length_range, List.getElem?_map]
  by_cases hj : j < n
  · rw [List.getElem?_range hj]
    by_cases hl : n - 1 = j
    · rw [if_pos hl, if_pos (by omega)]
      simp [Vn, show j + 1 = n by omega]
    · rw [if_neg hl]
      simp [Vn, show ¬ j + 1 = n by omega]
  · rw [if_neg (by omega), List.getElem?_eq_none (by simp; omega)]
    rfl
/-- The keys' cells, the second made the first. -/
theorem second_set {K : Nat → ByteArray} {n : Nat} (hn : 1 < n) : (tc K n).set 1 (.string (K 0)) = tc (twice K) n := by
  apply List.ext_getElem?
  intro j
  rw [List.getElem?_set]
  simp only [tc, List.length_map, List.length_range, List.getElem?_map]
  by_cases hj : j < n
  · rw [List.getElem?_range hj]
    by_cases hl : 1 = j
    · rw [if_pos hl, if_pos hn]
      simp [twice, hl.symm]
    · rw [if_neg hl]
      simp [twice, show ¬ j = 1 by omega]
  · rw [if_neg (by omega), List.getElem?_eq_none (by simp; omega)]
    rfl
theorem tc_get {K : Nat → ByteArray} {n j : Nat} (hj : j < n) : (tc K n)[j]? = some (.string (K j)) := by simp [tc, List.getElem?_range hj]
theorem leaf_may {A1 A2 A3 : Option Addr} {n c1 c2 c3 : Nat} {K V : Nat → ByteArray} {N : Nat → Int} : (P.mk true A1 n c1 A2 n c2 A3 0 c3 K V N).May ↔ (Rises K n ∧ ¬ Longs V n) :=
  ⟨fun h => ⟨h.1, (h.2.1 rfl).2.2⟩, fun h => ⟨h.1, fun _ => ⟨rfl, rfl, h.2⟩, fun h => absurd h (by show ¬ true = false; simp)⟩⟩
theorem leaf_kid {A1 A2 A3 : Option Addr} {n c1 c2 c3 : Nat} {K V : Nat → ByteArray} {N : Nat → Int} : ¬ (P.mk true A1 n c1 A2 n c2 A3 1 c3 K V N).May :=
  fun h => absurd (h.2.1 rfl).1 (by show ¬ 1 = 0; omega)

/-! ### The page under way: boxed behind the keys' array -/
structure Li (w W : World) (v1 v2 v3 : Value) : Prop where
  box : W.heap[w.heap.size + 1]? = some (.cells #[.bool true, v1, v2, v3] 77 (0, 0))
  bel : Below w.heap.size w W
theorem Li.start (w : World) (a : Array Value) (n : Nat) : Li w (((w.alloc (.cells a 75)).drewN n).alloc (.cells #[.bool true, .slice none 0 0, .slice none 0 0, .slice none 0 0] 77)) (.slice none 0 0) (.slice none 0 0) (.slice none 0 0) := by
  have z1 : (w.alloc (.cells a 75)).heap.size = w.heap.size + 1 := by simp
  have h := heap_alloc_new ((w.alloc (.cells a 75)).drewN n) (.cells #[.bool true, .slice none 0 0, .slice none 0 0, .slice none 0 0] 77)
  have z2 : ((w.alloc (.cells a 75)).drewN n).heap.size = w.heap.size + 1 := z1
  rw [z2] at h
  have b1 : Below w.heap.size w (w.alloc (.cells a 75)) := (Below.refl w.heap.size w).alloc (Nat.le_refl _) _
  have b2 : Below w.heap.size w ((w.alloc (.cells a 75)).drewN n) := b1.trans ⟨rfl, rfl, rfl, Nat.le_refl _, fun _ _ => rfl⟩
  exact ⟨h, b2.alloc (by rw [z2]; omega) _⟩
section
variable {w W W' : World} {v1 v2 v3 : Value}
theorem Li.c (h : Li w W v1 v2 v3) : (W.cell? ⟨w.heap.size + 1, 0, none⟩ = some (.bool true) ∧ W.cell? ⟨w.heap.size + 1, 1, none⟩ = some v1 ∧ W.cell? ⟨w.heap.size + 1, 2, none⟩ = some v2 ∧ W.cell? ⟨w.heap.size + 1, 3, none⟩ = some v3) ∧ W.frozen? ⟨w.heap.size + 1, 1, none⟩ = false ∧ W.frozen? ⟨w.heap.size + 1, 2, none⟩ = false ∧ W.frozen? ⟨w.heap.size + 1, 3, none⟩ = false :=
  ⟨⟨cell_of_row W _ 0 _ 77 (0, 0) h.box, cell_of_row W _ 1 _ 77 (0, 0) h.box, cell_of_row W _ 2 _ 77 (0, 0) h.box, cell_of_row W _ 3 _ 77 (0, 0) h.box⟩, by simp [World.frozen?, h.box], by simp [World.frozen?, h.box], by simp [World.frozen?, h.box]⟩
theorem Li.alloc (h : Li w W v1 v2 v3) (o : Obj) : Li w (W.alloc o) v1 v2 v3 := ⟨(Below.heap_alloc _ _ _ (blk_lt h.box)).trans h.box, h.bel.alloc h.bel.size _⟩
theorem Li.drew (h : Li w W v1 v2 v3) : Li w W.drew v1 v2 v3 := ⟨h.box, h.bel.drew⟩
theorem Li.draws (h : Li w W v1 v2 v3) (n : Nat) : Li w (W.drewN n) v1 v2 v3 := ⟨h.box, h.bel.trans ⟨rfl, rfl, rfl, Nat.le_refl _, fun _ _ => rfl⟩⟩
theorem Li.below (h : Li w W v1 v2 v3) (hb : Below W.heap.size W W') : Li w W' v1 v2 v3 := ⟨(hb.block _ (blk_lt h.box)).trans h.box, h.bel.trans (hb.mono h.bel.size)⟩
theorem Li.row {e k : Nat} {v : Value} {xs : List Value} (h : Li w W v1 v2 v3) (ho : W.ownsRow w.heap.size e 1 v k xs) (h77 : e ≠ 77) (hg : W.grownBy W' v.ownBlock) : Li w W' v1 v2 v3 :=
  ⟨(hg.block _ (blk_lt h.box) (own_ne ho h.box h77)).trans h.box, h.bel.grown hg h.bel.size (fun j hj => (ho.lt j hj).1)⟩
theorem Li.set (h : Li w W v1 v2 v3) (i : Nat) (v u1 u2 u3 : Value) (hu : (#[.bool true, v1, v2, v3] : Array Value).setIfInBounds i v = #[.bool true, u1, u2, u3]) : Li w (W.setCell ⟨w.heap.size + 1, i, none⟩ v) u1 u2 u3 := by
  refine ⟨?_, h.bel.setCell (by simp) _⟩
  rw [← hu]
  exact set_res h.box i v
end
/-- Two slices lie in blocks of their own. -/
def Sep (v1 v2 : Value) : Prop := ∀ g, v1.ownBlock = some g → v2.ownBlock ≠ some g
theorem Sep.symm {v1 v2 : Value} (h : Sep v1 v2) : Sep v2 v1 := fun g h2 h1 => h g h1 h2
theorem sep_kept {w w' : World} {B e k : Nat} {v1 v2 : Value} {xs : List Value} (h : Sep v1 v2) (ho : w.ownsRow B e 1 v2 k xs) (hg : w.grownBy w' v1.ownBlock) : w'.ownsRow B e 1 v2 k xs := by
  refine ho.kept hg ?_
  cases hv : v2.ownBlock with
  | none => exact .inl rfl
  | some g => exact .inr (fun hq => h g hq.symm hv)
theorem sep_new {w : World} {B e k n c g H : Nat} {v1 v2 : Value} {xs : List Value} (h : Sep v1 v2) (ho : w.ownsRow B e 1 v2 k xs) (hH : w.heap.size ≤ H) (hat : v1.ownBlock = some g ∨ g = H) : Sep (.slice (some ⟨g, 0, none⟩) n c) v2 := by
  intro q hq hv
  have hq : g = q := by simpa [Value.ownBlock] using hq
  subst hq
  rcases hat with h1 | h1
  · exact h _ h1 hv
  · have := (ho.lt _ hv).2
    omega
theorem sep_nil (v : Value) : Sep (.slice none 0 0) v := fun g h => by simp [Value.ownBlock] at h
theorem page_in {W : World} {B n c1 c2 : Nat} {A1 A2 : Option Addr} {K V : Nat → ByteArray} (hn : n ≤ 15) (h1 : W.ownsRow B 9 1 (.slice A1 n c1) n (tc K n)) (h2 : W.ownsRow B 9 1 (.slice A2 n c2) n (tc V n)) : (P.mk true A1 n c1 A2 n c2 none 0 0 K V (fun _ => 0)).In W :=
  ⟨txt_own h1, txt_own h2, fun k hk => absurd hk (by show ¬ k < 0; omega), by show n ≤ _; omega, by show n ≤ _; omega, by show 0 ≤ _; omega⟩
theorem page_in1 {W : World} {B n c1 c2 g : Nat} {A1 A2 : Option Addr} {K V : Nat → ByteArray} (hn : n ≤ 15) (h1 : W.ownsRow B 9 1 (.slice A1 n c1) n (tc K n)) (h2 : W.ownsRow B 9 1 (.slice A2 n c2) n (tc V n)) (h3 : W.heap[g]? = some (.cells #[.int .i64 0] 3 (0, 0))) : (P.mk true A1 n c1 A2 n c2 (some ⟨g, 0, none⟩) 1 1 K V (fun _ => 0)).In W :=
  ⟨txt_own h1, txt_own h2, fun k hk => by
    obtain rfl : k = 0 := by have : k < 1 := hk; omega
    exact ⟨g, 0, rfl, blk_lt h3, cell_of_row W g 0 _ 3 (0, 0) h3⟩, by show n ≤ _; omega, by show n ≤ _; omega, by show 1 ≤ 9223372036854775807; omega⟩

end Go.Proofs.Ytdajchppblifgaa.Pg
