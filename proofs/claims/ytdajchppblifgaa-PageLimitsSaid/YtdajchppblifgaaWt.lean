/- The writer's methods: what each leaves, and what it answers. -/
import Derived.Test.YtdajchppblifgaaWr
namespace Go.Proofs.Ytdajchppblifgaa.Wr
open Go.RowKit Go.Proofs.Ytdajchppblifgaa.Pl Go.Proofs.Ytdajchppblifgaa.Rd
set_option linter.unusedVariables false
set_option linter.unusedSimpArgs false

def bcells (xs : List UInt8) : List Value := xs.map fun (b : UInt8) => Value.int .u8 (b.toNat : Int)

/-- A writer lies at block g, from block B on, and has put the bytes xs. -/
def Wt (w : World) (g B : Nat) (xs : List UInt8) : Prop :=
  B ≤ g ∧ ∃ A c, w.heap[g]? = some (.cells #[.slice A xs.length c] 94 (0, 0)) ∧ w.ownsRow B 5 1 (.slice A xs.length c) xs.length (bcells xs)

theorem own_form {w : World} {base : Nat} {e : TypeId} {size n : Nat} {v : Value} {xs : List Value} (h : w.ownsRow base e size v n xs) : ∃ A c, v = .slice A n c := by
  rcases h.2 with ⟨rfl, rfl⟩ | ⟨g, cap, cur, rfl, _⟩
  · exact ⟨_, _, rfl⟩
  · exact ⟨_, _, rfl⟩

theorem blk_lt {w : World} {g : Nat} {o : Obj} (h : w.heap[g]? = some o) : g < w.heap.size := by
  rcases Nat.lt_or_ge g w.heap.size with hlt | hge
  · exact hlt
  · rw [Array.getElem?_eq_none hge] at h; cases h

theorem own_ne {w : World} {base g : Nat} {e t : TypeId} {size n : Nat} {v : Value} {xs : List Value} {cs : Array Value} {fr : Nat × Nat} (h : w.ownsRow base e size v n xs) (hg : w.heap[g]? = some (.cells cs t fr)) (hne : e ≠ t) : some g ≠ v.ownBlock := by
  rcases h.2 with ⟨rfl, _⟩ | ⟨g', cap, cur, rfl, _, hh, _⟩
  · simp [Value.ownBlock]
  · intro he
    have : g = g' := by simpa [Value.ownBlock] using he
    subst this
    rw [hg] at hh
    injection hh with hh
    injection hh with _ ht
    exact hne ht.symm

theorem Wt.lt {w : World} {g B : Nat} {xs : List UInt8} (h : Wt w g B xs) : g < w.heap.size := by
  obtain ⟨_, A, c, hb, _⟩ := h
  exact blk_lt hb

theorem own_set {w : World} {base g : Nat} {e t : TypeId} {size n : Nat} {v : Value} {xs : List Value} {cs : Array Value} {fr : Nat × Nat} (h : w.ownsRow base e size v n xs) (hg : w.heap[g]? = some (.cells cs t fr)) (hne : e ≠ t) (i : Nat) (u : Value) :
    (w.setCell ⟨g, i, none⟩ u).ownsRow base e size v n xs := by
  refine h.kept (row := some g) ⟨rfl, rfl, rfl, by simp [World.setCell], fun k hk hn => Below.heap_setCell _ _ _ _ (fun e => hn (by rw [e]))⟩ (.inr ?_)
  exact fun e => own_ne h hg hne e.symm

def Put (w : World) (g B : Nat) (xs : List UInt8) (en : Ending) (w' : World) : Prop := en = .returned (.tuple #[]) ∧ Wt w' g B xs ∧ Below B w w'

theorem wbytes_any (g B : Nat) (xs : List UInt8) (s : ByteArray) (hs : xs.length + s.size ≤ 140737488355327) (w : World) (h : Wt w g B xs) :
    Calls Try.prog 43 #[.pointer (some ⟨g, 0, none⟩), .string s] w (Put w g B (xs ++ s.data.toList)) := by
  have hlt := h.lt
  obtain ⟨hB, A, c, hb, ho⟩ := h
  have hc : w.cell? ⟨g, 0, none⟩ = some (.slice A xs.length c) := cell_of_row w g 0 _ 94 (0, 0) hb
  have hf : w.frozen? ⟨g, 0, none⟩ = false := by simp [World.frozen?, hb]
  obtain ⟨i0, hi, hz0, hz1, hz2⟩ := info_parts info5
  have HB := Lib.hid hb
  have HO := Lib.hid ho
  clear hb ho
  go_enter Try.func43, Try.ntmps43
  go_wp2_with (first | (at_builtin; refine Lib.wpList_append_own_string _ rfl (.tmp 10) (.tmp 11) 35 9 rfl B 5 i0 Try.underlying35 Try.underlying9 hi hz0 hz1 hz2 (.slice A xs.length c) xs.length (bcells xs) rfl HO.out s rfl (by simp only [maxLen]; omega) (by omega) (by omega) ?_; intro v' w1 hown1 hgr _; obtain ⟨A1, c1, rfl⟩ := own_form hown1; have hne := own_ne HO.out HB.out (by decide); have hb1 : w1.heap[g]? = some (.cells #[.slice A xs.length c] 94 (0, 0)) := (hgr.block g hlt hne).trans HB.out; have hc1 : w1.cell? ⟨g, 0, none⟩ = some (.slice A xs.length c) := cell_of_row w1 g 0 _ 94 (0, 0) hb1; have hf1 : w1.frozen? ⟨g, 0, none⟩ = false := (by simp [World.frozen?, hb1]); have HB1 := Lib.hid hb1; clear hb1; have HO1 := Lib.hid hown1; clear hown1))
  go_end0
  have el : (xs ++ s.data.toList).length = xs.length + s.size := by simp
  have ec : bcells (xs ++ s.data.toList) = bcells xs ++ Lib.strCells s := by simp [bcells, Lib.strCells]
  have o2 := own_set HO1.out HB1.out (by decide) 0 (.slice A1 (xs.length + s.size) c1)
  have b2 : Below B w w1 := (Below.refl B w).grown hgr (by omega) (fun k hk => (HO.out.lt k hk).1)
  refine ⟨rfl, ⟨hB, A1, c1, ?_, ?_⟩, b2.setCell hB _⟩
  · rw [el]
    simp [World.setCell, Array.getElem?_modify, HB1.out]
  · rw [el, ec]
    exact o2

theorem wbytes_nil (s : ByteArray) (w : World) :
    Calls Try.prog 43 #[.pointer none, .string s] w fun en w' => en = .returned (.tuple #[]) ∧ w = w' := by
  go_enter Try.func43, Try.ntmps43
  go_wp2
  go_end0
  exact ⟨rfl, rfl⟩

theorem newWriter_any (w : World) :
    Calls Try.prog 35 #[] w fun e w' => e = .returned (.pointer (some ⟨w.heap.size, 0, none⟩)) ∧ w' = w.alloc (.cells #[.slice none 0 0] 94) := by
  go_enter Try.func35, Try.ntmps35
  go_wp2
  go_ret
  exact ⟨rfl, rfl⟩

theorem newWriter (w : World) :
    Calls Try.prog 35 #[] w fun e w' => e = .returned (.pointer (some ⟨w.heap.size, 0, none⟩)) ∧ Wt w' w.heap.size w.heap.size [] ∧ Below w.heap.size w w' := by
  refine (newWriter_any w).mono ?_
  rintro e w' ⟨rfl, rfl⟩
  exact ⟨rfl, ⟨Nat.le_refl _, none, 0, heap_alloc_new w _, World.ownsRow_nil _ _ _ _⟩, (Below.refl _ _).alloc (Nat.le_refl _) _⟩

theorem Wt.below {w w' : World} {g B C : Nat} {xs : List UInt8} (h : Wt w g B xs) (hb : Below C w w') (hC : w.heap.size ≤ C) : Wt w' g B xs := by
  have hlt := h.lt
  obtain ⟨hB, A, c, hg, ho⟩ := h
  exact ⟨hB, A, c, (hb.block g (by omega)).trans hg, ho.kept (only_of_below (hb.mono hC) none) (by cases A <;> simp [Value.ownBlock])⟩

theorem wnumber_any (g B : Nat) (xs : List UInt8) (n : Nat) (b : Int) (hn : n < 18446744073709551616) (hs : xs.length + 8 ≤ 140737488355327) (w : World) (h : Wt w g B xs) :
    Calls Try.prog 36 #[.pointer (some ⟨g, 0, none⟩), .int .u64 n, .int .i64 b] w (Put w g B (xs ++ digits n (width b))) := by
  have hN := Lib.hid (number_any n b hn w)
  have hd : xs.length + (ByteArray.mk (digits n (width b)).toArray).size ≤ 140737488355327 := by
    have h1 := width_le b
    have h2 := digits_length n (width b)
    have h3 : (ByteArray.mk (digits n (width b)).toArray).size = width b := by show (digits n (width b)).toArray.size = _; simpa using h2
    omega
  have hB := h.1
  have hlt := h.lt
  have hO := Lib.hid h
  clear h hn
  obtain ⟨s, HS⟩ : ∃ s, Hid (s = ByteArray.mk (digits n (width b)).toArray) := ⟨_, Lib.hid rfl⟩
  have hl : digits n (width b) = s.data.toList := by rw [HS.out]
  rw [← HS.out] at hd hN
  rw [hl]
  clear hl
  go_enter Try.func36, Try.ntmps36
  go_wp2_with (first | (go_at_call 11; refine hN.out.mono ?_; rintro e w1 ⟨rfl, hb1⟩) | (go_at_call 43; refine (wbytes_any g B xs s hd _ (hO.out.below hb1 (Nat.le_refl _))).mono ?_; rintro e w2 ⟨rfl, hw2, hb2⟩))
  go_end0
  exact ⟨rfl, hw2, (hb1.mono (by omega)).trans hb2⟩

theorem wnumber_nil (n : Nat) (b : Int) (hn : n < 18446744073709551616) (w : World) :
    Calls Try.prog 36 #[.pointer none, .int .u64 n, .int .i64 b] w fun en w' => en = .returned (.tuple #[]) ∧ Below w.heap.size w w' := by
  have hN := Lib.hid (number_any n b hn w)
  clear hn
  go_enter Try.func36, Try.ntmps36
  go_wp2_with (first | (go_at_call 11; refine hN.out.mono ?_; rintro e w1 ⟨rfl, hb1⟩) | (go_at_call 43; refine (wbytes_nil _ _).mono ?_; rintro e w2 ⟨rfl, rfl⟩))
  go_end0
  exact ⟨rfl, hb1⟩

theorem wcount_pos (g B : Nat) (xs : List UInt8) (n : Nat) (hn : n ≤ 9223372036854775807) (hs : xs.length + 8 ≤ 140737488355327) (w : World) (h : Wt w g B xs) :
    Calls Try.prog 37 #[.pointer (some ⟨g, 0, none⟩), .int .i64 n] w (Put w g B (xs ++ digits n 4)) := by
  have hN := Lib.hid (wnumber_any g B xs n 4 (by omega) hs w h)
  rw [show width 4 = 4 from rfl] at hN
  have hw : IntKind.u64.wrap (n : Int) = n := by rw [IntKind.wrap_u64]; omega
  have hn' := Lib.hid hn
  clear hn h
  go_enter Try.func37, Try.ntmps37
  go_wp2_with (first | (go_at_call 36; refine hN.out.mono ?_; rintro e w1 ⟨rfl, hw1, hb1⟩))
  go_end0
  exact ⟨rfl, hw1, hb1⟩

theorem wcount_neg (g B : Nat) (xs : List UInt8) (n : Int) (hn : n < 0) (hs : xs.length + 8 ≤ 140737488355327) (w : World) (h : Wt w g B xs) :
    Calls Try.prog 37 #[.pointer (some ⟨g, 0, none⟩), .int .i64 n] w (Put w g B (xs ++ digits 0 4)) := by
  have hN := wnumber_any g B xs 0 4 (by omega) hs w h
  rw [show width 4 = 4 from rfl, show ((0 : Nat) : Int) = 0 from rfl] at hN
  have hN := Lib.hid hN
  clear h
  go_enter Try.func37, Try.ntmps37
  go_wp2_with (first | (go_at_call 36; refine hN.out.mono ?_; rintro e w1 ⟨rfl, hw1, hb1⟩))
  go_end0
  exact ⟨rfl, hw1, hb1⟩

theorem wcount_any (g B : Nat) (xs : List UInt8) (n : Int) (hn : n ≤ 9223372036854775807) (hs : xs.length + 8 ≤ 140737488355327) (w : World) (h : Wt w g B xs) :
    Calls Try.prog 37 #[.pointer (some ⟨g, 0, none⟩), .int .i64 n] w (Put w g B (xs ++ digits n.toNat 4)) := by
  by_cases h0 : n < 0
  · rw [show n.toNat = 0 by omega]
    exact wcount_neg g B xs n h0 hs w h
  · obtain ⟨m, rfl⟩ : ∃ m : Nat, n = m := ⟨n.toNat, by omega⟩
    exact wcount_pos g B xs m (by omega) hs w h

theorem wcount_nil (n : Int) (hn : n ≤ 9223372036854775807) (w : World) :
    Calls Try.prog 37 #[.pointer none, .int .i64 n] w fun en w' => en = .returned (.tuple #[]) ∧ Below w.heap.size w w' := by
  by_cases h0 : n < 0
  · have hN := wnumber_nil 0 4 (by omega) w
    rw [show ((0 : Nat) : Int) = 0 from rfl] at hN
    have hN := Lib.hid hN
    go_enter Try.func37, Try.ntmps37
    go_wp2_with (first | (go_at_call 36; refine hN.out.mono ?_; rintro e w1 ⟨rfl, hb1⟩))
    go_end0
    exact ⟨rfl, hb1⟩
  · obtain ⟨m, rfl⟩ : ∃ m : Nat, n = m := ⟨n.toNat, by omega⟩
    have hN := Lib.hid (wnumber_nil m 4 (by omega) w)
    have hw : IntKind.u64.wrap (m : Int) = m := by rw [IntKind.wrap_u64]; omega
    have hn' := Lib.hid hn
    clear hn
    go_enter Try.func37, Try.ntmps37
    go_wp2_with (first | (go_at_call 36; refine hN.out.mono ?_; rintro e w1 ⟨rfl, hb1⟩))
    go_end0
    exact ⟨rfl, hb1⟩

/-- A text's bytes. -/
def textB (s : ByteArray) : List UInt8 := digits s.size 4 ++ s.data.toList
theorem textB_length (s : ByteArray) : (textB s).length = 4 + s.size := by simp [textB, digits_length]

theorem wtext_any (g B : Nat) (xs : List UInt8) (s : ByteArray) (hs : xs.length + s.size + 8 ≤ 140737488355327) (w : World) (h : Wt w g B xs) :
    Calls Try.prog 38 #[.pointer (some ⟨g, 0, none⟩), .string s] w (Put w g B (xs ++ textB s)) := by
  have hN := Lib.hid (wcount_any g B xs s.size (by omega) (by omega) w h)
  have hl : (xs ++ digits s.size 4).length + s.size ≤ 140737488355327 := by rw [List.length_append, digits_length]; omega
  obtain ⟨ys, HY⟩ : ∃ ys, Hid (ys = xs ++ digits s.size 4) := ⟨_, Lib.hid rfl⟩
  rw [show xs ++ textB s = ys ++ s.data.toList by rw [HY.out]; simp [textB]]
  rw [show ((s.size : Int)).toNat = s.size by omega, ← HY.out] at hN
  rw [← HY.out] at hl
  clear h
  go_enter Try.func38, Try.ntmps38
  go_wp2_with (first | (go_at_call 37; refine hN.out.mono ?_; rintro e w1 ⟨rfl, hw1, hb1⟩) | (go_at_call 43; refine (wbytes_any g B ys s hl _ hw1).mono ?_; rintro e w2 ⟨rfl, hw2, hb2⟩))
  go_end0
  exact ⟨rfl, hw2, hb1.trans hb2⟩

theorem wtext_nil (s : ByteArray) (hs : s.size ≤ 9223372036854775807) (w : World) :
    Calls Try.prog 38 #[.pointer none, .string s] w fun en w' => en = .returned (.tuple #[]) ∧ Below w.heap.size w w' := by
  have hN := Lib.hid (wcount_nil s.size (by omega) w)
  go_enter Try.func38, Try.ntmps38
  go_wp2_with (first | (go_at_call 37; refine hN.out.mono ?_; rintro e w1 ⟨rfl, hb1⟩) | (go_at_call 43; refine (wbytes_nil _ _).mono ?_; rintro e w2 ⟨rfl, rfl⟩))
  go_end0
  exact ⟨rfl, hb1⟩

theorem wbool_any (g B : Nat) (xs : List UInt8) (b : Bool) (hs : xs.length + 8 ≤ 140737488355327) (w : World) (h : Wt w g B xs) :
    Calls Try.prog 42 #[.pointer (some ⟨g, 0, none⟩), .bool b] w (Put w g B (xs ++ digits (if b then 1 else 0) 1)) := by
  cases b with
  | true =>
    have hN := wnumber_any g B xs 1 1 (by omega) hs w h
    rw [show width 1 = 1 from rfl, show ((1 : Nat) : Int) = 1 from rfl] at hN
    have hN := Lib.hid hN
    clear h
    go_enter Try.func42, Try.ntmps42
    go_wp2_with (first | (go_at_call 36; refine hN.out.mono ?_; rintro e w1 ⟨rfl, hw1, hb1⟩))
    go_end0
    exact ⟨rfl, hw1, hb1⟩
  | false =>
    have hN := wnumber_any g B xs 0 1 (by omega) hs w h
    rw [show width 1 = 1 from rfl, show ((0 : Nat) : Int) = 0 from rfl] at hN
    have hN := Lib.hid hN
    clear h
    go_enter Try.func42, Try.ntmps42
    go_wp2_with (first | (go_at_call 36; refine hN.out.mono ?_; rintro e w1 ⟨rfl, hw1, hb1⟩))
    go_end0
    exact ⟨rfl, hw1, hb1⟩

theorem wbool_nil (w : World) :
    Calls Try.prog 42 #[.pointer none, .bool true] w fun en w' => en = .returned (.tuple #[]) ∧ Below w.heap.size w w' := by
  have hN := wnumber_nil 1 1 (by omega) w
  rw [show ((1 : Nat) : Int) = 1 from rfl] at hN
  have hN := Lib.hid hN
  go_enter Try.func42, Try.ntmps42
  go_wp2_with (first | (go_at_call 36; refine hN.out.mono ?_; rintro e w1 ⟨rfl, hb1⟩))
  go_end0
  exact ⟨rfl, hb1⟩

theorem wlen_any (g B : Nat) (xs : List UInt8) (w : World) (h : Wt w g B xs) :
    Calls Try.prog 44 #[.pointer (some ⟨g, 0, none⟩)] w fun e w' => e = .returned (.int .i64 xs.length) ∧ w = w' := by
  obtain ⟨hB, A, c, hb, ho⟩ := h
  have hc : w.cell? ⟨g, 0, none⟩ = some (.slice A xs.length c) := cell_of_row w g 0 _ 94 (0, 0) hb
  clear ho hb
  go_enter Try.func44, Try.ntmps44
  go_wp2
  go_ret
  exact ⟨rfl, rfl⟩
theorem wlen_nil (w : World) : Calls Try.prog 44 #[.pointer none] w fun e w' => e = .returned (.int .i64 0) ∧ w = w' := by
  go_enter Try.func44, Try.ntmps44
  go_wp2
  go_ret
  exact ⟨rfl, rfl⟩

theorem own_conv {w : World} {B : Nat} {A : Option Addr} {c : Nat} {xs : List UInt8} (ho : w.ownsRow B 5 1 (.slice A xs.length c) xs.length (bcells xs)) :
    (convert 35 9 (.slice A xs.length c)).run Try.prog w = .ok (.string ⟨xs.toArray⟩) w := by
  rcases A with _ | a
  · rcases ho.2 with ⟨_, hn⟩ | ⟨g, cap, cur, he, _⟩
    · have hx : xs = [] := List.eq_nil_of_length_eq_zero hn
      subst hx
      exact run_convert_bytes_nil w 35 5 Try.underlying35 Try.underlying5 _ _ 9 Try.underlying9
    · simp at he
  · refine run_convert_bytes_back w 35 9 5 a c xs Try.underlying35 Try.underlying5 Try.underlying9 (fun j hj => ?_)
    rcases ho.2 with ⟨he, _⟩ | ⟨g, cap, cur, he, _⟩
    · simp at he
    · have ha : a = ⟨g, 0, none⟩ := by simp only [Value.slice.injEq, Option.some.injEq] at he; exact he.1
      subst ha
      refine ho.cells (g := g) rfl j _ ?_
      simp [bcells, hj]

theorem wall_any (g B : Nat) (xs : List UInt8) (w : World) (h : Wt w g B xs) :
    Calls Try.prog 45 #[.pointer (some ⟨g, 0, none⟩)] w fun e w' => e = .returned (.string ⟨xs.toArray⟩) ∧ w = w' := by
  obtain ⟨hB, A, c, hb, ho⟩ := h
  have hc : w.cell? ⟨g, 0, none⟩ = some (.slice A xs.length c) := cell_of_row w g 0 _ 94 (0, 0) hb
  have hcv := own_conv ho
  clear ho hb
  go_enter Try.func45, Try.ntmps45
  go_wp2
  go_ret
  exact ⟨rfl, rfl⟩
theorem wall_nil (w : World) : Calls Try.prog 45 #[.pointer none] w fun e w' => e = .returned (.string ByteArray.empty) ∧ w = w' := by
  go_enter Try.func45, Try.ntmps45
  go_wp2
  go_ret
  exact ⟨rfl, rfl⟩

end Go.Proofs.Ytdajchppblifgaa.Wr
