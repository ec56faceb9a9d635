/- WireFramed's walk. -/
import Derived.Test.YtdajchppblifgaaUi
import Derived.Deep.RegionWith
import Derived.Deep.LoopGhost
import Derived.Deep.DeepCutAuto
import Derived.Deep.CutBlock
import Derived.Deep.AppendLies
import Derived.Deep.DeepMust
namespace Go.Proofs.Ytdajchppblifgaa.Rf
open Go.RowKit Go.Proofs.Ytdajchppblifgaa.Pl Go.Proofs.Ytdajchppblifgaa.Rd Go.Proofs.Ytdajchppblifgaa.Wr
set_option linter.unusedVariables false
set_option linter.unusedSimpArgs false

/-- Texts, as they lie in memory. -/
def Texts (w : World) (A : Option Addr) (n : Nat) (S : Nat → ByteArray) : Prop :=
  ∀ k, k < n → ∃ b off, A = some ⟨b, off, none⟩ ∧ b < w.heap.size ∧ w.cell? ⟨b, off + k, none⟩ = some (.string (S k))

/-- The frames of the first k texts, one behind the other. -/
def allB (S : Nat → ByteArray) : Nat → List UInt8
  | 0 => []
  | k + 1 => allB S k ++ frameB (few (S k))

theorem allB_len (S : Nat → ByteArray) (k : Nat) : (allB S k).length ≤ 608 * k := by
  induction k with
  | zero => simp [allB]
  | succ k ih =>
    have := few_size (S k)
    rw [allB, List.length_append, frameB_length]
    omega
theorem allB_split (S : Nat → ByteArray) (j k : Nat) (h : j < k) : ∃ Y, allB S k = allB S j ++ (frameB (few (S j)) ++ Y) := by
  induction k with
  | zero => omega
  | succ k ih =>
    rcases Nat.lt_or_ge j k with h1 | h1
    · obtain ⟨Y, hY⟩ := ih h1
      exact ⟨Y ++ frameB (few (S k)), by rw [allB, hY]; simp⟩
    · obtain rfl : j = k := by omega
      exact ⟨[], by simp only [allB, List.append_nil]⟩
theorem unf_at (S : Nat → ByteArray) (j k : Nat) (h : j < k) : unf (mkS (allB S k)) (allB S j).length = ⟨few (S j), ((allB S (j + 1)).length : Int), 0⟩ := by
  obtain ⟨Y, hY⟩ := allB_split S j k h
  have hs := few_size (S j)
  rw [hY, frame_taken _ _ _ (by omega)]
  rw [allB, List.length_append, frameB_length]
  rw [Un.mk.injEq]
  refine ⟨rfl, ?_, rfl⟩
  have : (few (S j)).size + 8 + (allB S j).length = (few (S j)).size + 8 + (allB S j).length := rfl
  push_cast
  omega

/-- The frames' ends. -/
def eB (S : Nat → ByteArray) (k : Nat) : List Value := (List.range (k + 1)).map fun j => Value.int .i64 ((allB S j).length : Int)
theorem eB_succ (S : Nat → ByteArray) (k : Nat) : eB S (k + 1) = eB S k ++ [Value.int .i64 ((allB S (k + 1)).length : Int)] := by
  unfold eB
  rw [List.range_succ, List.map_append]
  rfl
theorem eB_get (S : Nat → ByteArray) (k j : Nat) (h : j ≤ k) : (eB S k)[j]? = some (Value.int .i64 ((allB S j).length : Int)) := by
  unfold eB
  rw [List.getElem?_map, List.getElem?_range (by omega)]
  rfl

structure Fm (w W : World) (S : Nat → ByteArray) (k : Nat) (v : Value) : Prop where
  own : W.ownsRow w.heap.size 3 1 v (k + 1) (eB S k)
  bel : Below w.heap.size w W
theorem fm_start (w : World) (S : Nat → ByteArray) : Fm w (w.alloc (.cells #[.int .i64 0] 3)) S 0 (.slice (some ⟨w.heap.size, 0, none⟩) 1 1) :=
  ⟨World.ownsRow_lit (e := 3) (size := 1) w #[.int .i64 0] 1 (Nat.le_refl _) (by unfold maxLen; omega) rfl, (Below.refl _ _).alloc (Nat.le_refl _) _⟩
theorem own_below {W W' : World} {base : Nat} {e : TypeId} {size n C : Nat} {v : Value} {xs : List Value} (h : W.ownsRow base e size v n xs) (hb : Below C W W') (hC : W.heap.size ≤ C) : W'.ownsRow base e size v n xs :=
  h.kept (only_of_below (hb.mono hC) none) (by cases hv : v.ownBlock <;> simp)
theorem Fm.below {w W W' : World} {S : Nat → ByteArray} {k : Nat} {v : Value} (h : Fm w W S k v) (hb : Below W.heap.size W W') : Fm w W' S k v :=
  ⟨own_below h.own hb (Nat.le_refl _), h.bel.trans (hb.mono h.bel.size)⟩
theorem Fm.append {w W W' : World} {S : Nat → ByteArray} {k : Nat} {v v' : Value} (h : Fm w W S k v) (o : Obj) (hown : W'.ownsRow w.heap.size 3 1 v' (k + 1 + 1) (eB S k ++ [Value.int .i64 ((allB S (k + 1)).length : Int)])) (hg : (W.alloc o).grownBy W' v.ownBlock) : Fm w W' S (k + 1) v' := by
  have b1 : Below w.heap.size w (W.alloc o) := h.bel.alloc h.bel.size o
  exact ⟨by rw [eB_succ]; exact hown, b1.grown hg b1.size (fun g hk => (h.own.lt g hk).1)⟩

theorem one_cell (W : World) (x : Int) (t : TypeId) : ∀ j u, [Value.int .i64 x][j]? = some u → (W.alloc (.cells #[.int .i64 x] t)).cell? ((⟨W.heap.size, 0, none⟩ : Addr).add j) = some u := by
  intro j u h
  rcases j with _ | j
  · simp only [List.getElem?_cons_zero, Option.some.injEq] at h
    subst h
    have : (⟨W.heap.size, 0, none⟩ : Addr).add 0 = ⟨W.heap.size, 0, none⟩ := rfl
    rw [this, cell_of_row _ _ 0 _ t (0, 0) (heap_alloc_new W _)]
    rfl
  · simp at h
theorem one_one (x : Int) : ∀ u ∈ [Value.int .i64 x], u.oneCell' = true := by
  intro u h
  simp at h
  subst h
  rfl
theorem info3 : (Try.prog.info? 3).map (fun i => (i.zero, i.size, i.bytes)) = some (some (.int .i64 0), 1, 8) := by kernel_rfl

/-- Behind the first loop: the ends' cells. -/
structure Fn (w W : World) (S : Nat → ByteArray) (k g : Nat) : Prop where
  cell : ∀ j, j ≤ k → W.cell? ⟨g, j, none⟩ = some (.int .i64 ((allB S j).length : Int))
  lt : g < W.heap.size
  bel : Below w.heap.size w W
theorem Fm.fn {w W : World} {S : Nat → ByteArray} {k : Nat} {v : Value} (h : Fm w W S k v) : ∃ g c, v = .slice (some ⟨g, 0, none⟩) (k + 1) c ∧ Fn w W S k g := by
  obtain ⟨g, c, rfl, _, hlt⟩ := World.ownsRow.form h.own (by omega)
  exact ⟨g, c, rfl, fun j hj => by rw [h.own.cellAt j (by omega), eB_get S k j hj], hlt, h.bel⟩
theorem Fn.below {w W W' : World} {S : Nat → ByteArray} {k g : Nat} (h : Fn w W S k g) (hb : Below W.heap.size W W') : Fn w W' S k g :=
  ⟨fun j hj => (hb.cell (p := ⟨g, j, none⟩) h.lt).trans (h.cell j hj), Nat.lt_of_lt_of_le h.lt hb.size, h.bel.trans (hb.mono h.bel.size)⟩

set_option maxRecDepth 100000 in
set_option maxHeartbeats 40000000 in
theorem framed_any (A : Option Addr) (n c : Nat) (S : Nat → ByteArray) (s : ByteArray) (at_ : Int) (hn : n ≤ 9223372036854775807) (w : World) (hl : Texts w A n S) :
    Calls Try.prog 8 #[.slice A n c, .string s, .int .i64 at_] w fun e w' => e = .returned (.bool true) ∧ Below w.heap.size w w' := by
  have HL := Lib.hid hl
  clear hl
  obtain ⟨i0, hi, hz0, hz1, hz2⟩ := info_parts info3
  go_enter Try.func8, Try.ntmps8
  go_upto_block 0 with (fail)
  have hs0 := fm_start w S
  generalize (w.alloc (.cells #[.int .i64 0] 3)) = w0 at *
  have HS := Lib.hid hs0
  clear hs0
  go_cut [7, 8] (fun v u wx => ∃ k g c', v = .string (mkS (allB S k)) ∧ u = .slice (some ⟨g, 0, none⟩) (k + 1) c' ∧ k ≤ n ∧ k ≤ 6 ∧ Hid (Fn w wx S k g))
  case first =>
    as_aux_lemma =>
    go_wp2_with fail
    go_loopg [7, 8, 9] 6 (fun gq v u i wr => ∃ (k : Nat) (A' : Option Addr) (c' : Nat), i = .int .i64 k ∧ v = .string (mkS (allB S k)) ∧ u = .slice A' (k + 1) c' ∧ k ≤ n ∧ k ≤ 6 ∧ Hid (gq = 6 - k) ∧ Hid (Fm w wr S k u))
    case atStart => exact ⟨0, _, _, rfl, rfl, rfl, by omega, by omega, Lib.hid rfl, HS⟩
    case round =>
      obtain ⟨k, A', c', rfl, rfl, rfl, hkn, hk, HG, HF⟩ := hrel
      by_cases hlt : k < n ∧ k < 6
      · obtain ⟨h1, h2⟩ := hlt
        obtain ⟨b, off, rfl, hb, hx⟩ := HL.out k h1
        have hx1 : wr.cell? ⟨b, off + k, none⟩ = some (.string (S k)) := (HF.out.bel.cell (p := ⟨b, off + k, none⟩) hb).trans hx
        clear hx
        have ht := few_size (S k)
        have hF := Lib.hid (few_any (S k))
        have hA := Lib.hid (fun W => frame_any (few (S k)) (by omega) W)
        have hcat : mkS (allB S k) ++ mkS (frameB (few (S k))) = mkS (allB S (k + 1)) := mkS_append _ _
        have l1 : (mkS (allB S k)).size ≤ 4000 := by rw [mkS_size]; have := allB_len S k; omega
        have l2 : (mkS (frameB (few (S k)))).size ≤ 700 := by rw [mkS_size, frameB_length]; omega
        have l3 := mkS_size (allB S (k + 1))
        have i1 : (k : Int) < n := by omega
        have i2 : (k : Int) < 6 := by omega
        have kn : k + 1 + 1 ≤ 100 := by omega
        clear HS
        go_wp2_with (first
          | (go_at_call 17; refine (hF.out _).mono ?_; rintro e w1 ⟨rfl, rfl⟩)
          | (go_at_call 46; refine (hA.out _).mono ?_; rintro e w2 ⟨rfl, hb2⟩; have HF2 := Lib.hid (HF.out.below hb2))
          | (at_builtin; (refine wpList_append_own _ rfl _ _ 69 rfl w.heap.size 3 i0 (.int .i64 0) 1 8 Try.underlying69 hi hz0 hz1 hz2 rfl (by decide) _ _ _ rfl (HF2.out.own.alloc _) ⟨w2.heap.size, 0, none⟩ 1 1 [.int .i64 ((allB S (k + 1)).length : Int)] rfl rfl (one_cell w2 _ 3) (one_one _) (by unfold maxLen; omega) (by omega) (by have := HF2.out.bel.size; simp; omega) ?_); intro v' w3 hown3 hgr3 _; obtain ⟨A3, c3, rfl⟩ := own_form hown3; have HF3 := Lib.hid (HF2.out.append _ hown3 hgr3); clear hown3 hgr3))
        go_roundg (6 - (k + 1))
        case measure => have := HG.out; omega
        case rel => exact ⟨k + 1, A3, c3, by go_num, rfl, rfl, by omega, by omega, Lib.hid rfl, HF3⟩
      · obtain ⟨g, c2, he, hfn⟩ := HF.out.fn
        simp only [Value.slice.injEq, true_and] at he
        obtain ⟨rfl, rfl⟩ := he
        have HN := Lib.hid hfn
        clear hfn
        by_cases h1 : k < n
        · have i1 : (k : Int) < n := by omega
          have i2 : ¬ (k : Int) < 6 := by omega
          go_wp2_with fail
          go_meet
          exact ⟨k, g, _, rfl, rfl, hkn, hk, HN⟩
        · have i1 : ¬ (k : Int) < n := by omega
          go_wp2_with fail
          go_meet
          exact ⟨k, g, _, rfl, rfl, hkn, hk, HN⟩
  case rest =>
    as_aux_lemma =>
    obtain ⟨k, g, c', rfl, rfl, hkn, hk, HN⟩ := hcut
    clear HS hi hz0 hz1 hz2
    go_upto_block 2 with (fail)
    go_cut [10] (fun i wx => Hid (Fn w wx S k g))
    case first =>
      as_aux_lemma =>
      go_wp2_with fail
      go_loopg [10] k (fun gq i wr => ∃ j : Nat, i = .int .i64 j ∧ j ≤ k ∧ Hid (gq = k - j) ∧ Hid (Fn w wr S k g))
      case atStart => exact ⟨0, rfl, by omega, Lib.hid rfl, HN⟩
      case round =>
        obtain ⟨j, rfl, hj, HG, HR⟩ := hrel
        by_cases hlt : j < k
        · obtain ⟨b, off, rfl, hb, hx⟩ := HL.out j (by omega)
          have HX := Lib.hid hx
          have HB := Lib.hid hb
          clear hx hb
          have e0 := HR.out.cell j (by omega)
          have hU := fun W => unf_any (mkS (allB S k)) (allB S j).length (by rw [mkS_size]; have := allB_len S k; omega) W
          rw [unf_at S j k hlt] at hU
          have ht := few_size (S j)
          have hF := fun W => frame_any (few (S j)) (by omega) W
          have hG := fun W => refframe_any (few (S j)) (by omega) W
          have hFew := few_any (S j)
          have hle := allB_len S (j + 1)
          have hle0 := allB_len S j
          have HC := Lib.hid (fun W (h : Fn w W S k g) => h.cell (j + 1) (by omega))
          generalize few (S j) = t at *
          generalize (allB S (j + 1)).length = l1 at *
          generalize (allB S j).length = l0 at *
          generalize mkS (allB S k) = all at *
          generalize mkS (frameB t) = f at *
          have HU := Lib.hid hU
          have HF := Lib.hid hF
          have HGf := Lib.hid hG
          have HFew := Lib.hid hFew
          clear hU hF hG hFew
          have i1 : (j : Int) < k := by omega
          go_wp2_with (first
            | (go_at_call 47; refine (HU.out _).mono ?_; rintro e w1 ⟨rfl, hb1⟩; have HR1 := Lib.hid (HR.out.below hb1); have e1 := HC.out _ HR1.out; have hx1 := (HR1.out.bel.cell (p := ⟨b, off + j, none⟩) HB.out).trans HX.out)
            | (go_at_call 17; refine (HFew.out _).mono ?_; rintro e w2 ⟨rfl, rfl⟩)
            | (go_at_call 46; refine (HF.out _).mono ?_; rintro e w3 ⟨rfl, hb3⟩; have HR3 := Lib.hid (HR1.out.below hb3))
            | (go_at_call 48; refine (HGf.out _).mono ?_; rintro e w4 ⟨rfl, hb4⟩; have HR4 := Lib.hid (HR3.out.below hb4)))
          go_roundg (k - (j + 1))
          case measure => have := HG.out; omega
          case rel => exact ⟨j + 1, by go_num, by omega, Lib.hid rfl, HR4⟩
        · obtain rfl : j = k := by omega
          go_wp2_with fail
          go_meet
          exact HR
    case rest =>
      as_aux_lemma =>
      have HR := hcut
      clear hcut HN HL
      have hFew := few_any s
      have ht := few_size s
      have hl1 : (mkS (allB S k)).size ≤ 4000 := by rw [mkS_size]; have := allB_len S k; omega
      obtain ⟨u, hu⟩ : ∃ u, mkS (allB S k) ++ few s = u := ⟨_, rfl⟩
      have hus : u.size ≤ 60000 := by rw [← hu, ByteArray.size_append]; omega
      have hU := fun W => unf_any u at_ hus W
      have hV := fun W => runf_any u at_ hus W
      generalize mkS (allB S k) = all at *
      generalize few s = t at *
      generalize unf u at_ = r at *
      obtain ⟨rt, rn, re⟩ := r
      have HU := Lib.hid hU
      have HV := Lib.hid hV
      have HF := Lib.hid hFew
      clear hU hV hFew hus
      go_wp2_with (first
        | (go_at_call 17; refine (HF.out _).mono ?_; rintro e w2 ⟨rfl, rfl⟩)
        | (go_at_call 47; refine (HU.out _).mono ?_; rintro e w3 ⟨rfl, hb3⟩; have HR3 := Lib.hid (HR.out.below hb3))
        | (go_at_call 49; refine (HV.out _).mono ?_; rintro e w4 ⟨rfl, hb4⟩; have HR4 := Lib.hid (HR3.out.below hb4))
        | (go_at_call 14; refine (awake_any _).mono ?_; rintro e w5 ⟨rfl, hb5⟩; have HR5 := Lib.hid (HR4.out.below hb5)))
      go_ret
      exact ⟨rfl, HR5.out.bel⟩

end Go.Proofs.Ytdajchppblifgaa.Rf
