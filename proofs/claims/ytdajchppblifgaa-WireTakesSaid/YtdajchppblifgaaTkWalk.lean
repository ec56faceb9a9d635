/- WireTakes' walk. -/
import Derived.Test.YtdajchppblifgaaRv
import Derived.Deep.RegionWith
import Derived.Deep.LoopGhost
import Derived.Deep.DeepCutAuto
import Derived.Deep.CutBlock
namespace Go.Proofs.Ytdajchppblifgaa.Rf
open Go.RowKit Go.Proofs.Ytdajchppblifgaa.Pl Go.Proofs.Ytdajchppblifgaa.Rd Go.Proofs.Ytdajchppblifgaa.Wr
set_option linter.unusedVariables false
set_option linter.unusedSimpArgs false

/-- The reference's reader lies at block g. -/
def Qd (w : World) (g : Nat) (r : R) : Prop := w.heap[g]? = some (.cells #[.string r.s, .int .i64 r.t, .int .i64 r.e] 39 (0, 0))

/-- Behind some takes: both readers are the same. -/
def Tk (w0 w : World) (g q : Nat) (r : R) : Prop := Rd w g r ∧ Qd w q r ∧ Below w0.heap.size w0 w ∧ r.Ok

/-- What is taken, as it lies in memory. -/
def Takes (w : World) (A : Option Addr) (n : Nat) : Prop :=
  ∀ k, k < n → ∃ b off x y, A = some ⟨b, off, none⟩ ∧ b < w.heap.size ∧ w.cell? ⟨b, off + k * 2, none⟩ = some (.int .i64 x) ∧ w.cell? ⟨b, off + k * 2 + 1, none⟩ = some (.int .i64 y) ∧ y ≤ 9223372036854775807

theorem takes_start (w : World) (t : ByteArray) (ht : t.size ≤ 600) :
    Tk w ((w.alloc (.cells #[.string t, .int .i64 0, .int .i64 0] 91)).alloc (.cells #[.string t, .int .i64 0, .int .i64 0] 39)) w.heap.size (w.heap.size + 1) ⟨t, 0, 0⟩ := by
  refine ⟨(rd_new t w).alloc _, ?_, below2 _ _ _, ⟨by simp, by simp; omega, by simp, by simp⟩⟩
  have h := heap_alloc_new (w.alloc (.cells #[.string t, .int .i64 0, .int .i64 0] 91)) (.cells #[.string t, .int .i64 0, .int .i64 0] 39)
  rw [show (w.alloc (.cells #[.string t, .int .i64 0, .int .i64 0] 91)).heap.size = w.heap.size + 1 by simp] at h
  exact h

theorem Tk.drewN {w0 w : World} {g q : Nat} {r : R} (h : Tk w0 w g q r) (n : Nat) : Tk w0 (w.drewN n) g q r := ⟨h.1, h.2.1, ⟨h.2.2.1.os, h.2.2.1.tape, h.2.2.1.output, h.2.2.1.size, h.2.2.1.block⟩, h.2.2.2⟩
theorem Qd.cell {w : World} {g : Nat} {r : R} (h : Qd w g r) (i : Nat) : w.cell? ⟨g, i, none⟩ = #[Value.string r.s, .int .i64 r.t, .int .i64 r.e][i]? := cell_of_row w g i _ 39 (0, 0) h
theorem Qd.c0 {w : World} {g : Nat} {r : R} (h : Qd w g r) : w.cell? ⟨g, 0, none⟩ = some (.string r.s) := h.cell 0
theorem Qd.c1 {w : World} {g : Nat} {r : R} (h : Qd w g r) : w.cell? ⟨g, 1, none⟩ = some (.int .i64 r.t) := h.cell 1
theorem Qd.c2 {w : World} {g : Nat} {r : R} (h : Qd w g r) : w.cell? ⟨g, 2, none⟩ = some (.int .i64 r.e) := h.cell 2
theorem Qd.fz {w : World} {g : Nat} {r : R} (h : Qd w g r) (i : Nat) : w.frozen? ⟨g, i, none⟩ = false := by
  unfold Qd at h
  simp [World.frozen?, h]

theorem Qd.below {w w' : World} {g : Nat} {r : R} {B : Nat} (h : Qd w g r) (hb : Below B w w') (hg : g < B) : Qd w' g r := (hb.block g hg).trans h
theorem Qd.alloc {w : World} {g : Nat} {r : R} (h : Qd w g r) (o : Obj) : Qd (w.alloc o) g r := (Below.heap_alloc w o g (blk_lt h)).trans h
theorem Qd.grown {w w' : World} {g : Nat} {r : R} {row : Option Nat} (h : Qd w g r) (hb : w.grownBy w' row) (hg : some g ≠ row) : Qd w' g r := (hb.block g (blk_lt h) hg).trans h
theorem undrew {a w : World} {row : Option Nat} (h : a.drew.grownBy w row) : a.grownBy w row := ⟨h.os, h.tape, h.output, h.size, h.block⟩
theorem tk_facts {wA w2 : World} {g k : Nat} {r r2 : R} (hq : Qd wA (g + 1) r) (hk : Qd wA k r2) (hg : wA.grownBy w2 (some g)) (hne : some k ≠ some g) :
    (w2.cell? ⟨g + 1, 0, none⟩ = some (.string r.s) ∧ w2.cell? ⟨g + 1, 1, none⟩ = some (.int .i64 r.t) ∧ w2.cell? ⟨g + 1, 2, none⟩ = some (.int .i64 r.e) ∧ w2.frozen? ⟨g + 1, 0, none⟩ = false ∧ w2.frozen? ⟨g + 1, 1, none⟩ = false ∧ w2.frozen? ⟨g + 1, 2, none⟩ = false) ∧
    (w2.cell? ⟨k, 0, none⟩ = some (.string r2.s) ∧ w2.cell? ⟨k, 1, none⟩ = some (.int .i64 r2.t) ∧ w2.cell? ⟨k, 2, none⟩ = some (.int .i64 r2.e)) := by
  have h1 := hq.grown hg (by simp)
  have h2 := hk.grown hg hne
  exact ⟨⟨h1.c0, h1.c1, h1.c2, h1.fz 0, h1.fz 1, h1.fz 2⟩, h2.c0, h2.c1, h2.c2⟩

theorem tk_q {wA w2 : World} {g : Nat} {r : R} (hq : Qd wA (g + 1) r) (hg : wA.grownBy w2 (some g)) :
    w2.cell? ⟨g + 1, 0, none⟩ = some (.string r.s) ∧ w2.cell? ⟨g + 1, 1, none⟩ = some (.int .i64 r.t) ∧ w2.cell? ⟨g + 1, 2, none⟩ = some (.int .i64 r.e) ∧ w2.frozen? ⟨g + 1, 0, none⟩ = false ∧ w2.frozen? ⟨g + 1, 1, none⟩ = false ∧ w2.frozen? ⟨g + 1, 2, none⟩ = false := by
  have h1 := hq.grown hg (by simp)
  exact ⟨h1.c0, h1.c1, h1.c2, h1.fz 0, h1.fz 1, h1.fz 2⟩
theorem tk_keep {w2 : World} {g k : Nat} {r2 : R} (hne : k ≠ g + 1) (k0 : w2.cell? ⟨k, 0, none⟩ = some (.string r2.s)) (k1 : w2.cell? ⟨k, 1, none⟩ = some (.int .i64 r2.t)) (k2 : w2.cell? ⟨k, 2, none⟩ = some (.int .i64 r2.e)) (a b c : Value) :
    (((w2.setCell ⟨g + 1, 0, none⟩ a).setCell ⟨g + 1, 1, none⟩ b).setCell ⟨g + 1, 2, none⟩ c).cell? ⟨k, 0, none⟩ = some (.string r2.s) ∧
    (((w2.setCell ⟨g + 1, 0, none⟩ a).setCell ⟨g + 1, 1, none⟩ b).setCell ⟨g + 1, 2, none⟩ c).cell? ⟨k, 1, none⟩ = some (.int .i64 r2.t) ∧
    (((w2.setCell ⟨g + 1, 0, none⟩ a).setCell ⟨g + 1, 1, none⟩ b).setCell ⟨g + 1, 2, none⟩ c).cell? ⟨k, 2, none⟩ = some (.int .i64 r2.e) := by
  have h : ∀ i, (((w2.setCell ⟨g + 1, 0, none⟩ a).setCell ⟨g + 1, 1, none⟩ b).setCell ⟨g + 1, 2, none⟩ c).cell? ⟨k, i, none⟩ = w2.cell? ⟨k, i, none⟩ := fun i => by
    refine World.cell?_of_block ?_
    show (((w2.setCell ⟨g + 1, 0, none⟩ a).setCell ⟨g + 1, 1, none⟩ b).setCell ⟨g + 1, 2, none⟩ c).heap[k]? = _
    rw [Below.heap_setCell _ _ _ _ hne, Below.heap_setCell _ _ _ _ hne, Below.heap_setCell _ _ _ _ hne]
  exact ⟨(h 0).trans k0, (h 1).trans k1, (h 2).trans k2⟩
theorem and3 (y : Int) : 0 ≤ bits .and .i64 y 3 ∧ bits .and .i64 y 3 ≤ 3 := by
  have h : (BitVec.ofInt 64 y &&& BitVec.ofInt 64 3).toNat ≤ 3 := by
    rw [BitVec.toNat_and]
    exact Nat.le_trans Nat.and_le_right (by decide)
  have e : bits .and .i64 y 3 = IntKind.i64.wrap (((BitVec.ofInt 64 y &&& BitVec.ofInt 64 3).toNat : Nat) : Int) := rfl
  rw [e, IntKind.wrap_i64]
  omega
theorem Rd.far {w : World} {g : Nat} {r : R} (h : Rd w g r) {p : Addr} (hp : g ≠ p.block) (u : Value) : Rd (w.setCell p u) g r := (Below.heap_setCell w p u g hp).trans h
theorem Qd.set3 {w : World} {g : Nat} {r : R} (h : Qd w g r) (r2 : R) :
    Qd (((w.setCell ⟨g, 0, none⟩ (.string r2.s)).setCell ⟨g, 1, none⟩ (.int .i64 r2.t)).setCell ⟨g, 2, none⟩ (.int .i64 r2.e)) g r2 := by
  unfold Qd at h ⊢
  simp [World.setCell, Array.getElem?_modify, h]

theorem Tk.step {w wr w1 w2 : World} {r r2 : R} (h : Tk w wr w.heap.size (w.heap.size + 1) r) (hb1 : Below wr.heap.size wr w1) (o : Obj) (hg2 : (w1.alloc o).grownBy w2 (some w.heap.size)) (hr2 : Rd w2 w.heap.size r2) (ok : r2.Ok) :
    Tk w (((w2.setCell ⟨w.heap.size + 1, 0, none⟩ (.string r2.s)).setCell ⟨w.heap.size + 1, 1, none⟩ (.int .i64 r2.t)).setCell ⟨w.heap.size + 1, 2, none⟩ (.int .i64 r2.e)) w.heap.size (w.heap.size + 1) r2 := by
  obtain ⟨hr, hq, hb, _⟩ := h
  have hq2 : Qd w2 (w.heap.size + 1) r := ((hq.below hb1 (blk_lt hq)).alloc o).grown hg2 (by simp)
  have z1 := hb.size
  have z2 := hb1.size
  have b1 : Below w.heap.size w (w1.alloc o) := (hb.trans (hb1.mono z1)).alloc (by omega) o
  have b2 : Below w.heap.size w w2 := b1.grown hg2 b1.size (fun k hk => by injection hk with hk; omega)
  refine ⟨?_, hq2.set3 r2, ?_, ok⟩
  · exact Rd.far (Rd.far (Rd.far hr2 (by simp) _) (by simp) _) (by simp) _
  · exact ((b2.setCell (p := ⟨w.heap.size + 1, 0, none⟩) (by simp) _).setCell (p := ⟨w.heap.size + 1, 1, none⟩) (by simp) _).setCell (p := ⟨w.heap.size + 1, 2, none⟩) (by simp) _

theorem Tk.fails {w wr w1 w2 : World} {r : R} (h : Tk w wr w.heap.size (w.heap.size + 1) r) (hg1 : wr.grownBy w1 (some w.heap.size)) (r3 : R)
    (hg2 : (((w1.setCell ⟨w.heap.size + 1, 0, none⟩ (.string r3.s)).setCell ⟨w.heap.size + 1, 1, none⟩ (.int .i64 r3.t)).setCell ⟨w.heap.size + 1, 2, none⟩ (.int .i64 r3.e)).grownBy w2 (some w.heap.size)) (hr2 : Rd w2 w.heap.size r3) (ok : r3.Ok) :
    Tk w w2 w.heap.size (w.heap.size + 1) r3 := by
  obtain ⟨hr, hq, hb, _⟩ := h
  have hq1 := (hq.grown hg1 (by simp)).set3 r3
  have z1 := hb.size
  have b1 : Below w.heap.size w w1 := hb.grown hg1 z1 (fun k hk => by injection hk with hk; omega)
  have b2 := ((b1.setCell (p := ⟨w.heap.size + 1, 0, none⟩) (by simp) (.string r3.s)).setCell (p := ⟨w.heap.size + 1, 1, none⟩) (by simp) (.int .i64 r3.t)).setCell (p := ⟨w.heap.size + 1, 2, none⟩) (by simp) (.int .i64 r3.e)
  exact ⟨hr2, hq1.grown hg2 (by simp), b2.grown hg2 b2.size (fun k hk => by injection hk with hk; omega), ok⟩
theorem Tk.stays {w wr w1 w2 : World} {r : R} (h : Tk w wr w.heap.size (w.heap.size + 1) r) (hg1 : wr.grownBy w1 (some w.heap.size)) (hg2 : w1.grownBy w2 (some w.heap.size)) (hr2 : Rd w2 w.heap.size r) :
    Tk w w2 w.heap.size (w.heap.size + 1) r := by
  obtain ⟨hr, hq, hb, ok⟩ := h
  have hg := only_trans hg1 hg2
  exact ⟨hr2, hq.grown hg (by simp), hb.grown hg hb.size (fun k hk => by injection hk with hk; omega), ok⟩

theorem field2 (W : World) (s : ByteArray) (t e : Int) : (Instr.field 39 (.agg #[.string s, .int .i64 t, .int .i64 e]) 2).run Try.prog W = .ok (.int .i64 e) W := by kernel_rfl
theorem field0 (W : World) (s : ByteArray) (t e : Int) : (Instr.field 39 (.agg #[.string s, .int .i64 t, .int .i64 e]) 0).run Try.prog W = .ok (.string s) W := by kernel_rfl
/-- At the end: the reader may have been ended, the reference's lies as it was. -/
structure St (w W : World) (r ρ : R) : Prop where
  rd : Rd W w.heap.size ρ
  qd : Qd W (w.heap.size + 1) r
  bel : Below w.heap.size w W
theorem St.q {w W : World} {r ρ : R} (h : St w W r ρ) : W.cell? ⟨w.heap.size + 1, 0, none⟩ = some (.string r.s) ∧ W.cell? ⟨w.heap.size + 1, 1, none⟩ = some (.int .i64 r.t) ∧ W.cell? ⟨w.heap.size + 1, 2, none⟩ = some (.int .i64 r.e) := ⟨h.qd.c0, h.qd.c1, h.qd.c2⟩
theorem St.below {w W W' : World} {r ρ : R} (h : St w W r ρ) (hb : Below W.heap.size W W') : St w W' r ρ :=
  ⟨h.rd.below hb h.rd.lt, h.qd.below hb (blk_lt h.qd), h.bel.trans (hb.mono h.bel.size)⟩
theorem St.ends {w W W' : World} {r ρ : R} (h : St w W r r) (hr : Rd W' w.heap.size ρ) (hg : W.grownBy W' (some w.heap.size)) : St w W' r ρ :=
  ⟨hr, h.qd.grown hg (by simp), h.bel.grown hg h.bel.size (fun k hk => by injection hk with hk; omega)⟩
theorem Tk.st {w W : World} {r : R} (h : Tk w W w.heap.size (w.heap.size + 1) r) : St w W.drew r r := ⟨h.1, h.2.1, h.2.2.1.drew⟩

set_option maxRecDepth 100000 in
set_option maxHeartbeats 40000000 in
theorem takes_any (s : ByteArray) (A : Option Addr) (n c : Nat) (hn : n ≤ 9223372036854775807) (w : World) (hl : Takes w A n) :
    Calls Try.prog 5 #[.string s, .slice A n c] w fun e w' => e = .returned (.bool true) ∧ Below w.heap.size w w' := by
  have HL := Lib.hid hl
  clear hl
  obtain ⟨t, HT⟩ : ∃ t, Hid (t = few s) := ⟨_, Lib.hid rfl⟩
  have ht : t.size ≤ 600 := by rw [HT.out]; exact few_size s
  have hF := few_any s
  rw [← HT.out] at hF
  have hF := Lib.hid hF
  go_enter Try.func5, Try.ntmps5
  go_upto_block 0 with (first
    | (go_at_call 17; refine (hF.out _).mono ?_; rintro e w1 ⟨rfl, rfl⟩)
    | (go_at_call 12; refine (newReader_any t _).mono ?_; rintro e w2 ⟨rfl, rfl⟩))
  have hs0 := takes_start w t ht
  generalize ((w.alloc (.cells #[.string t, .int .i64 0, .int .i64 0] 91)).alloc (.cells #[.string t, .int .i64 0, .int .i64 0] 39)) = w0 at *
  have HS := Lib.hid hs0
  clear hs0
  go_cut [7] (fun i wx => ∃ r : R, Hid (Tk w wx w.heap.size (w.heap.size + 1) r))
  case first =>
    go_wp2_with fail
    go_loopg [7] 30 (fun gq i wr => ∃ (k : Nat) (r : R), i = .int .i64 k ∧ k ≤ 30 ∧ Hid (gq = 30 - k) ∧ Hid (Tk w wr w.heap.size (w.heap.size + 1) r))
    case atStart => exact ⟨0, _, rfl, by omega, Lib.hid rfl, HS⟩
    case round =>
      obtain ⟨k, r, rfl, hk, HG, HT⟩ := hrel
      by_cases hlt : k < n ∧ k < 30
      · obtain ⟨h1, h2⟩ := hlt
        obtain ⟨b, off, x, y, rfl, hb, hx, hy, hym⟩ := HL.out k h1
        have hB := HT.out.2.2.1
        have hx1 : wr.cell? ⟨b, off + k * 2, none⟩ = some (.int .i64 x) := (hB.cell (p := ⟨b, off + k * 2, none⟩) hb).trans hx
        have hy1 : wr.cell? ⟨b, off + k * 2 + 1, none⟩ = some (.int .i64 y) := (hB.cell (p := ⟨b, off + k * 2 + 1, none⟩) hb).trans hy
        clear hx hy
        have i1 : (k : Int) < n := by omega
        have i2 : (k : Int) < 30 := by omega
        go_upto_block 2 with (fail)
        go_cut [9] (fun s wx => ∃ r : R, s = .bool true ∧ Hid (Tk w wx w.heap.size (w.heap.size + 1) r))
        case first =>
          have hr := Lib.hid HT.out.1
          have hok := HT.out.2.2.2
          have q0 := HT.out.2.1.c0
          have q1 := HT.out.2.1.c1
          have q2 := HT.out.2.1.c2
          clear hx1 hy1
          by_cases x1 : x = 1
          · as_aux_lemma =>
              subst x1
              have hq := fun W => rnum_any r y hok W
              have hw := fun W h => num_any w.heap.size r y W h hok
              have ok2 := hok.num y
              unfold agg at hq
              generalize r.numR y = r2 at *
              generalize r.numV y = v at *
              have Hq := Lib.hid hq
              have Hw := Lib.hid hw
              have Ok2 := Lib.hid ok2
              clear hq hw ok2
              go_wp2_with (first | (go_at_call 20; refine (Hq.out _).mono ?_; rintro en w1 ⟨rfl, hb1⟩))
              have hrA : Rd (w1.alloc (.cells #[.string r2.s, .int .i64 r2.t, .int .i64 r2.e] 39)) w.heap.size r := (hr.out.below hb1 hr.out.lt).alloc _
              have hqA : Qd (w1.alloc (.cells #[.string r2.s, .int .i64 r2.t, .int .i64 r2.e] 39)) (w.heap.size + 1) r := (HT.out.2.1.below hb1 (blk_lt HT.out.2.1)).alloc _
              have hkA : Qd (w1.alloc (.cells #[.string r2.s, .int .i64 r2.t, .int .i64 r2.e] 39)) w1.heap.size r2 := heap_alloc_new w1 _
              have hne : some w1.heap.size ≠ some w.heap.size := by have h1 := hr.out.lt; have h2 := hb1.size; simp; omega
              have hne2 : Hid (w1.heap.size ≠ w.heap.size + 1) := Lib.hid (by have h1 := blk_lt HT.out.2.1; have h2 := hb1.size; omega)
              have HA := Lib.hid hrA
              have HQ := Lib.hid hqA
              have HK := Lib.hid hkA
              have HN := Lib.hid hne
              clear hrA hqA hkA hne
              go_region_held3 (fun W => W.cell? ⟨w1.heap.size, 0, none⟩ = some (.string r2.s) ∧ W.cell? ⟨w1.heap.size, 1, none⟩ = some (.int .i64 r2.t) ∧ W.cell? ⟨w1.heap.size, 2, none⟩ = some (.int .i64 r2.e)) (first | exact ⟨HK.out.c0, HK.out.c1, HK.out.c2⟩ | exact ⟨k0', k1', k2'⟩ | exact tk_keep hne2.out k0' k1' k2' _ _ _) (first | (go_at_call 13; refine (Hw.out _ (by exact HA.out)).mono ?_; rintro en w2 ⟨rfl, hr2, hg2⟩; obtain ⟨⟨q0', q1', q2', g0', g1', g2'⟩, ⟨k0', k1', k2'⟩⟩ := tk_facts HQ.out HK.out (undrew hg2) HN.out))
              all_goals
                go_wp2_with fail
                go_meet
                exact ⟨r2, rfl, Lib.hid (HT.out.step hb1 _ (undrew hg2) hr2 Ok2.out)⟩
          have x1' : (x == 1) = false := by simpa using x1
          clear x1
          by_cases x2 : x = 2
          · as_aux_lemma =>
              subst x2
              have hq := fun W => rcount_any r y hym hok W
              have hw := fun W h => count_any w.heap.size r y hym W h hok
              have ok2 := hok.count y
              unfold agg at hq
              generalize r.countR y = r2 at *
              generalize r.countV y = v at *
              have Hq := Lib.hid hq
              have Hw := Lib.hid hw
              have Ok2 := Lib.hid ok2
              clear hq hw ok2
              go_wp2_with (first | (go_at_call 21; refine (Hq.out _).mono ?_; rintro en w1 ⟨rfl, hb1⟩))
              have hrA : Rd (w1.alloc (.cells #[.string r2.s, .int .i64 r2.t, .int .i64 r2.e] 39)) w.heap.size r := (hr.out.below hb1 hr.out.lt).alloc _
              have hqA : Qd (w1.alloc (.cells #[.string r2.s, .int .i64 r2.t, .int .i64 r2.e] 39)) (w.heap.size + 1) r := (HT.out.2.1.below hb1 (blk_lt HT.out.2.1)).alloc _
              have hkA : Qd (w1.alloc (.cells #[.string r2.s, .int .i64 r2.t, .int .i64 r2.e] 39)) w1.heap.size r2 := heap_alloc_new w1 _
              have hne : some w1.heap.size ≠ some w.heap.size := by have h1 := hr.out.lt; have h2 := hb1.size; simp; omega
              have hne2 : Hid (w1.heap.size ≠ w.heap.size + 1) := Lib.hid (by have h1 := blk_lt HT.out.2.1; have h2 := hb1.size; omega)
              have HA := Lib.hid hrA
              have HQ := Lib.hid hqA
              have HK := Lib.hid hkA
              have HN := Lib.hid hne
              clear hrA hqA hkA hne
              go_region_held3 (fun W => W.cell? ⟨w1.heap.size, 0, none⟩ = some (.string r2.s) ∧ W.cell? ⟨w1.heap.size, 1, none⟩ = some (.int .i64 r2.t) ∧ W.cell? ⟨w1.heap.size, 2, none⟩ = some (.int .i64 r2.e)) (first | exact ⟨HK.out.c0, HK.out.c1, HK.out.c2⟩ | exact ⟨k0', k1', k2'⟩ | exact tk_keep hne2.out k0' k1' k2' _ _ _) (first | (go_at_call 22; refine (Hw.out _ (by exact HA.out)).mono ?_; rintro en w2 ⟨rfl, hr2, hg2⟩; obtain ⟨⟨q0', q1', q2', g0', g1', g2'⟩, ⟨k0', k1', k2'⟩⟩ := tk_facts HQ.out HK.out (undrew hg2) HN.out))
              all_goals
                go_wp2_with fail
                go_meet
                exact ⟨r2, rfl, Lib.hid (HT.out.step hb1 _ (undrew hg2) hr2 Ok2.out)⟩
          have x2' : (x == 2) = false := by simpa using x2
          clear x2
          by_cases x3 : x = 3
          · as_aux_lemma =>
              subst x3
              have hq := fun W => rtext_any r y hym hok W
              have hw := fun W h => text_any w.heap.size r y hym W h hok
              have ok2 := hok.text y
              unfold agg at hq
              generalize r.textR y = r2 at *
              generalize r.textV y = v at *
              have Hq := Lib.hid hq
              have Hw := Lib.hid hw
              have Ok2 := Lib.hid ok2
              clear hq hw ok2
              go_wp2_with (first | (go_at_call 23; refine (Hq.out _).mono ?_; rintro en w1 ⟨rfl, hb1⟩))
              have hrA : Rd (w1.alloc (.cells #[.string r2.s, .int .i64 r2.t, .int .i64 r2.e] 39)) w.heap.size r := (hr.out.below hb1 hr.out.lt).alloc _
              have hqA : Qd (w1.alloc (.cells #[.string r2.s, .int .i64 r2.t, .int .i64 r2.e] 39)) (w.heap.size + 1) r := (HT.out.2.1.below hb1 (blk_lt HT.out.2.1)).alloc _
              have hkA : Qd (w1.alloc (.cells #[.string r2.s, .int .i64 r2.t, .int .i64 r2.e] 39)) w1.heap.size r2 := heap_alloc_new w1 _
              have hne : some w1.heap.size ≠ some w.heap.size := by have h1 := hr.out.lt; have h2 := hb1.size; simp; omega
              have hne2 : Hid (w1.heap.size ≠ w.heap.size + 1) := Lib.hid (by have h1 := blk_lt HT.out.2.1; have h2 := hb1.size; omega)
              have HA := Lib.hid hrA
              have HQ := Lib.hid hqA
              have HK := Lib.hid hkA
              have HN := Lib.hid hne
              clear hrA hqA hkA hne
              go_region_held3 (fun W => W.cell? ⟨w1.heap.size, 0, none⟩ = some (.string r2.s) ∧ W.cell? ⟨w1.heap.size, 1, none⟩ = some (.int .i64 r2.t) ∧ W.cell? ⟨w1.heap.size, 2, none⟩ = some (.int .i64 r2.e)) (first | exact ⟨HK.out.c0, HK.out.c1, HK.out.c2⟩ | exact ⟨k0', k1', k2'⟩ | exact tk_keep hne2.out k0' k1' k2' _ _ _) (first | (go_at_call 24; refine (Hw.out _ (by exact HA.out)).mono ?_; rintro en w2 ⟨rfl, hr2, hg2⟩; obtain ⟨⟨q0', q1', q2', g0', g1', g2'⟩, ⟨k0', k1', k2'⟩⟩ := tk_facts HQ.out HK.out (undrew hg2) HN.out))
              all_goals
                go_wp2_with fail
                go_meet
                exact ⟨r2, rfl, Lib.hid (HT.out.step hb1 _ (undrew hg2) hr2 Ok2.out)⟩
          have x3' : (x == 3) = false := by simpa using x3
          clear x3
          by_cases x4 : x = 4
          · as_aux_lemma =>
              subst x4
              have hq := fun W => rbytes_any r 32 hok W
              have hw := fun W h => hash_any w.heap.size r W h hok
              have ok2 := hok.bytes 32
              unfold agg at hq
              generalize r.bytesR 32 = r2 at *
              generalize r.bytesV 32 = v at *
              have Hq := Lib.hid hq
              have Hw := Lib.hid hw
              have Ok2 := Lib.hid ok2
              clear hq hw ok2
              go_wp2_with (first | (go_at_call 25; refine (Hq.out _).mono ?_; rintro en w1 ⟨rfl, hb1⟩))
              have hrA : Rd (w1.alloc (.cells #[.string r2.s, .int .i64 r2.t, .int .i64 r2.e] 39)) w.heap.size r := (hr.out.below hb1 hr.out.lt).alloc _
              have hqA : Qd (w1.alloc (.cells #[.string r2.s, .int .i64 r2.t, .int .i64 r2.e] 39)) (w.heap.size + 1) r := (HT.out.2.1.below hb1 (blk_lt HT.out.2.1)).alloc _
              have hkA : Qd (w1.alloc (.cells #[.string r2.s, .int .i64 r2.t, .int .i64 r2.e] 39)) w1.heap.size r2 := heap_alloc_new w1 _
              have hne : some w1.heap.size ≠ some w.heap.size := by have h1 := hr.out.lt; have h2 := hb1.size; simp; omega
              have hne2 : Hid (w1.heap.size ≠ w.heap.size + 1) := Lib.hid (by have h1 := blk_lt HT.out.2.1; have h2 := hb1.size; omega)
              have HA := Lib.hid hrA
              have HQ := Lib.hid hqA
              have HK := Lib.hid hkA
              have HN := Lib.hid hne
              clear hrA hqA hkA hne
              go_region_held3 (fun W => W.cell? ⟨w1.heap.size, 0, none⟩ = some (.string r2.s) ∧ W.cell? ⟨w1.heap.size, 1, none⟩ = some (.int .i64 r2.t) ∧ W.cell? ⟨w1.heap.size, 2, none⟩ = some (.int .i64 r2.e)) (first | exact ⟨HK.out.c0, HK.out.c1, HK.out.c2⟩ | exact ⟨k0', k1', k2'⟩ | exact tk_keep hne2.out k0' k1' k2' _ _ _) (first | (go_at_call 26; refine (Hw.out _ (by exact HA.out)).mono ?_; rintro en w2 ⟨rfl, hr2, hg2⟩; obtain ⟨⟨q0', q1', q2', g0', g1', g2'⟩, ⟨k0', k1', k2'⟩⟩ := tk_facts HQ.out HK.out (undrew hg2) HN.out))
              all_goals
                go_wp2_with fail
                go_meet
                exact ⟨r2, rfl, Lib.hid (HT.out.step hb1 _ (undrew hg2) hr2 Ok2.out)⟩
          have x4' : (x == 4) = false := by simpa using x4
          clear x4
          by_cases x5 : x = 5
          · as_aux_lemma =>
              subst x5
              have hq := fun W => rbool_any r hok W
              have hw := fun W h => bool_any w.heap.size r W h hok
              have ok2 := hok.bool
              unfold agg at hq
              generalize r.boolR = r2 at *
              generalize r.boolV = v at *
              have Hq := Lib.hid hq
              have Hw := Lib.hid hw
              have Ok2 := Lib.hid ok2
              clear hq hw ok2
              go_wp2_with (first | (go_at_call 27; refine (Hq.out _).mono ?_; rintro en w1 ⟨rfl, hb1⟩))
              have hrA : Rd (w1.alloc (.cells #[.string r2.s, .int .i64 r2.t, .int .i64 r2.e] 39)) w.heap.size r := (hr.out.below hb1 hr.out.lt).alloc _
              have hqA : Qd (w1.alloc (.cells #[.string r2.s, .int .i64 r2.t, .int .i64 r2.e] 39)) (w.heap.size + 1) r := (HT.out.2.1.below hb1 (blk_lt HT.out.2.1)).alloc _
              have hkA : Qd (w1.alloc (.cells #[.string r2.s, .int .i64 r2.t, .int .i64 r2.e] 39)) w1.heap.size r2 := heap_alloc_new w1 _
              have hne : some w1.heap.size ≠ some w.heap.size := by have h1 := hr.out.lt; have h2 := hb1.size; simp; omega
              have hne2 : Hid (w1.heap.size ≠ w.heap.size + 1) := Lib.hid (by have h1 := blk_lt HT.out.2.1; have h2 := hb1.size; omega)
              have HA := Lib.hid hrA
              have HQ := Lib.hid hqA
              have HK := Lib.hid hkA
              have HN := Lib.hid hne
              clear hrA hqA hkA hne
              go_region_held3 (fun W => W.cell? ⟨w1.heap.size, 0, none⟩ = some (.string r2.s) ∧ W.cell? ⟨w1.heap.size, 1, none⟩ = some (.int .i64 r2.t) ∧ W.cell? ⟨w1.heap.size, 2, none⟩ = some (.int .i64 r2.e)) (first | exact ⟨HK.out.c0, HK.out.c1, HK.out.c2⟩ | exact ⟨k0', k1', k2'⟩ | exact tk_keep hne2.out k0' k1' k2' _ _ _) (first | (go_at_call 28; refine (Hw.out _ (by exact HA.out)).mono ?_; rintro en w2 ⟨rfl, hr2, hg2⟩; obtain ⟨⟨q0', q1', q2', g0', g1', g2'⟩, ⟨k0', k1', k2'⟩⟩ := tk_facts HQ.out HK.out (undrew hg2) HN.out))
              all_goals
                go_wp2_with fail
                go_meet
                exact ⟨r2, rfl, Lib.hid (HT.out.step hb1 _ (undrew hg2) hr2 Ok2.out)⟩
          have x5' : (x == 5) = false := by simpa using x5
          clear x5
          by_cases x6 : x = 6
          · as_aux_lemma =>
              subst x6
              obtain ⟨d0, d3⟩ := and3 y
              have f0 := HT.out.2.1.fz 0
              have f1 := HT.out.2.1.fz 1
              have f2 := HT.out.2.1.fz 2
              obtain ⟨d, hd⟩ : ∃ d, bits .and .i64 y 3 + 1 = d := ⟨_, rfl⟩
              have hf1 := fun W h => fail_any w.heap.size r d W h
              have hf2 := fun W h => fail_any w.heap.size (r.fail d) 0 W h
              have e2 : (r.fail d).fail 0 = r.fail d := by simp [R.fail]
              rw [e2] at hf2
              have okd := hok.fail d (by omega) (by omega)
              by_cases he : r.e = 0
              · have e3 : r.fail d = ⟨ByteArray.empty, r.t, d⟩ := by simp [R.fail, he]; omega
                rw [e3] at hf1 hf2 okd
                rw [he] at q2
                have hf1 := Lib.hid hf1
                have hf2 := Lib.hid hf2
                have HE := Lib.hid he
                have okd := Lib.hid okd
                clear e2 e3 he
                go_wp2_with (first | (go_at_call_of 29 d; refine (hf1.out _ hr.out).mono ?_; rintro en w1 ⟨rfl, hr1, hg1⟩; obtain ⟨p0, p1, p2, s0, s1, s2⟩ := tk_q HT.out.2.1 hg1; rw [HE.out] at p2; clear q0 q1 q2 f0 f1 f2) | (go_at_call 29; refine (hf2.out _ (by first | exact hr1 | exact Rd.far (Rd.far (Rd.far hr1 (by simp) _) (by simp) _) (by simp) _)).mono ?_; rintro en w2 ⟨rfl, hr2, hg2⟩))
                go_meet
                exact ⟨⟨ByteArray.empty, r.t, d⟩, rfl, Lib.hid (HT.out.fails hg1 ⟨ByteArray.empty, r.t, d⟩ hg2 hr2 okd.out)⟩
              · have e3 : r.fail d = r := by simp [R.fail, he]
                rw [e3] at hf1 hf2
                have hne : (r.e == 0) = false := by simpa using he
                have hf1 := Lib.hid hf1
                have hf2 := Lib.hid hf2
                clear e2 e3 he
                go_wp2_with (first | (go_at_call_of 29 d; refine (hf1.out _ hr.out).mono ?_; rintro en w1 ⟨rfl, hr1, hg1⟩; obtain ⟨p0, p1, p2, s0, s1, s2⟩ := tk_q HT.out.2.1 hg1; clear q0 q1 q2 f0 f1 f2) | (go_at_call 29; refine (hf2.out _ hr1).mono ?_; rintro en w2 ⟨rfl, hr2, hg2⟩))
                go_meet
                exact ⟨r, rfl, Lib.hid (HT.out.stays hg1 hg2 hr2)⟩
          have x6' : (x == 6) = false := by simpa using x6
          clear x6
          as_aux_lemma =>
            have hq := fun W => rbytes_any r y hok W
            have hw := fun W h => bytes_any w.heap.size r y W h hok
            have ok2 := hok.bytes y
            unfold agg at hq
            generalize r.bytesR y = r2 at *
            generalize r.bytesV y = v at *
            have Hq := Lib.hid hq
            have Hw := Lib.hid hw
            have Ok2 := Lib.hid ok2
            clear hq hw ok2
            go_wp2_with (first | (go_at_call 25; refine (Hq.out _).mono ?_; rintro en w1 ⟨rfl, hb1⟩))
            have hrA : Rd (w1.alloc (.cells #[.string r2.s, .int .i64 r2.t, .int .i64 r2.e] 39)) w.heap.size r := (hr.out.below hb1 hr.out.lt).alloc _
            have hqA : Qd (w1.alloc (.cells #[.string r2.s, .int .i64 r2.t, .int .i64 r2.e] 39)) (w.heap.size + 1) r := (HT.out.2.1.below hb1 (blk_lt HT.out.2.1)).alloc _
            have hkA : Qd (w1.alloc (.cells #[.string r2.s, .int .i64 r2.t, .int .i64 r2.e] 39)) w1.heap.size r2 := heap_alloc_new w1 _
            have hne : some w1.heap.size ≠ some w.heap.size := by have h1 := hr.out.lt; have h2 := hb1.size; simp; omega
            have hne2 : Hid (w1.heap.size ≠ w.heap.size + 1) := Lib.hid (by have h1 := blk_lt HT.out.2.1; have h2 := hb1.size; omega)
            have HA := Lib.hid hrA
            have HQ := Lib.hid hqA
            have HK := Lib.hid hkA
            have HN := Lib.hid hne
            clear hrA hqA hkA hne
            go_region_held3 (fun W => W.cell? ⟨w1.heap.size, 0, none⟩ = some (.string r2.s) ∧ W.cell? ⟨w1.heap.size, 1, none⟩ = some (.int .i64 r2.t) ∧ W.cell? ⟨w1.heap.size, 2, none⟩ = some (.int .i64 r2.e)) (first | exact ⟨HK.out.c0, HK.out.c1, HK.out.c2⟩ | exact ⟨k0', k1', k2'⟩ | exact tk_keep hne2.out k0' k1' k2' _ _ _) (first | (go_at_call 30; refine (Hw.out _ (by exact HA.out)).mono ?_; rintro en w2 ⟨rfl, hr2, hg2⟩; obtain ⟨⟨q0', q1', q2', g0', g1', g2'⟩, ⟨k0', k1', k2'⟩⟩ := tk_facts HQ.out HK.out (undrew hg2) HN.out))
            all_goals
              go_wp2_with fail
              go_meet
              exact ⟨r2, rfl, Lib.hid (HT.out.step hb1 _ (undrew hg2) hr2 Ok2.out)⟩
        case rest =>
          as_aux_lemma =>
            obtain ⟨r2, rfl, HT2⟩ := hcut
            have r0 := HT2.out.1.c0
            have r1 := HT2.out.1.c1
            have r2' := HT2.out.1.c2
            have q0 := HT2.out.2.1.c0
            have q1 := HT2.out.2.1.c1
            have q2 := HT2.out.2.1.c2
            clear hx1 hy1
            go_wp2_with fail
            go_quiet ((first | (go_at_call 31; exact Calls.quiet_of_same ((err_any _ _ _ (by assumption)).mono (fun _ _ h => ⟨h.1, h.2.symm⟩))) | (go_at_call 32; exact Calls.quiet_of_same ((at_any _ _ _ (by assumption)).mono (fun _ _ h => ⟨h.1, h.2.symm⟩))) | (go_at_call 33; exact Calls.quiet_of_same ((left_any _ _ _ (by assumption)).mono (fun _ _ h => ⟨h.1, h.2.symm⟩)))))
            go_wp2_with fail
            go_roundg (30 - (k + 1))
            case measure => have := HG.out; omega
            case rel => exact ⟨k + 1, r2, by go_num, by omega, Lib.hid rfl, Lib.hid (HT2.out.drewN _)⟩
      · by_cases h1 : k < n
        · have i1 : (k : Int) < n := by omega
          have i2 : ¬ (k : Int) < 30 := by omega
          go_wp2_with fail
          go_meet
          exact ⟨r, HT⟩
        · have i1 : ¬ (k : Int) < n := by omega
          go_wp2_with fail
          go_meet
          exact ⟨r, HT⟩
  case rest =>
    as_aux_lemma =>
      obtain ⟨r, HT⟩ := hcut
      have hE := fun W h => end_any w.heap.size r W h
      have hQ := fun W => rend_any r W
      unfold agg at hQ
      generalize r.endR = rE at *
      have HE := Lib.hid hE
      have HQ := Lib.hid hQ
      have hs0 : St w wc.drew r r := HT.out.st
      have fl2 := field2
      have fl0 := field0
      clear HL hF HS hE hQ
      go_wp2_with fail
      go_region_held3 (fun W => W.cell? ⟨w.heap.size + 1, 0, none⟩ = some (.string r.s) ∧ W.cell? ⟨w.heap.size + 1, 1, none⟩ = some (.int .i64 r.t) ∧ W.cell? ⟨w.heap.size + 1, 2, none⟩ = some (.int .i64 r.e))
        (first | exact hs0.q | exact (St.q (ρ := r) (by assumption)) | exact (St.q (ρ := rE) (by assumption)))
        (first
            | (go_at_call 14; refine (awake_any _).mono ?_; rintro e w1 ⟨rfl, hb1⟩; have hs1 := hs0.below hb1)
            | (go_at_call 16; refine (HE.out _ (St.rd (ρ := r) (by assumption))).mono ?_; rintro e w2 ⟨rfl, hr2, hg2⟩; have hs2 := St.ends (by assumption) hr2 hg2)
            | (go_at_call 34; refine (HQ.out _).mono ?_; rintro e w3 ⟨rfl, hb3⟩; first | (have hs3 := St.below (ρ := rE) (by assumption) hb3) | (have hs3 := St.below (ρ := r) (by assumption) hb3))
            | (go_at_call 33; refine (left_any _ _ _ (Rd.c0 (St.rd (ρ := rE) (by assumption)))).mono ?_; rintro e w4 ⟨rfl, rfl⟩))
      all_goals
        go_wp2_with fail
        go_ret
        exact ⟨rfl, St.bel (ρ := rE) (by assumption)⟩

end Go.Proofs.Ytdajchppblifgaa.Rf
