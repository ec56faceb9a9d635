/- Pages: Encode. -/
import Derived.Test.YtdajchppblifgaaPh
import Derived.Test.YtdajchppblifgaaUi
namespace Go.Proofs.Ytdajchppblifgaa.Pg
open Go.RowKit Go.Proofs.Ytdajchppblifgaa.Pl Go.Proofs.Ytdajchppblifgaa.Rd Go.Proofs.Ytdajchppblifgaa.Wr Go.Proofs.Ytdajchppblifgaa.Rf
set_option linter.unusedVariables false
set_option linter.unusedSimpArgs false

/-- k texts' bytes. -/
def tl (S : Nat → ByteArray) : Nat → List UInt8
  | 0 => []
  | k + 1 => tl S k ++ textB (S k)
/-- k numbers' bytes. -/
def nl (N : Nat → Int) : Nat → List UInt8
  | 0 => []
  | k + 1 => nl N k ++ digits (N k).toNat 4
theorem tl_length (S : Nat → ByteArray) (m n : Nat) (h : ∀ k, k < n → (S k).size ≤ m) : (tl S n).length ≤ (m + 4) * n := by
  induction n with
  | zero => simp [tl]
  | succ n ih =>
    have h1 := ih (fun k hk => h k (by omega))
    have h2 := h n (by omega)
    rw [tl, List.length_append, textB_length, Nat.mul_succ]
    omega
theorem nl_length (N : Nat → Int) (n : Nat) : (nl N n).length = 4 * n := by
  induction n with
  | zero => rfl
  | succ n ih => rw [nl, List.length_append, digits_length, ih]; omega
def P.hd (p : P) : List UInt8 := digits (if p.lf then 1 else 0) 1 ++ digits p.n1 1
def P.bytes (p : P) : List UInt8 := p.hd ++ tl p.K p.n1 ++ tl p.V p.n2 ++ nl p.N p.n3

/-- What a page that may be keeps to. -/
structure P.Small (p : P) : Prop where
  s1 : p.n1 ≤ 8
  s2 : p.n2 ≤ 8
  s3 : p.n3 ≤ 9
  k : ∀ j, j < p.n1 → (p.K j).size ≤ 64
  v : ∀ j, j < p.n2 → (p.V j).size ≤ 8192
  n : ∀ j, j < p.n3 → 0 ≤ p.N j ∧ p.N j ≤ 2147483647
theorem P.May.small {p : P} (h : p.May) : p.Small := by
  obtain ⟨hr, h1, h0⟩ := h
  refine ⟨hr.2, ?_, ?_, fun j hj => ?_, fun j hj => ?_, fun j hj => ?_⟩
  · cases hl : p.lf
    · have := (h0 hl).1; omega
    · have := (h1 hl).2.1; have := hr.2; omega
  · cases hl : p.lf
    · have := (h0 hl).2.2.1; have := hr.2; omega
    · have := (h1 hl).1; omega
  · have := hr.1 j hj
    unfold keyBad at this
    omega
  · cases hl : p.lf
    · have := (h0 hl).1; omega
    · have h2 := (h1 hl).2.2
      rcases Nat.lt_or_ge 8192 (p.V j).size with h3 | h3
      · exact absurd ⟨j, hj, h3⟩ h2
      · exact h3
  · cases hl : p.lf
    · have h2 := (h0 hl).2.2.2
      by_cases h3 : p.N j < 0 ∨ 2147483647 < p.N j
      · exact absurd ⟨j, hj, h3⟩ h2
      · omega
    · have := (h1 hl).1; omega

def P.cells (p : P) : Array Value := #[.bool p.lf, .slice p.A1 p.n1 p.c1, .slice p.A2 p.n2 p.c2, .slice p.A3 p.n3 p.c3]
/-- Behind some puts: the writer at gw has xs, the page's box lies at g. -/
structure En (p : P) (w W : World) (gw : Nat) (xs : List UInt8) : Prop where
  wt : Wt W gw gw xs
  len : xs.length ≤ 100000
  bel : Below w.heap.size w W
  box : W.heap[w.heap.size]? = some (.cells p.cells 77 (0, 0))
  lt : w.heap.size < gw
theorem En.put {p : P} {w W W1 : World} {gw : Nat} {xs ys : List UInt8} (h : En p w W gw xs) (hw : Wt W1 gw gw (xs ++ ys)) (hb : Below gw W W1) (hl : (xs ++ ys).length ≤ 100000) : En p w W1 gw (xs ++ ys) :=
  ⟨hw, hl, h.bel.trans (hb.mono (Nat.le_of_lt h.lt)), (hb.block _ h.lt).trans h.box, h.lt⟩
theorem En.c0 {p : P} {w W : World} {gw : Nat} {xs : List UInt8} (h : En p w W gw xs) : W.cell? ⟨w.heap.size, 0, none⟩ = some (.bool p.lf) := cell_of_row W _ 0 _ 77 (0, 0) h.box
theorem En.c1 {p : P} {w W : World} {gw : Nat} {xs : List UInt8} (h : En p w W gw xs) : W.cell? ⟨w.heap.size, 1, none⟩ = some (.slice p.A1 p.n1 p.c1) := cell_of_row W _ 1 _ 77 (0, 0) h.box
theorem En.c2 {p : P} {w W : World} {gw : Nat} {xs : List UInt8} (h : En p w W gw xs) : W.cell? ⟨w.heap.size, 2, none⟩ = some (.slice p.A2 p.n2 p.c2) := cell_of_row W _ 2 _ 77 (0, 0) h.box
theorem En.c3 {p : P} {w W : World} {gw : Nat} {xs : List UInt8} (h : En p w W gw xs) : W.cell? ⟨w.heap.size, 3, none⟩ = some (.slice p.A3 p.n3 p.c3) := cell_of_row W _ 3 _ 77 (0, 0) h.box
theorem En.start (p : P) (w W W1 : World) (hb1 : Below (w.alloc (.cells p.cells 77)).heap.size (w.alloc (.cells p.cells 77)) W) (hw : Wt W1 W.heap.size W.heap.size []) (hb : Below W.heap.size W W1) : En p w W1 W.heap.size [] := by
  have z : (w.alloc (.cells p.cells 77)).heap.size = w.heap.size + 1 := by simp
  have z1 := hb1.size
  have z2 := hb.size
  refine ⟨hw, by simp, ?_, ?_, by omega⟩
  · exact (((Below.refl _ w).alloc (Nat.le_refl _) (.cells p.cells 77)).trans (hb1.mono (by omega))).trans (hb.mono (by omega))
  · exact (hb.block _ (by omega)).trans ((hb1.block _ (by omega)).trans (heap_alloc_new w _))

theorem encode_bad (p : P) (w : World) (hp : p.In w) (hm : ¬ p.May) :
    Calls Try.prog 52 #[p.val] w fun e w' => e = .returned (.tuple #[.string ⟨#[]⟩, .int .i64 6]) ∧ Below w.heap.size w w' := by
  have hb := (Below.refl w.heap.size w).alloc (Nat.le_refl _) (.cells p.cells 77)
  have hC := check_any p (w.alloc (.cells p.cells 77)) (hp.below hb)
  rw [show p.err = 6 from if_neg hm] at hC
  obtain ⟨lf, A1, n1, c1, A2, n2, c2, A3, n3, c3, K, V, N⟩ := p
  unfold P.val P.cells at *
  simp only at *
  have HC := Lib.hid hC
  have HB := Lib.hid hb
  clear hC hb hp hm
  go_enter Try.func52, Try.ntmps52
  go_wp2_with (first | (go_at_call 51; refine (HC.out).mono ?_; rintro e w1 ⟨rfl, hb1⟩))
  go_ret2
  exact ⟨rfl, HB.out.trans (hb1.mono HB.out.size)⟩

theorem text_at {w W : World} {A : Option Addr} {n k : Nat} {S : Nat → ByteArray} (h : Txt w A n S) (hb : Below w.heap.size w W) (hk : k < n) : ∃ b off, A = some ⟨b, off, none⟩ ∧ W.cell? ⟨b, off + k, none⟩ = some (.string (S k)) := by
  obtain ⟨b, off, h1, h2, h3⟩ := h k hk
  exact ⟨b, off, h1, (hb.cell (p := ⟨b, off + k, none⟩) h2).trans h3⟩
theorem num_at {w W : World} {A : Option Addr} {n k : Nat} {S : Nat → Int} (h : Num w A n S) (hb : Below w.heap.size w W) (hk : k < n) : ∃ b off, A = some ⟨b, off, none⟩ ∧ W.cell? ⟨b, off + k, none⟩ = some (.int .i64 (S k)) := by
  obtain ⟨b, off, h1, h2, h3⟩ := h k hk
  exact ⟨b, off, h1, (hb.cell (p := ⟨b, off + k, none⟩) h2).trans h3⟩

theorem tl_len {S : Nat → ByteArray} {n m j : Nat} (hm : m ≤ 8192) (hn : n ≤ 8) (hj : j ≤ n) (h : ∀ k, k < n → (S k).size ≤ m) : (tl S j).length ≤ (m + 4) * 8 :=
  Nat.le_trans (tl_length S m j (fun k hk => h k (by omega))) (Nat.mul_le_mul_left _ (by omega))

def Goes (f : Nat) (args : Array Value) (W : World) (E : World → Prop) : Prop := Calls Try.prog f args W fun e w' => e = .returned (.tuple #[]) ∧ E w'
def ptr (g : Nat) : Value := .pointer (some ⟨g, 0, none⟩)

set_option maxRecDepth 100000 in
theorem encode_core (lf : Bool) (A1 : Option Addr) (n1 c1 : Nat) (A2 : Option Addr) (n2 c2 : Nat) (A3 : Option Addr) (n3 c3 : Nat) (K V : Nat → ByteArray) (N : Nat → Int) (ob : ByteArray) (w : World) (E : Nat → Nat → World → Nat → Prop)
    (l1 : n1 ≤ 8) (l2 : n2 ≤ 8) (l3 : n3 ≤ 9)
    (hC : Hid (Calls Try.prog 51 #[.agg #[.bool lf, .slice A1 n1 c1, .slice A2 n2 c2, .slice A3 n3 c3]] (w.alloc (.cells #[.bool lf, .slice A1 n1 c1, .slice A2 n2 c2, .slice A3 n3 c3] 77)) fun e w' => e = .returned (.int .i64 0) ∧ Below (w.alloc (.cells #[.bool lf, .slice A1 n1 c1, .slice A2 n2 c2, .slice A3 n3 c3] 77)).heap.size (w.alloc (.cells #[.bool lf, .slice A1 n1 c1, .slice A2 n2 c2, .slice A3 n3 c3] 77)) w'))
    (hst : Hid (∀ W W1, Below (w.alloc (.cells #[.bool lf, .slice A1 n1 c1, .slice A2 n2 c2, .slice A3 n3 c3] 77)).heap.size (w.alloc (.cells #[.bool lf, .slice A1 n1 c1, .slice A2 n2 c2, .slice A3 n3 c3] 77)) W → Wt W1 W.heap.size W.heap.size [] → Below W.heap.size W W1 → E 0 0 W1 W.heap.size))
    (hcell : Hid (∀ i k W gw, E i k W gw → W.cell? ⟨w.heap.size, 0, none⟩ = some (.bool lf) ∧ W.cell? ⟨w.heap.size, 1, none⟩ = some (.slice A1 n1 c1) ∧ W.cell? ⟨w.heap.size, 2, none⟩ = some (.slice A2 n2 c2) ∧ W.cell? ⟨w.heap.size, 3, none⟩ = some (.slice A3 n3 c3)))
    (hbool : Hid (∀ W gw, E 0 0 W gw → Goes 42 #[.pointer (some ⟨gw, 0, none⟩), .bool lf] W fun w' => E 0 1 w' gw))
    (hnum : Hid (∀ W gw, E 0 1 W gw → Goes 36 #[.pointer (some ⟨gw, 0, none⟩), .int .u64 n1, .int .i64 1] W fun w' => E 1 0 w' gw))
    (ht1 : Hid (∀ W gw k, k < n1 → E 1 k W gw → (∃ b off, A1 = some ⟨b, off, none⟩ ∧ W.cell? ⟨b, off + k, none⟩ = some (.string (K k))) ∧ Goes 38 #[.pointer (some ⟨gw, 0, none⟩), .string (K k)] W fun w' => E 1 (k + 1) w' gw))
    (h12 : Hid (∀ W gw, E 1 n1 W gw → E 2 0 W gw))
    (ht2 : Hid (∀ W gw k, k < n2 → E 2 k W gw → (∃ b off, A2 = some ⟨b, off, none⟩ ∧ W.cell? ⟨b, off + k, none⟩ = some (.string (V k))) ∧ Goes 38 #[.pointer (some ⟨gw, 0, none⟩), .string (V k)] W fun w' => E 2 (k + 1) w' gw))
    (h23 : Hid (∀ W gw, E 2 n2 W gw → E 3 0 W gw))
    (ht3 : Hid (∀ W gw k, k < n3 → E 3 k W gw → (∃ b off, A3 = some ⟨b, off, none⟩ ∧ W.cell? ⟨b, off + k, none⟩ = some (.int .i64 (N k))) ∧ Goes 37 #[.pointer (some ⟨gw, 0, none⟩), .int .i64 (N k)] W fun w' => E 3 (k + 1) w' gw))
    (hall : Hid (∀ W gw, E 3 n3 W gw → Calls Try.prog 45 #[.pointer (some ⟨gw, 0, none⟩)] W fun e w' => e = .returned (.string ob) ∧ W = w'))
    (hbel : Hid (∀ i k W gw, E i k W gw → Below w.heap.size w W)) :
    Calls Try.prog 52 #[.agg #[.bool lf, .slice A1 n1 c1, .slice A2 n2 c2, .slice A3 n3 c3]] w fun e w' => e = .returned (.tuple #[.string ob, .int .i64 0]) ∧ Below w.heap.size w w' := by
  have hw1 : IntKind.u64.wrap (n1 : Int) = n1 := by rw [IntKind.wrap_u64]; omega
  go_enter Try.func52, Try.ntmps52
  go_upto_block 0 with (first
    | (go_at_call 51; refine (hC.out).mono ?_; rintro e w1 ⟨rfl, hb1⟩)
    | (go_at_call 35; refine (newWriter _).mono ?_; rintro e w2 ⟨rfl, hw2, hb2⟩; have E2 := Lib.hid (hst.out _ _ hb1 hw2 hb2); obtain ⟨x0, x1, x2, x3⟩ := hcell.out _ _ _ _ E2.out; clear hw2 hb2 hb1)
    | (go_at_call 42; refine (hbool.out _ _ E2.out).mono ?_; rintro e w3 ⟨rfl, E3⟩; have E3 := Lib.hid E3; clear x0 x1 x2 x3; obtain ⟨x0, x1, x2, x3⟩ := hcell.out _ _ _ _ E3.out)
    | (go_at_call 36; refine (hnum.out _ _ E3.out).mono ?_; rintro e w4 ⟨rfl, E4⟩; have E4 := Lib.hid E4; clear x0 x1 x2 x3; obtain ⟨x0, x1, x2, x3⟩ := hcell.out _ _ _ _ E4.out))
  generalize w1.heap.size = gw at *
  clear E2 E3 hC hst hbool hnum x0
  go_wp2_with fail
  go_loopg [31] n1 (fun gq i wr => ∃ k : Nat, i = .int .i64 k ∧ k ≤ n1 ∧ Hid (gq = n1 - k) ∧ Hid (E 1 k wr gw))
  case atStart => exact ⟨0, rfl, by omega, Lib.hid rfl, E4⟩
  case round =>
    clear E4 x1 x2 x3
    obtain ⟨k, rfl, hk, HG, HE⟩ := hrel
    by_cases hlt : k < n1
    · obtain ⟨⟨b, off, rfl, hx⟩, hg⟩ := ht1.out _ _ k hlt HE.out
      have hg := Lib.hid hg
      have i1 : (k : Int) < n1 := by omega
      go_wp2_with (first | (go_at_call 38; refine (hg.out).mono ?_; rintro e w5 ⟨rfl, E5⟩; have E5 := Lib.hid E5))
      go_roundg (n1 - (k + 1))
      case measure => have := HG.out; omega
      case rel => exact ⟨k + 1, rfl, by omega, Lib.hid rfl, E5⟩
    · obtain rfl : k = n1 := by omega
      obtain ⟨x0, x1, x2, x3⟩ := hcell.out _ _ _ _ HE.out
      have HE2 := Lib.hid (h12.out _ _ HE.out)
      clear HE ht1 h12
      clear l1 hw1
      go_wp2_with fail
      go_loopg [42] n2 (fun gq i wr => ∃ k : Nat, i = .int .i64 k ∧ k ≤ n2 ∧ Hid (gq = n2 - k) ∧ Hid (E 2 k wr gw))
      case atStart => exact ⟨0, rfl, by omega, Lib.hid rfl, HE2⟩
      case round =>
        clear HE2 x0 x1 x2 x3
        obtain ⟨j, rfl, hj, HJ, HE⟩ := hrel
        by_cases hlt2 : j < n2
        · obtain ⟨⟨b, off, rfl, hx⟩, hg⟩ := ht2.out _ _ j hlt2 HE.out
          have hg := Lib.hid hg
          have i1 : (j : Int) < n2 := by omega
          go_wp2_with (first | (go_at_call 38; refine (hg.out).mono ?_; rintro e w5 ⟨rfl, E5⟩; have E5 := Lib.hid E5))
          go_roundg (n2 - (j + 1))
          case measure => have := HJ.out; omega
          case rel => exact ⟨j + 1, rfl, by omega, Lib.hid rfl, E5⟩
        · obtain rfl : j = n2 := by omega
          obtain ⟨x0, x1, x2, x3⟩ := hcell.out _ _ _ _ HE.out
          have HE2 := Lib.hid (h23.out _ _ HE.out)
          clear HE ht2 h23
          clear l2
          go_wp2_with fail
          go_loopg [53] n3 (fun gq i wr => ∃ k : Nat, i = .int .i64 k ∧ k ≤ n3 ∧ Hid (gq = n3 - k) ∧ Hid (E 3 k wr gw))
          case atStart => exact ⟨0, rfl, by omega, Lib.hid rfl, HE2⟩
          case round =>
            clear HE2 x0 x1 x2 x3
            obtain ⟨t, rfl, ht, HT, HE⟩ := hrel
            by_cases hlt3 : t < n3
            · obtain ⟨⟨b, off, rfl, hx⟩, hg⟩ := ht3.out _ _ t hlt3 HE.out
              have hg := Lib.hid hg
              have i1 : (t : Int) < n3 := by omega
              go_wp2_with (first | (go_at_call 37; refine (hg.out).mono ?_; rintro e w5 ⟨rfl, E5⟩; have E5 := Lib.hid E5))
              go_roundg (n3 - (t + 1))
              case measure => have := HT.out; omega
              case rel => exact ⟨t + 1, rfl, by omega, Lib.hid rfl, E5⟩
            · obtain rfl : t = n3 := by omega
              have hA := Lib.hid (hall.out _ _ HE.out)
              have hBl := Lib.hid (hbel.out _ _ _ _ HE.out)
              clear hall hbel
              go_wp2_with (first | (go_at_call 45; refine (hA.out).mono ?_; rintro e w5 ⟨rfl, rfl⟩))
              go_ret2
              exact ⟨rfl, hBl.out⟩

/-- What has been put: the stage, the place in it. -/
def P.at (p : P) : Nat → Nat → List UInt8
  | 0, 0 => []
  | 0, _ => digits (if p.lf then 1 else 0) 1
  | 1, k => p.hd ++ tl p.K k
  | 2, k => p.hd ++ tl p.K p.n1 ++ tl p.V k
  | _, k => p.hd ++ tl p.K p.n1 ++ tl p.V p.n2 ++ nl p.N k
theorem P.hd_length (p : P) : p.hd.length = 2 := by rw [P.hd, List.length_append, digits_length, digits_length]
theorem P.tk {p : P} (h : p.Small) {j : Nat} (hj : j ≤ p.n1) : (tl p.K j).length ≤ 544 := tl_len (m := 64) (by omega) h.s1 hj h.k
theorem P.tv {p : P} (h : p.Small) {j : Nat} (hj : j ≤ p.n2) : (tl p.V j).length ≤ 65568 := tl_len (m := 8192) (by omega) h.s2 hj h.v
theorem P.at1 {p : P} (h : p.Small) {k : Nat} (hk : k ≤ p.n1) : (p.at 1 k).length ≤ 70000 := by
  have := P.tk h hk
  rw [P.at, List.length_append, P.hd_length]
  omega
theorem P.at2 {p : P} (h : p.Small) {k : Nat} (hk : k ≤ p.n2) : (p.at 2 k).length ≤ 70000 := by
  have := P.tk h (Nat.le_refl _)
  have := P.tv h hk
  rw [P.at, List.length_append, List.length_append, P.hd_length]
  omega
theorem P.at3 {p : P} (h : p.Small) {k : Nat} (hk : k ≤ p.n3) : (p.at 3 k).length ≤ 70000 := by
  have := P.tk h (Nat.le_refl _)
  have := P.tv h (Nat.le_refl _)
  have := h.s3
  show (p.hd ++ tl p.K p.n1 ++ tl p.V p.n2 ++ nl p.N k).length ≤ _
  rw [List.length_append, List.length_append, List.length_append, P.hd_length, nl_length]
  omega

theorem goes_put {p : P} {w W : World} {gw f : Nat} {args : Array Value} {xs ys zs : List UInt8} (hE : En p w W gw xs) (h : Calls Try.prog f args W (Put W gw gw (xs ++ ys))) (hz : zs = xs ++ ys) (hl : zs.length ≤ 100000) : Goes f args W fun w' => En p w w' gw zs := by
  subst hz
  refine h.mono ?_
  rintro e w' ⟨rfl, hw, hb⟩
  exact ⟨rfl, hE.put hw hb hl⟩

theorem encode_may (p : P) (w : World) (hp : p.In w) (hm : p.May) :
    Calls Try.prog 52 #[p.val] w fun e w' => e = .returned (.tuple #[.string (mkS p.bytes), .int .i64 0]) ∧ Below w.heap.size w w' := by
  have hs := hm.small
  have hb := (Below.refl w.heap.size w).alloc (Nat.le_refl _) (.cells p.cells 77)
  have hC := check_any p (w.alloc (.cells p.cells 77)) (hp.below hb)
  rw [show p.err = 0 from if_pos hm] at hC
  refine encode_core p.lf p.A1 p.n1 p.c1 p.A2 p.n2 p.c2 p.A3 p.n3 p.c3 p.K p.V p.N (mkS p.bytes) w (fun i k W gw => En p w W gw (p.at i k)) hs.s1 hs.s2 hs.s3 (Lib.hid hC)
    (Lib.hid fun W W1 h1 h2 h3 => En.start p w W W1 h1 h2 h3) (Lib.hid fun i k W gw h => ⟨h.c0, h.c1, h.c2, h.c3⟩) (Lib.hid fun W gw h => ?_) (Lib.hid fun W gw h => ?_) (Lib.hid fun W gw k hk h => ⟨text_at hp.k h.bel hk, ?_⟩) (Lib.hid fun W gw h => ?_) (Lib.hid fun W gw k hk h => ⟨text_at hp.v h.bel hk, ?_⟩) (Lib.hid fun W gw h => ?_) (Lib.hid fun W gw k hk h => ⟨num_at hp.n h.bel hk, ?_⟩) (Lib.hid fun W gw h => ?_) (Lib.hid fun i k W gw h => h.bel)
  · refine goes_put h (wbool_any gw gw _ p.lf (by show (0:Nat) + 8 ≤ _; omega) W h.wt) rfl ?_
    show (digits _ 1).length ≤ _
    rw [digits_length]
    omega
  · refine goes_put h (wnumber_any gw gw _ p.n1 1 (by have := hs.s1; omega) (by show (digits _ 1).length + 8 ≤ _; rw [digits_length]; omega) W h.wt) ?_ ?_
    · show p.hd ++ [] = _
      rw [List.append_nil]
      rfl
    · have := P.at1 hs (k := 0) (by omega)
      omega
  · have l0 := P.at1 hs (k := k) (by omega)
    have l1 := P.at1 hs (k := k + 1) (by omega)
    have l2 := hs.k k hk
    exact goes_put h (wtext_any gw gw _ (p.K k) (by omega) W h.wt) (by show p.hd ++ (tl p.K k ++ textB (p.K k)) = _; rw [← List.append_assoc]; rfl) (by omega)
  · have : p.at 2 0 = p.at 1 p.n1 := by show p.hd ++ tl p.K p.n1 ++ [] = _; rw [List.append_nil]; rfl
    simp only [this]
    exact h
  · have l0 := P.at2 hs (k := k) (by omega)
    have l1 := P.at2 hs (k := k + 1) (by omega)
    have l2 := hs.v k hk
    exact goes_put h (wtext_any gw gw _ (p.V k) (by omega) W h.wt) (by show p.hd ++ tl p.K p.n1 ++ (tl p.V k ++ textB (p.V k)) = _; rw [← List.append_assoc]; rfl) (by omega)
  · have : p.at 3 0 = p.at 2 p.n2 := by show p.hd ++ tl p.K p.n1 ++ tl p.V p.n2 ++ [] = _; rw [List.append_nil]; rfl
    simp only [this]
    exact h
  · have l0 := P.at3 hs (k := k) (by omega)
    have l1 := P.at3 hs (k := k + 1) (by omega)
    have l2 := hs.n k hk
    exact goes_put h (wcount_any gw gw _ (p.N k) (by omega) (by omega) W h.wt) (by show p.hd ++ tl p.K p.n1 ++ tl p.V p.n2 ++ (nl p.N k ++ digits (p.N k).toNat 4) = _; rw [← List.append_assoc]; rfl) (by omega)
  · exact wall_any gw gw _ W h.wt

end Go.Proofs.Ytdajchppblifgaa.Pg
