/- The reader's methods at a reader in memory: what each answers, and what it leaves. -/
import Derived.Test.YtdajchppblifgaaProg
import Derived.Test.YtdajchppblifgaaPl
import Derived.WalkKit
import Derived.KernelRfl
import Derived.BigRegion
import Derived.BigQuiet
import Derived.Deep.QuietTactic
import Derived.Deep.RegionHeld3
import Derived.Deep.Draws
import Derived.Lib.Hide
import Derived.Lib.AppendStr
import Derived.WalkSpells
import Derived.Lib.ConvBytes
namespace Go.Proofs.Ytdajchppblifgaa.Rd
open Go.RowKit Go.Proofs.Ytdajchppblifgaa.Pl

/-- A reader: the bytes that are left, how many were taken, the error. -/
structure R where
  s : ByteArray
  t : Int
  e : Int

def R.fail (r : R) (x : Int) : R := if r.e = 0 ∧ x ≠ 0 then ⟨ByteArray.empty, r.t, x⟩ else r

/-- The reader r lies at block g. -/
def Rd (w : World) (g : Nat) (r : R) : Prop := w.heap[g]? = some (.cells #[.string r.s, .int .i64 r.t, .int .i64 r.e] 91 (0, 0))

section
variable {w w' : World} {g : Nat} {r : R}
theorem Rd.lt (h : Rd w g r) : g < w.heap.size := by
  rcases Nat.lt_or_ge g w.heap.size with hlt | hge
  · exact hlt
  · unfold Rd at h; rw [Array.getElem?_eq_none hge] at h; cases h
theorem Rd.cell (h : Rd w g r) (i : Nat) : w.cell? ⟨g, i, none⟩ = #[Value.string r.s, .int .i64 r.t, .int .i64 r.e][i]? := cell_of_row w g i _ 91 (0, 0) h
theorem Rd.c0 (h : Rd w g r) : w.cell? ⟨g, 0, none⟩ = some (.string r.s) := h.cell 0
theorem Rd.c1 (h : Rd w g r) : w.cell? ⟨g, 1, none⟩ = some (.int .i64 r.t) := h.cell 1
theorem Rd.c2 (h : Rd w g r) : w.cell? ⟨g, 2, none⟩ = some (.int .i64 r.e) := h.cell 2
theorem Rd.fz (h : Rd w g r) (i : Nat) : w.frozen? ⟨g, i, none⟩ = false := by
  unfold Rd at h
  simp [World.frozen?, h]
theorem Rd.grown {row : Option Nat} (h : Rd w g r) (hb : w.grownBy w' row) (hg : some g ≠ row) : Rd w' g r := (hb.block g h.lt hg).trans h
theorem Rd.below {B : Nat} (h : Rd w g r) (hb : Below B w w') (hg : g < B) : Rd w' g r := (hb.block g hg).trans h
theorem Rd.drew (h : Rd w g r) : Rd w.drew g r := h
theorem Rd.drewN (h : Rd w g r) (n : Nat) : Rd (w.drewN n) g r := h
theorem Rd.alloc (h : Rd w g r) (o : Obj) : Rd (w.alloc o) g r := (Below.heap_alloc w o g h.lt).trans h
theorem Rd.set0 (h : Rd w g r) (u : ByteArray) : Rd (w.setCell ⟨g, 0, none⟩ (.string u)) g ⟨u, r.t, r.e⟩ := by
  unfold Rd at h ⊢
  simp [World.setCell, Array.getElem?_modify, h]
theorem Rd.set1 (h : Rd w g r) (u : Int) : Rd (w.setCell ⟨g, 1, none⟩ (.int .i64 u)) g ⟨r.s, u, r.e⟩ := by
  unfold Rd at h ⊢
  simp [World.setCell, Array.getElem?_modify, h]
theorem Rd.set2 (h : Rd w g r) (u : Int) : Rd (w.setCell ⟨g, 2, none⟩ (.int .i64 u)) g ⟨r.s, r.t, u⟩ := by
  unfold Rd at h ⊢
  simp [World.setCell, Array.getElem?_modify, h]
end

theorem only_refl (w : World) (row : Option Nat) : w.grownBy w row := ⟨rfl, rfl, rfl, Nat.le_refl _, fun _ _ _ => rfl⟩
theorem only_trans {a b c : World} {row : Option Nat} (h : a.grownBy b row) (k : b.grownBy c row) : a.grownBy c row :=
  ⟨k.os.trans h.os, k.tape.trans h.tape, k.output.trans h.output, Nat.le_trans h.size k.size, fun i hi hn => (k.block i (Nat.lt_of_lt_of_le hi h.size) hn).trans (h.block i hi hn)⟩
theorem only_drewN {a w : World} {row : Option Nat} (h : a.grownBy w row) (n : Nat) : a.grownBy (w.drewN n) row := ⟨h.os, h.tape, h.output, h.size, h.block⟩
theorem only_drew {a w : World} {row : Option Nat} (h : a.grownBy w row) : a.grownBy w.drew row := ⟨h.os, h.tape, h.output, h.size, h.block⟩
theorem only_alloc {a w : World} {row : Option Nat} (h : a.grownBy w row) (o : Obj) : a.grownBy (w.alloc o) row :=
  ⟨h.os, h.tape, h.output, Nat.le_trans h.size (by simp), fun i hi hne => (Below.heap_alloc w o i (Nat.lt_of_lt_of_le hi h.size)).trans (h.block i hi hne)⟩
theorem only_setCell {a w : World} {g : Nat} (h : a.grownBy w (some g)) {p : Addr} (hp : p.block = g ∨ a.heap.size ≤ p.block) (u : Value) : a.grownBy (w.setCell p u) (some g) :=
  ⟨h.os, h.tape, h.output, by simpa [World.setCell] using h.size, fun i hi hne => (Below.heap_setCell w p u i (by
    rintro rfl
    rcases hp with hp | hp
    · exact hne (by rw [hp])
    · omega)).trans (h.block i hi hne)⟩
theorem only_of_below {a w : World} (h : Below a.heap.size a w) (row : Option Nat) : a.grownBy w row := ⟨h.os, h.tape, h.output, h.size, fun i hi _ => h.block i hi⟩

/-- What a method leaves: its answer, the reader, and that nothing else has turned. -/
def Post (w : World) (g : Nat) (r' : R) (v : Value) (en : Ending) (w' : World) : Prop := en = .returned v ∧ Rd w' g r' ∧ w.grownBy w' (some g)

theorem fail_set (g : Nat) (s : ByteArray) (e : Int) (he : (e != 0) = true) (w : World)
    (h0 : w.cell? ⟨g, 0, none⟩ = some (.string s)) (h2 : w.cell? ⟨g, 2, none⟩ = some (.int .i64 0))
    (f0 : w.frozen? ⟨g, 0, none⟩ = false) (f2 : w.frozen? ⟨g, 2, none⟩ = false) :
    Calls Try.prog 29 #[.pointer (some ⟨g, 0, none⟩), .int .i64 e] w fun en w' => en = .returned (.tuple #[]) ∧ w' = (w.setCell ⟨g, 0, none⟩ (.string ByteArray.empty)).setCell ⟨g, 2, none⟩ (.int .i64 e) := by
  go_enter Try.func29, Try.ntmps29
  go_wp2
  go_end0
  exact ⟨rfl, rfl⟩

theorem fail_had (g : Nat) (e e0 : Int) (he : (e0 == 0) = false) (w : World)
    (h2 : w.cell? ⟨g, 2, none⟩ = some (.int .i64 e0)) :
    Calls Try.prog 29 #[.pointer (some ⟨g, 0, none⟩), .int .i64 e] w fun en w' => en = .returned (.tuple #[]) ∧ w' = w := by
  go_enter Try.func29, Try.ntmps29
  go_wp2
  go_end0
  exact ⟨rfl, rfl⟩

theorem fail_ok (g : Nat) (e0 : Int) (w : World)
    (h2 : w.cell? ⟨g, 2, none⟩ = some (.int .i64 e0)) :
    Calls Try.prog 29 #[.pointer (some ⟨g, 0, none⟩), .int .i64 0] w fun en w' => en = .returned (.tuple #[]) ∧ w' = w := by
  by_cases he : (e0 == 0) = true
  · go_enter Try.func29, Try.ntmps29
    go_wp2
    go_end0
    exact ⟨rfl, rfl⟩
  · exact fail_had g 0 e0 (by simpa using he) w h2

theorem fail_nil (e : Int) (w : World) :
    Calls Try.prog 29 #[.pointer none, .int .i64 e] w fun en w' => en = .returned (.tuple #[]) ∧ w = w' := by
  go_enter Try.func29, Try.ntmps29
  go_wp2
  go_end0
  exact ⟨rfl, rfl⟩

theorem fail_any (g : Nat) (r : R) (x : Int) (w : World) (h : Rd w g r) :
    Calls Try.prog 29 #[.pointer (some ⟨g, 0, none⟩), .int .i64 x] w (Post w g (r.fail x) (.tuple #[])) := by
  obtain ⟨s, t, e⟩ := r
  by_cases he : e = 0
  · subst he
    by_cases hx : x = 0
    · subst hx
      refine (fail_ok g 0 w h.c2).mono ?_
      rintro en w' ⟨rfl, rfl⟩
      exact ⟨rfl, by simpa [R.fail] using h, only_refl _ _⟩
    · refine (fail_set g s x (by simpa using hx) w h.c0 h.c2 (h.fz 0) (h.fz 2)).mono ?_
      rintro en w' ⟨rfl, rfl⟩
      have k1 := only_setCell (p := ⟨g, 0, none⟩) (only_refl w (some g)) (.inl rfl) (.string ByteArray.empty)
      have k2 := only_setCell (p := ⟨g, 2, none⟩) k1 (.inl rfl) (.int .i64 x)
      have k3 := (h.set0 ByteArray.empty).set2 x
      have k4 : R.fail ⟨s, t, 0⟩ x = ⟨ByteArray.empty, t, x⟩ := by simp [R.fail, hx]
      rw [k4]
      exact ⟨rfl, k3, k2⟩
  · refine (fail_had g x e (by simpa using he) w h.c2).mono ?_
    rintro en w' ⟨rfl, rfl⟩
    exact ⟨rfl, by simpa [R.fail, he] using h, only_refl _ _⟩

theorem bytes_had (g : Nat) (s : ByteArray) (n e0 : Int) (he : (e0 == 0) = false) (he' : (e0 != 0) = true) (w : World)
    (h0 : w.cell? ⟨g, 0, none⟩ = some (.string s)) (h2 : w.cell? ⟨g, 2, none⟩ = some (.int .i64 e0)) :
    Calls Try.prog 30 #[.pointer (some ⟨g, 0, none⟩), .int .i64 n] w fun en w' => en = .returned (.string ByteArray.empty) ∧ w' = w := by
  go_enter Try.func30, Try.ntmps30
  go_wp2_with (first | (go_at_call 29; refine (fail_had g _ e0 he w h2).mono ?_; rintro e w' ⟨rfl, rfl⟩))
  all_goals
    go_ret
    exact ⟨rfl, rfl⟩

theorem bytes_take (g : Nat) (s : ByteArray) (t : Int) (n : Nat) (hn : n ≤ s.size) (ht : 0 ≤ t) (hts : t + s.size ≤ 281474976710656) (w : World)
    (h0 : w.cell? ⟨g, 0, none⟩ = some (.string s)) (h1 : w.cell? ⟨g, 1, none⟩ = some (.int .i64 t)) (h2 : w.cell? ⟨g, 2, none⟩ = some (.int .i64 0))
    (f0 : w.frozen? ⟨g, 0, none⟩ = false) (f1 : w.frozen? ⟨g, 1, none⟩ = false) :
    Calls Try.prog 30 #[.pointer (some ⟨g, 0, none⟩), .int .i64 n] w fun en w' => en = .returned (.string (s.extract 0 n)) ∧ w' = ((w.setCell ⟨g, 0, none⟩ (.string (s.extract n s.size))).setCell ⟨g, 1, none⟩ (.int .i64 (t + n))).drew := by
  have b1 : t + n ≤ 281474976710656 := by omega
  have b2 : (n : Int) ≤ s.size := by omega
  go_enter Try.func30, Try.ntmps30
  go_wp2
  go_region
  go_wp2
  go_ret
  exact ⟨rfl, rfl⟩

theorem bytes_neg (g : Nat) (s : ByteArray) (n : Int) (hn : n < 0) (w : World)
    (h0 : w.cell? ⟨g, 0, none⟩ = some (.string s)) (h2 : w.cell? ⟨g, 2, none⟩ = some (.int .i64 0))
    (f0 : w.frozen? ⟨g, 0, none⟩ = false) (f2 : w.frozen? ⟨g, 2, none⟩ = false) :
    Calls Try.prog 30 #[.pointer (some ⟨g, 0, none⟩), .int .i64 n] w fun en w' => en = .returned (.string ByteArray.empty) ∧ w' = (w.setCell ⟨g, 0, none⟩ (.string ByteArray.empty)).setCell ⟨g, 2, none⟩ (.int .i64 1) := by
  go_enter Try.func30, Try.ntmps30
  go_wp2_with (first | (go_at_call 29; refine (fail_set g s 1 rfl w h0 h2 f0 f2).mono ?_; rintro e w' ⟨rfl, rfl⟩))
  go_ret
  exact ⟨rfl, rfl⟩

theorem bytes_cut (g : Nat) (s : ByteArray) (n : Int) (hn : (s.size : Int) < n) (w : World)
    (h0 : w.cell? ⟨g, 0, none⟩ = some (.string s)) (h2 : w.cell? ⟨g, 2, none⟩ = some (.int .i64 0))
    (f0 : w.frozen? ⟨g, 0, none⟩ = false) (f2 : w.frozen? ⟨g, 2, none⟩ = false) :
    Calls Try.prog 30 #[.pointer (some ⟨g, 0, none⟩), .int .i64 n] w fun en w' => en = .returned (.string ByteArray.empty) ∧ w' = (w.setCell ⟨g, 0, none⟩ (.string ByteArray.empty)).setCell ⟨g, 2, none⟩ (.int .i64 4) := by
  go_enter Try.func30, Try.ntmps30
  go_wp2_with (first | (go_at_call 29; refine (fail_set g s 4 rfl w h0 h2 f0 f2).mono ?_; rintro e w' ⟨rfl, rfl⟩))
  go_ret
  exact ⟨rfl, rfl⟩

theorem bytes_nil (n : Int) (w : World) :
    Calls Try.prog 30 #[.pointer none, .int .i64 n] w fun en w' => en = .returned (.string ByteArray.empty) ∧ w = w' := by
  go_enter Try.func30, Try.ntmps30
  go_wp2
  go_ret
  exact ⟨rfl, rfl⟩

/-- What Bytes leaves, and what it answers. -/
def R.bytesR (r : R) (n : Int) : R :=
  if r.e ≠ 0 then r else if n < 0 then ⟨ByteArray.empty, r.t, 1⟩ else if (r.s.size : Int) < n then ⟨ByteArray.empty, r.t, 4⟩ else ⟨r.s.extract n.toNat r.s.size, r.t + n, 0⟩
def R.bytesV (r : R) (n : Int) : ByteArray :=
  if r.e ≠ 0 then ByteArray.empty else if n < 0 then ByteArray.empty else if (r.s.size : Int) < n then ByteArray.empty else r.s.extract 0 n.toNat

/-- A reader's numbers are small. -/
structure R.Ok (r : R) : Prop where
  t0 : 0 ≤ r.t
  ts : r.t + r.s.size ≤ 281474976710656
  e0 : 0 ≤ r.e
  e6 : r.e ≤ 255

theorem bytes_any (g : Nat) (r : R) (n : Int) (w : World) (h : Rd w g r) (ok : r.Ok) :
    Calls Try.prog 30 #[.pointer (some ⟨g, 0, none⟩), .int .i64 n] w (Post w g (r.bytesR n) (.string (r.bytesV n))) := by
  obtain ⟨s, t, e⟩ := r
  by_cases he : e = 0
  · subst he
    by_cases hn : n < 0
    · refine (bytes_neg g s n hn w h.c0 h.c2 (h.fz 0) (h.fz 2)).mono ?_
      rintro en w' ⟨rfl, rfl⟩
      have k1 := only_setCell (p := ⟨g, 0, none⟩) (only_refl w (some g)) (.inl rfl) (.string ByteArray.empty)
      have k2 := only_setCell (p := ⟨g, 2, none⟩) k1 (.inl rfl) (.int .i64 1)
      have k3 := (h.set0 ByteArray.empty).set2 1
      have k4 : R.bytesR ⟨s, t, 0⟩ n = ⟨ByteArray.empty, t, 1⟩ := by simp [R.bytesR, hn]
      have k5 : R.bytesV ⟨s, t, 0⟩ n = ByteArray.empty := by simp [R.bytesV, hn]
      rw [k4, k5]
      exact ⟨rfl, k3, k2⟩
    · by_cases hc : (s.size : Int) < n
      · refine (bytes_cut g s n hc w h.c0 h.c2 (h.fz 0) (h.fz 2)).mono ?_
        rintro en w' ⟨rfl, rfl⟩
        have k1 := only_setCell (p := ⟨g, 0, none⟩) (only_refl w (some g)) (.inl rfl) (.string ByteArray.empty)
        have k2 := only_setCell (p := ⟨g, 2, none⟩) k1 (.inl rfl) (.int .i64 4)
        have k3 := (h.set0 ByteArray.empty).set2 4
        have k4 : R.bytesR ⟨s, t, 0⟩ n = ⟨ByteArray.empty, t, 4⟩ := by simp [R.bytesR, hn, hc]
        have k5 : R.bytesV ⟨s, t, 0⟩ n = ByteArray.empty := by simp [R.bytesV, hn, hc]
        rw [k4, k5]
        exact ⟨rfl, k3, k2⟩
      · obtain ⟨m, rfl⟩ : ∃ m : Nat, n = m := ⟨n.toNat, by omega⟩
        refine (bytes_take g s t m (by omega) ok.t0 ok.ts w h.c0 h.c1 h.c2 (h.fz 0) (h.fz 1)).mono ?_
        rintro en w' ⟨rfl, rfl⟩
        have k1 := only_setCell (p := ⟨g, 0, none⟩) (only_refl w (some g)) (.inl rfl) (.string (s.extract m s.size))
        have k2 := only_setCell (p := ⟨g, 1, none⟩) k1 (.inl rfl) (.int .i64 (t + m))
        have k3 := (h.set0 (s.extract m s.size)).set1 (t + m)
        have k4 : R.bytesR ⟨s, t, 0⟩ m = ⟨s.extract m s.size, t + m, 0⟩ := by simp [R.bytesR, hn, hc]
        have k5 : R.bytesV ⟨s, t, 0⟩ m = s.extract 0 m := by simp [R.bytesV, hn, hc]
        rw [k4, k5]
        exact ⟨rfl, k3.drew, only_drew k2⟩
  · refine (bytes_had g s n e (by simpa using he) (by simpa using he) w h.c0 h.c2).mono ?_
    rintro en w' ⟨rfl, rfl⟩
    have k4 : R.bytesR ⟨s, t, e⟩ n = ⟨s, t, e⟩ := by simp [R.bytesR, he]
    have k5 : R.bytesV ⟨s, t, e⟩ n = ByteArray.empty := by simp [R.bytesV, he]
    rw [k4, k5]
    exact ⟨rfl, h, only_refl _ _⟩

theorem conv_any (w : World) (s : ByteArray) : ∃ cap W', (convert 9 35 (.string s)).run Try.prog w = .ok (.slice (some ⟨w.heap.size, 0, none⟩) s.size cap) W' ∧ Below w.heap.size w W' ∧
    W'.heap.size = w.heap.size + 1 ∧ ∀ j, j < s.size → W'.cell? ⟨w.heap.size, j, none⟩ = some (.int .u8 (s.data.toList.getD j 0).toNat) :=
  ⟨_, _, Lib.run_convert_string_bytes w 9 35 5 s Try.underlying9 Try.underlying35 Try.underlying5,
    ⟨rfl, rfl, rfl, by rw [Lib.bytesWorld_size]; omega, fun k hk => Lib.bytesWorld_at_old w 5 s k hk⟩, Lib.bytesWorld_size w 5 s, fun j hj => Lib.bytesWorld_cell w 5 s j hj⟩

theorem ret_int {k : IntKind} {a b : Int} (h : a = b) : Ending.returned (.int k a) = .returned (.int k b) := by rw [h]

theorem num_go (g : Nat) (r : R) (n : Int) (hn : n ≤ 8) (w : World) (h : Rd w g r) (ok : r.Ok) :
    Calls Try.prog 13 #[.pointer (some ⟨g, 0, none⟩), .int .i64 n] w (Post w g (r.bytesR n) (.int .u64 (le (r.bytesV n).data.toList))) := by
  have hv : (r.bytesV n).size ≤ 8 := by
    unfold R.bytesV
    split
    · simp
    · split
      · simp
      · split
        · simp
        · simp [ByteArray.size_extract]; omega
  obtain ⟨v, HV⟩ : ∃ v, Hid (v = r.bytesV n) := ⟨_, Lib.hid rfl⟩
  rw [← HV.out] at hv ⊢
  have ho := Lib.hid h
  clear h
  go_enter Try.func13, Try.ntmps13
  go_wp2_with (first | (go_at_call 30; refine (bytes_any g r n w ho.out ok).mono ?_; rintro e w1 ⟨rfl, hr, hg⟩; rw [← HV.out]; obtain ⟨cap, W', hconv, hbel, hsz, hcell⟩ := conv_any w1 v))
  go_loop [5, 6, 18] (fun n a i => ∃ k : Nat, k ≤ v.size ∧ i = .int .i64 k ∧ a = .int .i64 (8 * k : Nat) ∧ n = .int .u64 (le (v.data.toList.take k))) (fun _ _ i => v.size - (intOf i).toNat)
  case atStart => exact ⟨0, Nat.zero_le _, rfl, rfl, rfl⟩
  case round =>
    obtain ⟨k, hk, rfl, rfl, rfl⟩ := hrel
    by_cases hlt : k < v.size
    · have hc := hcell k hlt
      have b0 : (0 : Int) ≤ (8 * k : Nat) := by omega
      have b1 : ((8 * k : Nat) : Int) ≤ 56 := by omega
      have HC := Lib.hid hcell
      clear hcell
      go_wp2
      have HR := Lib.hid (or_round v.data.toList k (by simpa using hlt) (by simpa using hv))
      go_round
      case rel => exact ⟨k + 1, by omega, by go_num, by go_num, by rw [← HR.out]; rfl⟩
      case measure => simp [intOf]; omega
    · clear hcell
      have e : v.data.toList.take k = v.data.toList := List.take_of_length_le (by simp; omega)
      have E := Lib.hid e
      clear e
      go_wp2
      go_ret
      refine ⟨ret_int (by rw [E.out]), hr.below hbel hr.lt, only_trans hg (only_of_below hbel _)⟩

theorem fail1_e (r : R) : (r.fail 1).e ≠ 0 := by
  unfold R.fail
  split <;> rename_i h
  · simp
  · intro h0; exact h ⟨h0, by omega⟩
theorem fail1_ok (r : R) (ok : r.Ok) : (r.fail 1).Ok := by
  unfold R.fail
  split
  · exact ⟨ok.t0, by have := ok.ts; have := ok.t0; simp; omega, by simp, by simp⟩
  · exact ok

theorem num_wide (g : Nat) (r : R) (n : Int) (hn : 8 < n) (w : World) (h : Rd w g r) (ok : r.Ok) :
    Calls Try.prog 13 #[.pointer (some ⟨g, 0, none⟩), .int .i64 n] w (Post w g (r.fail 1) (.int .u64 0)) := by
  have e1 : (r.fail 1).bytesR n = r.fail 1 := by simp [R.bytesR, fail1_e r]
  have e2 : (r.fail 1).bytesV n = ByteArray.empty := by simp [R.bytesV, fail1_e r]
  have ok1 := fail1_ok r ok
  have HB : ∀ W, Rd W g (r.fail 1) → Calls Try.prog 30 #[.pointer (some ⟨g, 0, none⟩), .int .i64 n] W (Post W g (r.fail 1) (.string ByteArray.empty)) := by
    intro W hW
    have := bytes_any g (r.fail 1) n W hW ok1
    rw [e1, e2] at this
    exact this
  have ho := Lib.hid h
  clear h e1 e2
  have hB := Lib.hid HB
  clear HB
  have hz : ByteArray.empty.size = 0 := rfl
  go_enter Try.func13, Try.ntmps13
  go_wp2_with (first | (go_at_call 29; refine (fail_any g r 1 w ho.out).mono ?_; rintro e w1 ⟨rfl, hr, hg⟩) | (go_at_call 30; refine (hB.out _ hr).mono ?_; rintro e w2 ⟨rfl, hr2, hg2⟩; obtain ⟨cap, W', hconv, hbel, hsz, hcell⟩ := conv_any w2 ByteArray.empty; clear hcell))
  go_loop [5, 6, 18] (fun n a i => i = .int .i64 0 ∧ n = .int .u64 0) (fun _ _ _ => 0)
  case atStart => exact ⟨rfl, rfl⟩
  case round =>
    obtain ⟨rfl, rfl⟩ := hrel
    go_wp2
    go_ret
    exact ⟨rfl, hr2.below hbel hr2.lt, only_trans (only_trans hg hg2) (only_of_below hbel _)⟩

/-- What Number leaves, and what it answers. -/
def R.numR (r : R) (n : Int) : R := if 8 < n then r.fail 1 else r.bytesR n
def R.numV (r : R) (n : Int) : Nat := if 8 < n then 0 else le (r.bytesV n).data.toList

theorem num_any (g : Nat) (r : R) (n : Int) (w : World) (h : Rd w g r) (ok : r.Ok) :
    Calls Try.prog 13 #[.pointer (some ⟨g, 0, none⟩), .int .i64 n] w (Post w g (r.numR n) (.int .u64 (r.numV n))) := by
  by_cases hn : 8 < n
  · rw [show r.numR n = r.fail 1 from if_pos hn, show r.numV n = 0 from if_pos hn]
    exact num_wide g r n hn w h ok
  · rw [show r.numR n = r.bytesR n from if_neg hn, show r.numV n = le (r.bytesV n).data.toList from if_neg hn]
    exact num_go g r n (by omega) w h ok

theorem num_nil (n : Int) (w : World) :
    Calls Try.prog 13 #[.pointer none, .int .i64 n] w fun e w' => e = .returned (.int .u64 0) ∧ Below w.heap.size w w' := by
  go_enter Try.func13, Try.ntmps13
  go_wp2_with (first | (go_at_call 29; refine (fail_nil _ _).mono ?_; rintro e w1 ⟨rfl, rfl⟩) | (go_at_call 30; refine (bytes_nil n _).mono ?_; rintro e w2 ⟨rfl, rfl⟩; obtain ⟨cap, W', hconv, hbel, hsz, hcell⟩ := conv_any w ByteArray.empty; clear hcell))
  all_goals
    go_loop [5, 6, 18] (fun n a i => i = .int .i64 0 ∧ n = .int .u64 0) (fun _ _ _ => 0)
    case atStart => exact ⟨rfl, rfl⟩
    case round =>
      obtain ⟨rfl, rfl⟩ := hrel
      go_wp2
      go_ret
      exact ⟨rfl, hbel⟩

theorem bytesV_size (r : R) (n : Int) : (r.bytesV n).size ≤ n.toNat := by
  unfold R.bytesV
  split
  · simp
  · split
    · simp
    · split
      · simp
      · simp [ByteArray.size_extract]; omega
theorem num4_lt (r : R) : r.numV 4 < 4294967296 := by
  have h := le_lt (r.bytesV 4).data.toList
  have h2 := bytesV_size r 4
  rw [show r.numV 4 = le (r.bytesV 4).data.toList from if_neg (by omega)]
  have h3 : (r.bytesV 4).data.toList.length ≤ 4 := by simpa using h2
  have h4 : 256 ^ (r.bytesV 4).data.toList.length ≤ 256 ^ 4 := Nat.pow_le_pow_right (by omega) h3
  omega

theorem count_neg (g : Nat) (r1 : R) (v : Nat) (most : Int) (hm : most < 0) (w : World) 
    (hc : Calls Try.prog 13 #[.pointer (some ⟨g, 0, none⟩), .int .i64 4] w (Post w g r1 (.int .u64 v))) :
    Calls Try.prog 22 #[.pointer (some ⟨g, 0, none⟩), .int .i64 most] w (Post w g (r1.fail 3) (.int .i64 0)) := by
  have hC := Lib.hid hc
  clear hc
  go_enter Try.func22, Try.ntmps22
  go_wp2_with (first | (go_at_call 13; refine hC.out.mono ?_; rintro e w1 ⟨rfl, hr, hg⟩) | (go_at_call 29; refine (fail_any g r1 3 _ hr).mono ?_; rintro e w2 ⟨rfl, hr2, hg2⟩))
  go_ret
  exact ⟨rfl, hr2, only_trans hg hg2⟩

theorem count_more (g : Nat) (r1 : R) (v : Nat) (most : Int) (hm : 0 ≤ most) (hb : most ≤ 9223372036854775807) (hv : most < v) (w : World) 
    (hc : Calls Try.prog 13 #[.pointer (some ⟨g, 0, none⟩), .int .i64 4] w (Post w g r1 (.int .u64 v))) :
    Calls Try.prog 22 #[.pointer (some ⟨g, 0, none⟩), .int .i64 most] w (Post w g (r1.fail 3) (.int .i64 0)) := by
  have hC := Lib.hid hc
  clear hc
  have hw : IntKind.u64.wrap most = most := by rw [IntKind.wrap_u64]; omega
  have hb' := Lib.hid hb
  clear hb
  go_enter Try.func22, Try.ntmps22
  go_wp2_with (first | (go_at_call 13; refine hC.out.mono ?_; rintro e w1 ⟨rfl, hr, hg⟩) | (go_at_call 29; refine (fail_any g r1 3 _ hr).mono ?_; rintro e w2 ⟨rfl, hr2, hg2⟩))
  go_ret
  exact ⟨rfl, hr2, only_trans hg hg2⟩

theorem count_fits (g : Nat) (r1 : R) (v : Nat) (most : Int) (hm : 0 ≤ most) (hb : most ≤ 9223372036854775807) (hv : (v : Int) ≤ most) (w : World) 
    (hc : Calls Try.prog 13 #[.pointer (some ⟨g, 0, none⟩), .int .i64 4] w (Post w g r1 (.int .u64 v))) :
    Calls Try.prog 22 #[.pointer (some ⟨g, 0, none⟩), .int .i64 most] w (Post w g r1 (.int .i64 v)) := by
  have hC := Lib.hid hc
  clear hc
  have hw : IntKind.u64.wrap most = most := by rw [IntKind.wrap_u64]; omega
  have hw2 : wrap64 (v : Int) = v := by unfold wrap64; omega
  have hb' := Lib.hid hb
  clear hb
  go_enter Try.func22, Try.ntmps22
  go_wp2_with (first | (go_at_call 13; refine hC.out.mono ?_; rintro e w1 ⟨rfl, hr, hg⟩))
  go_ret
  exact ⟨ret_int hw2, hr, hg⟩

/-- What Count leaves, and what it answers. -/
def R.countR (r : R) (most : Int) : R := if most < 0 ∨ most < r.numV 4 then (r.numR 4).fail 3 else r.numR 4
def R.countV (r : R) (most : Int) : Nat := if most < 0 ∨ most < r.numV 4 then 0 else r.numV 4

theorem count_any (g : Nat) (r : R) (most : Int) (hb : most ≤ 9223372036854775807) (w : World) (h : Rd w g r) (ok : r.Ok) :
    Calls Try.prog 22 #[.pointer (some ⟨g, 0, none⟩), .int .i64 most] w (Post w g (r.countR most) (.int .i64 (r.countV most))) := by
  have hc := num_any g r 4 w h ok
  by_cases h0 : most < 0
  · rw [show r.countR most = (r.numR 4).fail 3 from if_pos (.inl h0), show r.countV most = 0 from if_pos (.inl h0)]
    exact count_neg g _ _ most h0 w hc
  · by_cases h1 : most < r.numV 4
    · rw [show r.countR most = (r.numR 4).fail 3 from if_pos (.inr h1), show r.countV most = 0 from if_pos (.inr h1)]
      exact count_more g _ _ most (by omega) hb h1 w hc
    · rw [show r.countR most = r.numR 4 from if_neg (by omega), show r.countV most = r.numV 4 from if_neg (by omega)]
      exact count_fits g _ _ most (by omega) hb (by omega) w hc

theorem count_nil (n : Int) (w : World) (hb : n ≤ 9223372036854775807) :
    Calls Try.prog 22 #[.pointer none, .int .i64 n] w fun e w' => e = .returned (.int .i64 0) ∧ Below w.heap.size w w' := by
  by_cases h0 : n < 0
  · go_enter Try.func22, Try.ntmps22
    go_wp2_with (first | (go_at_call 13; refine (num_nil _ _).mono ?_; rintro e w1 ⟨rfl, hb⟩) | (go_at_call 29; refine (fail_nil _ _).mono ?_; rintro e w2 ⟨rfl, rfl⟩))
    go_ret
    exact ⟨rfl, hb⟩
  · have hw : IntKind.u64.wrap n = n := by rw [IntKind.wrap_u64]; omega
    have hb' := Lib.hid hb
    clear hb
    go_enter Try.func22, Try.ntmps22
    go_wp2_with (first | (go_at_call 13; refine (num_nil _ _).mono ?_; rintro e w1 ⟨rfl, hb⟩) | (go_at_call 29; refine (fail_nil _ _).mono ?_; rintro e w2 ⟨rfl, rfl⟩))
    all_goals
      go_ret
      exact ⟨rfl, hb⟩

end Go.Proofs.Ytdajchppblifgaa.Rd
