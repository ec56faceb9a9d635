/- Pages: Decode, of a page's bytes. -/
import Derived.Test.YtdajchppblifgaaPi
import Derived.Deep.AppendLies
import Derived.Deep.RegionLaw
namespace Go.Proofs.Ytdajchppblifgaa.Pg
open Go.RowKit Go.Proofs.Ytdajchppblifgaa.Pl Go.Proofs.Ytdajchppblifgaa.Rd Go.Proofs.Ytdajchppblifgaa.Wr Go.Proofs.Ytdajchppblifgaa.Rf
set_option linter.unusedVariables false
set_option linter.unusedSimpArgs false

theorem info9 : (Try.prog.info? 9).map (fun i => (i.zero, i.size, i.bytes)) = some (some (.string ⟨#[]⟩), 1, 16) := by kernel_rfl
theorem info3 : (Try.prog.info? 3).map (fun i => (i.zero, i.size, i.bytes)) = some (some (.int .i64 0), 1, 8) := by kernel_rfl
/-- The reader at gr has r; the page under way lies at gp; what is to be returned lies behind w. -/
structure De (w W : World) (gp gr : Nat) (r : R) (lf : Bool) (v1 v2 v3 : Value) : Prop where
  rd : Rd W gr r
  box : W.heap[gp]? = some (.cells #[.bool lf, v1, v2, v3] 77 (0, 0))
  res : W.heap[w.heap.size]? = some (.cells #[.bool false, .slice none 0 0, .slice none 0 0, .slice none 0 0] 77 (0, 0))
  bel : Below w.heap.size w W
  lr : w.heap.size < gr
  lp : gr < gp

theorem De.c {w W : World} {gp gr : Nat} {r : R} {lf : Bool} {v1 v2 v3 : Value} (hD : De w W gp gr r lf v1 v2 v3) : (W.cell? ⟨gp, 0, none⟩ = some (.bool lf) ∧ W.cell? ⟨gp, 1, none⟩ = some v1 ∧ W.cell? ⟨gp, 2, none⟩ = some v2 ∧ W.cell? ⟨gp, 3, none⟩ = some v3) ∧ W.frozen? ⟨gp, 1, none⟩ = false ∧ W.frozen? ⟨gp, 2, none⟩ = false ∧ W.frozen? ⟨gp, 3, none⟩ = false :=
  ⟨⟨cell_of_row W gp 0 _ 77 (0, 0) hD.box, cell_of_row W gp 1 _ 77 (0, 0) hD.box, cell_of_row W gp 2 _ 77 (0, 0) hD.box, cell_of_row W gp 3 _ 77 (0, 0) hD.box⟩, by simp [World.frozen?, hD.box], by simp [World.frozen?, hD.box], by simp [World.frozen?, hD.box]⟩

def zeroP : Obj := .cells #[.bool false, .slice none 0 0, .slice none 0 0, .slice none 0 0] 77 (0, 0)
theorem rd_start (s : ByteArray) (w : World) : Rd ((w.alloc (.cells #[.bool false, .slice none 0 0, .slice none 0 0, .slice none 0 0] 77)).alloc (.cells #[.string s, .int .i64 0, .int .i64 0] 91)) (w.heap.size + 1) ⟨s, 0, 0⟩ := by
  have := rd_new s (w.alloc (.cells #[.bool false, .slice none 0 0, .slice none 0 0, .slice none 0 0] 77))
  simpa using this

theorem De.start {w w2 : World} {s : ByteArray} {rb : R} (lf : Bool) (hr : Rd w2 (w.heap.size + 1) rb) (hg : ((w.alloc (.cells #[.bool false, .slice none 0 0, .slice none 0 0, .slice none 0 0] 77)).alloc (.cells #[.string s, .int .i64 0, .int .i64 0] 91)).grownBy w2 (some (w.heap.size + 1))) :
    De w (w2.alloc (.cells #[.bool lf, .slice none 0 0, .slice none 0 0, .slice none 0 0] 77)) w2.heap.size (w.heap.size + 1) rb lf (Value.slice none 0 0) (Value.slice none 0 0) (Value.slice none 0 0) := by
  have z := hg.size
  have z0 : ((w.alloc (.cells #[.bool false, .slice none 0 0, .slice none 0 0, .slice none 0 0] 77)).alloc (.cells #[.string s, .int .i64 0, .int .i64 0] 91)).heap.size = w.heap.size + 2 := by simp
  have b0 : Below w.heap.size w ((w.alloc (.cells #[.bool false, .slice none 0 0, .slice none 0 0, .slice none 0 0] 77)).alloc (.cells #[.string s, .int .i64 0, .int .i64 0] 91)) := ((Below.refl _ w).alloc (Nat.le_refl _) _).alloc (by simp) _
  have b1 : Below w.heap.size w w2 := b0.grown hg b0.size (fun k hk => by injection hk with hk; omega)
  refine ⟨hr.alloc _, heap_alloc_new w2 _, ?_, b1.alloc b1.size _, by omega, by omega⟩
  have h1 : ((w.alloc (.cells #[.bool false, .slice none 0 0, .slice none 0 0, .slice none 0 0] 77)).alloc (.cells #[.string s, .int .i64 0, .int .i64 0] 91)).heap[w.heap.size]? = some zeroP :=
    (Below.heap_alloc _ _ _ (by simp)).trans (heap_alloc_new w _)
  have h2 : w2.heap[w.heap.size]? = some zeroP := (hg.block _ (by omega) (fun h => by injection h with h; omega)).trans h1
  exact (Below.heap_alloc _ _ _ (blk_lt h2)).trans h2
theorem De.grown {w W W' : World} {gp gr : Nat} {r r' : R} {lf : Bool} {v1 v2 v3 : Value} (hD : De w W gp gr r lf v1 v2 v3) (hr : Rd W' gr r') (hg : W.grownBy W' (some gr)) : De w W' gp gr r' lf v1 v2 v3 := by
  obtain ⟨h1, h2, h3, h4, h5, h6⟩ := hD
  exact ⟨hr, (hg.block _ (blk_lt h2) (fun h => by injection h with h; omega)).trans h2, (hg.block _ (blk_lt h3) (fun h => by injection h with h; omega)).trans h3, h4.grown hg h4.size (fun k hk => by injection hk with hk; omega), h5, h6⟩
/-- k texts, as cells. -/
def tc (S : Nat → ByteArray) (k : Nat) : List Value := (List.range k).map fun j => .string (S j)
theorem tc_succ (S : Nat → ByteArray) (k : Nat) : tc S (k + 1) = tc S k ++ [.string (S k)] := by simp [tc, List.range_succ]

theorem undrew' {a w : World} {row : Option Nat} (h : a.drew.grownBy w row) : a.grownBy w row := ⟨h.os, h.tape, h.output, h.size, h.block⟩
theorem De.alloc {w W : World} {gp gr : Nat} {r : R} {lf : Bool} {v1 v2 v3 : Value} (hD : De w W gp gr r lf v1 v2 v3) (o : Obj) : De w (W.alloc o) gp gr r lf v1 v2 v3 := by
  obtain ⟨h1, h2, h3, h4, h5, h6⟩ := hD
  exact ⟨h1.alloc o, (Below.heap_alloc _ _ _ (blk_lt h2)).trans h2, (Below.heap_alloc _ _ _ (blk_lt h3)).trans h3, h4.alloc h4.size _, h5, h6⟩
theorem De.row {w W W' : World} {gp gr e k : Nat} {r : R} {lf : Bool} {v1 v2 v3 v : Value} {xs : List Value} (hD : De w W gp gr r lf v1 v2 v3) (ho : W.ownsRow w.heap.size e 1 v k xs) (h77 : e ≠ 77) (h91 : e ≠ 91) (hg : W.grownBy W' v.ownBlock) : De w W' gp gr r lf v1 v2 v3 := by
  obtain ⟨h1, h2, h3, h4, h5, h6⟩ := hD
  exact ⟨(hg.block _ (blk_lt h1) (own_ne ho h1 h91)).trans h1, (hg.block _ (blk_lt h2) (own_ne ho h2 h77)).trans h2, (hg.block _ (blk_lt h3) (own_ne ho h3 h77)).trans h3, h4.grown hg h4.size (fun j hj => (ho.lt j hj).1), h5, h6⟩
theorem De.set {w W : World} {gp gr : Nat} {r : R} {lf : Bool} {v1 v2 v3 : Value} (hD : De w W gp gr r lf v1 v2 v3) (i : Nat) (v u1 u2 u3 : Value)
    (hu : (#[.bool lf, v1, v2, v3] : Array Value).setIfInBounds i v = #[.bool lf, u1, u2, u3]) : De w (W.setCell ⟨gp, i, none⟩ v) gp gr r lf u1 u2 u3 := by
  obtain ⟨h1, h2, h3, h4, h5, h6⟩ := hD
  refine ⟨(Below.heap_setCell _ _ _ _ (by simp; omega)).trans h1, ?_, (Below.heap_setCell _ _ _ _ (by simp; omega)).trans h3, h4.setCell (by simp; omega) _, h5, h6⟩
  rw [← hu]
  simp [World.setCell, Array.getElem?_modify, h2]
theorem De.own {w W W' : World} {gp gr e k B : Nat} {r : R} {lf : Bool} {v1 v2 v3 v : Value} {xs : List Value} (hD : De w W gp gr r lf v1 v2 v3) (ho : W.ownsRow B e 1 v k xs) (h91 : e ≠ 91) (hg : W.grownBy W' (some gr)) (o : Obj) : (W'.alloc o).ownsRow B e 1 v k xs :=
  (ho.kept hg (.inr (fun h => own_ne ho hD.rd h91 h.symm))).alloc o
theorem De.osetx {w W : World} {gp gr e k B : Nat} {r : R} {lf : Bool} {v1 v2 v3 v : Value} {xs : List Value} (hD : De w W gp gr r lf v1 v2 v3) (ho : W.ownsRow B e 1 v k xs) (h77 : e ≠ 77) (i : Nat) (u : Value) : (W.setCell ⟨gp, i, none⟩ u).ownsRow B e 1 v k xs :=
  own_set ho hD.box h77 i u

theorem World.ownsRow.mono' {w : World} {base base' : Nat} {e : TypeId} {size : Nat} {v : Value} {n : Nat} {xs : List Value} (h : w.ownsRow base e size v n xs) (hb : base' ≤ base) : w.ownsRow base' e size v n xs := by
  refine ⟨h.1, ?_⟩
  rcases h.2 with hn | ⟨g, cap, cur, rfl, hb', rest⟩
  · exact .inl hn
  · exact .inr ⟨g, cap, cur, rfl, Nat.le_trans hb hb', rest⟩
theorem own_far {B B2 e1 e2 n k : Nat} {w : World} {v1 v2 : Value} {xs ys : List Value} (h1 : w.ownsRow B e1 1 v1 n xs) (hlt : ∀ g, v1.ownBlock = some g → g < B2) (h2 : w.ownsRow B2 e2 1 v2 k ys) {w' : World} (hg : w.grownBy w' v2.ownBlock) : w'.ownsRow B e1 1 v1 n xs := by
  refine h1.kept hg ?_
  cases hv : v1.ownBlock with
  | none => exact .inl rfl
  | some g =>
    refine .inr fun h => ?_
    have l1 := hlt g hv
    have l2 := (h2.lt g h.symm).1
    omega
def kc (N : Nat → Int) (k : Nat) : List Value := (List.range k).map fun j => .int .i64 (N j)
theorem kc_succ (S : Nat → Int) (k : Nat) : kc S (k + 1) = kc S k ++ [.int .i64 (S k)] := by simp [kc, List.range_succ]
theorem own_plain {w : World} {B e n c : Nat} {A : Option Addr} {xs : List Value} (h : w.ownsRow B e 1 (.slice A n c) n xs) (hn : 0 < n) : ∃ g, A = some ⟨g, 0, none⟩ ∧ g < w.heap.size ∧ (Value.slice A n c).ownBlock = some g := by
  rcases h.2 with ⟨h0, _⟩ | ⟨g, cap, cur, h0, _, hh, _⟩
  · injection h0 with _ h0 _; omega
  · injection h0 with h0 _ _
    subst h0
    exact ⟨g, rfl, blk_lt hh, rfl⟩
theorem txt_own {w : World} {B n c : Nat} {A : Option Addr} {K : Nat → ByteArray} (h : w.ownsRow B 9 1 (.slice A n c) n (tc K n)) : Txt w A n K := fun k hk => by
  obtain ⟨g, rfl, hl, hg⟩ := own_plain h (by omega)
  have := h.cells hg k (.string (K k)) (by simp [tc, List.getElem?_range hk])
  rw [Go.WideShapes.add_plain, Nat.zero_add] at this
  exact ⟨g, 0, rfl, hl, by rw [Nat.zero_add]; exact this⟩
theorem num_own {w : World} {B n c : Nat} {A : Option Addr} {K : Nat → Int} (h : w.ownsRow B 3 1 (.slice A n c) n (kc K n)) : Num w A n K := fun k hk => by
  obtain ⟨g, rfl, hl, hg⟩ := own_plain h (by omega)
  have := h.cells hg k (.int .i64 (K k)) (by simp [kc, List.getElem?_range hk])
  rw [Go.WideShapes.add_plain, Nat.zero_add] at this
  exact ⟨g, 0, rfl, hl, by rw [Nat.zero_add]; exact this⟩

theorem De.own' {w W W' : World} {gp gr e k B : Nat} {r : R} {lf : Bool} {v1 v2 v3 v : Value} {xs : List Value} (hD : De w W gp gr r lf v1 v2 v3) (ho : W.ownsRow B e 1 v k xs) (h91 : e ≠ 91) (hg : W.grownBy W' (some gr)) : W'.ownsRow B e 1 v k xs :=
  ho.kept hg (.inr (fun h => own_ne ho hD.rd h91 h.symm))
theorem own_below {w w' : World} {B e k : Nat} {v : Value} {xs : List Value} (ho : w.ownsRow B e 1 v k xs) (hb : Below w.heap.size w w') : w'.ownsRow B e 1 v k xs :=
  ho.kept (only_of_below hb none) (by cases v.ownBlock <;> simp)
theorem De.below {w W W' : World} {gp gr : Nat} {r : R} {lf : Bool} {v1 v2 v3 : Value} (hD : De w W gp gr r lf v1 v2 v3) (hb : Below W.heap.size W W') : De w W' gp gr r lf v1 v2 v3 := by
  obtain ⟨h1, h2, h3, h4, h5, h6⟩ := hD
  exact ⟨(hb.block _ (blk_lt h1)).trans h1, (hb.block _ (blk_lt h2)).trans h2, (hb.block _ (blk_lt h3)).trans h3, h4.trans (hb.mono h4.size), h5, h6⟩
theorem De.rc {w W : World} {gp gr : Nat} {r : R} {lf : Bool} {v1 v2 v3 : Value} (hD : De w W gp gr r lf v1 v2 v3) : (W.cell? ⟨w.heap.size, 0, none⟩ = some (.bool false) ∧ W.cell? ⟨w.heap.size, 1, none⟩ = some (Value.slice none 0 0) ∧ W.cell? ⟨w.heap.size, 2, none⟩ = some (Value.slice none 0 0) ∧ W.cell? ⟨w.heap.size, 3, none⟩ = some (Value.slice none 0 0)) ∧ W.frozen? ⟨w.heap.size, 0, none⟩ = false ∧ W.frozen? ⟨w.heap.size, 1, none⟩ = false ∧ W.frozen? ⟨w.heap.size, 2, none⟩ = false ∧ W.frozen? ⟨w.heap.size, 3, none⟩ = false :=
  ⟨⟨cell_of_row W _ 0 _ 77 (0, 0) hD.res, cell_of_row W _ 1 _ 77 (0, 0) hD.res, cell_of_row W _ 2 _ 77 (0, 0) hD.res, cell_of_row W _ 3 _ 77 (0, 0) hD.res⟩, by simp [World.frozen?, hD.res], by simp [World.frozen?, hD.res], by simp [World.frozen?, hD.res], by simp [World.frozen?, hD.res]⟩

theorem set_res {w : World} {g : Nat} {cs : Array Value} {t : TypeId} (h : w.heap[g]? = some (.cells cs t (0, 0))) (i : Nat) (v : Value) : (w.setCell ⟨g, i, none⟩ v).heap[g]? = some (.cells (cs.setIfInBounds i v) t (0, 0)) := by
  simp [World.setCell, Array.getElem?_modify, h]
theorem World.alloc_lt (w : World) (o : Obj) : w.heap.size < (w.alloc o).heap.size := by simp

theorem step_goes {P : Program} {ops : Array Oper} {o : Oper} {a : Act} {K : Act → World → Prop} {Q : Exit → Act → World → Prop} {E : Prop} {w : World} {f : FuncId} {fn : Func} {oa : Array Operand} {ts : Array TypeId}
    (hf : P.funcs[f]? = some fn) (hname : (fn.name == "runtime.NumGoroutine") = false) (hb : fn.body.isSome = true) (args : Array Value)
    (hgd : o.guard = none) (hop : o.op = .call { callee := .value (.func f), args := oa, argTypes := ts }) (hargs : oa.map a.eval = args)
    (h : Calls P f args w fun e w' => ∃ v, e = .returned v ∧ K (a.put o.dst v) w') : if Region.wanted o (yielded ops a.tmps) = true then Oper.wp P o a w K Q else E := by
  have hw : Region.wanted o (yielded ops a.tmps) = true := by simp [Region.wanted, hgd]
  rw [if_pos hw]
  have h1 : fn.name ≠ "runtime.NumGoroutine" := by simpa using hname
  obtain ⟨c, hc⟩ := Option.isSome_iff_exists.1 hb
  have he : (callFunc f args).run P w = .ok (.enter f args) w := by simp [callFunc, hf, h1, hc]
  have hrun : (execOp a.eval o).run P w = .ok (.enter f args) w := by
    unfold execOp
    simp [hop, resolve, Deferred.ofValue, invoke, Act.eval, hargs, he]
  unfold Oper.wp
  rw [hrun, Oper.upon_enter]
  refine h.mono fun e w'' hh => ?_
  obtain ⟨v, rfl, hk⟩ := hh
  exact hk

set_option maxRecDepth 100000 in
set_option maxHeartbeats 4000000 in
theorem decode_core (s : ByteArray) (lf : Bool) (n : Nat) (hn : n ≤ 8) (K V : Nat → ByteArray) (N : Nat → Int) (w : World) (rb : R) (rk rv rc : Nat → R)
    (hb : Hid (∀ W g, Rd W g ⟨s, 0, 0⟩ → Calls Try.prog 28 #[.pointer (some ⟨g, 0, none⟩)] W (Post W g rb (.bool lf))))
    (hnum : Hid (∀ W g, Rd W g rb → Calls Try.prog 13 #[.pointer (some ⟨g, 0, none⟩), .int .i64 1] W (Post W g (rk 0) (.int .u64 n))))
    (ht : Hid (∀ W g k, k < n → Rd W g (rk k) → Calls Try.prog 24 #[.pointer (some ⟨g, 0, none⟩), .int .i64 64] W (Post W g (rk (k + 1)) (.string (K k)))))
    (hek : Hid (∀ W g k, k ≤ n → Rd W g (rk k) → Calls Try.prog 31 #[.pointer (some ⟨g, 0, none⟩)] W fun e w' => e = .returned (.int .i64 0) ∧ W = w'))
    (hrv : rv 0 = rk n) (hrc : rc 0 = rk n)
    (hv : Hid (lf = true → ∀ W g k, k < n → Rd W g (rv k) → Calls Try.prog 24 #[.pointer (some ⟨g, 0, none⟩), .int .i64 8192] W (Post W g (rv (k + 1)) (.string (V k)))))
    (hev : Hid (lf = true → ∀ W g k, k ≤ n → Rd W g (rv k) → Calls Try.prog 31 #[.pointer (some ⟨g, 0, none⟩)] W fun e w' => e = .returned (.int .i64 0) ∧ W = w'))
    (hendv : Hid (lf = true → ∀ W g, Rd W g (rv n) → Calls Try.prog 16 #[.pointer (some ⟨g, 0, none⟩)] W (Post W g (rv n) (.int .i64 0))))
    (hc : Hid (lf = false → ∀ W g k, k < n + 1 → Rd W g (rc k) → Calls Try.prog 22 #[.pointer (some ⟨g, 0, none⟩), .int .i64 2147483647] W (Post W g (rc (k + 1)) (.int .i64 (N k)))))
    (hec : Hid (lf = false → ∀ W g k, k ≤ n + 1 → Rd W g (rc k) → Calls Try.prog 31 #[.pointer (some ⟨g, 0, none⟩)] W fun e w' => e = .returned (.int .i64 0) ∧ W = w'))
    (hendc : Hid (lf = false → ∀ W g, Rd W g (rc (n + 1)) → Calls Try.prog 16 #[.pointer (some ⟨g, 0, none⟩)] W (Post W g (rc (n + 1)) (.int .i64 0))))
    (hm : Hid (∀ A1 c1 A2 c2 A3 c3, P.May ⟨lf, A1, n, c1, A2, if lf then n else 0, c2, A3, if lf then 0 else n + 1, c3, K, V, N⟩)) :
    Calls Try.prog 55 #[.string s] w fun e w' => ∃ A1 c1 A2 c2 A3 c3, e = .returned (.tuple #[P.val ⟨lf, A1, n, c1, A2, if lf then n else 0, c2, A3, if lf then 0 else n + 1, c3, K, V, N⟩, .int .i64 0]) ∧ P.In ⟨lf, A1, n, c1, A2, if lf then n else 0, c2, A3, if lf then 0 else n + 1, c3, K, V, N⟩ w' ∧ Below w.heap.size w w' := by
  have hw1 : IntKind.i64.wrap (n : Int) = n := by rw [IntKind.wrap_i64]; omega
  obtain ⟨i9, hi9, hz90, hz91, hz92⟩ := info_parts info9
  obtain ⟨i3, hi3, hz30, hz31, hz32⟩ := info_parts info3
  go_enter Try.func55, Try.ntmps55
  go_upto_block 0 with (first
    | (go_at_call 12; refine (newReader_any s _).mono ?_; rintro e w1 ⟨rfl, rfl⟩)
    | (go_at_call 28; refine (hb.out _ _ (rd_start s w)).mono ?_; rintro e w2 ⟨rfl, hr2, hg2⟩; have E2 := Lib.hid (De.start lf hr2 hg2); clear hr2 hg2)
    | (go_at_call 13; refine (hnum.out _ _ E2.out.rd).mono ?_; rintro e w3 ⟨rfl, hr3, hg3⟩; have E3 := Lib.hid (E2.out.grown hr3 hg3); clear hr3 hg3))
  generalize w2.heap.size = gp at *
  generalize w.heap.size + 1 = gr at *
  have HBW := Lib.hid (Nat.le_refl w.heap.size)
  clear E2 hb hnum
  go_wp2_with fail
  go_loopg [7] n (fun gq i wr => ∃ (k : Nat) (v1 : Value), i = .int .i64 k ∧ k ≤ n ∧ Hid (gq = n - k) ∧ Hid (De w wr gp gr (rk k) lf v1 (Value.slice none 0 0) (Value.slice none 0 0)) ∧ Hid (wr.ownsRow w.heap.size 9 1 v1 k (tc K k)))
  case atStart => exact ⟨0, (Value.slice none 0 0), rfl, by omega, Lib.hid rfl, E3, Lib.hid (World.ownsRow_nil _ _ _ _)⟩
  case round =>
    clear E3
    obtain ⟨k, v1, rfl, hk, HG, HE, HO⟩ := hrel
    have hE := Lib.hid (hek.out _ _ k hk HE.out.rd)
    obtain ⟨A1, c1, rfl⟩ := own_form HO.out
    by_cases hlt : k < n
    · obtain ⟨⟨x0, x1, x2, x3⟩, f1, f2, f3⟩ := HE.out.c
      have i1 : (k : Int) < n := by omega
      go_wp2_with (first | (go_at_call 31; refine hE.out.mono ?_; rintro e w4 ⟨rfl, rfl⟩))
      go_region_law (first
        | (refine step_goes (f := 24) Try.func24 rfl rfl #[.pointer (some ⟨gr, 0, none⟩), .int .i64 64] rfl rfl ?_ ?_; simp [Act.eval, Act.put]; refine (ht.out _ _ k hlt (by exact HE.out.rd)).mono ?_; rintro e w5 ⟨rfl, hr5, hg5⟩; refine ⟨_, rfl, ?_⟩; have E5 := HE.out.grown hr5 (undrew' hg5); have E6 := Lib.hid (E5.alloc (.cells #[.string (K k)] 9)); have O6 := Lib.hid (HE.out.own HO.out (by decide) (undrew' hg5) (.cells #[.string (K k)] 9)); have x1' := E5.c.1; have x1'' := E6.out.c.1; have hbk := Lib.hid (heap_alloc_new w5 (.cells #[.string (K k)] 9)); clear E5 hr5 hg5)
        | (refine step_append_lies _ rfl (.tmp 30) (.tmp 33) 68 rfl w.heap.size 9 i9 (.string ⟨#[]⟩) 1 16 Try.underlying68 hi9 hz90 hz91 hz92 rfl (by decide) (.slice A1 k c1) k (tc K k) ?_ ?_ ⟨w5.heap.size, 0, none⟩ 1 1 [.string (K k)] ?_ ?_ ?_ ?_ ?_ ?_ ?_ ?_ (w5.heap.size + 1) ?_ ?_; (first | rfl | simp [Act.eval, Act.put]); exact O6.out; rfl; rfl; exact World.news_of_block hbk.out; simp [Value.oneCell']; decide; (unfold maxLen; omega); omega; exact E6.out.bel.size; simp; intro g cap w7 ho7 hg7 _ _; have E7 := Lib.hid (E6.out.row (World.ownsRow.mono' O6.out HBW.out) (by decide) (by decide) hg7); have O7 := Lib.hid ho7; have f7 := E7.out.c.2; have x7 := E7.out.c.1; clear ho7 hg7))
      all_goals (
        have E8 := Lib.hid (E7.out.set 1 (.slice (some ⟨g, 0, none⟩) (k + 1) cap) _ _ _ rfl)
        have O8 := O7.out
        rw [← tc_succ] at O8
        have O8 := Lib.hid (E7.out.osetx O8 (by decide) 1 (.slice (some ⟨g, 0, none⟩) (k + 1) cap))
        clear O6 E6 E7 hE HE HO
        go_wp2_with fail
        go_roundg (n - (k + 1))
        case measure => have := HG.out; omega
        case rel => exact ⟨k + 1, _, rfl, by omega, Lib.hid rfl, E8, O8⟩)
    · obtain rfl : k = n := by omega
      obtain ⟨B2, HQ⟩ : ∃ B2, Hid (B2 = wr.heap.size) := ⟨_, Lib.hid rfl⟩
      have HB2 := Lib.hid (Nat.le_of_eq HQ.out)
      have HLT := Lib.hid (show ∀ g, (Value.slice A1 k c1).ownBlock = some g → g < B2 from fun g h => by rw [HQ.out]; exact (HO.out.lt g h).2)
      have HBW2 := Lib.hid (show w.heap.size ≤ B2 by rw [HQ.out]; exact HE.out.bel.size)
      clear HBW ht hek
      have HBW := HBW2
      clear HBW2
      obtain ⟨⟨x0, x1, x2, x3⟩, f1, f2, f3⟩ := HE.out.c
      cases lf
      · have hc2 := Lib.hid (hc.out rfl)
        have hec2 := Lib.hid (hec.out rfl)
        have hendc2 := Lib.hid (hendc.out rfl)
        clear hc hec hendc HQ hv hev hendv
        rw [← hrc] at HE
        go_wp2_with (first | (go_at_call 31; refine hE.out.mono ?_; rintro e w4 ⟨rfl, rfl⟩))
        go_loopg [8] 0 (fun gq i wx => i = .int .i64 0 ∧ wx = wr)
        case atStart => exact ⟨rfl, rfl⟩
        case round =>
          obtain ⟨rfl, rfl⟩ := hrel
          go_wp2_with fail
          go_loopg [9] (k + 1) (fun gq i wx => ∃ (j : Nat) (v3 : Value), i = .int .i64 j ∧ j ≤ k + 1 ∧ Hid (gq = k + 1 - j) ∧ Hid (De w wx gp gr (rc j) false (.slice A1 k c1) (.slice none 0 0) v3) ∧ Hid (wx.ownsRow w.heap.size 9 1 (.slice A1 k c1) k (tc K k)) ∧ Hid (wx.ownsRow B2 3 1 v3 j (kc N j)) ∧ Hid (B2 ≤ wx.heap.size))
          case atStart => exact ⟨0, .slice none 0 0, rfl, by omega, Lib.hid rfl, HE, HO, Lib.hid (World.ownsRow_nil _ _ _ _), HB2⟩
          case round =>
            clear HE HO HB2 hE x0 x1 x2 x3 f1 f2 f3
            obtain ⟨j, v3, rfl, hj, HJ, HE, O1, O2, HB2⟩ := hrel
            have hE := Lib.hid (hec2.out _ _ j hj HE.out.rd)
            obtain ⟨A3, c3, rfl⟩ := own_form O2.out
            obtain ⟨⟨x0, x1, x2, x3⟩, f1, f2, f3⟩ := HE.out.c
            by_cases hlt2 : j < k + 1
            · have i1 : (j : Int) ≤ k := by omega
              have HO := O2
              go_wp2_with (first | (go_at_call 31; refine hE.out.mono ?_; rintro e w4 ⟨rfl, rfl⟩))
              go_region_law (first
        | (refine step_goes (f := 22) Try.func22 rfl rfl #[.pointer (some ⟨gr, 0, none⟩), .int .i64 2147483647] rfl rfl ?_ ?_; simp [Act.eval, Act.put]; refine (hc2.out _ _ j hlt2 (by exact HE.out.rd)).mono ?_; rintro e w5 ⟨rfl, hr5, hg5⟩; refine ⟨_, rfl, ?_⟩; have E5 := HE.out.grown hr5 (undrew' hg5); have E6 := Lib.hid (E5.alloc (.cells #[.int .i64 (N j)] 3)); have O6 := Lib.hid (HE.out.own HO.out (by decide) (undrew' hg5) (.cells #[.int .i64 (N j)] 3)); have x1' := E5.c.1; have x1'' := E6.out.c.1; have hbk := Lib.hid (heap_alloc_new w5 (.cells #[.int .i64 (N j)] 3)); have HZ6 := Lib.hid (Nat.le_trans HB2.out (Nat.le_trans (undrew' hg5).size (Nat.le_of_lt (World.alloc_lt w5 (.cells #[.int .i64 (N j)] 3))))); have O1a := Lib.hid (HE.out.own O1.out (by decide) (undrew' hg5) (.cells #[.int .i64 (N j)] 3)); clear E5 hr5 hg5)
        | (refine step_append_lies _ rfl (.tmp 73) (.tmp 76) 69 rfl B2 3 i3 (.int .i64 0) 1 8 Try.underlying69 hi3 hz30 hz31 hz32 rfl (by decide) (.slice A3 j c3) j (kc N j) ?_ ?_ ⟨w5.heap.size, 0, none⟩ 1 1 [.int .i64 (N j)] ?_ ?_ ?_ ?_ ?_ ?_ ?_ ?_ (w5.heap.size + 1) ?_ ?_; (first | rfl | simp [Act.eval, Act.put]); exact O6.out; rfl; rfl; exact World.news_of_block hbk.out; simp [Value.oneCell']; decide; (unfold maxLen; omega); omega; exact HZ6.out; simp; intro g cap w7 ho7 hg7 _ _; have E7 := Lib.hid (E6.out.row (World.ownsRow.mono' O6.out HBW.out) (by decide) (by decide) hg7); have O7 := Lib.hid ho7; have O1b := Lib.hid (own_far O1a.out HLT.out O6.out hg7); have HZ7 := Lib.hid (Nat.le_trans HZ6.out hg7.size); have f7 := E7.out.c.2; have x7 := E7.out.c.1; clear ho7 hg7))
              all_goals (
                have E8 := Lib.hid (E7.out.set 3 (.slice (some ⟨g, 0, none⟩) (j + 1) cap) _ _ _ rfl)
                have O8 := O7.out
                rw [← kc_succ] at O8
                have O8 := Lib.hid (E7.out.osetx O8 (by decide) 3 (.slice (some ⟨g, 0, none⟩) (j + 1) cap))
                have O1c := Lib.hid (E7.out.osetx O1b.out (by decide) 3 (.slice (some ⟨g, 0, none⟩) (j + 1) cap))
                have HZ8 := Lib.hid (show B2 ≤ (w7.setCell ⟨gp, 3, none⟩ (.slice (some ⟨g, 0, none⟩) (j + 1) cap)).heap.size by simpa [World.setCell] using HZ7.out)
                clear O6 E6 E7 hE HE HO
                go_wp2_with fail
                go_roundg (k + 1 - (j + 1))
                case measure => have := HJ.out; omega
                case rel => exact ⟨j + 1, _, rfl, by omega, Lib.hid rfl, E8, O1c, O8, HZ8⟩)
            · obtain rfl : j = k + 1 := by omega
              clear hc2 hec2
              have i1 : (k : Int) < ((k + 1 : Nat) : Int) := by omega
              have hC := Lib.hid (check_any ⟨false, A1, k, c1, none, 0, 0, A3, k + 1, c3, K, V, N⟩)
              have hM := Lib.hid (hm.out A1 c1 none 0 A3 c3)
              have HT := Lib.hid (fun (W : World) (h1 : W.ownsRow w.heap.size 9 1 (.slice A1 k c1) k (tc K k)) (h2 : W.ownsRow B2 3 1 (.slice A3 (k + 1) c3) (k + 1) (kc N (k + 1))) => (⟨txt_own h1, fun k hk => absurd hk (by simp), num_own h2, by simp only; omega, by simp only; omega, by simp only; omega⟩ : P.In ⟨false, A1, k, c1, none, 0, 0, A3, k + 1, c3, K, V, N⟩ W))
              generalize hk1 : k + 1 = m at *
              go_wp2_with (first
                | (go_at_call 31; refine hE.out.mono ?_; rintro e w4 ⟨rfl, rfl⟩)
                | (go_at_call 16; refine (hendc2.out _ _ HE.out.rd).mono ?_; rintro e w6 ⟨rfl, hr6, hg6⟩; have E6 := Lib.hid (HE.out.grown hr6 hg6); have O61 := Lib.hid (HE.out.own' O1.out (by decide) hg6); have O62 := Lib.hid (HE.out.own' O2.out (by decide) hg6); obtain ⟨⟨y0, y1, y2, y3⟩, _, _, _⟩ := E6.out.c; clear hr6 hg6)
                | (go_at_call 51; refine (hC.out _ (HT.out _ O61.out O62.out)).mono ?_; rintro e w7 ⟨rfl, hb7⟩; rw [show P.err ⟨false, A1, k, c1, none, 0, 0, A3, m, c3, K, V, N⟩ = 0 from if_pos (by simpa using hM.out)]; have E7 := Lib.hid (E6.out.below hb7); have O71 := Lib.hid (own_below O61.out hb7); have O72 := Lib.hid (own_below O62.out hb7); obtain ⟨⟨z0, z1, z2, z3⟩, _, _, _⟩ := E7.out.c; obtain ⟨⟨t0, t1, t2, t3⟩, u0, u1, u2, u3⟩ := E7.out.rc; clear hb7))
              have hin := HT.out _ (own_set (own_set (own_set (own_set O71.out E7.out.res (by decide) 0 (.bool false)) (set_res E7.out.res 0 _) (by decide) 1 (.slice A1 k c1)) (set_res (set_res E7.out.res 0 _) 1 _) (by decide) 2 (.slice none 0 0)) (set_res (set_res (set_res E7.out.res 0 _) 1 _) 2 _) (by decide) 3 (.slice A3 m c3))
                (own_set (own_set (own_set (own_set O72.out E7.out.res (by decide) 0 (.bool false)) (set_res E7.out.res 0 _) (by decide) 1 (.slice A1 k c1)) (set_res (set_res E7.out.res 0 _) 1 _) (by decide) 2 (.slice none 0 0)) (set_res (set_res (set_res E7.out.res 0 _) 1 _) 2 _) (by decide) 3 (.slice A3 m c3))
              refine bodyPost_ret (v := .tuple #[.agg #[.bool false, .slice A1 k c1, .slice none 0 0, .slice A3 m c3], .int .i64 0]) (by simp [results, Try.results55, go_sem, t0, t1, t2, t3]) rfl ⟨A1, c1, none, 0, A3, c3, by subst hk1; rfl, by subst hk1; exact hin, ?_⟩
              exact (((E7.out.bel.setCell (by simp) _).setCell (by simp) _).setCell (by simp) _).setCell (by simp) _
      · have hv2 := Lib.hid (hv.out rfl)
        have hev2 := Lib.hid (hev.out rfl)
        have hendv2 := Lib.hid (hendv.out rfl)
        clear hc hec hendc HQ hv hev hendv
        rw [← hrv] at HE
        go_wp2_with (first | (go_at_call 31; refine hE.out.mono ?_; rintro e w4 ⟨rfl, rfl⟩))
        go_loopg [8] k (fun gq i wx => ∃ (j : Nat) (v2 : Value), i = .int .i64 j ∧ j ≤ k ∧ Hid (gq = k - j) ∧ Hid (De w wx gp gr (rv j) true (.slice A1 k c1) v2 (Value.slice none 0 0)) ∧ Hid (wx.ownsRow w.heap.size 9 1 (.slice A1 k c1) k (tc K k)) ∧ Hid (wx.ownsRow B2 9 1 v2 j (tc V j)) ∧ Hid (B2 ≤ wx.heap.size))
        case atStart => exact ⟨0, (Value.slice none 0 0), rfl, by omega, Lib.hid rfl, HE, HO, Lib.hid (World.ownsRow_nil _ _ _ _), HB2⟩
        case round =>
          clear HE HO HB2 hE x0 x1 x2 x3 f1 f2 f3
          obtain ⟨j, v2, rfl, hj, HJ, HE, O1, O2, HB2⟩ := hrel
          have hE := Lib.hid (hev2.out _ _ j hj HE.out.rd)
          obtain ⟨A2, c2, rfl⟩ := own_form O2.out
          obtain ⟨⟨x0, x1, x2, x3⟩, f1, f2, f3⟩ := HE.out.c
          by_cases hlt2 : j < k
          · have i1 : (j : Int) < k := by omega
            have HO := O2
            go_wp2_with (first | (go_at_call 31; refine hE.out.mono ?_; rintro e w4 ⟨rfl, rfl⟩))
            go_region_law (first
        | (refine step_goes (f := 24) Try.func24 rfl rfl #[.pointer (some ⟨gr, 0, none⟩), .int .i64 8192] rfl rfl ?_ ?_; simp [Act.eval, Act.put]; refine (hv2.out _ _ j hlt2 (by exact HE.out.rd)).mono ?_; rintro e w5 ⟨rfl, hr5, hg5⟩; refine ⟨_, rfl, ?_⟩; have E5 := HE.out.grown hr5 (undrew' hg5); have E6 := Lib.hid (E5.alloc (.cells #[.string (V j)] 9)); have O6 := Lib.hid (HE.out.own HO.out (by decide) (undrew' hg5) (.cells #[.string (V j)] 9)); have x1' := E5.c.1; have x1'' := E6.out.c.1; have hbk := Lib.hid (heap_alloc_new w5 (.cells #[.string (V j)] 9)); have HZ6 := Lib.hid (Nat.le_trans HB2.out (Nat.le_trans (undrew' hg5).size (Nat.le_of_lt (World.alloc_lt w5 (.cells #[.string (V j)] 9))))); have O1a := Lib.hid (HE.out.own O1.out (by decide) (undrew' hg5) (.cells #[.string (V j)] 9)); clear E5 hr5 hg5)
        | (refine step_append_lies _ rfl (.tmp 51) (.tmp 54) 68 rfl B2 9 i9 (.string ⟨#[]⟩) 1 16 Try.underlying68 hi9 hz90 hz91 hz92 rfl (by decide) (.slice A2 j c2) j (tc V j) ?_ ?_ ⟨w5.heap.size, 0, none⟩ 1 1 [.string (V j)] ?_ ?_ ?_ ?_ ?_ ?_ ?_ ?_ (w5.heap.size + 1) ?_ ?_; (first | rfl | simp [Act.eval, Act.put]); exact O6.out; rfl; rfl; exact World.news_of_block hbk.out; simp [Value.oneCell']; decide; (unfold maxLen; omega); omega; exact HZ6.out; simp; intro g cap w7 ho7 hg7 _ _; have E7 := Lib.hid (E6.out.row (World.ownsRow.mono' O6.out HBW.out) (by decide) (by decide) hg7); have O7 := Lib.hid ho7; have O1b := Lib.hid (own_far O1a.out HLT.out O6.out hg7); have HZ7 := Lib.hid (Nat.le_trans HZ6.out hg7.size); have f7 := E7.out.c.2; have x7 := E7.out.c.1; clear ho7 hg7))
            all_goals (
              have E8 := Lib.hid (E7.out.set 2 (.slice (some ⟨g, 0, none⟩) (j + 1) cap) _ _ _ rfl)
              have O8 := O7.out
              rw [← tc_succ] at O8
              have O8 := Lib.hid (E7.out.osetx O8 (by decide) 2 (.slice (some ⟨g, 0, none⟩) (j + 1) cap))
              have O1c := Lib.hid (E7.out.osetx O1b.out (by decide) 2 (.slice (some ⟨g, 0, none⟩) (j + 1) cap))
              have HZ8 := Lib.hid (show B2 ≤ (w7.setCell ⟨gp, 2, none⟩ (.slice (some ⟨g, 0, none⟩) (j + 1) cap)).heap.size by simpa [World.setCell] using HZ7.out)
              clear O6 E6 E7 hE HE HO
              go_wp2_with fail
              go_roundg (k - (j + 1))
              case measure => have := HJ.out; omega
              case rel => exact ⟨j + 1, _, rfl, by omega, Lib.hid rfl, E8, O1c, O8, HZ8⟩)
          · obtain rfl : j = k := by omega
            clear hv2 hev2
            go_wp2_with (first | (go_at_call 31; refine hE.out.mono ?_; rintro e w4 ⟨rfl, rfl⟩))
            go_loopg [9] 0 (fun gq i wx => i = .int .i64 0 ∧ wx = wr)
            case atStart => exact ⟨rfl, rfl⟩
            case round =>
              obtain ⟨rfl, rfl⟩ := hrel
              have hC := Lib.hid (check_any ⟨true, A1, j, c1, A2, j, c2, none, 0, 0, K, V, N⟩)
              have hM := Lib.hid (hm.out A1 c1 A2 c2 none 0)
              have HT := Lib.hid (fun (W : World) (h1 : W.ownsRow w.heap.size 9 1 (.slice A1 j c1) j (tc K j)) (h2 : W.ownsRow B2 9 1 (.slice A2 j c2) j (tc V j)) => (⟨txt_own h1, txt_own h2, fun k hk => absurd hk (by simp), by simp only; omega, by simp only; omega, by simp only; omega⟩ : P.In ⟨true, A1, j, c1, A2, j, c2, none, 0, 0, K, V, N⟩ W))
              go_wp2_with (first
                | (go_at_call 16; refine (hendv2.out _ _ HE.out.rd).mono ?_; rintro e w6 ⟨rfl, hr6, hg6⟩; have E6 := Lib.hid (HE.out.grown hr6 hg6); have O61 := Lib.hid (HE.out.own' O1.out (by decide) hg6); have O62 := Lib.hid (HE.out.own' O2.out (by decide) hg6); obtain ⟨⟨y0, y1, y2, y3⟩, _, _, _⟩ := E6.out.c; clear hr6 hg6)
                | (go_at_call 51; refine (hC.out _ (HT.out _ O61.out O62.out)).mono ?_; rintro e w7 ⟨rfl, hb7⟩; rw [show P.err ⟨true, A1, j, c1, A2, j, c2, none, 0, 0, K, V, N⟩ = 0 from if_pos (by simpa using hM.out)]; have E7 := Lib.hid (E6.out.below hb7); have O71 := Lib.hid (own_below O61.out hb7); have O72 := Lib.hid (own_below O62.out hb7); obtain ⟨⟨z0, z1, z2, z3⟩, _, _, _⟩ := E7.out.c; obtain ⟨⟨t0, t1, t2, t3⟩, u0, u1, u2, u3⟩ := E7.out.rc; clear hb7))
              have hin := HT.out _ (own_set (own_set (own_set (own_set O71.out E7.out.res (by decide) 0 (.bool true)) (set_res E7.out.res 0 _) (by decide) 1 (.slice A1 j c1)) (set_res (set_res E7.out.res 0 _) 1 _) (by decide) 2 (.slice A2 j c2)) (set_res (set_res (set_res E7.out.res 0 _) 1 _) 2 _) (by decide) 3 (.slice none 0 0))
                (own_set (own_set (own_set (own_set O72.out E7.out.res (by decide) 0 (.bool true)) (set_res E7.out.res 0 _) (by decide) 1 (.slice A1 j c1)) (set_res (set_res E7.out.res 0 _) 1 _) (by decide) 2 (.slice A2 j c2)) (set_res (set_res (set_res E7.out.res 0 _) 1 _) 2 _) (by decide) 3 (.slice none 0 0))
              refine bodyPost_ret (v := .tuple #[.agg #[.bool true, .slice A1 j c1, .slice A2 j c2, .slice none 0 0], .int .i64 0]) (by simp [results, Try.results55, go_sem, t0, t1, t2, t3]) rfl ⟨A1, c1, A2, c2, none, 0, rfl, hin, ?_⟩
              exact (((E7.out.bel.setCell (by simp) _).setCell (by simp) _).setCell (by simp) _).setCell (by simp) _

end Go.Proofs.Ytdajchppblifgaa.Pg
