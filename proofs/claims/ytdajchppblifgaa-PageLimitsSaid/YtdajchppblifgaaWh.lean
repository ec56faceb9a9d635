/- The writer's Hash. -/
import Derived.Test.YtdajchppblifgaaWt
namespace Go.Proofs.Ytdajchppblifgaa.Wr
open Go.RowKit Go.Proofs.Ytdajchppblifgaa.Pl Go.Proofs.Ytdajchppblifgaa.Rd
set_option linter.unusedVariables false
set_option linter.unusedSimpArgs false

/-- A text cut to 32 bytes, or filled up with noughts. -/
def hashB (s : ByteArray) : List UInt8 := s.data.toList.take 32 ++ List.replicate (32 - s.size) 0
theorem hashB_length (s : ByteArray) : (hashB s).length = 32 := by simp [hashB]; omega

/-- 'copy(dst, s)', s a string, dst a whole row of 32 cells. -/
theorem run_copy_cut {P : Program} (w : World) (dT sT ty elem : TypeId) (g : Nat) (s : ByteArray) (cur : Array Value) (t : TypeId)
    (hu : P.underlying dT = some (.slice elem)) (hs : (P.info? elem).map (·.size) = some 1) (hg : w.heap[g]? = some (.cells cur t (0, 0))) (hc : cur.size = 32) :
    (Builtin.copy_ #[dT, sT] ty #[.slice (some ⟨g, 0, none⟩) 32 32, .string s]).run P w =
      .ok (goInt (Nat.min s.size 32)) (w.setRow g (bcells (s.data.toList.take 32) ++ cur.toList.drop (min s.size 32)).toArray) := by
  have hlen : (bcells (s.data.toList.take 32)).length = min s.size 32 := by simp [bcells]; omega
  have hone : ∀ v ∈ bcells (s.data.toList.take 32), v.oneCell' = true := by
    intro v hv
    simp only [bcells, List.mem_map] at hv
    obtain ⟨b, _, rfl⟩ := hv
    rfl
  have hst := run_storeCells_at P g 0 t (bcells (s.data.toList.take 32)) 0 cur w hg (by rw [hlen]; omega) hone
  have htk : List.take (Nat.min s.size 32) (List.map (fun b : UInt8 => Value.int IntKind.u8 (b.toNat : Int)) s.data.toList) = bcells (s.data.toList.take 32) := by
    rw [bcells, List.map_take]
    show List.take (min s.size 32) _ = _
    rw [List.take_eq_take_iff]
    simp
    omega
  rw [hlen] at hst
  simp only [Nat.add_zero, Nat.zero_add, List.take_zero, List.nil_append] at hst
  cases hq : P.info? elem with
  | none => simp [hq] at hs
  | some i =>
    simp [Builtin.copy_, run_underlying hu, Builtin.lenOf, Builtin.firstCells, sizeOf, typeInfo, hq]
    rw [htk, hst]
    simp [Result.andThen]

def z32 : Array Value := #[Value.int IntKind.u8 0, Value.int IntKind.u8 0, Value.int IntKind.u8 0, Value.int IntKind.u8 0,
                Value.int IntKind.u8 0, Value.int IntKind.u8 0, Value.int IntKind.u8 0, Value.int IntKind.u8 0,
                Value.int IntKind.u8 0, Value.int IntKind.u8 0, Value.int IntKind.u8 0, Value.int IntKind.u8 0,
                Value.int IntKind.u8 0, Value.int IntKind.u8 0, Value.int IntKind.u8 0, Value.int IntKind.u8 0,
                Value.int IntKind.u8 0, Value.int IntKind.u8 0, Value.int IntKind.u8 0, Value.int IntKind.u8 0,
                Value.int IntKind.u8 0, Value.int IntKind.u8 0, Value.int IntKind.u8 0, Value.int IntKind.u8 0,
                Value.int IntKind.u8 0, Value.int IntKind.u8 0, Value.int IntKind.u8 0, Value.int IntKind.u8 0,
                Value.int IntKind.u8 0, Value.int IntKind.u8 0, Value.int IntKind.u8 0, Value.int IntKind.u8 0]
theorem z32_list : z32.toList = List.replicate 32 (Value.int IntKind.u8 0) := rfl

theorem copy_hash (w : World) (s : ByteArray) : ∃ v W', (Builtin.copy_ #[35, 9] 3 #[.slice (some ⟨w.heap.size, 0, none⟩) 32 32, .string s]).run Try.prog (w.alloc (.cells z32 95)) = .ok v W' ∧
    Below w.heap.size w W' ∧ (convert 35 9 (.slice (some ⟨w.heap.size, 0, none⟩) 32 32)).run Try.prog W' = .ok (.string ⟨(hashB s).toArray⟩) W' := by
  have hg := heap_alloc_new w (.cells z32 95)
  refine ⟨_, _, run_copy_cut (P := Try.prog) _ 35 9 3 5 w.heap.size s z32 95 Try.underlying35 (by kernel_rfl) hg rfl, ?_, ?_⟩
  · exact ((Below.refl _ _).alloc (Nat.le_refl _) _).trans ⟨rfl, rfl, rfl, by simp [World.setRow], fun k hk => by simp only [World.setRow, Array.getElem?_modify]; rw [if_neg (by omega)]⟩
  · have hrow : ((w.alloc (.cells z32 95)).setRow w.heap.size (bcells (s.data.toList.take 32) ++ z32.toList.drop (min s.size 32)).toArray).heap[w.heap.size]? = some (.cells (bcells (hashB s)).toArray 95 (0, 0)) := by
      rw [setRow_heap _ _ z32 _ 95 _ hg]
      rw [z32_list]
      have e : bcells (s.data.toList.take 32) ++ (List.replicate 32 (Value.int .u8 0)).drop (min s.size 32) = bcells (hashB s) := by
        rw [List.drop_replicate]
        simp only [bcells, hashB, List.map_append, List.map_replicate]
        rw [show 32 - min s.size 32 = 32 - s.size by omega]
        rfl
      rw [e]
    have := run_convert_bytes_back (P := Try.prog) _ 35 9 5 ⟨w.heap.size, 0, none⟩ 32 (hashB s) Try.underlying35 Try.underlying5 Try.underlying9 (fun j hj => by
      have ha : (⟨w.heap.size, 0, none⟩ : Addr).add j = ⟨w.heap.size, j, none⟩ := by unfold Addr.add; split <;> simp_all
      rw [ha, cell_of_row _ _ j _ 95 (0, 0) hrow]
      simp [bcells, hj])
    rwa [hashB_length] at this

set_option maxRecDepth 10000 in
theorem whash_nil (s : ByteArray) (w : World) :
    Calls Try.prog 40 #[.pointer none, .string s] w fun en w' => en = .returned (.tuple #[]) ∧ Below w.heap.size w w' := by
  obtain ⟨v, W', hcp, hb, hcv⟩ := copy_hash w s
  unfold z32 at hcp
  go_enter Try.func40, Try.ntmps40
  go_wp2_with (first | (go_at_call 43; refine (wbytes_nil _ _).mono ?_; rintro e w2 ⟨rfl, rfl⟩))
  go_end0
  exact ⟨rfl, hb⟩

set_option maxRecDepth 10000 in
theorem whash_any (g B : Nat) (xs : List UInt8) (s : ByteArray) (hs : xs.length + 32 ≤ 140737488355327) (w : World) (h : Wt w g B xs) :
    Calls Try.prog 40 #[.pointer (some ⟨g, 0, none⟩), .string s] w (Put w g B (xs ++ hashB s)) := by
  obtain ⟨v, W', hcp, hb, hcv⟩ := copy_hash w s
  unfold z32 at hcp
  obtain ⟨u, HU⟩ : ∃ u, Hid (u = ByteArray.mk (hashB s).toArray) := ⟨_, Lib.hid rfl⟩
  have hl : xs.length + u.size ≤ 140737488355327 := by
    rw [HU.out]
    show xs.length + (hashB s).toArray.size ≤ _
    rw [List.size_toArray, hashB_length]
    exact hs
  rw [← HU.out] at hcv
  rw [show hashB s = u.data.toList by rw [HU.out]]
  have hB : B ≤ w.heap.size := by have := h.1; have := h.lt; omega
  have hO := Lib.hid (h.below hb (Nat.le_refl _))
  clear h
  go_enter Try.func40, Try.ntmps40
  go_wp2_with (first | (go_at_call 43; refine (wbytes_any g B xs u hl _ hO.out).mono ?_; rintro e w2 ⟨rfl, hw2, hb2⟩))
  go_end0
  exact ⟨rfl, hw2, (hb.mono hB).trans hb2⟩

end Go.Proofs.Ytdajchppblifgaa.Wr
