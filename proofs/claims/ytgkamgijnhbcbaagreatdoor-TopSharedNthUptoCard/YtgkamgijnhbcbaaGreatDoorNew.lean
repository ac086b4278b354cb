/- tree.New: a tree in new memory. -/
import Derived.Test.YtgkamgijnhbcbaaGreatDoorWalks
import Derived.WalkKit
import Derived.WalkSpells
import Derived.WalkLawsBesides
namespace Go.Proofs.YtgkamgijnhbcbaaGreatDoor
open Go.RowKit Go.Vt Go.Proofs
/-- A tree in new memory, up to m nodes of data. -/
def NewTree (B : Nat) (m : Nat) (w' : World) (v : Value) : Prop := ∃ len cap rows, Rd (Nw B w') w' (.sl 4 len cap rows) v ∧ HtRows tab [.str, .sl 201, .int .i64, .sl 3] rows ∧ nodesRows rows ≤ m
def NewP (B m : Nat) (e : Ending) (w' : World) : Prop := ∃ v n, e = .returned (.tuple #[.agg #[v], n]) ∧ NewTree B m w' v
set_option maxRecDepth 100000 in
theorem new_ok (w : World) (s : ByteArray) (hs : s.size ≤ strMax) : Calls Tryz.prog 179 #[.string s] w fun e w' => NewP w.heap.size 100 e w' ∧ Below w.heap.size w w' := by
  obtain ⟨W, hW⟩ : ∃ W, W = w.alloc (Obj.cells #[Value.slice none 0 0] 24) := ⟨_, rfl⟩
  have hb1 : Below w.heap.size w W := by rw [hW]; exact (Below.refl _ _).alloc (Nat.le_refl _) _
  have s1 : W.heap.size = w.heap.size + 1 := by rw [hW, alloc_size]
  have hc := named_is s W
  have HC := Lib.hid hc
  have HW := Lib.hid hW
  have HB1 := Lib.hid hb1
  clear hc hW hb1
  go_enter Tryz.func179, Tryz.ntmps179
  go_wp2_with fail
  rw [← HW.out]
  refine HC.out.mono ?_
  rintro e w1 ⟨rfl, hw1⟩
  rw [hw1, HW.out]
  clear hw1
  cases namedB s with
  | false =>
    go_wp2_with fail
    have e0 : (w.alloc (Obj.cells #[Value.slice none 0 0] 24)).cell? ⟨w.heap.size, 0, none⟩ = some (Value.slice none 0 0) := cell_of_row _ _ 0 _ _ _ (heap_alloc_new w _)
    refine bodyPost_ret (v := .tuple #[.agg #[.slice none 0 0], .int .i64 2]) (by simp [results, Tryz.results179, go_sem, e0]) rfl ?_
    refine ⟨⟨_, _, rfl, 0, 0, [], ?_, by simp [HtRows], by simp [nodesRows]⟩, (Below.refl _ _).alloc (Nat.le_refl _) _⟩
    simp only [Rd]; exact ⟨none, rfl, by simp, by simp, .inl (by first | trivial | rfl)⟩
  | true =>
    go_wp2_with fail
    obtain ⟨W2, hW2⟩ : ∃ W2, W2 = (w.alloc (Obj.cells #[Value.slice (some ⟨w.heap.size + 1, 0, none⟩) 1 1] 24)).alloc (Obj.cells #[Value.string s, Value.slice none 0 0, Value.int .i64 (-1), Value.slice none 0 0] 132) := ⟨_, rfl⟩
    have s2 : W2.heap.size = w.heap.size + 2 := by rw [hW2, alloc_size, alloc_size]
    have b2 : Below w.heap.size w W2 := by rw [hW2]; exact ((Below.refl _ _).alloc (Nat.le_refl _) _).alloc (by rw [alloc_size]; omega) _
    have x2 : W2.heap[w.heap.size]? = some (.cells #[Value.slice (some ⟨w.heap.size + 1, 0, none⟩) 1 1] 24 (0, 0)) := by rw [hW2]; exact (Below.heap_alloc _ _ _ (by rw [alloc_size]; omega)).trans (heap_alloc_new w _)
    have y2 : W2.heap[w.heap.size + 1]? = some (.cells #[Value.string s, Value.slice none 0 0, Value.int .i64 (-1), Value.slice none 0 0] 132 (0, 0)) := by
      rw [hW2]; have := heap_alloc_new (w.alloc (Obj.cells #[Value.slice (some ⟨w.heap.size + 1, 0, none⟩) 1 1] 24)) (Obj.cells #[Value.string s, Value.slice none 0 0, Value.int .i64 (-1), Value.slice none 0 0] 132); rwa [alloc_size] at this
    rw [← hW2]
    have e0 : W2.cell? ⟨w.heap.size, 0, none⟩ = some (Value.slice (some ⟨w.heap.size + 1, 0, none⟩) 1 1) := cell_of_row _ _ 0 _ _ _ x2
    refine bodyPost_ret (v := .tuple #[.agg #[.slice (some ⟨w.heap.size + 1, 0, none⟩) 1 1], .int .i64 0]) (by simp [results, Tryz.results179, go_sem, e0]) rfl ?_
    refine ⟨⟨_, _, rfl, 1, 1, [[.str s, .sl 2 0 0 [], .int .i64 (-1), .sl 1 0 0 []]], ?_, ?_, by simp [nodesRows, nodesRow, nodes]⟩, b2⟩
    · simp only [Rd]
      refine ⟨_, rfl, by simp, by simp, .inr ⟨w.heap.size + 1, 0, rfl, ⟨by omega, by omega, _, _, y2⟩, ?_⟩⟩
      simp only [RdRows, RdRow, and_true, List.length_cons, List.length_nil]
      refine ⟨by simp, ⟨_, cell_of_row _ _ 0 _ _ _ y2, by simp [Rd]⟩, ⟨_, cell_of_row _ _ 1 _ _ _ y2, ?_⟩, ⟨_, cell_of_row _ _ 2 _ _ _ y2, by simp [Rd]⟩, ⟨_, cell_of_row _ _ 3 _ _ _ y2, ?_⟩⟩
      · simp only [Rd]; exact ⟨none, rfl, by simp, by simp, .inl trivial⟩
      · simp only [Rd]; exact ⟨none, rfl, by simp, by simp, .inl trivial⟩
    · simp only [HtRows, HtRow, Ht, and_true]
      refine ⟨⟨by trivial, hs⟩, ?_, ⟨by trivial, by decide⟩, ?_⟩
      all_goals first | rfl | exact ⟨_, rfl, rfl, by simp [HtRows]⟩ | simp [tab]
end Go.Proofs.YtgkamgijnhbcbaaGreatDoor
