/- The copies of lists are rows in new memory. -/
import Derived.Test.YtomnkglnbmnmpaaGreatDoorSeeAll
import Derived.Test.YtomnkglnbmnmpaaGreatDoorOwn
import Derived.WalkKit
import Derived.WalkSpells
import Derived.WalkLawsBesides
namespace Go.Proofs.YtomnkglnbmnmpaaGreatDoor
open Go.RowKit Go.Vt Go.Proofs
theorem zinfo107 : (Tryz.prog.info? 107).map (fun i => (i.zero, i.size, i.bytes)) = some (some (.agg #[.string { data := #[] }, .slice none 0 0, .int .i64 0, .slice none 0 0]), 4, 72) := by kernel_rfl
set_option maxRecDepth 100000 in
set_option maxHeartbeats 400000 in
theorem copied_124 : CopiedOK Tryz.prog tab 124 107 4 := by
  intro F w v len cap rows hrd ht hlen hF
  obtain ⟨i0, hi0, hz0, hz1, hz2⟩ := info_parts zinfo107
  obtain ⟨a, rfl, h2, h3⟩ : ∃ a, v = .slice a len cap ∧ len ≤ rows.length ∧ rows.length ≤ cap := by simp only [Rd] at hrd; obtain ⟨a, h1, h2, h3, _⟩ := hrd; exact ⟨a, h1, h2, h3⟩
  have hmk : (Instr.makeSlice 22 (.int .i64 0) (.int .i64 (↑len + 2))).run Tryz.prog w = .ok (.slice (some ⟨w.heap.size, 0, none⟩) 0 (len + 2)) (w.alloc (Obj.cells (madeCells (Value.cells (.agg #[.string { data := #[] }, .slice none 0 0, .int .i64 0, .slice none 0 0])) ((len + 2) * 4)) 107)) := by
    have := run_make (P := Tryz.prog) w 22 107 i0 _ Tryz.underlying22 hi0 hz0 .i64 .i64 0 (len + 2) (by omega) (by omega) (by rw [hz2]; omega) (by omega)
    rw [hz1] at this
    exact this
  obtain ⟨news, hsrc, hflat, hnl⟩ := Rd.src (P := Tryz.prog) 22 107 Tryz.underlying22 hrd (Obj.cells (madeCells (Value.cells (.agg #[.string { data := #[] }, .slice none 0 0, .int .i64 0, .slice none 0 0])) ((len + 2) * 4)) 107)
  have hlens : ∀ r ∈ rows, r.length = 4 := HtRows.lens (n := 4) rfl rows ht
  have hdone := copy_done (tab := tab) (E := 107) (sz := 4) (z := (.agg #[.string { data := #[] }, .slice none 0 0, .int .i64 0, .slice none 0 0] : Value)) (by rfl) (by rfl) hF hnl h2 hlens hflat
  have hlt : (len : Int) + 2 ≤ 9223372036854775807 := by omega
  have hm : ∀ j, j < ((len + 2) * 4) → ((w.alloc (Obj.cells (madeCells (Value.cells (.agg #[.string { data := #[] }, .slice none 0 0, .int .i64 0, .slice none 0 0])) ((len + 2) * 4)) 107)).cell? ⟨w.heap.size, j, none⟩).isSome = true ∧ (w.alloc (Obj.cells (madeCells (Value.cells (.agg #[.string { data := #[] }, .slice none 0 0, .int .i64 0, .slice none 0 0])) ((len + 2) * 4)) 107)).frozen? ⟨w.heap.size, j, none⟩ = false := fun j hj => by
    have hb := heap_alloc_new w (Obj.cells (madeCells (Value.cells (.agg #[.string { data := #[] }, .slice none 0 0, .int .i64 0, .slice none 0 0])) ((len + 2) * 4)) 107)
    constructor
    · rw [cell_of_row _ _ _ _ _ _ hb, Array.getElem?_eq_getElem (by rw [size_madeCells]; exact hj)]; rfl
    · exact World.frozen?_alloc_at _ _ _ _ rfl
  have H1 := Lib.hid hdone
  have H2 := Lib.hid hm
  have H3 := Lib.hid hnl
  have H4 := Lib.hid hz1
  clear hdone hm hnl hz1 hlens hflat h3
  go_enter Tryz.func124, Tryz.ntmps124
  go_wp2_with (at_builtin; refine wpList_append_room_src _ rfl _ _ 22 22 rfl 107 i0 Tryz.underlying22 hi0 w.heap.size 0 0 (len + 2) rfl _ rfl len news (by rw [H4.out]; exact hsrc) (by omega) (fun j hj => by have := H3.out; rw [H4.out]; simp only [Nat.zero_mul, Nat.add_zero, Nat.zero_add]; exact (H2.out j (by omega)).1) (fun j hj => by have := H3.out; rw [H4.out]; simp only [Nat.zero_mul, Nat.add_zero, Nat.zero_add]; exact (H2.out j (by omega)).2) ?_; rw [H4.out]; simp only [Nat.zero_mul, Nat.add_zero, Nat.zero_add])
  go_ret
  exact ⟨_, rfl, H1.out⟩
theorem zinfo116 : (Tryz.prog.info? 116).map (fun i => (i.zero, i.size, i.bytes)) = some (some (.agg #[.string { data := #[] }, .string { data := #[] }]), 2, 32) := by kernel_rfl
set_option maxRecDepth 100000 in
set_option maxHeartbeats 400000 in
theorem copied_160 : CopiedOK Tryz.prog tab 160 116 2 := by
  intro F w v len cap rows hrd ht hlen hF
  obtain ⟨i0, hi0, hz0, hz1, hz2⟩ := info_parts zinfo116
  obtain ⟨a, rfl, h2, h3⟩ : ∃ a, v = .slice a len cap ∧ len ≤ rows.length ∧ rows.length ≤ cap := by simp only [Rd] at hrd; obtain ⟨a, h1, h2, h3, _⟩ := hrd; exact ⟨a, h1, h2, h3⟩
  have hmk : (Instr.makeSlice 105 (.int .i64 0) (.int .i64 (↑len + 2))).run Tryz.prog w = .ok (.slice (some ⟨w.heap.size, 0, none⟩) 0 (len + 2)) (w.alloc (Obj.cells (madeCells (Value.cells (.agg #[.string { data := #[] }, .string { data := #[] }])) ((len + 2) * 2)) 116)) := by
    have := run_make (P := Tryz.prog) w 105 116 i0 _ Tryz.underlying105 hi0 hz0 .i64 .i64 0 (len + 2) (by omega) (by omega) (by rw [hz2]; omega) (by omega)
    rw [hz1] at this
    exact this
  obtain ⟨news, hsrc, hflat, hnl⟩ := Rd.src (P := Tryz.prog) 105 116 Tryz.underlying105 hrd (Obj.cells (madeCells (Value.cells (.agg #[.string { data := #[] }, .string { data := #[] }])) ((len + 2) * 2)) 116)
  have hlens : ∀ r ∈ rows, r.length = 2 := HtRows.lens (n := 2) rfl rows ht
  have hdone := copy_done (tab := tab) (E := 116) (sz := 2) (z := (.agg #[.string { data := #[] }, .string { data := #[] }] : Value)) (by rfl) (by rfl) hF hnl h2 hlens hflat
  have hlt : (len : Int) + 2 ≤ 9223372036854775807 := by omega
  have hm : ∀ j, j < ((len + 2) * 2) → ((w.alloc (Obj.cells (madeCells (Value.cells (.agg #[.string { data := #[] }, .string { data := #[] }])) ((len + 2) * 2)) 116)).cell? ⟨w.heap.size, j, none⟩).isSome = true ∧ (w.alloc (Obj.cells (madeCells (Value.cells (.agg #[.string { data := #[] }, .string { data := #[] }])) ((len + 2) * 2)) 116)).frozen? ⟨w.heap.size, j, none⟩ = false := fun j hj => by
    have hb := heap_alloc_new w (Obj.cells (madeCells (Value.cells (.agg #[.string { data := #[] }, .string { data := #[] }])) ((len + 2) * 2)) 116)
    constructor
    · rw [cell_of_row _ _ _ _ _ _ hb, Array.getElem?_eq_getElem (by rw [size_madeCells]; exact hj)]; rfl
    · exact World.frozen?_alloc_at _ _ _ _ rfl
  have H1 := Lib.hid hdone
  have H2 := Lib.hid hm
  have H3 := Lib.hid hnl
  have H4 := Lib.hid hz1
  clear hdone hm hnl hz1 hlens hflat h3
  go_enter Tryz.func160, Tryz.ntmps160
  go_wp2_with (at_builtin; refine wpList_append_room_src _ rfl _ _ 105 105 rfl 116 i0 Tryz.underlying105 hi0 w.heap.size 0 0 (len + 2) rfl _ rfl len news (by rw [H4.out]; exact hsrc) (by omega) (fun j hj => by have := H3.out; rw [H4.out]; simp only [Nat.zero_mul, Nat.add_zero, Nat.zero_add]; exact (H2.out j (by omega)).1) (fun j hj => by have := H3.out; rw [H4.out]; simp only [Nat.zero_mul, Nat.add_zero, Nat.zero_add]; exact (H2.out j (by omega)).2) ?_; rw [H4.out]; simp only [Nat.zero_mul, Nat.add_zero, Nat.zero_add])
  go_ret
  exact ⟨_, rfl, H1.out⟩
theorem zinfo3 : (Tryz.prog.info? 3).map (fun i => (i.zero, i.size, i.bytes)) = some (some (.int .i64 0), 1, 8) := by kernel_rfl
set_option maxRecDepth 100000 in
set_option maxHeartbeats 400000 in
theorem copied_161 : CopiedOK Tryz.prog tab 161 3 1 := by
  intro F w v len cap rows hrd ht hlen hF
  obtain ⟨i0, hi0, hz0, hz1, hz2⟩ := info_parts zinfo3
  obtain ⟨a, rfl, h2, h3⟩ : ∃ a, v = .slice a len cap ∧ len ≤ rows.length ∧ rows.length ≤ cap := by simp only [Rd] at hrd; obtain ⟨a, h1, h2, h3, _⟩ := hrd; exact ⟨a, h1, h2, h3⟩
  have hmk : (Instr.makeSlice 70 (.int .i64 0) (.int .i64 (↑len + 2))).run Tryz.prog w = .ok (.slice (some ⟨w.heap.size, 0, none⟩) 0 (len + 2)) (w.alloc (Obj.cells (madeCells (Value.cells (.int .i64 0)) (len + 2)) 3)) := by
    have := run_make (P := Tryz.prog) w 70 3 i0 _ Tryz.underlying70 hi0 hz0 .i64 .i64 0 (len + 2) (by omega) (by omega) (by rw [hz2]; omega) (by omega)
    rw [hz1] at this
    rw [Nat.mul_one] at this
    exact this
  obtain ⟨news, hsrc, hflat, hnl⟩ := Rd.src (P := Tryz.prog) 70 3 Tryz.underlying70 hrd (Obj.cells (madeCells (Value.cells (.int .i64 0)) (len + 2)) 3)
  have hlens : ∀ r ∈ rows, r.length = 1 := HtRows.lens (n := 1) rfl rows ht
  have hdone := copy_done (tab := tab) (E := 3) (sz := 1) (z := (.int .i64 0 : Value)) (by rfl) (by rfl) hF hnl h2 hlens hflat
  rw [Nat.mul_one] at hdone
  have hlt : (len : Int) + 2 ≤ 9223372036854775807 := by omega
  have hm : ∀ j, j < (len + 2) → ((w.alloc (Obj.cells (madeCells (Value.cells (.int .i64 0)) (len + 2)) 3)).cell? ⟨w.heap.size, j, none⟩).isSome = true ∧ (w.alloc (Obj.cells (madeCells (Value.cells (.int .i64 0)) (len + 2)) 3)).frozen? ⟨w.heap.size, j, none⟩ = false := fun j hj => by
    have hb := heap_alloc_new w (Obj.cells (madeCells (Value.cells (.int .i64 0)) (len + 2)) 3)
    constructor
    · rw [cell_of_row _ _ _ _ _ _ hb, Array.getElem?_eq_getElem (by rw [size_madeCells]; exact hj)]; rfl
    · exact World.frozen?_alloc_at _ _ _ _ rfl
  have H1 := Lib.hid hdone
  have H2 := Lib.hid hm
  have H3 := Lib.hid hnl
  have H4 := Lib.hid hz1
  clear hdone hm hnl hz1 hlens hflat h3
  go_enter Tryz.func161, Tryz.ntmps161
  go_wp2_with (at_builtin; refine wpList_append_room_src _ rfl _ _ 70 70 rfl 3 i0 Tryz.underlying70 hi0 w.heap.size 0 0 (len + 2) rfl _ rfl len news (by rw [H4.out]; exact hsrc) (by omega) (fun j hj => by have := H3.out; rw [H4.out]; simp only [Nat.zero_mul, Nat.add_zero, Nat.zero_add]; exact (H2.out j (by omega)).1) (fun j hj => by have := H3.out; rw [H4.out]; simp only [Nat.zero_mul, Nat.add_zero, Nat.zero_add]; exact (H2.out j (by omega)).2) ?_; rw [H4.out]; simp only [Nat.zero_mul, Nat.add_zero, Nat.zero_add])
  go_ret
  exact ⟨_, rfl, H1.out⟩
end Go.Proofs.YtomnkglnbmnmpaaGreatDoor
