/- The copies of lists are rows in new memory. -/
import Derived.Test.YtgkamgijnhbcbaaGreatDoorSeeAll
import Derived.Test.YtgkamgijnhbcbaaGreatDoorOwn
import Derived.WalkKit
import Derived.WalkSpells
import Derived.WalkLawsBesides
namespace Go.Proofs.YtgkamgijnhbcbaaGreatDoor
open Go.RowKit Go.Vt Go.Proofs
theorem zinfo5 : (Tryz.prog.info? 5).map (fun i => (i.zero, i.size, i.bytes)) = some (some (.int .u8 0), 1, 1) := by kernel_rfl
set_option maxRecDepth 100000 in
set_option maxHeartbeats 400000 in
theorem copied_48 : CopiedOK Tryz.prog tab 48 5 1 := by
  intro F w v len cap rows hrd ht hlen hF
  obtain ⟨i0, hi0, hz0, hz1, hz2⟩ := info_parts zinfo5
  obtain ⟨a, rfl, h2, h3⟩ : ∃ a, v = .slice a len cap ∧ len ≤ rows.length ∧ rows.length ≤ cap := by simp only [Rd] at hrd; obtain ⟨a, h1, h2, h3, _⟩ := hrd; exact ⟨a, h1, h2, h3⟩
  have hmk : (Instr.makeSlice 25 (.int .i64 0) (.int .i64 (↑len + 2))).run Tryz.prog w = .ok (.slice (some ⟨w.heap.size, 0, none⟩) 0 (len + 2)) (w.alloc (Obj.cells (madeCells (Value.cells (.int .u8 0)) (len + 2)) 5)) := by
    have := run_make (P := Tryz.prog) w 25 5 i0 _ Tryz.underlying25 hi0 hz0 .i64 .i64 0 (len + 2) (by omega) (by omega) (by rw [hz2]; omega) (by omega)
    rw [hz1] at this
    rw [Nat.mul_one] at this
    exact this
  obtain ⟨news, hsrc, hflat, hnl⟩ := Rd.src (P := Tryz.prog) 25 5 Tryz.underlying25 hrd (Obj.cells (madeCells (Value.cells (.int .u8 0)) (len + 2)) 5)
  have hlens : ∀ r ∈ rows, r.length = 1 := HtRows.lens (n := 1) rfl rows ht
  have hdone := copy_done (tab := tab) (E := 5) (sz := 1) (z := (.int .u8 0 : Value)) (by rfl) (by rfl) hF hnl h2 hlens hflat
  rw [Nat.mul_one] at hdone
  have hlt : (len : Int) + 2 ≤ 9223372036854775807 := by omega
  have hm : ∀ j, j < (len + 2) → ((w.alloc (Obj.cells (madeCells (Value.cells (.int .u8 0)) (len + 2)) 5)).cell? ⟨w.heap.size, j, none⟩).isSome = true ∧ (w.alloc (Obj.cells (madeCells (Value.cells (.int .u8 0)) (len + 2)) 5)).frozen? ⟨w.heap.size, j, none⟩ = false := fun j hj => by
    have hb := heap_alloc_new w (Obj.cells (madeCells (Value.cells (.int .u8 0)) (len + 2)) 5)
    constructor
    · rw [cell_of_row _ _ _ _ _ _ hb, Array.getElem?_eq_getElem (by rw [size_madeCells]; exact hj)]; rfl
    · exact World.frozen?_alloc_at _ _ _ _ rfl
  have H1 := Lib.hid hdone
  have H2 := Lib.hid hm
  have H3 := Lib.hid hnl
  have H4 := Lib.hid hz1
  clear hdone hm hnl hz1 hlens hflat h3
  go_enter Tryz.func48, Tryz.ntmps48
  go_wp2_with (at_builtin; refine wpList_append_room_src _ rfl _ _ 25 25 rfl 5 i0 Tryz.underlying25 hi0 w.heap.size 0 0 (len + 2) rfl _ rfl len news (by rw [H4.out]; exact hsrc) (by omega) (fun j hj => by have := H3.out; rw [H4.out]; simp only [Nat.zero_mul, Nat.add_zero, Nat.zero_add]; exact (H2.out j (by omega)).1) (fun j hj => by have := H3.out; rw [H4.out]; simp only [Nat.zero_mul, Nat.add_zero, Nat.zero_add]; exact (H2.out j (by omega)).2) ?_; rw [H4.out]; simp only [Nat.zero_mul, Nat.add_zero, Nat.zero_add])
  go_ret
  exact ⟨_, rfl, H1.out⟩
theorem zinfo4 : (Tryz.prog.info? 4).map (fun i => (i.zero, i.size, i.bytes)) = some (some (.bool false), 1, 1) := by kernel_rfl
set_option maxRecDepth 100000 in
set_option maxHeartbeats 400000 in
theorem copied_63 : CopiedOK Tryz.prog tab 63 4 1 := by
  intro F w v len cap rows hrd ht hlen hF
  obtain ⟨i0, hi0, hz0, hz1, hz2⟩ := info_parts zinfo4
  obtain ⟨a, rfl, h2, h3⟩ : ∃ a, v = .slice a len cap ∧ len ≤ rows.length ∧ rows.length ≤ cap := by simp only [Rd] at hrd; obtain ⟨a, h1, h2, h3, _⟩ := hrd; exact ⟨a, h1, h2, h3⟩
  have hmk : (Instr.makeSlice 45 (.int .i64 0) (.int .i64 (↑len + 2))).run Tryz.prog w = .ok (.slice (some ⟨w.heap.size, 0, none⟩) 0 (len + 2)) (w.alloc (Obj.cells (madeCells (Value.cells (.bool false)) (len + 2)) 4)) := by
    have := run_make (P := Tryz.prog) w 45 4 i0 _ Tryz.underlying45 hi0 hz0 .i64 .i64 0 (len + 2) (by omega) (by omega) (by rw [hz2]; omega) (by omega)
    rw [hz1] at this
    rw [Nat.mul_one] at this
    exact this
  obtain ⟨news, hsrc, hflat, hnl⟩ := Rd.src (P := Tryz.prog) 45 4 Tryz.underlying45 hrd (Obj.cells (madeCells (Value.cells (.bool false)) (len + 2)) 4)
  have hlens : ∀ r ∈ rows, r.length = 1 := HtRows.lens (n := 1) rfl rows ht
  have hdone := copy_done (tab := tab) (E := 4) (sz := 1) (z := (.bool false : Value)) (by rfl) (by rfl) hF hnl h2 hlens hflat
  rw [Nat.mul_one] at hdone
  have hlt : (len : Int) + 2 ≤ 9223372036854775807 := by omega
  have hm : ∀ j, j < (len + 2) → ((w.alloc (Obj.cells (madeCells (Value.cells (.bool false)) (len + 2)) 4)).cell? ⟨w.heap.size, j, none⟩).isSome = true ∧ (w.alloc (Obj.cells (madeCells (Value.cells (.bool false)) (len + 2)) 4)).frozen? ⟨w.heap.size, j, none⟩ = false := fun j hj => by
    have hb := heap_alloc_new w (Obj.cells (madeCells (Value.cells (.bool false)) (len + 2)) 4)
    constructor
    · rw [cell_of_row _ _ _ _ _ _ hb, Array.getElem?_eq_getElem (by rw [size_madeCells]; exact hj)]; rfl
    · exact World.frozen?_alloc_at _ _ _ _ rfl
  have H1 := Lib.hid hdone
  have H2 := Lib.hid hm
  have H3 := Lib.hid hnl
  have H4 := Lib.hid hz1
  clear hdone hm hnl hz1 hlens hflat h3
  go_enter Tryz.func63, Tryz.ntmps63
  go_wp2_with (at_builtin; refine wpList_append_room_src _ rfl _ _ 45 45 rfl 4 i0 Tryz.underlying45 hi0 w.heap.size 0 0 (len + 2) rfl _ rfl len news (by rw [H4.out]; exact hsrc) (by omega) (fun j hj => by have := H3.out; rw [H4.out]; simp only [Nat.zero_mul, Nat.add_zero, Nat.zero_add]; exact (H2.out j (by omega)).1) (fun j hj => by have := H3.out; rw [H4.out]; simp only [Nat.zero_mul, Nat.add_zero, Nat.zero_add]; exact (H2.out j (by omega)).2) ?_; rw [H4.out]; simp only [Nat.zero_mul, Nat.add_zero, Nat.zero_add])
  go_ret
  exact ⟨_, rfl, H1.out⟩
theorem zinfo45 : (Tryz.prog.info? 45).map (fun i => (i.zero, i.size, i.bytes)) = some (some (.slice none 0 0), 1, 24) := by kernel_rfl
set_option maxRecDepth 100000 in
set_option maxHeartbeats 400000 in
theorem copied_77 : CopiedOK Tryz.prog tab 77 45 1 := by
  intro F w v len cap rows hrd ht hlen hF
  obtain ⟨i0, hi0, hz0, hz1, hz2⟩ := info_parts zinfo45
  obtain ⟨a, rfl, h2, h3⟩ : ∃ a, v = .slice a len cap ∧ len ≤ rows.length ∧ rows.length ≤ cap := by simp only [Rd] at hrd; obtain ⟨a, h1, h2, h3, _⟩ := hrd; exact ⟨a, h1, h2, h3⟩
  have hmk : (Instr.makeSlice 26 (.int .i64 0) (.int .i64 (↑len + 2))).run Tryz.prog w = .ok (.slice (some ⟨w.heap.size, 0, none⟩) 0 (len + 2)) (w.alloc (Obj.cells (madeCells (Value.cells (.slice none 0 0)) (len + 2)) 45)) := by
    have := run_make (P := Tryz.prog) w 26 45 i0 _ Tryz.underlying26 hi0 hz0 .i64 .i64 0 (len + 2) (by omega) (by omega) (by rw [hz2]; omega) (by omega)
    rw [hz1] at this
    rw [Nat.mul_one] at this
    exact this
  obtain ⟨news, hsrc, hflat, hnl⟩ := Rd.src (P := Tryz.prog) 26 45 Tryz.underlying26 hrd (Obj.cells (madeCells (Value.cells (.slice none 0 0)) (len + 2)) 45)
  have hlens : ∀ r ∈ rows, r.length = 1 := HtRows.lens (n := 1) rfl rows ht
  have hdone := copy_done (tab := tab) (E := 45) (sz := 1) (z := (.slice none 0 0 : Value)) (by rfl) (by rfl) hF hnl h2 hlens hflat
  rw [Nat.mul_one] at hdone
  have hlt : (len : Int) + 2 ≤ 9223372036854775807 := by omega
  have hm : ∀ j, j < (len + 2) → ((w.alloc (Obj.cells (madeCells (Value.cells (.slice none 0 0)) (len + 2)) 45)).cell? ⟨w.heap.size, j, none⟩).isSome = true ∧ (w.alloc (Obj.cells (madeCells (Value.cells (.slice none 0 0)) (len + 2)) 45)).frozen? ⟨w.heap.size, j, none⟩ = false := fun j hj => by
    have hb := heap_alloc_new w (Obj.cells (madeCells (Value.cells (.slice none 0 0)) (len + 2)) 45)
    constructor
    · rw [cell_of_row _ _ _ _ _ _ hb, Array.getElem?_eq_getElem (by rw [size_madeCells]; exact hj)]; rfl
    · exact World.frozen?_alloc_at _ _ _ _ rfl
  have H1 := Lib.hid hdone
  have H2 := Lib.hid hm
  have H3 := Lib.hid hnl
  have H4 := Lib.hid hz1
  clear hdone hm hnl hz1 hlens hflat h3
  go_enter Tryz.func77, Tryz.ntmps77
  go_wp2_with (at_builtin; refine wpList_append_room_src _ rfl _ _ 26 26 rfl 45 i0 Tryz.underlying26 hi0 w.heap.size 0 0 (len + 2) rfl _ rfl len news (by rw [H4.out]; exact hsrc) (by omega) (fun j hj => by have := H3.out; rw [H4.out]; simp only [Nat.zero_mul, Nat.add_zero, Nat.zero_add]; exact (H2.out j (by omega)).1) (fun j hj => by have := H3.out; rw [H4.out]; simp only [Nat.zero_mul, Nat.add_zero, Nat.zero_add]; exact (H2.out j (by omega)).2) ?_; rw [H4.out]; simp only [Nat.zero_mul, Nat.add_zero, Nat.zero_add])
  go_ret
  exact ⟨_, rfl, H1.out⟩
theorem zinfo132 : (Tryz.prog.info? 132).map (fun i => (i.zero, i.size, i.bytes)) = some (some (.agg #[.string { data := #[] }, .slice none 0 0, .int .i64 0, .slice none 0 0]), 4, 72) := by kernel_rfl
set_option maxRecDepth 100000 in
set_option maxHeartbeats 400000 in
theorem copied_103 : CopiedOK Tryz.prog tab 103 132 4 := by
  intro F w v len cap rows hrd ht hlen hF
  obtain ⟨i0, hi0, hz0, hz1, hz2⟩ := info_parts zinfo132
  obtain ⟨a, rfl, h2, h3⟩ : ∃ a, v = .slice a len cap ∧ len ≤ rows.length ∧ rows.length ≤ cap := by simp only [Rd] at hrd; obtain ⟨a, h1, h2, h3, _⟩ := hrd; exact ⟨a, h1, h2, h3⟩
  have hmk : (Instr.makeSlice 22 (.int .i64 0) (.int .i64 (↑len + 2))).run Tryz.prog w = .ok (.slice (some ⟨w.heap.size, 0, none⟩) 0 (len + 2)) (w.alloc (Obj.cells (madeCells (Value.cells (.agg #[.string { data := #[] }, .slice none 0 0, .int .i64 0, .slice none 0 0])) ((len + 2) * 4)) 132)) := by
    have := run_make (P := Tryz.prog) w 22 132 i0 _ Tryz.underlying22 hi0 hz0 .i64 .i64 0 (len + 2) (by omega) (by omega) (by rw [hz2]; omega) (by omega)
    rw [hz1] at this
    exact this
  obtain ⟨news, hsrc, hflat, hnl⟩ := Rd.src (P := Tryz.prog) 22 132 Tryz.underlying22 hrd (Obj.cells (madeCells (Value.cells (.agg #[.string { data := #[] }, .slice none 0 0, .int .i64 0, .slice none 0 0])) ((len + 2) * 4)) 132)
  have hlens : ∀ r ∈ rows, r.length = 4 := HtRows.lens (n := 4) rfl rows ht
  have hdone := copy_done (tab := tab) (E := 132) (sz := 4) (z := (.agg #[.string { data := #[] }, .slice none 0 0, .int .i64 0, .slice none 0 0] : Value)) (by rfl) (by rfl) hF hnl h2 hlens hflat
  have hlt : (len : Int) + 2 ≤ 9223372036854775807 := by omega
  have hm : ∀ j, j < ((len + 2) * 4) → ((w.alloc (Obj.cells (madeCells (Value.cells (.agg #[.string { data := #[] }, .slice none 0 0, .int .i64 0, .slice none 0 0])) ((len + 2) * 4)) 132)).cell? ⟨w.heap.size, j, none⟩).isSome = true ∧ (w.alloc (Obj.cells (madeCells (Value.cells (.agg #[.string { data := #[] }, .slice none 0 0, .int .i64 0, .slice none 0 0])) ((len + 2) * 4)) 132)).frozen? ⟨w.heap.size, j, none⟩ = false := fun j hj => by
    have hb := heap_alloc_new w (Obj.cells (madeCells (Value.cells (.agg #[.string { data := #[] }, .slice none 0 0, .int .i64 0, .slice none 0 0])) ((len + 2) * 4)) 132)
    constructor
    · rw [cell_of_row _ _ _ _ _ _ hb, Array.getElem?_eq_getElem (by rw [size_madeCells]; exact hj)]; rfl
    · exact World.frozen?_alloc_at _ _ _ _ rfl
  have H1 := Lib.hid hdone
  have H2 := Lib.hid hm
  have H3 := Lib.hid hnl
  have H4 := Lib.hid hz1
  clear hdone hm hnl hz1 hlens hflat h3
  go_enter Tryz.func103, Tryz.ntmps103
  go_wp2_with (at_builtin; refine wpList_append_room_src _ rfl _ _ 22 22 rfl 132 i0 Tryz.underlying22 hi0 w.heap.size 0 0 (len + 2) rfl _ rfl len news (by rw [H4.out]; exact hsrc) (by omega) (fun j hj => by have := H3.out; rw [H4.out]; simp only [Nat.zero_mul, Nat.add_zero, Nat.zero_add]; exact (H2.out j (by omega)).1) (fun j hj => by have := H3.out; rw [H4.out]; simp only [Nat.zero_mul, Nat.add_zero, Nat.zero_add]; exact (H2.out j (by omega)).2) ?_; rw [H4.out]; simp only [Nat.zero_mul, Nat.add_zero, Nat.zero_add])
  go_ret
  exact ⟨_, rfl, H1.out⟩
theorem zinfo201 : (Tryz.prog.info? 201).map (fun i => (i.zero, i.size, i.bytes)) = some (some (.agg #[.string { data := #[] }, .string { data := #[] }]), 2, 32) := by kernel_rfl
set_option maxRecDepth 100000 in
set_option maxHeartbeats 400000 in
theorem copied_138 : CopiedOK Tryz.prog tab 138 201 2 := by
  intro F w v len cap rows hrd ht hlen hF
  obtain ⟨i0, hi0, hz0, hz1, hz2⟩ := info_parts zinfo201
  obtain ⟨a, rfl, h2, h3⟩ : ∃ a, v = .slice a len cap ∧ len ≤ rows.length ∧ rows.length ≤ cap := by simp only [Rd] at hrd; obtain ⟨a, h1, h2, h3, _⟩ := hrd; exact ⟨a, h1, h2, h3⟩
  have hmk : (Instr.makeSlice 130 (.int .i64 0) (.int .i64 (↑len + 2))).run Tryz.prog w = .ok (.slice (some ⟨w.heap.size, 0, none⟩) 0 (len + 2)) (w.alloc (Obj.cells (madeCells (Value.cells (.agg #[.string { data := #[] }, .string { data := #[] }])) ((len + 2) * 2)) 201)) := by
    have := run_make (P := Tryz.prog) w 130 201 i0 _ Tryz.underlying130 hi0 hz0 .i64 .i64 0 (len + 2) (by omega) (by omega) (by rw [hz2]; omega) (by omega)
    rw [hz1] at this
    exact this
  obtain ⟨news, hsrc, hflat, hnl⟩ := Rd.src (P := Tryz.prog) 130 201 Tryz.underlying130 hrd (Obj.cells (madeCells (Value.cells (.agg #[.string { data := #[] }, .string { data := #[] }])) ((len + 2) * 2)) 201)
  have hlens : ∀ r ∈ rows, r.length = 2 := HtRows.lens (n := 2) rfl rows ht
  have hdone := copy_done (tab := tab) (E := 201) (sz := 2) (z := (.agg #[.string { data := #[] }, .string { data := #[] }] : Value)) (by rfl) (by rfl) hF hnl h2 hlens hflat
  have hlt : (len : Int) + 2 ≤ 9223372036854775807 := by omega
  have hm : ∀ j, j < ((len + 2) * 2) → ((w.alloc (Obj.cells (madeCells (Value.cells (.agg #[.string { data := #[] }, .string { data := #[] }])) ((len + 2) * 2)) 201)).cell? ⟨w.heap.size, j, none⟩).isSome = true ∧ (w.alloc (Obj.cells (madeCells (Value.cells (.agg #[.string { data := #[] }, .string { data := #[] }])) ((len + 2) * 2)) 201)).frozen? ⟨w.heap.size, j, none⟩ = false := fun j hj => by
    have hb := heap_alloc_new w (Obj.cells (madeCells (Value.cells (.agg #[.string { data := #[] }, .string { data := #[] }])) ((len + 2) * 2)) 201)
    constructor
    · rw [cell_of_row _ _ _ _ _ _ hb, Array.getElem?_eq_getElem (by rw [size_madeCells]; exact hj)]; rfl
    · exact World.frozen?_alloc_at _ _ _ _ rfl
  have H1 := Lib.hid hdone
  have H2 := Lib.hid hm
  have H3 := Lib.hid hnl
  have H4 := Lib.hid hz1
  clear hdone hm hnl hz1 hlens hflat h3
  go_enter Tryz.func138, Tryz.ntmps138
  go_wp2_with (at_builtin; refine wpList_append_room_src _ rfl _ _ 130 130 rfl 201 i0 Tryz.underlying130 hi0 w.heap.size 0 0 (len + 2) rfl _ rfl len news (by rw [H4.out]; exact hsrc) (by omega) (fun j hj => by have := H3.out; rw [H4.out]; simp only [Nat.zero_mul, Nat.add_zero, Nat.zero_add]; exact (H2.out j (by omega)).1) (fun j hj => by have := H3.out; rw [H4.out]; simp only [Nat.zero_mul, Nat.add_zero, Nat.zero_add]; exact (H2.out j (by omega)).2) ?_; rw [H4.out]; simp only [Nat.zero_mul, Nat.add_zero, Nat.zero_add])
  go_ret
  exact ⟨_, rfl, H1.out⟩
theorem zinfo3 : (Tryz.prog.info? 3).map (fun i => (i.zero, i.size, i.bytes)) = some (some (.int .i64 0), 1, 8) := by kernel_rfl
set_option maxRecDepth 100000 in
set_option maxHeartbeats 400000 in
theorem copied_139 : CopiedOK Tryz.prog tab 139 3 1 := by
  intro F w v len cap rows hrd ht hlen hF
  obtain ⟨i0, hi0, hz0, hz1, hz2⟩ := info_parts zinfo3
  obtain ⟨a, rfl, h2, h3⟩ : ∃ a, v = .slice a len cap ∧ len ≤ rows.length ∧ rows.length ≤ cap := by simp only [Rd] at hrd; obtain ⟨a, h1, h2, h3, _⟩ := hrd; exact ⟨a, h1, h2, h3⟩
  have hmk : (Instr.makeSlice 34 (.int .i64 0) (.int .i64 (↑len + 2))).run Tryz.prog w = .ok (.slice (some ⟨w.heap.size, 0, none⟩) 0 (len + 2)) (w.alloc (Obj.cells (madeCells (Value.cells (.int .i64 0)) (len + 2)) 3)) := by
    have := run_make (P := Tryz.prog) w 34 3 i0 _ Tryz.underlying34 hi0 hz0 .i64 .i64 0 (len + 2) (by omega) (by omega) (by rw [hz2]; omega) (by omega)
    rw [hz1] at this
    rw [Nat.mul_one] at this
    exact this
  obtain ⟨news, hsrc, hflat, hnl⟩ := Rd.src (P := Tryz.prog) 34 3 Tryz.underlying34 hrd (Obj.cells (madeCells (Value.cells (.int .i64 0)) (len + 2)) 3)
  have hlens : ∀ r ∈ rows, r.length = 1 := HtRows.lens (n := 1) rfl rows ht
  have hdone := copy_done (tab := tab) (E := 3) (sz := 1) (z := (.int .i64 0 : Value)) (by rfl) (by rfl) hF hnl h2 hlens hflat
  rw [Nat.mul_one] at hdone
  have hlt : (len : Int) + 2 ≤ 9223372036854775807 := by omega
  have hm : ∀ j, j < (len + 2) → ((w.alloc (Obj.cells (madeCells (Value.cells (.int .i64 0)) (len + 2)) 3)).cell? ⟨w.heap.size, j, none⟩).isSome = true ∧ (w.alloc (Obj.cells (madeCells (Value.cells (.int .i64 0)) (len + 2)) 3)).frozen? ⟨w.heap.size, j, none⟩ = false := fun j hj => by
    have hb := heap_alloc_new w (Obj.cells (madeCells (Value.cells (.int .i64 0)) (len + 2)) 3)
    constructor
    · rw [cell_of_row _ _ _ _ _ _ hb, Array.getElem?_eq_getElem (by rw [size_madeCells]; exact hj)]; rfl
    · exact World.frozen?_alloc_at _ _ _ _ rfl
  have H1 := Lib.hid hdone
  have H2 := Lib.hid hm
  have H3 := Lib.hid hnl
  have H4 := Lib.hid hz1
  clear hdone hm hnl hz1 hlens hflat h3
  go_enter Tryz.func139, Tryz.ntmps139
  go_wp2_with (at_builtin; refine wpList_append_room_src _ rfl _ _ 34 34 rfl 3 i0 Tryz.underlying34 hi0 w.heap.size 0 0 (len + 2) rfl _ rfl len news (by rw [H4.out]; exact hsrc) (by omega) (fun j hj => by have := H3.out; rw [H4.out]; simp only [Nat.zero_mul, Nat.add_zero, Nat.zero_add]; exact (H2.out j (by omega)).1) (fun j hj => by have := H3.out; rw [H4.out]; simp only [Nat.zero_mul, Nat.add_zero, Nat.zero_add]; exact (H2.out j (by omega)).2) ?_; rw [H4.out]; simp only [Nat.zero_mul, Nat.add_zero, Nat.zero_add])
  go_ret
  exact ⟨_, rfl, H1.out⟩
end Go.Proofs.YtgkamgijnhbcbaaGreatDoor
